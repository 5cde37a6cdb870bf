/- Walks of gnomonref01: Add, Sub (printed by gen_radd.py). · Walk of gnomonref01: Sub (printed by gen_rsub.py). · Walks of gnomonref01: Shl, Shr. · Walks of gnomonref01: To, Fits (of at most one word); gnomonref04: Mk, Sign, Of, Add, Sub, Cmp, Shl. · Walks of gnomonref04: Mk, Flip, Sign. · Walks of gnomonref04: Shl, Flip, Add, Sub, Cmp (printed by gen_zadd.py). -/
import Derived.Test.YtooehlneoboenaaGreatDoorVf
namespace Go.Proofs.YtooehlneoboenaaGreatDoor
open Go.RowKit

theorem addD_done {a b k M : Nat} (ha : a < W32 ^ M) (hb : b < W32 ^ M) (hk : M ≤ k) (hc : caD a b k = 0) : a + b < W32 ^ k := by
  have h1 : W32 ^ M ≤ W32 ^ k := Nat.pow_le_pow_right W32_pos hk
  have h2 := addD_low a b k
  have h3 := Nat.pow_pos W32_pos (n := k)
  rw [hc, Nat.div_eq_of_lt (Nat.lt_of_lt_of_le ha h1), Nat.div_eq_of_lt (Nat.lt_of_lt_of_le hb h1)] at h2
  rcases (Nat.div_eq_zero_iff).1 h2 with h | h
  · rw [h] at h3; exact absurd h3 (Nat.lt_irrefl 0)
  · exact h
theorem caD_none {a b M : Nat} (ha : a < W32 ^ M) (hb : b < W32 ^ M) : caD a b (M + 1) = 0 := by
  unfold caD
  have h1 : W32 ^ M ≤ W32 ^ (M + 1) := Nat.pow_le_pow_right W32_pos (by omega)
  rw [Nat.mod_eq_of_lt (Nat.lt_of_lt_of_le ha h1), Nat.mod_eq_of_lt (Nat.lt_of_lt_of_le hb h1)]
  apply Nat.div_eq_of_lt
  rw [Nat.pow_succ]
  have h2 : W32 ^ M * 2 ≤ W32 ^ M * W32 := Nat.mul_le_mul_left _ (by rw [W32_num]; omega)
  generalize W32 ^ M = P at *
  omega

set_option maxRecDepth 100000 in
set_option maxHeartbeats 4000000 in
theorem radd_walk (v u : Value) (a b : Nat) (w : World) (h : DgAt w v a) (g : DgAt w u b) (hs : (toD a).length ≤ 50000) (hs2 : (toD b).length ≤ 50000) :
    Calls Tryz.prog 71 #[v, u] w fun e w' => ∃ v', e = .returned v' ∧ DgAt w' v' (a + b) ∧ Below w.heap.size w w' := by
  obtain ⟨A, c, rfl, hc, hz, hr⟩ := h
  obtain ⟨A', c', rfl, hc', hz', hr'⟩ := g
  have he := el_toD a
  have he' := el_toD b
  have ha := (toD_length_le a (toD a).length).1 (Nat.le_refl _)
  have hb := (toD_length_le b (toD b).length).1 (Nat.le_refl _)
  generalize toD a = l at *
  generalize toD b = m at *
  obtain ⟨M, hM⟩ : ∃ M, max l.length m.length = M := ⟨_, rfl⟩
  have hMi : max (l.length : Int) (m.length : Int) = (M : Int) := by omega
  have hM1 : l.length ≤ M := by omega
  have hM2 : m.length ≤ M := by omega
  have hM3 : M ≤ l.length ∨ M ≤ m.length := by omega
  have hMb : M ≤ 50000 := by omega
  have ha2 : a < W32 ^ M := Nat.lt_of_lt_of_le ha (Nat.pow_le_pow_right W32_pos hM1)
  have hb2 : b < W32 ^ M := Nat.lt_of_lt_of_le hb (Nat.pow_le_pow_right W32_pos hM2)
  have HR := Lib.hid hr
  have HR' := Lib.hid hr'
  have HE := Lib.hid he
  have HE' := Lib.hid he'
  have HA := Lib.hid ha2
  have HB := Lib.hid hb2
  have hmk := make_u32c 0 (M + 1) 0 ((M : Int) + 1) rfl (by omega) (by omega) (by omega)
  clear hz hz' hr hr' he he' ha hb ha2 hb2 hM
  go_enter Tryz.func71, Tryz.ntmps71
  go_wp2_with fail
  have hO := OwD.made (w := w) (B := w.heap.size) (UD (List.replicate (M + 1) 0)) (M + 1) (Nat.le_refl _) (by omega) (by rw [UD_size]; simp)
  have hb0 := below_alloc' w (.cells (UD (List.replicate (M + 1) 0)) 90)
  go_loopw [5, 6, 7] (fun p q i wr => ∃ k : Nat, k ≤ M + 1 ∧ i = .int .i64 (k : Int) ∧ q = .int .u64 ((caD a b k : Nat) : Int) ∧ Hid (OwD wr w.heap.size p (paD k (a + b))) ∧ Hid (Below w.heap.size w wr)) (fun _ _ i _ => M + 1 - (intOf i).toNat)
  case atStart => exact ⟨0, by omega, rfl, by rw [caD_zero]; rfl, Lib.hid hO, Lib.hid hb0⟩
  case round =>
    obtain ⟨k, hk, rfl, rfl, HO, HW⟩ := hrel
    have HST := Lib.hid (addD_word a b k)
    have HS := Lib.hid (paD_succ k (a + b))
    have hm1 := caD_le a b k
    have HND := Lib.hid (show M ≤ k → caD a b k = 0 → a + b < W32 ^ k from fun h1 h2 => addD_done HA.out HB.out h1 h2)
    have HNO := Lib.hid (show k = M + 1 → caD a b k = 0 from fun h1 => by rw [h1]; exact caD_none HA.out HB.out)
    have hOl : (paD k (a + b)).length + 1 ≤ 1000000 := by rw [paD_length]; omega
    have hB0 : w.heap.size ≤ wr.heap.size := HW.out.size
    obtain ⟨n, hn⟩ : ∃ n, caD a b k = n := ⟨_, rfl⟩
    obtain ⟨hi, hhi⟩ : ∃ hi, caD a b (k + 1) = hi := ⟨_, rfl⟩
    obtain ⟨lo, hlo⟩ : ∃ lo, (a + b) / W32 ^ k % W32 = lo := ⟨_, rfl⟩
    obtain ⟨x, hx⟩ : ∃ x, a / W32 ^ k % W32 = x := ⟨_, rfl⟩
    obtain ⟨y, hy⟩ : ∃ y, b / W32 ^ k % W32 = y := ⟨_, rfl⟩
    have HXB := Lib.hid (show x < 4294967296 by rw [← hx, ← W32_num]; exact Nat.mod_lt _ W32_pos)
    have HYB := Lib.hid (show y < 4294967296 by rw [← hy, ← W32_num]; exact Nat.mod_lt _ W32_pos)
    have hex := HE.out k
    have hey := HE'.out k
    rw [hx] at hex
    rw [hy] at hey
    rw [hn] at HST hm1 HND HNO ⊢
    rw [hhi, hlo, hx, hy] at HST
    rw [hlo] at HS
    have HHI := Lib.hid hhi
    have HLO := Lib.hid (show lo < 4294967296 by rw [← hlo, ← W32_num]; exact Nat.mod_lt _ W32_pos)
    clear hn hhi hlo hx hy hO hb0
    by_cases cA : k < l.length
    case pos =>
      by_cases cB : k < m.length
      case pos =>
        obtain ⟨ad, rfl, hc0⟩ := (HR.out.below HW.out) (by omega)
        have hck := hc0 k (by omega)
        rw [hex] at hck
        have k1 : IntKind.u64.wrap (x : Int) = (x : Int) := by have := HXB.out; rw [IntKind.wrap_u64]; omega
        obtain ⟨ad', rfl, hc0'⟩ := (HR'.out.below HW.out) (by omega)
        have hck' := hc0' k (by omega)
        rw [hey] at hck'
        have k2 : IntKind.u64.wrap (y : Int) = (y : Int) := by have := HYB.out; rw [IntKind.wrap_u64]; omega
        obtain ⟨s, hs⟩ : ∃ s, x + y + n = s := ⟨_, rfl⟩
        obtain ⟨s1, hs1⟩ : ∃ s1, n + x = s1 := ⟨_, rfl⟩
        have k3 : IntKind.u64.wrap ((n : Int) + (x : Int)) = (s1 : Int) := by have := HXB.out; rw [IntKind.wrap_u64]; omega
        have k4 : IntKind.u64.wrap ((s1 : Int) + (y : Int)) = (s : Int) := by have := HXB.out; have := HYB.out; rw [IntKind.wrap_u64]; omega
        have k5 := mask32 s (by have := HXB.out; have := HYB.out; omega)
        have hst := HST.out
        rw [hs] at hst
        rw [hst.1] at k5
        have k6 : IntKind.u32.wrap (lo : Int) = (lo : Int) := by have := HLO.out; rw [IntKind.wrap_u32]; omega
        have k7 : (s : Int) / 4294967296 = (hi : Int) := by omega
        have ja : (k : Int) < (l.length : Int) := by omega
        have jb : (k : Int) < (m.length : Int) := by omega
        clear hst hex hey hs hc0 cA hc0' cB hs1
        go_wp2_with (at_builtin; refine wpList_appendD rfl (.tmp 53) (.tmp 57) rfl w.heap.size _ (paD k (a + b)) rfl (HO.out.alloc _) ⟨wr.heap.size, 0, none⟩ 1 1 [lo] rfl rfl (new_cell wr lo) hOl (by simp; omega) (fun v' w1 h1 h2 => ?_))
        have h3 := h2 w (HW.out.alloc hB0 _)
        rw [← HS.out] at h1
        go_roundw
        case rel => exact ⟨k + 1, by omega, by go_num, by rw [HHI.out], Lib.hid h1, Lib.hid h3⟩
        case measure => simp [intOf]; omega
      case neg =>
        obtain ⟨ad, rfl, hc0⟩ := (HR.out.below HW.out) (by omega)
        have hck := hc0 k (by omega)
        rw [hex] at hck
        have k1 : IntKind.u64.wrap (x : Int) = (x : Int) := by have := HXB.out; rw [IntKind.wrap_u64]; omega
        have hy0 : y = 0 := by rw [← hey]; exact el_out (by omega)
        obtain ⟨s, hs⟩ : ∃ s, x + y + n = s := ⟨_, rfl⟩
        have k3 : IntKind.u64.wrap ((n : Int) + (x : Int)) = (s : Int) := by have := HXB.out; rw [IntKind.wrap_u64]; omega
        have k5 := mask32 s (by have := HXB.out; have := HYB.out; omega)
        have hst := HST.out
        rw [hs] at hst
        rw [hst.1] at k5
        have k6 : IntKind.u32.wrap (lo : Int) = (lo : Int) := by have := HLO.out; rw [IntKind.wrap_u32]; omega
        have k7 : (s : Int) / 4294967296 = (hi : Int) := by omega
        have ja : (k : Int) < (l.length : Int) := by omega
        have jb : ¬ (k : Int) < (m.length : Int) := by omega
        clear hst hex hey hs hc0 cA hy0 cB
        go_wp2_with (at_builtin; refine wpList_appendD rfl (.tmp 53) (.tmp 57) rfl w.heap.size _ (paD k (a + b)) rfl (HO.out.alloc _) ⟨wr.heap.size, 0, none⟩ 1 1 [lo] rfl rfl (new_cell wr lo) hOl (by simp; omega) (fun v' w1 h1 h2 => ?_))
        have h3 := h2 w (HW.out.alloc hB0 _)
        rw [← HS.out] at h1
        go_roundw
        case rel => exact ⟨k + 1, by omega, by go_num, by rw [HHI.out], Lib.hid h1, Lib.hid h3⟩
        case measure => simp [intOf]; omega
    case neg =>
      by_cases cB : k < m.length
      case pos =>
        have hx0 : x = 0 := by rw [← hex]; exact el_out (by omega)
        obtain ⟨ad', rfl, hc0'⟩ := (HR'.out.below HW.out) (by omega)
        have hck' := hc0' k (by omega)
        rw [hey] at hck'
        have k2 : IntKind.u64.wrap (y : Int) = (y : Int) := by have := HYB.out; rw [IntKind.wrap_u64]; omega
        obtain ⟨s, hs⟩ : ∃ s, x + y + n = s := ⟨_, rfl⟩
        have k4 : IntKind.u64.wrap ((n : Int) + (y : Int)) = (s : Int) := by have := HYB.out; rw [IntKind.wrap_u64]; omega
        have k5 := mask32 s (by have := HXB.out; have := HYB.out; omega)
        have hst := HST.out
        rw [hs] at hst
        rw [hst.1] at k5
        have k6 : IntKind.u32.wrap (lo : Int) = (lo : Int) := by have := HLO.out; rw [IntKind.wrap_u32]; omega
        have k7 : (s : Int) / 4294967296 = (hi : Int) := by omega
        have ja : ¬ (k : Int) < (l.length : Int) := by omega
        have jb : (k : Int) < (m.length : Int) := by omega
        clear hst hex hey hs hx0 cA hc0' cB
        go_wp2_with (at_builtin; refine wpList_appendD rfl (.tmp 53) (.tmp 57) rfl w.heap.size _ (paD k (a + b)) rfl (HO.out.alloc _) ⟨wr.heap.size, 0, none⟩ 1 1 [lo] rfl rfl (new_cell wr lo) hOl (by simp; omega) (fun v' w1 h1 h2 => ?_))
        have h3 := h2 w (HW.out.alloc hB0 _)
        rw [← HS.out] at h1
        go_roundw
        case rel => exact ⟨k + 1, by omega, by go_num, by rw [HHI.out], Lib.hid h1, Lib.hid h3⟩
        case measure => simp [intOf]; omega
      case neg =>
        by_cases cN : n = 0
        case neg =>
          have hx0 : x = 0 := by rw [← hex]; exact el_out (by omega)
          have hy0 : y = 0 := by rw [← hey]; exact el_out (by omega)
          obtain ⟨s, hs⟩ : ∃ s, x + y + n = s := ⟨_, rfl⟩
          obtain rfl : n = s := by omega
          have hkM : k ≤ M := by
            apply Classical.byContradiction
            intro h
            exact cN (HNO.out (by omega))
          have k5 := mask32 n (by have := HXB.out; have := HYB.out; omega)
          have hst := HST.out
          simp only [hx0, hy0, Nat.zero_add] at hst
          rw [hst.1] at k5
          have k6 : IntKind.u32.wrap (lo : Int) = (lo : Int) := by have := HLO.out; rw [IntKind.wrap_u32]; omega
          have k7 : (n : Int) / 4294967296 = (hi : Int) := by omega
          have ja : ¬ (k : Int) < (l.length : Int) := by omega
          have jb : ¬ (k : Int) < (m.length : Int) := by omega
          have jn : (0 : Int) < (n : Int) := by omega
          clear hst hex hey hs hx0 cA hy0 cB
          go_wp2_with (at_builtin; refine wpList_appendD rfl (.tmp 53) (.tmp 57) rfl w.heap.size _ (paD k (a + b)) rfl (HO.out.alloc _) ⟨wr.heap.size, 0, none⟩ 1 1 [lo] rfl rfl (new_cell wr lo) hOl (by simp; omega) (fun v' w1 h1 h2 => ?_))
          have h3 := h2 w (HW.out.alloc hB0 _)
          rw [← HS.out] at h1
          go_roundw
          case rel => exact ⟨k + 1, by omega, by go_num, by rw [HHI.out], Lib.hid h1, Lib.hid h3⟩
          case measure => simp [intOf]; omega
        case pos =>
          have HV := Lib.hid (show vd (paD k (a + b)) = a + b from vd_paD_of (HND.out (by omega) cN))
          have HN := rnorm_walk _ _ _ HO.out.ls (We_paD _ _) (by rw [paD_length]; omega)
          rw [HV.out] at HN
          have HN2 := Lib.hid HN
          have ja : ¬ (k : Int) < (l.length : Int) := by omega
          have jb : ¬ (k : Int) < (m.length : Int) := by omega
          have jn : ¬ (0 : Int) < (n : Int) := by omega
          clear HN cA cB cN hex hey
          go_wp2_with fail
          refine HN2.out.mono ?_
          rintro e w2 ⟨v2, rfl, hn2, hb2⟩
          have HD2 := Lib.hid hn2
          have HW2 := Lib.hid (below_next HW.out HW.out.size hb2)
          obtain ⟨A2, c2, rfl, hc2, hz2, hr2⟩ := hn2
          clear hc2 hz2 hr2 hb2
          go_wp2
          go_ret
          exact ⟨_, rfl, HD2.out, HW2.out⟩
end Go.Proofs.YtooehlneoboenaaGreatDoor

namespace Go.Proofs.YtooehlneoboenaaGreatDoor
open Go.RowKit

/-- What a - b owes to digit k. -/
def boD (a b k : Nat) : Nat := if a % W32 ^ k < b % W32 ^ k then 1 else 0
theorem boD_zero (a b : Nat) : boD a b 0 = 0 := by simp [boD, Nat.mod_one]
theorem boD_le (a b k : Nat) : boD a b k ≤ 1 := by unfold boD; split <;> omega
theorem boD_cases (a b k : Nat) : (boD a b k = 1 ∧ a % W32 ^ k < b % W32 ^ k) ∨ (boD a b k = 0 ∧ b % W32 ^ k ≤ a % W32 ^ k) := by
  unfold boD; split
  · exact .inl ⟨rfl, by assumption⟩
  · exact .inr ⟨rfl, by omega⟩
theorem digit_of {P B D d r z : Nat} (hP : 0 < P) (hd : d < B) (hr : r < P) (h : z = P * (B * D + d) + r) : z / P % B = d := by
  rw [h, Nat.mul_add_div hP, Nat.div_eq_of_lt hr, Nat.add_zero, Nat.mul_add_mod, Nat.mod_eq_of_lt hd]
theorem sub_ge {a b k : Nat} (hba : b ≤ a) (h : boD a b k + b / W32 ^ k % W32 ≤ a / W32 ^ k % W32) :
    a / W32 ^ k % W32 - (boD a b k + b / W32 ^ k % W32) = (a - b) / W32 ^ k % W32 ∧ boD a b (k + 1) = 0 := by
  have hP := Nat.pow_pos W32_pos (n := k)
  have ha := modD_pow_succ a k
  have hb := modD_pow_succ b k
  have hA := Nat.mod_lt a hP
  have hB := Nat.mod_lt b hP
  have hx := Nat.mod_lt (a / W32 ^ k) W32_pos
  have ea := Nat.div_add_mod a (W32 ^ (k + 1))
  have eb := Nat.div_add_mod b (W32 ^ (k + 1))
  have hlt := Nat.mod_lt a (Nat.pow_pos W32_pos (n := k + 1))
  have hc := boD_cases a b k
  generalize a % W32 ^ k = Ak at *
  generalize b % W32 ^ k = Bk at *
  generalize a / W32 ^ k % W32 = x at *
  generalize b / W32 ^ k % W32 = y at *
  have hge : b % W32 ^ (k + 1) ≤ a % W32 ^ (k + 1) := by
    rw [ha, hb]
    obtain ⟨d, hd⟩ : ∃ d, x = boD a b k + y + d := ⟨_, (Nat.add_sub_cancel' h).symm⟩
    rw [hd, Nat.mul_add, Nat.mul_add]
    rcases hc with ⟨h1, h2⟩ | ⟨h1, h2⟩
    · rw [h1, Nat.mul_one]
      generalize W32 ^ k * y = yy
      generalize W32 ^ k * d = z
      omega
    · rw [h1, Nat.mul_zero, Nat.zero_add]
      generalize W32 ^ k * y = yy
      generalize W32 ^ k * d = z
      omega
  have hbo : boD a b (k + 1) = 0 := by unfold boD; rw [if_neg (by omega)]
  refine ⟨?_, hbo⟩
  obtain ⟨D, hD⟩ : ∃ D, a / W32 ^ (k + 1) = b / W32 ^ (k + 1) + D := ⟨_, (Nat.add_sub_cancel' (Nat.div_le_div_right hba)).symm⟩
  rw [hD, Nat.mul_add, ha] at ea
  rw [hb] at eb
  rw [Nat.pow_succ] at ea eb
  obtain ⟨d, hd⟩ : ∃ d, x = boD a b k + y + d := ⟨_, (Nat.add_sub_cancel' h).symm⟩
  rw [hd, Nat.add_sub_cancel_left]
  rw [hd] at hx
  symm
  rcases hc with ⟨h1, h2⟩ | ⟨h1, h2⟩
  · obtain ⟨r, hr⟩ : ∃ r, W32 ^ k + Ak = Bk + r := ⟨_, (Nat.add_sub_cancel' (show Bk ≤ W32 ^ k + Ak by omega)).symm⟩
    refine digit_of (r := r) (D := D) hP (by omega) (by omega) ?_
    rw [hd, h1, Nat.mul_add, Nat.mul_add, Nat.mul_one] at ea
    rw [Nat.mul_add, ← Nat.mul_assoc]
    generalize W32 ^ k * W32 * (b / (W32 ^ k * W32)) = q1 at *
    generalize W32 ^ k * W32 * D = q2 at *
    generalize W32 ^ k * y = q3 at *
    generalize W32 ^ k * d = q4 at *
    omega
  · obtain ⟨r, hr⟩ : ∃ r, Ak = Bk + r := ⟨_, (Nat.add_sub_cancel' h2).symm⟩
    refine digit_of (r := r) (D := D) hP (by omega) (by omega) ?_
    rw [hd, h1, Nat.zero_add, Nat.mul_add] at ea
    rw [Nat.mul_add, ← Nat.mul_assoc]
    generalize W32 ^ k * W32 * (b / (W32 ^ k * W32)) = q1 at *
    generalize W32 ^ k * W32 * D = q2 at *
    generalize W32 ^ k * y = q3 at *
    generalize W32 ^ k * d = q4 at *
    omega
theorem sub_lt {a b k : Nat} (hba : b ≤ a) (h : a / W32 ^ k % W32 < boD a b k + b / W32 ^ k % W32) :
    a / W32 ^ k % W32 + W32 - (boD a b k + b / W32 ^ k % W32) = (a - b) / W32 ^ k % W32 ∧ boD a b (k + 1) = 1 := by
  have hP := Nat.pow_pos W32_pos (n := k)
  have ha := modD_pow_succ a k
  have hb := modD_pow_succ b k
  have hA := Nat.mod_lt a hP
  have hB := Nat.mod_lt b hP
  have hx := Nat.mod_lt (a / W32 ^ k) W32_pos
  have hy := Nat.mod_lt (b / W32 ^ k) W32_pos
  have ea := Nat.div_add_mod a (W32 ^ (k + 1))
  have eb := Nat.div_add_mod b (W32 ^ (k + 1))
  have hc := boD_cases a b k
  generalize a % W32 ^ k = Ak at *
  generalize b % W32 ^ k = Bk at *
  generalize a / W32 ^ k % W32 = x at *
  generalize b / W32 ^ k % W32 = y at *
  have hblt := Nat.mod_lt b (Nat.pow_pos W32_pos (n := k + 1))
  have hlt : a % W32 ^ (k + 1) < b % W32 ^ (k + 1) := by
    rw [ha, hb]
    rcases hc with ⟨h1, h2⟩ | ⟨h1, h2⟩
    · have h3 : x ≤ y := by omega
      have := Nat.mul_le_mul_left (W32 ^ k) h3
      generalize W32 ^ k * y = yy at *
      generalize W32 ^ k * x = xx at *
      omega
    · have h3 : x + 1 ≤ y := by omega
      have := Nat.mul_le_mul_left (W32 ^ k) h3
      rw [Nat.mul_add, Nat.mul_one] at this
      generalize W32 ^ k * y = yy at *
      generalize W32 ^ k * x = xx at *
      omega
  have hbo : boD a b (k + 1) = 1 := by unfold boD; rw [if_pos hlt]
  refine ⟨?_, hbo⟩
  have hq : b / W32 ^ (k + 1) + 1 ≤ a / W32 ^ (k + 1) := by
    apply Classical.byContradiction
    intro hn
    have h4 : a / W32 ^ (k + 1) ≤ b / W32 ^ (k + 1) := by omega
    have h5 := Nat.mul_le_mul_left (W32 ^ (k + 1)) h4
    generalize W32 ^ (k + 1) * (a / W32 ^ (k + 1)) = x at *
    generalize W32 ^ (k + 1) * (b / W32 ^ (k + 1)) = y at *
    omega
  obtain ⟨D, hD⟩ : ∃ D, a / W32 ^ (k + 1) = b / W32 ^ (k + 1) + 1 + D := ⟨_, (Nat.add_sub_cancel' hq).symm⟩
  rw [hD, Nat.mul_add, Nat.mul_add, Nat.mul_one, ha] at ea
  rw [hb] at eb
  rw [Nat.pow_succ] at ea eb
  obtain ⟨d, hd⟩ : ∃ d, x + W32 = boD a b k + y + d := ⟨_, (Nat.add_sub_cancel' (show boD a b k + y ≤ x + W32 by omega)).symm⟩
  rw [hd, Nat.add_sub_cancel_left]
  have hmul : W32 ^ k * (x) + W32 ^ k * W32 = W32 ^ k * boD a b k + W32 ^ k * (y) + W32 ^ k * d := by
    rw [← Nat.mul_add, hd, Nat.mul_add, Nat.mul_add]
  symm
  rcases hc with ⟨h1, h2⟩ | ⟨h1, h2⟩
  · obtain ⟨r, hr⟩ : ∃ r, W32 ^ k + Ak = Bk + r := ⟨_, (Nat.add_sub_cancel' (show Bk ≤ W32 ^ k + Ak by omega)).symm⟩
    refine digit_of (r := r) (D := D) hP (by omega) (by omega) ?_
    rw [h1, Nat.mul_one] at hmul
    rw [Nat.mul_add, ← Nat.mul_assoc]
    generalize W32 ^ k * W32 * (b / (W32 ^ k * W32)) = q1 at *
    generalize W32 ^ k * W32 * D = q2 at *
    generalize W32 ^ k * y = q3 at *
    generalize W32 ^ k * x = q5 at *
    generalize W32 ^ k * d = q4 at *
    generalize W32 ^ k * W32 = q6 at *
    omega
  · obtain ⟨r, hr⟩ : ∃ r, Ak = Bk + r := ⟨_, (Nat.add_sub_cancel' h2).symm⟩
    refine digit_of (r := r) (D := D) hP (by omega) (by omega) ?_
    rw [h1, Nat.mul_zero, Nat.zero_add] at hmul
    rw [Nat.mul_add, ← Nat.mul_assoc]
    generalize W32 ^ k * W32 * (b / (W32 ^ k * W32)) = q1 at *
    generalize W32 ^ k * W32 * D = q2 at *
    generalize W32 ^ k * y = q3 at *
    generalize W32 ^ k * x = q5 at *
    generalize W32 ^ k * d = q4 at *
    generalize W32 ^ k * W32 = q6 at *
    omega

set_option maxRecDepth 100000 in
set_option maxHeartbeats 4000000 in
theorem rsub_walk (v u : Value) (a b : Nat) (w : World) (h : DgAt w v a) (g : DgAt w u b) (hs : (toD a).length ≤ 50000) :
    Calls Tryz.prog 73 #[v, u] w fun e w' => ∃ v', e = .returned v' ∧ DgAt w' v' (a - b) ∧ Below w.heap.size w w' := by
  have hcmp := rcmp_walk v u a b w h g (by omega)
  obtain ⟨A, c, rfl, hc, hz, hr⟩ := h
  obtain ⟨A', c', rfl, hc', hz', hr'⟩ := g
  have HCmp := Lib.hid hcmp
  clear hcmp
  by_cases hle : a ≤ b
  · have h0 : a - b = 0 := by omega
    have hcle : cmpI a b ≤ 0 := by unfold cmpI; split; omega; rw [if_pos (by omega)]; omega
    rw [h0]
    obtain ⟨ci, hci⟩ : ∃ ci, cmpI a b = ci := ⟨_, rfl⟩
    rw [hci] at hcle HCmp
    have HWd := Lib.hid (fun w => rword_walk 0 (by omega) w)
    clear hr hr' hci hz hz' hle h0
    go_enter Tryz.func73, Tryz.ntmps73
    go_wp2_with fail
    refine HCmp.out.mono ?_
    rintro e w1 ⟨rfl, hb1⟩
    go_wp2_with fail
    refine (HWd.out _).mono ?_
    rintro e w2 ⟨v2, rfl, hn2, hb2⟩
    have HD2 := Lib.hid hn2
    have HW2 := Lib.hid (below_chain hb1 hb2)
    obtain ⟨A2, c2, rfl, hc2, hz2, hr2⟩ := hn2
    clear hc2 hz2 hr2 hb2
    go_wp2
    go_ret
    exact ⟨_, rfl, HD2.out, HW2.out⟩
  have hcgt : ¬ cmpI a b ≤ 0 := by unfold cmpI; rw [if_neg (by omega), if_neg (by omega)]; omega
  obtain ⟨ci, hci⟩ : ∃ ci, cmpI a b = ci := ⟨_, rfl⟩
  rw [hci] at hcgt HCmp
  have he := el_toD a
  have he' := el_toD b
  have ha := (toD_length_le a (toD a).length).1 (Nat.le_refl _)
  have hml : (toD b).length ≤ (toD a).length := (toD_length_le b _).2 (by omega)
  generalize toD a = l at *
  generalize toD b = m at *
  have HR := Lib.hid hr
  have HR' := Lib.hid hr'
  have HE := Lib.hid he
  have HE' := Lib.hid he'
  have HBA := Lib.hid (show b ≤ a by omega)
  have HV := Lib.hid (show vd (paD l.length (a - b)) = a - b from vd_paD_of (by omega))
  have hmk := make_u32c 0 l.length 0 (l.length : Int) rfl rfl (by omega) (by omega)
  clear hz hz' hr hr' he he' ha hci hle
  go_enter Tryz.func73, Tryz.ntmps73
  go_wp2_with fail
  refine HCmp.out.mono ?_
  rintro e w0 ⟨rfl, hbw⟩
  have HW0 := Lib.hid hbw
  clear hbw
  go_wp2_with fail
  have hO := OwD.made (w := w0) (B := w.heap.size) (UD (List.replicate l.length 0)) l.length HW0.out.size (by omega) (by rw [UD_size]; simp)
  have hb0 := below_next HW0.out HW0.out.size (below_alloc' w0 (.cells (UD (List.replicate l.length 0)) 90))
  go_loopw [5, 6, 7] (fun p q i wr => ∃ k : Nat, k ≤ l.length ∧ i = .int .i64 (k : Int) ∧ q = .int .u64 ((boD a b k : Nat) : Int) ∧ Hid (OwD wr w.heap.size p (paD k (a - b))) ∧ Hid (Below w.heap.size w wr)) (fun _ _ i _ => l.length - (intOf i).toNat)
  case atStart => exact ⟨0, by omega, rfl, by rw [boD_zero]; rfl, Lib.hid hO, Lib.hid hb0⟩
  case round =>
    obtain ⟨k, hk, rfl, rfl, HO, HW⟩ := hrel
    by_cases hlt : k < l.length
    case neg =>
      have hk2 : k = l.length := by omega
      subst hk2
      have HN := rnorm_walk _ _ _ HO.out.ls (We_paD _ _) (by rw [paD_length]; omega)
      rw [HV.out] at HN
      have HN2 := Lib.hid HN
      clear HN hO hb0
      go_wp2_with fail
      refine HN2.out.mono ?_
      rintro e w2 ⟨v2, rfl, hn2, hb2⟩
      have HD2 := Lib.hid hn2
      have HW2 := Lib.hid (below_next HW.out HW.out.size hb2)
      obtain ⟨A2, c2, rfl, hc2, hz2, hr2⟩ := hn2
      clear hc2 hz2 hr2 hb2
      go_wp2
      go_ret
      exact ⟨_, rfl, HD2.out, HW2.out⟩
    have hg := sub_ge (k := k) HBA.out
    have hl := sub_lt (k := k) HBA.out
    have HS := Lib.hid (paD_succ k (a - b))
    have hm1 := boD_le a b k
    have hOl : (paD k (a - b)).length + 1 ≤ 1000000 := by rw [paD_length]; omega
    have hB0 : w.heap.size ≤ wr.heap.size := HW.out.size
    obtain ⟨n, hn⟩ : ∃ n, boD a b k = n := ⟨_, rfl⟩
    obtain ⟨hi, hhi⟩ : ∃ hi, boD a b (k + 1) = hi := ⟨_, rfl⟩
    obtain ⟨lo, hlo⟩ : ∃ lo, (a - b) / W32 ^ k % W32 = lo := ⟨_, rfl⟩
    obtain ⟨x, hx⟩ : ∃ x, a / W32 ^ k % W32 = x := ⟨_, rfl⟩
    obtain ⟨y, hy⟩ : ∃ y, b / W32 ^ k % W32 = y := ⟨_, rfl⟩
    have HXB := Lib.hid (show x < 4294967296 by rw [← hx, ← W32_num]; exact Nat.mod_lt _ W32_pos)
    have HYB := Lib.hid (show y < 4294967296 by rw [← hy, ← W32_num]; exact Nat.mod_lt _ W32_pos)
    have hex := HE.out k
    have hey := HE'.out k
    rw [hx] at hex
    rw [hy] at hey
    rw [hn] at hm1 ⊢
    rw [hn, hhi, hlo, hx, hy] at hg hl
    rw [W32_num] at hl
    rw [hlo] at HS
    have HHI := Lib.hid hhi
    have HLO := Lib.hid (show lo < 4294967296 by rw [← hlo, ← W32_num]; exact Nat.mod_lt _ W32_pos)
    obtain ⟨ad, rfl, hc0⟩ := HR.out (by omega)
    have hck0 := hc0 k hlt
    rw [hex] at hck0
    have hadb : ad.block < w.heap.size := by
      have := World.block_lt_of_cell? w _ hck0
      rwa [add_block] at this
    have hck : wr.cell? (ad.add k) = some (.int .u32 (x : Int)) := (HW.out.cell (p := ad.add k) (by rw [add_block]; exact hadb)).trans hck0
    have k1 : IntKind.u64.wrap (x : Int) = (x : Int) := by have := HXB.out; rw [IntKind.wrap_u64]; omega
    have k6 : IntKind.u32.wrap (lo : Int) = (lo : Int) := by have := HLO.out; rw [IntKind.wrap_u32]; omega
    have ja : (k : Int) < (l.length : Int) := by omega
    clear hn hhi hlo hx hy hO hb0 hc0 hck0 hadb hex
    by_cases cB : k < m.length
    case pos =>
      obtain ⟨ad', rfl, hc0'⟩ := HR'.out (by omega)
      have hck0' := hc0' k cB
      rw [hey] at hck0'
      have hadb' : ad'.block < w.heap.size := by
        have := World.block_lt_of_cell? w _ hck0'
        rwa [add_block] at this
      have hck' : wr.cell? (ad'.add k) = some (.int .u32 (y : Int)) := (HW.out.cell (p := ad'.add k) (by rw [add_block]; exact hadb')).trans hck0'
      have k2 : IntKind.u64.wrap (y : Int) = (y : Int) := by have := HYB.out; rw [IntKind.wrap_u64]; omega
      obtain ⟨t, ht⟩ : ∃ t, n + y = t := ⟨_, rfl⟩
      rw [ht] at hg hl
      have k3 : IntKind.u64.wrap ((n : Int) + (y : Int)) = (t : Int) := by have := HYB.out; rw [IntKind.wrap_u64]; omega
      have jb : (k : Int) < (m.length : Int) := by omega
      clear hc0' hck0' hadb'
      by_cases cl : x < t
      case pos =>
        have jt : (x : Int) < (t : Int) := by omega
        obtain ⟨q1, q2⟩ := hl (by omega)
        obtain ⟨x2, hx2⟩ : ∃ x2, x + 4294967296 = x2 := ⟨_, rfl⟩
        rw [hx2] at q1
        subst q2
        have k4 : IntKind.u64.wrap ((x : Int) + 4294967296) = (x2 : Int) := by have := HXB.out; rw [IntKind.wrap_u64]; omega
        have k5 : IntKind.u64.wrap ((x2 : Int) - (t : Int)) = (lo : Int) := by have := HXB.out; have := HYB.out; have := HLO.out; rw [IntKind.wrap_u64]; omega
        clear q1 hx2
        clear hg hl hey hm1 cl ht cB
        go_wp2_with (at_builtin; refine wpList_appendD rfl (.tmp 46) (.tmp 51) rfl w.heap.size _ (paD k (a - b)) rfl (HO.out.alloc _) ⟨wr.heap.size, 0, none⟩ 1 1 [lo] rfl rfl (new_cell wr lo) hOl (by simp; omega) (fun v' w1 h1 h2 => ?_))
        have h3 := h2 w (HW.out.alloc hB0 _)
        rw [← HS.out] at h1
        go_roundw
        case rel => exact ⟨k + 1, by omega, by go_num, by rw [HHI.out]; rfl, Lib.hid h1, Lib.hid h3⟩
        case measure => simp [intOf]; omega

      case neg =>
        have jt : ¬ (x : Int) < (t : Int) := by omega
        obtain ⟨q1, q2⟩ := hg (by omega)
        subst q2
        have k5 : IntKind.u64.wrap ((x : Int) - (t : Int)) = (lo : Int) := by have := HXB.out; have := HYB.out; have := HLO.out; rw [IntKind.wrap_u64]; omega
        clear q1
        clear hg hl hey hm1 cl ht cB
        go_wp2_with (at_builtin; refine wpList_appendD rfl (.tmp 46) (.tmp 51) rfl w.heap.size _ (paD k (a - b)) rfl (HO.out.alloc _) ⟨wr.heap.size, 0, none⟩ 1 1 [lo] rfl rfl (new_cell wr lo) hOl (by simp; omega) (fun v' w1 h1 h2 => ?_))
        have h3 := h2 w (HW.out.alloc hB0 _)
        rw [← HS.out] at h1
        go_roundw
        case rel => exact ⟨k + 1, by omega, by go_num, by rw [HHI.out]; rfl, Lib.hid h1, Lib.hid h3⟩
        case measure => simp [intOf]; omega

    case neg =>
      have hy0 : y = 0 := by rw [← hey]; exact el_out (by omega)
      have jb : ¬ (k : Int) < (m.length : Int) := by omega
      rw [hy0, Nat.add_zero] at hg hl
      by_cases cl : x < n
      case pos =>
        have jt : (x : Int) < (n : Int) := by omega
        obtain ⟨q1, q2⟩ := hl (by omega)
        obtain ⟨x2, hx2⟩ : ∃ x2, x + 4294967296 = x2 := ⟨_, rfl⟩
        rw [hx2] at q1
        subst q2
        have k4 : IntKind.u64.wrap ((x : Int) + 4294967296) = (x2 : Int) := by have := HXB.out; rw [IntKind.wrap_u64]; omega
        have k5 : IntKind.u64.wrap ((x2 : Int) - (n : Int)) = (lo : Int) := by have := HXB.out; have := HYB.out; have := HLO.out; rw [IntKind.wrap_u64]; omega
        clear q1 hx2
        clear hg hl hey hm1 cl hy0 cB
        go_wp2_with (at_builtin; refine wpList_appendD rfl (.tmp 46) (.tmp 51) rfl w.heap.size _ (paD k (a - b)) rfl (HO.out.alloc _) ⟨wr.heap.size, 0, none⟩ 1 1 [lo] rfl rfl (new_cell wr lo) hOl (by simp; omega) (fun v' w1 h1 h2 => ?_))
        have h3 := h2 w (HW.out.alloc hB0 _)
        rw [← HS.out] at h1
        go_roundw
        case rel => exact ⟨k + 1, by omega, by go_num, by rw [HHI.out]; rfl, Lib.hid h1, Lib.hid h3⟩
        case measure => simp [intOf]; omega

      case neg =>
        have jt : ¬ (x : Int) < (n : Int) := by omega
        obtain ⟨q1, q2⟩ := hg (by omega)
        subst q2
        have k5 : IntKind.u64.wrap ((x : Int) - (n : Int)) = (lo : Int) := by have := HXB.out; have := HYB.out; have := HLO.out; rw [IntKind.wrap_u64]; omega
        clear q1
        clear hg hl hey hm1 cl hy0 cB
        go_wp2_with (at_builtin; refine wpList_appendD rfl (.tmp 46) (.tmp 51) rfl w.heap.size _ (paD k (a - b)) rfl (HO.out.alloc _) ⟨wr.heap.size, 0, none⟩ 1 1 [lo] rfl rfl (new_cell wr lo) hOl (by simp; omega) (fun v' w1 h1 h2 => ?_))
        have h3 := h2 w (HW.out.alloc hB0 _)
        rw [← HS.out] at h1
        go_roundw
        case rel => exact ⟨k + 1, by omega, by go_num, by rw [HHI.out]; rfl, Lib.hid h1, Lib.hid h3⟩
        case measure => simp [intOf]; omega
end Go.Proofs.YtooehlneoboenaaGreatDoor

namespace Go.Proofs.YtooehlneoboenaaGreatDoor
open Go.RowKit

theorem OwD.zeros {w : World} {B : Nat} (k n : Nat) (hb : B ≤ w.heap.size) (hk : k ≤ n) (hm : n ≤ 1000000) : OwD (w.alloc (.cells (UD (List.replicate n 0)) 90)) B (.slice (some ⟨w.heap.size, 0, none⟩) k n) (List.replicate k 0) := by
  unfold OwD
  rw [List.length_replicate]
  refine ⟨by simp [UD], .inr ⟨w.heap.size, n, UD (List.replicate n 0), rfl, hb, heap_alloc_new w _, hk, by unfold maxLen; omega, by rw [UD_size]; simp, ?_⟩⟩
  simp only [UD, List.map_replicate, Nat.mul_one]
  rw [List.take_replicate, Nat.min_eq_left hk]
theorem vd_zeros (k : Nat) (l : List Nat) : vd (List.replicate k 0 ++ l) = W32 ^ k * vd l := by
  induction k with
  | zero => simp
  | succ k ih => rw [List.replicate_succ, List.cons_append, vd, ih, Nat.pow_succ]; simp only [Nat.zero_add]; ac_rfl
theorem We_zeros (k : Nat) {l : List Nat} (h : We l) : We (List.replicate k 0 ++ l) := by
  intro x hx
  rcases List.mem_append.1 hx with hx | hx
  · rw [(List.mem_replicate.1 hx).2]; exact W32_pos
  · exact h x hx
theorem toD_drop (a k : Nat) : (toD a).drop k = toD (a / W32 ^ k) := by
  induction k generalizing a with
  | zero => simp
  | succ k ih =>
    by_cases h : a = 0
    · rw [h, toD_zero, Nat.zero_div, toD_zero]; simp
    · rw [toD_pos h, List.drop_succ_cons, ih, Nat.pow_succ, Nat.div_div_eq_div_mul, Nat.mul_comm W32]
theorem pow_parts (n : Nat) : 2 ^ n = W32 ^ (n / 32) * 2 ^ (n % 32) := by rw [W32_pow, ← Nat.pow_add]; congr 1; omega

set_option maxRecDepth 100000 in
set_option maxHeartbeats 2000000 in
theorem rshl_walk (v : Value) (a : Nat) (i : Int) (w : World) (h : DgAt w v a) (hi : 0 ≤ i) (hi2 : i ≤ 1000000) (hs : (toD a).length ≤ 40000) :
    Calls Tryz.prog 45 #[v, .int .i64 i] w fun e w' => ∃ v', e = .returned v' ∧ DgAt w' v' (a * 2 ^ i.toNat) ∧ Below w.heap.size w w' := by
  obtain ⟨n, rfl⟩ := Int.eq_ofNat_of_zero_le hi
  simp only [Int.toNat_natCast]
  have hN := rnorm_walk v (toD a) w h (We_toD a) (by omega)
  rw [vd_toD] at hN
  have hmul : ∀ W, Below w.heap.size w W → Calls Tryz.prog 44 #[v, .int .u32 ((2 ^ (n % 32) : Nat) : Int), .int .u32 0] W fun e w' => ∃ v', e = .returned v' ∧ DgAt w' v' (a * 2 ^ (n % 32)) ∧ Below W.heap.size W w' := fun W hW => rmul_walk v a (2 ^ (n % 32)) 0 W (h.below hW) (show 2 ^ (n % 32) < 2 ^ 32 from Nat.pow_lt_pow_right (by omega) (by omega)) (by omega) (by omega)
  have h0 := toD_length_zero a
  have halt := (toD_length_le a (toD a).length).1 (Nat.le_refl _)
  obtain ⟨A, c, rfl, hc, hz, hr⟩ := h
  generalize toD a = l at *
  by_cases hq : n = 0 ∨ a = 0
  · have he : a * 2 ^ n = a := by rcases hq with h | h <;> subst h <;> simp
    rw [he]
    have HN := Lib.hid hN
    have hq2 : n = 0 ∨ (0 < n ∧ l.length = 0) := by
      rcases Nat.eq_zero_or_pos n with h1 | h1
      · exact .inl h1
      · exact .inr ⟨h1, h0.2 (hq.elim (fun e => by omega) id)⟩
    clear hN hmul h0 hr hz hq he
    rcases hq2 with hn | ⟨hn, hl⟩
    · have hni : (n : Int) ≤ 0 := by omega
      clear hn
      go_enter Tryz.func45, Tryz.ntmps45
      go_wp2_with fail
      refine HN.out.mono ?_
      rintro e w2 ⟨v2, rfl, hn2, hb2⟩
      have HD2 := Lib.hid hn2
      obtain ⟨A2, c2, rfl, hc2, hz2, hr2⟩ := hn2
      clear hc2 hz2 hr2
      go_wp2
      go_ret
      exact ⟨_, rfl, HD2.out, hb2⟩
    · have hni : ¬ (n : Int) ≤ 0 := by omega
      have hl2 : ((l.length : Int) == 0) = true := by simp [hl]
      clear hn hl
      go_enter Tryz.func45, Tryz.ntmps45
      go_wp2_with fail
      refine HN.out.mono ?_
      rintro e w2 ⟨v2, rfl, hn2, hb2⟩
      have HD2 := Lib.hid hn2
      obtain ⟨A2, c2, rfl, hc2, hz2, hr2⟩ := hn2
      clear hc2 hz2 hr2
      go_wp2
      go_ret
      exact ⟨_, rfl, HD2.out, hb2⟩
  · have ha : a ≠ 0 := fun e => hq (.inr e)
    have hn : 0 < n := by omega
    have hni : ¬ (n : Int) ≤ 0 := by omega
    have hl2 : ((l.length : Int) == 0) = false := by rw [beq_eq_false_iff_ne]; have := fun e => ha (h0.1 e); omega
    obtain ⟨p, hp⟩ : ∃ p, a * 2 ^ (n % 32) = p := ⟨_, rfl⟩
    rw [hp] at hmul
    have hp0 : p ≠ 0 := by rw [← hp]; exact Nat.mul_ne_zero ha (by have := Nat.two_pow_pos (n % 32); omega)
    have hpl : (toD p).length ≤ l.length + 1 := by
      rw [toD_length_le, ← hp, Nat.pow_succ]
      have h5 : 2 ^ (n % 32) ≤ W32 := by rw [W32_eq]; exact Nat.pow_le_pow_right (by omega) (by omega)
      exact Nat.lt_of_lt_of_le (Nat.mul_lt_mul_of_pos_right halt (Nat.two_pow_pos _)) (Nat.mul_le_mul_left _ h5)
    have HFIN := Lib.hid (show vd (List.replicate (n / 32) 0 ++ toD p) = a * 2 ^ n by
      rw [vd_zeros, vd_toD, ← hp, pow_parts n]; ac_rfl)
    obtain ⟨z, hzz⟩ : ∃ z, 2 ^ (n % 32) = z := ⟨_, rfl⟩
    have HSH := Lib.hid (show ((2 : Int) ^ (n % 32)) % 4294967296 = (z : Int) by
      have h3 : 2 ^ (n % 32) < 2 ^ 32 := Nat.pow_lt_pow_right (by omega) (by omega)
      have e2 : ((2 : Int) ^ (n % 32)) = ((2 ^ (n % 32) : Nat) : Int) := by simp
      rw [e2, hzz]
      rw [hzz] at h3
      omega)
    rw [hzz] at hmul
    have hpz : 0 < (toD p).length := Nat.pos_of_ne_zero fun e => hp0 ((toD_length_zero p).1 e)
    have HMUL := Lib.hid hmul
    have HWP := Lib.hid (We_toD p)
    have hmod : ((n : Int) % 32).toNat = n % 32 := by omega
    generalize hTP : toD p = t at *
    have HTP := Lib.hid hTP
    clear hTP
    have hnb : n / 32 ≤ 40000 := by omega
    have hnn : (n : Int) / 32 = ((n / 32 : Nat) : Int) := by omega
    obtain ⟨q, hq2⟩ : ∃ q, n / 32 = q := ⟨_, rfl⟩
    rw [hq2] at HFIN hnb hnn
    have hmk := make_u32c q (q + l.length + 1) (q : Int) ((q : Int) + (l.length : Int) + 1) rfl (by omega) (by omega) (by omega)
    clear hN hmul hp hp0 h0 halt hr hz hq ha hn
    go_enter Tryz.func45, Tryz.ntmps45
    go_wp2_with fail
    have hO := OwD.zeros (w := w) (B := w.heap.size) q (q + l.length + 1) (Nat.le_refl _) (by omega) (by omega)
    have hb0 := below_alloc' w (.cells (UD (List.replicate (q + l.length + 1) 0)) 90)
    have HB0 := Lib.hid hb0
    have HO := Lib.hid hO
    clear hO hb0
    rw [HSH.out]
    refine (HMUL.out _ HB0.out).mono ?_
    rintro e w1 ⟨v1, rfl, hn1, hb1⟩
    have hn1' : LsD w1 v1 t := by rw [← HTP.out]; exact hn1
    have HW1 := Lib.hid (below_chain HB0.out hb1)
    have HO1 := Lib.hid (show OwD w1 w.heap.size (.slice (some ⟨w.heap.size, 0, none⟩) q (q + l.length + 1)) (List.replicate q 0) from World.ownsRow.kept HO.out ⟨hb1.os, hb1.tape, hb1.output, hb1.size, fun k hk _ => hb1.block k hk⟩ (row := none) (by simp [Value.ownBlock]))
    obtain ⟨A2, c2, rfl, hc2, hz2, hr2⟩ := hn1'
    obtain ⟨ad2, rfl, hcl2⟩ := hr2 hpz
    have HCL := Lib.hid hcl2
    have hlen : (List.replicate q 0).length + t.length ≤ 1000000 := by rw [List.length_replicate]; omega
    clear hn1 hc2 hz2 hr2 hcl2 hb1
    go_wp2_with (at_builtin; refine wpList_appendD rfl (.tmp 24) (.tmp 29) rfl w.heap.size _ (List.replicate q 0) rfl HO1.out ad2 t.length c2 t rfl rfl HCL.out hlen HW1.out.size (fun v' w2 h1 h2 => ?_))
    have h3 := h2 w HW1.out
    have HN := rnorm_walk _ _ _ h1.ls (We_zeros q HWP.out) (by rw [List.length_append, List.length_replicate]; omega)
    rw [HFIN.out] at HN
    have HN2 := Lib.hid HN
    have H3 := Lib.hid h3
    clear h1 h2 h3 HN
    go_wp2_with fail
    refine HN2.out.mono ?_
    rintro e w3 ⟨v3, rfl, hn3, hb3⟩
    have HD3 := Lib.hid hn3
    obtain ⟨A3, c3, rfl, hc3, hz3, hr3⟩ := hn3
    clear hc3 hz3 hr3
    go_wp2
    go_ret
    exact ⟨_, rfl, HD3.out, below_next H3.out H3.out.size hb3⟩

theorem add_add (ad : Addr) (q j : Nat) : (ad.add q).add j = ad.add (q + j) := by
  cases q with
  | zero => rw [Addr.add_zero', Nat.zero_add]
  | succ q => cases j with
    | zero => rw [Addr.add_zero', Nat.add_zero]
    | succ j => simp [Addr.add, Nat.add_assoc]
theorem el_drop {l : List Nat} {q j : Nat} : el (l.drop q) j = el l (q + j) := by
  simp [el, List.getD_eq_getElem?_getD, List.getElem?_drop]
theorem shr_small {a n : Nat} (h : (toD a).length ≤ n / 32) : a / 2 ^ n = 0 := by
  have h1 := (toD_length_le a _).1 h
  apply Nat.div_eq_of_lt
  rw [pow_parts]
  exact Nat.lt_of_lt_of_le h1 (Nat.le_mul_of_pos_right _ (Nat.two_pow_pos _))

set_option maxRecDepth 100000 in
set_option maxHeartbeats 2000000 in
theorem rshr_walk (v : Value) (a : Nat) (i : Int) (w : World) (h : DgAt w v a) (hi : 0 ≤ i) (hi2 : i ≤ 10000000) (hs : (toD a).length ≤ 40000) :
    Calls Tryz.prog 46 #[v, .int .i64 i] w fun e w' => ∃ v', e = .returned v' ∧ DgAt w' v' (a / 2 ^ i.toNat) ∧ Below w.heap.size w w' := by
  obtain ⟨n, rfl⟩ := Int.eq_ofNat_of_zero_le hi
  simp only [Int.toNat_natCast]
  have hN := rnorm_walk v (toD a) w h (We_toD a) (by omega)
  rw [vd_toD] at hN
  have hsm := @shr_small a n
  have hdr := toD_drop a (n / 32)
  obtain ⟨A, c, rfl, hc, hz, hr⟩ := h
  generalize toD a = l at *
  rcases Nat.eq_zero_or_pos n with hn | hn
  · have hni : (n : Int) ≤ 0 := by omega
    have he : a / 2 ^ n = a := by rw [hn]; simp
    rw [he]
    have HN := Lib.hid hN
    clear hN hr hz hsm hdr hn he
    go_enter Tryz.func46, Tryz.ntmps46
    go_wp2_with fail
    refine HN.out.mono ?_
    rintro e w2 ⟨v2, rfl, hn2, hb2⟩
    have HD2 := Lib.hid hn2
    obtain ⟨A2, c2, rfl, hc2, hz2, hr2⟩ := hn2
    clear hc2 hz2 hr2
    go_wp2
    go_ret
    exact ⟨_, rfl, HD2.out, hb2⟩
  have hni : ¬ (n : Int) ≤ 0 := by omega
  have hnn : (n : Int) / 32 = ((n / 32 : Nat) : Int) := by omega
  by_cases hlen : l.length ≤ n / 32
  · rw [hsm hlen]
    have HWd := Lib.hid (fun w => rword_walk 0 (by omega) w)
    have hli : (l.length : Int) ≤ (n : Int) / 32 := by omega
    clear hN hr hz hsm hdr hn hlen hnn
    go_enter Tryz.func46, Tryz.ntmps46
    go_wp2_with fail
    refine (HWd.out _).mono ?_
    rintro e w2 ⟨v2, rfl, hn2, hb2⟩
    have HD2 := Lib.hid hn2
    obtain ⟨A2, c2, rfl, hc2, hz2, hr2⟩ := hn2
    clear hc2 hz2 hr2
    go_wp2
    go_ret
    exact ⟨_, rfl, HD2.out, hb2⟩
  · obtain ⟨ad, rfl, hc0⟩ := hr (by omega)
    have hli : ¬ (l.length : Int) ≤ (n : Int) / 32 := by omega
    obtain ⟨q, hq⟩ : ∃ q, n / 32 = q := ⟨_, rfl⟩
    rw [hq] at hdr hnn hlen
    have hdg : DgAt w (.slice (some (ad.add q)) (l.length - q) (c - q)) (a / W32 ^ q) := by
      unfold DgAt
      rw [← hdr]
      refine ⟨some (ad.add q), c - q, by rw [List.length_drop], by rw [List.length_drop]; omega, (fun e => by cases e), fun _ => ⟨_, rfl, fun j hj => ?_⟩⟩
      rw [List.length_drop] at hj
      have := hc0 (q + j) (by omega)
      rw [add_add, this, ← el_drop]
    have hdiv := rdiv_walk _ _ (2 ^ (n % 32)) w.drew (hdg.below (below_dn (Below.refl _ _) 1)) (Nat.two_pow_pos _) (show 2 ^ (n % 32) < 2 ^ 32 from Nat.pow_lt_pow_right (by omega) (by omega)) (by rw [← hdr, List.length_drop]; omega)
    have HFIN := Lib.hid (show a / W32 ^ q / 2 ^ (n % 32) = a / 2 ^ n by rw [Nat.div_div_eq_div_mul, pow_parts n, hq])
    obtain ⟨r, hrr⟩ : ∃ r, n % 32 = r := ⟨_, rfl⟩
    rw [hrr] at hdiv HFIN
    have hr32 : r < 32 := by omega
    have htm : (n : Int).tmod 32 = (r : Int) := by rw [Int.tmod_eq_emod_of_nonneg (by omega)]; omega
    obtain ⟨z, hzz⟩ : ∃ z, 2 ^ r = z := ⟨_, rfl⟩
    have hz32 : z < 2 ^ 32 := by rw [← hzz]; exact Nat.pow_lt_pow_right (by omega) hr32
    have e2 : ((2 : Int) ^ r) = (z : Int) := by rw [← hzz]; simp
    have k1 : IntKind.i64.wrap (q : Int) = (q : Int) := by rw [IntKind.wrap_i64]; omega
    have k3 : IntKind.i64.wrap (r : Int) = (r : Int) := by rw [IntKind.wrap_i64]; omega
    have k4 : IntKind.u32.wrap (z : Int) = (z : Int) := by rw [IntKind.wrap_u32]; omega
    have k5 : (0 : Int) ≤ (r : Int) := by omega
    rw [hzz] at hdiv HFIN
    rw [HFIN.out] at hdiv
    have HDIV := Lib.hid (fun W (hW : W = w.drew) => show Calls Tryz.prog 69 #[.slice (some (ad.add q)) (l.length - q) (c - q),   .int .u32 (z : Int)] W _ from hW ▸ hdiv)
    have hql : q ≤ l.length := by omega
    have hqc : q ≤ c := by omega
    have hnb : n / 32 ≤ 40000 := by omega
    have r1 : (q : Int) ≤ (l.length : Int) := by omega
    have r2 : (q : Int) ≤ (c : Int) := by omega
    have r3 : (0 : Int) ≤ (q : Int) := by omega
    have r5 : ¬ c = q := by omega
    have hsl2 : ∀ W : World, (Instr.slice 63 (.slice (some ad) l.length c) (some (.int .i64 (q : Int))) none none).run Tryz.prog W = .ok (.slice (some (ad.add q)) (l.length - q) (c - q)) W := fun W => by
      have h1 : Tryz.prog.underlying 63 = some (.slice (Tryz.prog.elem 63)) := by kernel_rfl
      have h2 : (sizeOf (Tryz.prog.elem 63)).run Tryz.prog W = .ok 1 W := by kernel_rfl
      rw [run_slice_l W _ _ _ _ h1 .i64 (q : Int) (by omega) (by omega), h2]
      simp [Result.andThen, sliced, r5]
    have hsl : ∀ W : World, (Instr.sliceAt 63 (.slice (some ad) l.length c) (some (.int .i64 (q : Int))) none none).run Tryz.prog W = .ok (.slice (some (ad.add q)) (l.length - q) (c - q)) W := fun W => by
      have h1 : Tryz.prog.underlying 63 = some (.slice (Tryz.prog.elem 63)) := by kernel_rfl
      have h2 : (sizeOf (Tryz.prog.elem 63)).run Tryz.prog W = .ok 1 W := by kernel_rfl
      rw [run_sliceAt_slice W _ _ _ _ _ h1, run_slice_l W _ _ _ _ h1 .i64 (q : Int) (by omega) (by omega), h2]
      simp [Result.andThen, sliced, r5]
    have r4 : (l.length : Int) ≤ (c : Int) := by omega
    clear hdiv hN hc0 hr hsm hdr hdg hzz hn hlen hz32 hrr hq
    go_enter Tryz.func46, Tryz.ntmps46
    go_wp2_with fail
    go_region_with (go_at_call 69; refine (HDIV.out _ rfl).mono ?_; rintro e w5 ⟨v5, rfl, hn5, hb5⟩; have HD5 := Lib.hid hn5; obtain ⟨A5, c5, rfl, hc5, hz5, hr5⟩ := hn5; clear hc5 hz5 hr5)
    all_goals
      go_wp2
      go_ret
      exact ⟨_, rfl, HD5.out, (Below.refl _ _).drew.trans hb5⟩
end Go.Proofs.YtooehlneoboenaaGreatDoor

namespace Go.Proofs.YtooehlneoboenaaGreatDoor
open Go.RowKit

theorem Tryz.infoU : (Tryz.prog.info? 25).map (fun i => (i.zero, i.size, i.bytes)) = some (some (.int .u64 0), 1, 8) := by kernel_rfl
/-- The value v is a slice of the call's own, from block B on, of the limbs l. -/
def OwU (w : World) (B : Nat) (v : Value) (l : List Nat) : Prop := w.ownsRow B 25 1 v l.length (U l).toList
theorem U_app (a b : List Nat) : (U a).toList ++ (U b).toList = (U (a ++ b)).toList := by simp [U]
theorem OwU.made {w : World} {B : Nat} (cur : Array Value) (cap : Nat) (hb : B ≤ w.heap.size) (hm : cap ≤ 1000000) (hs : cur.size = cap) : OwU (w.alloc (.cells cur 25)) B (.slice (some ⟨w.heap.size, 0, none⟩) 0 cap) [] :=
  World.ownsRow_made w cur cap hb (by unfold maxLen; omega) (by omega)
theorem OwU.nat {w : World} {B : Nat} {v : Value} {a : Nat} (h : OwU w B v (toL a)) : NatAt w v a := by
  rcases h.2 with ⟨rfl, hn⟩ | ⟨g, cap, cur, rfl, hb, hg, hn, hm, hs, ht⟩
  · have h0 : a = 0 := (toL_length_zero a).1 hn
    subst h0
    exact NatAt.nil w
  · refine ⟨some ⟨g, 0, none⟩, cap, rfl, hn, fun _ => ⟨_, rfl, fun j hj => ?_⟩⟩
    refine World.ownsRow.cells h (g := g) rfl j _ ?_
    rw [Array.getElem?_toList]; exact U_get hj
theorem OwU.block {w : World} {B : Nat} {v : Value} {l : List Nat} (h : OwU w B v l) : ∀ k, v.ownBlock = some k → B ≤ k := fun k hk => (World.ownsRow.lt h k hk).1
theorem OwU.alloc {w : World} {B : Nat} {v : Value} {l : List Nat} (h : OwU w B v l) (o : Obj) : OwU (w.alloc o) B v l := World.ownsRow.alloc h o
/-- append(s, news...) where s is a slice of the call's own. -/
theorem wpList_appendU {W : World} {ops : Array Oper} {rest : List Oper} {o : Oper} {a : Act} {Q : Exit → Act → World → Prop} (hgd : o.guard = none) (s x : Operand)
    (ho : o.op = .call { callee := .builtin .append, args := #[s, x], argTypes := #[77, 77] }) (B : Nat) (v : Value) (l : List Nat) (hs : a.eval s = v) (hown : OwU W B v l)
    (ad : Addr) (m c : Nat) (news : List Nat) (hx : a.eval x = .slice (some ad) m c) (hm : news.length = m) (hnews : ∀ j, j < m → W.cell? (ad.add j) = some (.int .u64 ((el news j : Nat) : Int)))
    (hlen : l.length + m ≤ 1000000) (hB : B ≤ W.heap.size)
    (h : ∀ v' w', OwU w' B v' (l ++ news) → (∀ w, Below B w W → Below B w w') → wpList Tryz.prog ops Q rest (a.put o.dst v') w') : wpList Tryz.prog ops Q (o :: rest) a W := by
  obtain ⟨i0, hi, hz0, hz1, hz2⟩ := info_parts Tryz.infoU
  refine wpList_append_own W hgd s x 77 ho B 25 i0 (.int .u64 0) 1 8 Tryz.underlying77 hi hz0 hz1 hz2 rfl (by decide) v l.length (U l).toList hs hown ad m c (U news).toList hx
    (by rw [Array.length_toList, U_size, hm]; omega) (fun j u hu => ?_) (fun u hu => ?_) (by unfold maxLen; omega) (by omega) hB (fun v' w' h1 h2 _ => ?_)
  · have hj : j < news.length := by
      have := (List.getElem?_eq_some_iff.1 hu).1
      rwa [Array.length_toList, U_size] at this
    rw [Array.getElem?_toList, U_get hj] at hu
    rw [hnews j (by omega)]; exact hu
  · simp only [U, List.mem_map] at hu
    obtain ⟨y, _, rfl⟩ := hu
    rfl
  · rw [U_app] at h1
    refine h v' w' (by unfold OwU; rw [List.length_append, hm]; exact h1) (fun w hb => below_grown hb hB h2 hown.block)
theorem new_cellU (W : World) (x : Nat) : ∀ j, j < 1 → (W.alloc (.cells #[.int .u64 (x : Int)] 25)).cell? ((⟨W.heap.size, 0, none⟩ : Addr).add j) = some (.int .u64 ((el [x] j : Nat) : Int)) := fun j hj => by
  obtain rfl : j = 0 := by omega
  simp [Addr.add, el]
theorem make_u64c (k n : Nat) (ki ni : Int) (hk : ki = (k : Int)) (hn : ni = (n : Int)) (hkn : k ≤ n) (hm : n ≤ 1000000) : ∀ W : World, (Instr.makeSlice 77 (.int .i64 ki) (.int .i64 ni)).run Tryz.prog W = .ok (.slice (some ⟨W.heap.size, 0, none⟩) k n) (W.alloc (.cells (U (List.replicate n 0)) 25)) := by
  intro W
  subst hk; subst hn
  obtain ⟨i0, hi, hz0, hz1, hz2⟩ := info_parts Tryz.infoU
  rw [run_make W 77 25 i0 (.int .u64 0) Tryz.underlying77 hi hz0 .i64 .i64 (k : Int) (n : Int) (by omega) (by omega) (by rw [hz2]; omega) (by omega), hz1, U_zeros]
  simp only [Int.toNat_natCast, Nat.mul_one]
  rfl

/-- The limbs that k digits make. -/
theorem toL_two {a : Nat} : toL a = (List.range ((toL a).length)).map fun i => a / W64 ^ i % W64 := (pad_toL rfl).symm
theorem W64_W32 : W64 = W32 * W32 := by rw [W64_num, W32_num]
theorem limb_low (a i : Nat) : a / W64 ^ i % W64 = a / W32 ^ (2 * i) % W32 + a / W32 ^ (2 * i + 1) % W32 * W32 := by
  have e : W64 ^ i = W32 ^ (2 * i) := by rw [W64_W32, Nat.pow_mul, Nat.pow_two]
  rw [e, W64_W32, Nat.mod_mul, Nat.pow_succ, ← Nat.div_div_eq_div_mul, Nat.mul_comm W32]

set_option maxRecDepth 100000 in
set_option maxHeartbeats 2000000 in
theorem rto_walk (v : Value) (a : Nat) (w : World) (h : DgAt w v a) (hs : (toD a).length ≤ 40000) :
    Calls Tryz.prog 93 #[v] w fun e w' => ∃ v', e = .returned v' ∧ NatAt w' v' a ∧ Below w.heap.size w w' := by
  have hN := rnorm_walk v (toD a) w h (We_toD a) (by omega)
  rw [vd_toD] at hN
  have hel := el_toD a
  have hlenD := toD_length_le a
  have hlenL := toL_length_le a
  have hHN := Lib.hid hN
  obtain ⟨A, c, rfl, hc, hz, hr⟩ := h
  generalize hTD : toD a = l at *
  have HTD := Lib.hid hTD
  -- how many limbs
  have hLn : (toL a).length = (l.length + 1) / 2 := by
    apply Nat.le_antisymm
    · rw [hlenL, W64_W32]
      have h1 := (hlenD l.length).1 (Nat.le_refl _)
      refine Nat.lt_of_lt_of_le h1 ?_
      rw [← Nat.pow_two, ← Nat.pow_mul]
      exact Nat.pow_le_pow_right W32_pos (by omega)
    · apply Classical.byContradiction
      intro hn
      have h2 := (hlenL ((toL a).length)).1 (Nat.le_refl _)
      rw [W64_W32, ← Nat.pow_two, ← Nat.pow_mul] at h2
      have h3 := (hlenD (2 * (toL a).length)).2 h2
      omega
  have HL := Lib.hid hel
  have HLn := Lib.hid hLn
  have HLL := Lib.hid (@toL_two a)
  have hmk := make_u64c 0 (l.length / 2 + 1) 0 ((l.length : Int) / 2 + 1) rfl (by omega) (by omega) (by omega)
  clear hN hel hlenD hlenL hr hz hTD hLn
  go_enter Tryz.func93, Tryz.ntmps93
  go_wp2_with fail
  refine hHN.out.mono ?_
  rintro e w0 ⟨v0, rfl, hn0, hb0⟩
  have hn1 : LsD w0 v0 l := by rw [← HTD.out]; exact hn0
  have HW0 := Lib.hid hb0
  obtain ⟨A0, c0, rfl, hc0, hz0, hr0⟩ := hn1
  have HR := Lib.hid hr0
  clear hn0 hc0 hz0 hr0 hb0
  go_wp2_with fail
  have hO := OwU.made (w := w0) (B := w0.heap.size) (U (List.replicate (l.length / 2 + 1) 0)) (l.length / 2 + 1) (Nat.le_refl _) (by omega) (by rw [U_size]; simp)
  have hRd : ∀ W, RowKit.Below w0.heap.size w0 W → RdD W A0 l := fun W hW => HR.out.below hW
  have HRd := Lib.hid hRd
  have hb01 := below_alloc' w0 (.cells (U (List.replicate (l.length / 2 + 1) 0)) 25)
  clear hRd
  go_loopw [4, 5, 6] (fun p i x wr => ∃ k : Nat, k ≤ (l.length + 1) / 2 ∧ i = .int .i64 (2 * (k : Int)) ∧ Hid (OwU wr w0.heap.size p ((toL a).take k)) ∧ Hid (RowKit.Below w0.heap.size w0 wr)) (fun _ i _ _ => l.length + 2 - (intOf i).toNat)
  case atStart => exact ⟨0, by omega, rfl, Lib.hid (by rw [List.take_zero]; exact hO), Lib.hid hb01⟩
  case round =>
    obtain ⟨k, hk, rfl, HO, HW⟩ := hrel
    by_cases hlt : 2 * k < l.length
    case neg =>
      have hkl : k = (l.length + 1) / 2 := by omega
      have HE := Lib.hid (show (toL a).take k = toL a by rw [hkl, ← HLn.out, List.take_length])
      have ja : ¬ (2 * (k : Int)) < (l.length : Int) := by omega
      clear hkl hO hb01 hlt
      go_wp2
      go_ret
      exact ⟨_, rfl, OwU.nat (by have := HO.out; rw [HE.out] at this; exact this), below_chain HW0.out HW.out⟩
    obtain ⟨ad, rfl, hc0⟩ := (HRd.out _ HW.out) (by omega)
    have hck := hc0 (2 * k) hlt
    have h0 := HL.out (2 * k)
    have h1 := HL.out (2 * k + 1)
    have hlimb := limb_low a k
    have hk2 : k < (toL a).length := by rw [HLn.out]; omega
    have HS := Lib.hid (show (toL a).take (k + 1) = (toL a).take k ++ [a / W64 ^ k % W64] by
      rw [List.take_succ_eq_append_getElem hk2]
      congr 2
      have := el_toL a k
      rw [el_get hk2] at this
      exact this)
    have hd0 : a / W32 ^ (2 * k) % W32 < W32 := Nat.mod_lt _ W32_pos
    have hd1 : a / W32 ^ (2 * k + 1) % W32 < W32 := Nat.mod_lt _ W32_pos
    obtain ⟨x, hx⟩ : ∃ x, a / W32 ^ (2 * k) % W32 = x := ⟨_, rfl⟩
    obtain ⟨y, hy⟩ : ∃ y, a / W32 ^ (2 * k + 1) % W32 = y := ⟨_, rfl⟩
    obtain ⟨z, hz⟩ : ∃ z, a / W64 ^ k % W64 = z := ⟨_, rfl⟩
    rw [hx] at h0 hlimb hd0
    rw [hy] at h1 hlimb hd1
    rw [hz] at HS hlimb
    rw [h0] at hck
    rw [W32_num] at hd0 hd1 hlimb
    have k1 : IntKind.u64.wrap (x : Int) = (x : Int) := by rw [IntKind.wrap_u64]; omega
    have hOl : ((toL a).take k).length + 1 ≤ 1000000 := by rw [List.length_take]; have := HLn.out; omega
    have hB0 : w0.heap.size ≤ wr.heap.size := HW.out.size
    have ja : (2 * (k : Int)) < (l.length : Int) := by omega
    have e2k : (2 * (k : Int)).toNat = 2 * k := by omega
    by_cases hlt2 : 2 * k + 1 < l.length
    · have hck' := hc0 (2 * k + 1) hlt2
      rw [h1, add_succ] at hck'
      have e2k1 : (2 * (k : Int) + 1).toNat = 2 * k + 1 := by omega
      have k2 : IntKind.u64.wrap (y : Int) = (y : Int) := by rw [IntKind.wrap_u64]; omega
      have k3 : IntKind.u64.wrap ((y : Int) * 4294967296) = (y : Int) * 4294967296 := by rw [IntKind.wrap_u64]; omega
      have k4 : IntKind.u64.wrap ((x : Int) + (y : Int) * 4294967296) = (z : Int) := by rw [IntKind.wrap_u64]; omega
      have jb : 2 * (k : Int) + 1 < (l.length : Int) := by omega
      clear hd0 hd1 hlimb hx hy hz h0 h1 hc0 hO hb01 hlt hlt2 hk2
      go_wp2_with (at_builtin; refine wpList_appendU rfl (.tmp 39) (.tmp 41) rfl w0.heap.size _ ((toL a).take k) rfl (HO.out.alloc _) ⟨wr.heap.size, 0, none⟩ 1 1 [z] rfl rfl (new_cellU wr z) hOl (by simp; omega) (fun v' w1 g1 g2 => ?_))
      have g3 := g2 w0 (HW.out.alloc hB0 _)
      rw [← HS.out] at g1
      go_roundw
      case rel => exact ⟨k + 1, by omega, by first | go_num | (congr 1; omega), Lib.hid g1, Lib.hid g3⟩
      case measure => simp [intOf]; omega
    · have hy0 : y = 0 := by rw [← h1]; exact el_out (by omega)
      have hzx : z = x := by rw [hlimb, hy0]; simp
      rw [hzx] at HS
      have jb : ¬ 2 * (k : Int) + 1 < (l.length : Int) := by omega
      clear hd0 hd1 hlimb hx hy hz h0 h1 hc0 hO hb01 hlt hlt2 hk2 hy0 hzx
      go_wp2_with (at_builtin; refine wpList_appendU rfl (.tmp 39) (.tmp 41) rfl w0.heap.size _ ((toL a).take k) rfl (HO.out.alloc _) ⟨wr.heap.size, 0, none⟩ 1 1 [x] rfl rfl (new_cellU wr x) hOl (by simp; omega) (fun v' w1 g1 g2 => ?_))
      have g3 := g2 w0 (HW.out.alloc hB0 _)
      rw [← HS.out] at g1
      go_roundw
      case rel => exact ⟨k + 1, by omega, by first | go_num | (congr 1; omega), Lib.hid g1, Lib.hid g3⟩
      case measure => simp [intOf]; omega

set_option maxRecDepth 100000 in
theorem rfits_walk (v : Value) (a : Nat) (w : World) (h : DgAt w v a) (ha : a < 18446744073709551616) :
    Calls Tryz.prog 70 #[v] w fun e w' => e = .returned (.tuple #[.int .u64 (a : Int), .bool true]) ∧ Below w.heap.size w w' := by
  have hT := rto_walk v a w h (by
    have := (toD_length_le a 2).2 (by rw [W32_num]; omega)
    omega)
  have hL : (toL a).length ≤ 1 := (toL_length_le a 1).2 (by rw [W64_num]; omega)
  have h0 := toL_length_zero a
  have hel := el_toL a 0
  rw [Nat.pow_zero, Nat.div_one, Nat.mod_eq_of_lt (by rw [W64_num]; exact ha)] at hel
  have HT := Lib.hid hT
  obtain ⟨A, c, rfl, hc, hz, hr⟩ := h
  clear hT hr hz hc ha
  go_enter Tryz.func70, Tryz.ntmps70
  go_wp2_with fail
  refine HT.out.mono ?_
  rintro e w1 ⟨v1, rfl, hn1, hb1⟩
  obtain ⟨A1, c1, rfl, hc1, hr1⟩ := hn1
  generalize toL a = l at *
  by_cases hz : a = 0
  · have hl0 : l.length = 0 := h0.2 hz
    subst hz
    have hli : ((l.length : Int) == 0) = true := by simp [hl0]
    clear hl0 h0 hel hr1 hL
    go_wp2
    go_ret2
    exact ⟨rfl, hb1⟩
  · have hl1 : l.length = 1 := by have := fun e => hz (h0.1 e); omega
    obtain ⟨ad, rfl, hcl⟩ := hr1 (by omega)
    have hck := hcl 0 (by omega)
    rw [hel, Addr.add_zero'] at hck
    have hli : ((l.length : Int) == 0) = false := by rw [beq_eq_false_iff_ne]; omega
    have hli1 : ((l.length : Int) == 1) = true := by rw [beq_iff_eq]; omega
    have hpos : (0 : Int) < (l.length : Int) := by omega
    clear hl1 h0 hel hcl hL hz
    go_wp2
    go_ret2
    exact ⟨rfl, hb1⟩
end Go.Proofs.YtooehlneoboenaaGreatDoor

namespace Go.Proofs.YtooehlneoboenaaGreatDoor
open Go.RowKit

/-- v is the whole number of that sign and size. -/
def ZAt (w : World) (v : Value) (neg : Bool) (a : Nat) : Prop := ∃ s, v = .agg #[.bool neg, s] ∧ DgAt w s a
theorem ZAt.below {w w1 : World} {v : Value} {neg : Bool} {a : Nat} (h : ZAt w v neg a) (hb : Below w.heap.size w w1) : ZAt w1 v neg a := by
  obtain ⟨s, e, hd⟩ := h
  exact ⟨s, e, hd.below hb⟩
/-- Digits stay where a cell that holds none is written. -/
theorem DgAt.write {w : World} {v : Value} {a : Nat} (h : DgAt w v a) {p : Addr} {u : Value} (hc : w.cell? p = some u) (hu : ∀ x, u ≠ .int .u32 x) (y : Value) : DgAt (w.setCell p y) v a := by
  obtain ⟨A, c, e, hl, hz, hr⟩ := h
  refine ⟨A, c, e, hl, hz, fun hp => ?_⟩
  obtain ⟨ad, e2, hcl⟩ := hr hp
  refine ⟨ad, e2, fun j hj => ?_⟩
  rw [cell_other]
  · exact hcl j hj
  · intro e3
    rw [e3, hcl j hj] at hc
    exact hu _ (Option.some.inj hc).symm
theorem box2_new (w : World) (v0 v1 : Value) (t : TypeId) : Box2 (w.alloc (.cells #[v0, v1] t)) w.heap.size v0 v1 := ⟨by simp, by simp, by simp, by simp, by simp⟩
theorem two_set {W : World} {g : Nat} {x0 x1 : Value} (h : Box2 W g x0 x1) (v0 v1 : Value) :
    ((W.setCell ⟨g, 0, none⟩ v0).setCell ⟨g, 1, none⟩ v1).cell? ⟨g, 0, none⟩ = some v0 ∧ ((W.setCell ⟨g, 0, none⟩ v0).setCell ⟨g, 1, none⟩ v1).cell? ⟨g, 1, none⟩ = some v1 := by
  obtain ⟨g0, g1, _⟩ := h
  refine ⟨?_, World.cell?_setCell_same' _ _ _ (by rw [cell_other (by simp), g1]; rfl)⟩
  rw [cell_other (by simp)]; exact World.cell?_setCell_same' _ _ _ (by rw [g0]; rfl)
theorem DgAt.two {W : World} {g : Nat} {b : Bool} {A : Option Addr} {n c : Nat} {v : Value} {a : Nat} (h : DgAt W v a) (hB : Box2 W g (.bool b) (.slice A n c)) (v0 v1 : Value) :
    DgAt ((W.setCell ⟨g, 0, none⟩ v0).setCell ⟨g, 1, none⟩ v1) v a := by
  obtain ⟨g0, g1, _⟩ := hB
  have a0 := h.write g0 (fun x e => by cases e) v0
  exact a0.write (p := ⟨g, 1, none⟩) (u := .slice A n c) (by rw [cell_other (by simp)]; exact g1) (fun x e => by cases e) v1
theorem below_two {B : Nat} {w W : World} (h : Below B w W) {g : Nat} (hg : B ≤ g) (v0 v1 : Value) : Below B w ((W.setCell ⟨g, 0, none⟩ v0).setCell ⟨g, 1, none⟩ v1) :=
  (h.setCell (p := ⟨g, 0, none⟩) hg v0).setCell (p := ⟨g, 1, none⟩) hg v1

set_option maxRecDepth 100000 in
set_option maxHeartbeats 1000000 in
theorem rmk_walk (neg : Bool) (v : Value) (a : Nat) (w : World) (h : DgAt w v a) (hs : (toD a).length ≤ 50000) :
    Calls Tryz.prog 51 #[.bool neg, v] w fun e w' => ∃ v', e = .returned v' ∧ ZAt w' v' (neg && decide (a ≠ 0)) a ∧ Below w.heap.size w w' := by
  have hb0 := below_alloc' w (.cells #[.bool false, .slice none 0 0] 94)
  have HB0 := Lib.hid (box2_new w (.bool false) (.slice none 0 0) 94)
  have hN := rnorm_walk v (toD a) _ (h.below hb0) (We_toD a) (by omega)
  rw [vd_toD] at hN
  have HN := Lib.hid hN
  have HW0 := Lib.hid hb0
  have h0 := toD_length_zero a
  obtain ⟨A, c, rfl, hc, hz, hr⟩ := h
  clear hN hb0 hr hz hc
  cases neg
  · go_enter Tryz.func51, Tryz.ntmps51
    go_wp2_with fail
    refine HN.out.mono ?_
    rintro e w1 ⟨v1, rfl, hn1, hb1⟩
    have HD1 := Lib.hid hn1
    have HB1 := Lib.hid (HB0.out.below hb1)
    have HW1 := Lib.hid (below_chain HW0.out hb1)
    obtain ⟨A1, c1, rfl, hc1, hz1, hr1⟩ := hn1
    clear hc1 hz1 hr1 hb1
    generalize toD a = l at *
    obtain ⟨g0, g1, f0, f1, f3⟩ := HB1.out
    go_wp2
    obtain ⟨r0, r1⟩ := two_set HB1.out (.bool false) (.slice A1 l.length c1)
    refine bodyPost_ret (v := .agg #[.bool false, .slice A1 l.length c1]) (by simp [results, Tryz.results51, go_sem, r0, r1]) rfl ⟨_, rfl, ⟨_, rfl, HD1.out.two HB1.out _ _⟩, ?_⟩
    exact below_two HW1.out (Nat.le_refl _) _ _
  · by_cases ha : a = 0
    · have HL0 := Lib.hid (h0.2 ha)
      have hd : (true && decide (a ≠ 0)) = false := by simp [ha]
      rw [hd]
      clear ha hd
      go_enter Tryz.func51, Tryz.ntmps51
      go_wp2_with fail
      refine HN.out.mono ?_
      rintro e w1 ⟨v1, rfl, hn1, hb1⟩
      have HD1 := Lib.hid hn1
      have HB1 := Lib.hid (HB0.out.below hb1)
      have HW1 := Lib.hid (below_chain HW0.out hb1)
      obtain ⟨A1, c1, rfl, hc1, hz1, hr1⟩ := hn1
      clear hc1 hz1 hr1 hb1
      generalize toD a = l at *
      have HLI := Lib.hid (show decide (0 < l.length) = false by rw [decide_eq_false_iff_not]; have := HL0.out; omega)
      clear h0 hs
      obtain ⟨g0, g1, f0, f1, f3⟩ := HB1.out
      go_wp2
      obtain ⟨r0, r1⟩ := two_set HB1.out (.bool (decide (0 < l.length))) (.slice A1 l.length c1)
      refine bodyPost_ret (v := .agg #[.bool (decide (0 < l.length)), .slice A1 l.length c1]) (by simp [results, Tryz.results51, go_sem, r0, r1]) rfl ⟨_, rfl, ⟨_, by rw [HLI.out], HD1.out.two HB1.out _ _⟩, ?_⟩
      exact below_two HW1.out (Nat.le_refl _) _ _
    · have HL0 := Lib.hid (show 0 < (toD a).length from Nat.pos_of_ne_zero fun e => ha (h0.1 e))
      have hd : (true && decide (a ≠ 0)) = true := by simp [ha]
      rw [hd]
      clear ha hd
      go_enter Tryz.func51, Tryz.ntmps51
      go_wp2_with fail
      refine HN.out.mono ?_
      rintro e w1 ⟨v1, rfl, hn1, hb1⟩
      have HD1 := Lib.hid hn1
      have HB1 := Lib.hid (HB0.out.below hb1)
      have HW1 := Lib.hid (below_chain HW0.out hb1)
      obtain ⟨A1, c1, rfl, hc1, hz1, hr1⟩ := hn1
      clear hc1 hz1 hr1 hb1
      generalize toD a = l at *
      have HLI := Lib.hid (show decide (0 < l.length) = true by rw [decide_eq_true_iff]; have := HL0.out; omega)
      clear h0 hs
      obtain ⟨g0, g1, f0, f1, f3⟩ := HB1.out
      go_wp2
      obtain ⟨r0, r1⟩ := two_set HB1.out (.bool (decide (0 < l.length))) (.slice A1 l.length c1)
      refine bodyPost_ret (v := .agg #[.bool (decide (0 < l.length)), .slice A1 l.length c1]) (by simp [results, Tryz.results51, go_sem, r0, r1]) rfl ⟨_, rfl, ⟨_, by rw [HLI.out], HD1.out.two HB1.out _ _⟩, ?_⟩
      exact below_two HW1.out (Nat.le_refl _) _ _

/-- The sign of a whole number. -/
def sgI04 (neg : Bool) (a : Nat) : Int := if a = 0 then 0 else if neg then -1 else 1
set_option maxRecDepth 100000 in
theorem rsign_walk (v : Value) (neg : Bool) (a : Nat) (w : World) (h : ZAt w v neg a) :
    Calls Tryz.prog 74 #[v] w fun e w' => e = .returned (.int .i64 (sgI04 neg a)) ∧ Below w.heap.size w w' := by
  obtain ⟨s, rfl, A, c, rfl, hc, hz, hr⟩ := h
  have h0 := toD_length_zero a
  have hb := below_alloc' w (.cells #[.bool neg, .slice A (toD a).length c] 94)
  clear hr hz hc
  generalize toD a = l at *
  by_cases ha : a = 0
  · have HS := Lib.hid (show sgI04 neg a = 0 by unfold sgI04; rw [if_pos ha])
    have hli : ((l.length : Int) == 0) = true := by have := h0.2 ha; rw [beq_iff_eq]; omega
    clear h0 ha
    go_enter Tryz.func74, Tryz.ntmps74
    go_wp2
    go_ret
    exact ⟨by rw [HS.out]; rfl, hb⟩
  · have hli : ((l.length : Int) == 0) = false := by rw [beq_eq_false_iff_ne]; have := fun e => ha (h0.1 e); omega
    cases neg
    · have HS := Lib.hid (show sgI04 false a = 1 by unfold sgI04; rw [if_neg ha]; rfl)
      clear h0 ha
      go_enter Tryz.func74, Tryz.ntmps74
      go_wp2
      go_ret
      exact ⟨by rw [HS.out]; rfl, hb⟩
    · have HS := Lib.hid (show sgI04 true a = -1 by unfold sgI04; rw [if_neg ha]; rfl)
      clear h0 ha
      go_enter Tryz.func74, Tryz.ntmps74
      go_wp2
      go_ret
      exact ⟨by rw [HS.out]; rfl, hb⟩
end Go.Proofs.YtooehlneoboenaaGreatDoor

namespace Go.Proofs.YtooehlneoboenaaGreatDoor
open Go.RowKit

theorem len_shl {a n m : Nat} (h : (toD a).length ≤ m) : (toD (a * 2 ^ n)).length ≤ m + n / 32 + 1 := by
  rw [toD_length_le]
  have h1 := (toD_length_le a m).1 h
  rw [pow_parts n, Nat.pow_succ, Nat.pow_add]
  have h2 : 2 ^ (n % 32) ≤ W32 := by rw [W32_eq]; exact Nat.pow_le_pow_right (by omega) (by omega)
  calc a * (W32 ^ (n / 32) * 2 ^ (n % 32)) < W32 ^ m * (W32 ^ (n / 32) * 2 ^ (n % 32)) := Nat.mul_lt_mul_of_pos_right h1 (Nat.mul_pos (Nat.pow_pos W32_pos) (Nat.two_pow_pos _))
    _ ≤ W32 ^ m * (W32 ^ (n / 32) * W32) := Nat.mul_le_mul_left _ (Nat.mul_le_mul_left _ h2)
    _ = _ := by ac_rfl
theorem len_add {a b m : Nat} (h : (toD a).length ≤ m) (g : (toD b).length ≤ m) : (toD (a + b)).length ≤ m + 1 := by
  rw [toD_length_le, Nat.pow_succ]
  have h1 := (toD_length_le a m).1 h
  have h2 := (toD_length_le b m).1 g
  have h3 : W32 ^ m * 2 ≤ W32 ^ m * W32 := Nat.mul_le_mul_left _ (by rw [W32_num]; omega)
  generalize W32 ^ m = P at *
  omega
theorem len_sub {a b m : Nat} (h : (toD a).length ≤ m) : (toD (a - b)).length ≤ m := by
  rw [toD_length_le]
  exact Nat.lt_of_le_of_lt (Nat.sub_le _ _) ((toD_length_le a m).1 h)
/-- Mk at a known sign, its answer laid open. -/
theorem rmk_open (neg : Bool) (p : Nat) (hn : neg = true → p ≠ 0) (hl : (toD p).length ≤ 50000) (W : World) (x : Value) (hx : Hid (DgAt W x p)) :
    Calls Tryz.prog 51 #[.bool neg, x] W fun e w' => ∃ x', e = .returned (.agg #[.bool neg, x']) ∧ DgAt w' x' p ∧ Below W.heap.size W w' := by
  refine (rmk_walk neg x p W hx.out hl).mono ?_
  rintro e w' ⟨v', rfl, ⟨s', rfl, hd'⟩, hb'⟩
  refine ⟨s', ?_, hd', hb'⟩
  cases neg
  · rfl
  · have := hn rfl
    simp [this]

set_option maxRecDepth 100000 in
set_option maxHeartbeats 2000000 in
theorem rzshl_walk (v : Value) (a : Nat) (k : Int) (w : World) (h : ZAt w v false a) (hk : 0 ≤ k) (hk2 : k ≤ 300000) (hs : (toD a).length ≤ 20000) :
    Calls Tryz.prog 77 #[v, .int .i64 k] w fun e w' => ∃ v', e = .returned v' ∧ ZAt w' v' false (a * 2 ^ k.toNat) ∧ Below w.heap.size w w' := by
  obtain ⟨s, rfl, hd⟩ := h
  have hw1 := below_alloc' w (.cells #[.bool false, s] 94)
  have hw2 := below_chain hw1 (below_alloc' (w.alloc (.cells #[.bool false, s] 94)) (.cells #[.bool false, .slice none 0 0] 94))
  have HSh := Lib.hid (show ∀ W, Hid (Below w.heap.size w W) → Calls Tryz.prog 45 #[s, .int .i64 k] W fun e w' => ∃ v', e = .returned v' ∧ DgAt w' v' (a * 2 ^ k.toNat) ∧ Below W.heap.size W w' from
    fun W hW => rshl_walk s a k W (hd.below hW.out) hk (by omega) (by omega))
  have hlen := len_shl (n := k.toNat) hs
  obtain ⟨p, hp⟩ : ∃ p, a * 2 ^ k.toNat = p := ⟨_, rfl⟩
  rw [hp] at HSh hlen ⊢
  have HMk := Lib.hid (fun W x hx => rmk_open false p (fun h => by cases h) (by omega) W x hx)
  obtain ⟨A, c, rfl, hc, hz, hr⟩ := hd
  have HWd := Lib.hid hw2.drew
  have hB4 := box2_new (w.alloc (.cells #[.bool false, .slice A (toD a).length c] 94)) (.bool false) (.slice none 0 0) 94
  have HB4 := Lib.hid (hB4.below (below_dn (Below.refl _ _) 1))
  rw [show (w.alloc (.cells #[.bool false, .slice A (toD a).length c] 94)).heap.size = w.heap.size + 1 by simp] at HB4
  clear hr hz hc hs hlen hp hw1 hw2 hB4
  generalize toD a = l at *
  go_enter Tryz.func77, Tryz.ntmps77
  go_wp2_with fail
  go_region_with (first
    | (go_at_call 45; refine (HSh.out _ (by first | exact HWd | assumption)).mono ?_; rintro e w5 ⟨v5, rfl, hd5, hb5⟩; have HD5 := Lib.hid hd5; have HW5 := Lib.hid (below_chain HWd.out hb5); have HB5 := Lib.hid (HB4.out.below hb5); have y0 : w5.cell? ⟨w.heap.size, 0, none⟩ = some (.bool false) := cell_kept hb5 (by simp); clear hd5 hb5)
    | (go_at_call 51; refine (HMk.out _ _ (by assumption)).mono ?_; rintro e w6 ⟨s6, rfl, hd6, hb6⟩; have HD6 := Lib.hid hd6; have HW6 := Lib.hid (below_chain HW5.out hb6); have HB6 := Lib.hid (HB5.out.below hb6); obtain ⟨g0, g1, f0, f1, f2⟩ := HB6.out; obtain ⟨A6, c6, rfl, hx1, hx2, hx3⟩ := hd6; clear hb6 hx1 hx2 hx3))
  all_goals
    go_wp2
    obtain ⟨r0, r1⟩ := two_set HB6.out (.bool false) (.slice A6 (toD p).length c6)
    refine bodyPost_ret (v := .agg #[.bool false, .slice A6 (toD p).length c6]) (by simp [results, Tryz.results77, go_sem, r0, r1]) rfl ⟨_, rfl, ⟨_, rfl, HD6.out.two HB6.out _ _⟩, ?_⟩
    exact below_two HW6.out (by omega) _ _

set_option maxRecDepth 100000 in
set_option maxHeartbeats 1000000 in
theorem rflip_walk (v : Value) (a : Nat) (w : World) (h : ZAt w v false a) (hs : (toD a).length ≤ 50000) :
    Calls Tryz.prog 104 #[v] w fun e w' => ∃ v', e = .returned v' ∧ ZAt w' v' (decide (a ≠ 0)) a ∧ Below w.heap.size w w' := by
  obtain ⟨s, rfl, hd⟩ := h
  have hw1 := below_alloc' w (.cells #[.bool false, s] 94)
  have hw2 := below_chain hw1 (below_alloc' (w.alloc (.cells #[.bool false, s] 94)) (.cells #[.bool false, .slice none 0 0] 94))
  have HMk := Lib.hid (show ∀ W, Below w.heap.size w W → Calls Tryz.prog 51 #[.bool true, s] W fun e w' => ∃ x', e = .returned (.agg #[.bool (decide (a ≠ 0)), x']) ∧ DgAt w' x' a ∧ Below W.heap.size W w' from fun W hW => by
    refine (rmk_walk true s a W (hd.below hW) hs).mono ?_
    rintro e w' ⟨v', rfl, ⟨s', rfl, hd'⟩, hb'⟩
    exact ⟨s', rfl, hd', hb'⟩)
  obtain ⟨b, hb⟩ : ∃ b, decide (a ≠ 0) = b := ⟨_, rfl⟩
  rw [hb] at HMk ⊢
  obtain ⟨A, c, rfl, hc, hz, hr⟩ := hd
  have HWd := Lib.hid hw2
  have hB4 := box2_new (w.alloc (.cells #[.bool false, .slice A (toD a).length c] 94)) (.bool false) (.slice none 0 0) 94
  have HB4 := Lib.hid hB4
  rw [show (w.alloc (.cells #[.bool false, .slice A (toD a).length c] 94)).heap.size = w.heap.size + 1 by simp] at HB4
  clear hr hz hc hs hw1 hw2 hB4 hb
  go_enter Tryz.func104, Tryz.ntmps104
  go_wp2_with fail
  refine (HMk.out _ HWd.out).mono ?_
  rintro e w6 ⟨s6, rfl, hd6, hb6⟩
  have HD6 := Lib.hid hd6
  have HW6 := Lib.hid (below_chain HWd.out hb6)
  have HB6 := Lib.hid (HB4.out.below hb6)
  obtain ⟨g0, g1, f0, f1, f2⟩ := HB6.out
  obtain ⟨A6, c6, rfl, hx1, hx2, hx3⟩ := hd6
  clear hb6 hx1 hx2 hx3
  go_wp2
  obtain ⟨r0, r1⟩ := two_set HB6.out (.bool b) (.slice A6 (toD a).length c6)
  refine bodyPost_ret (v := .agg #[.bool b, .slice A6 (toD a).length c6]) (by simp [results, Tryz.results104, go_sem, r0, r1]) rfl ⟨_, rfl, ⟨_, rfl, HD6.out.two HB6.out _ _⟩, ?_⟩
  exact below_two HW6.out (by omega) _ _
end Go.Proofs.YtooehlneoboenaaGreatDoor
