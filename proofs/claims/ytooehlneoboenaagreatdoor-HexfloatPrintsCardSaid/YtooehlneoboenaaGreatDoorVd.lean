/- Walks of gnomonref01: MulSmall. -/
import Derived.Test.YtooehlneoboenaaGreatDoorVc
namespace Go.Proofs.YtooehlneoboenaaGreatDoor
open Go.RowKit

theorem Tryz.infoD : (Tryz.prog.info? 90).map (fun i => (i.zero, i.size, i.bytes)) = some (some (.int .u32 0), 1, 4) := by kernel_rfl
/-- append(s, news...) where s is a slice of the call's own. -/
theorem wpList_appendD {W : World} {ops : Array Oper} {rest : List Oper} {o : Oper} {a : Act} {Q : Exit → Act → World → Prop} (hgd : o.guard = none) (s x : Operand)
    (ho : o.op = .call { callee := .builtin .append, args := #[s, x], argTypes := #[63, 63] }) (B : Nat) (v : Value) (l : List Nat) (hs : a.eval s = v) (hown : OwD W B v l)
    (ad : Addr) (m c : Nat) (news : List Nat) (hx : a.eval x = .slice (some ad) m c) (hm : news.length = m) (hnews : ∀ j, j < m → W.cell? (ad.add j) = some (.int .u32 ((el news j : Nat) : Int)))
    (hlen : l.length + m ≤ 1000000) (hB : B ≤ W.heap.size)
    (h : ∀ v' w', OwD w' B v' (l ++ news) → (∀ w, Below B w W → Below B w w') → wpList Tryz.prog ops Q rest (a.put o.dst v') w') : wpList Tryz.prog ops Q (o :: rest) a W := by
  obtain ⟨i0, hi, hz0, hz1, hz2⟩ := info_parts Tryz.infoD
  refine wpList_append_own W hgd s x 63 ho B 90 i0 (.int .u32 0) 1 4 Tryz.underlying63 hi hz0 hz1 hz2 rfl (by decide) v l.length (UD l).toList hs hown ad m c (UD news).toList hx
    (by rw [Array.length_toList, UD_size, hm]; omega) (fun j u hu => ?_) (fun u hu => ?_) (by unfold maxLen; omega) (by omega) hB (fun v' w' h1 h2 _ => ?_)
  · have hj : j < news.length := by
      have := (List.getElem?_eq_some_iff.1 hu).1
      rwa [Array.length_toList, UD_size] at this
    rw [Array.getElem?_toList, UD_get hj] at hu
    rw [hnews j (by omega)]; exact hu
  · simp only [UD, List.mem_map] at hu
    obtain ⟨y, _, rfl⟩ := hu
    rfl
  · rw [UD_app] at h1
    refine h v' w' (by unfold OwD; rw [List.length_append, hm]; exact h1) (fun w hb => below_grown hb hB h2 hown.block)

/-- make([]uint32, k, n): a rule of the walk. -/
theorem make_u32c (k n : Nat) (ki ni : Int) (hk : ki = (k : Int)) (hn : ni = (n : Int)) (hkn : k ≤ n) (hm : n ≤ 1000000) : ∀ W : World, (Instr.makeSlice 63 (.int .i64 ki) (.int .i64 ni)).run Tryz.prog W = .ok (.slice (some ⟨W.heap.size, 0, none⟩) k n) (W.alloc (.cells (UD (List.replicate n 0)) 90)) := by
  intro W
  subst hk; subst hn
  obtain ⟨i0, hi, hz0, hz1, hz2⟩ := info_parts Tryz.infoD
  rw [run_make W 63 90 i0 (.int .u32 0) Tryz.underlying63 hi hz0 .i64 .i64 (k : Int) (n : Int) (by omega) (by omega) (by rw [hz2]; omega) (by omega), hz1, UD_zeros]
  simp only [Int.toNat_natCast, Nat.mul_one]
  rfl
/-- The carry of a * w + c into digit k. -/
def mulC (a w c k : Nat) : Nat := (a % W32 ^ k * w + c) / W32 ^ k
theorem mulC_zero (a w c : Nat) : mulC a w c 0 = c := by simp [mulC, Nat.mod_one]
theorem mulC_lt (a w c k : Nat) (hw : w < W32) (hc : c < W32) : mulC a w c k < W32 := by
  have hp := Nat.pow_pos W32_pos (n := k)
  have h1 : a % W32 ^ k + 1 ≤ W32 ^ k := Nat.mod_lt _ hp
  unfold mulC
  rw [Nat.div_lt_iff_lt_mul hp]
  have h2 := Nat.mul_le_mul_right w h1
  rw [Nat.add_mul, Nat.one_mul] at h2
  have h3 : W32 ^ k * w + W32 ^ k ≤ W32 * W32 ^ k := by
    have := Nat.mul_le_mul_left (W32 ^ k) (show w + 1 ≤ W32 from hw)
    rw [Nat.mul_add, Nat.mul_one, Nat.mul_comm _ W32] at this
    exact this
  by_cases hk : k = 0
  · subst hk
    simp only [Nat.pow_zero, Nat.mod_one, Nat.zero_mul, Nat.zero_add] at *
    omega
  · have hpk : W32 ≤ W32 ^ k := by
      obtain ⟨j, rfl⟩ : ∃ j, k = j + 1 := ⟨k - 1, by omega⟩
      rw [Nat.pow_succ]; exact Nat.le_mul_of_pos_left _ (Nat.pow_pos W32_pos)
    have hc2 : c + 1 ≤ W32 ^ k := by omega
    by_cases hw0 : w = 0
    · subst hw0
      rw [Nat.mul_zero, Nat.zero_add]
      exact Nat.lt_of_lt_of_le hc2 (Nat.le_mul_of_pos_left _ W32_pos)
    · have : a % W32 ^ k * w + w ≤ W32 ^ k * w := h2
      have e : W32 * W32 ^ k = W32 ^ k * W32 := Nat.mul_comm _ _
      omega
theorem mul_digit (a w c k : Nat) : mulC a w c k + a / W32 ^ k % W32 * w = (a % W32 ^ (k + 1) * w + c) / W32 ^ k := by
  have hp := Nat.pow_pos W32_pos (n := k)
  unfold mulC
  rw [modD_pow_succ, Nat.add_mul, Nat.add_assoc, Nat.mul_assoc, Nat.mul_add_div hp, Nat.add_comm]
theorem mul_step (a w c k : Nat) : (mulC a w c k + a / W32 ^ k % W32 * w) % W32 = (a * w + c) / W32 ^ k % W32 ∧ (mulC a w c k + a / W32 ^ k % W32 * w) / W32 = mulC a w c (k + 1) := by
  have hp := Nat.pow_pos W32_pos (n := k)
  rw [mul_digit]
  refine ⟨?_, by rw [Nat.div_div_eq_div_mul, ← Nat.pow_succ]; rfl⟩
  have e : a * w + c = (a % W32 ^ (k + 1) * w + c) + W32 ^ k * (W32 * (a / W32 ^ (k + 1) * w)) := by
    have h1 := Nat.div_add_mod a (W32 ^ (k + 1))
    conv => lhs; rw [← h1]
    rw [Nat.add_mul, Nat.pow_succ, Nat.add_comm (W32 ^ k * W32 * _ * w), Nat.add_right_comm]
    congr 1
    ac_rfl
  rw [e, Nat.add_mul_div_left _ _ hp, Nat.add_mul_mod_self_left]
theorem paD_succ (k x : Nat) : paD (k + 1) x = paD k x ++ [x / W32 ^ k % W32] := by unfold paD; rw [List.range_succ]; simp
theorem mul_top {a w c n : Nat} (ha : a < W32 ^ n) (hw : w < W32) (hc : c < W32) : mulC a w c n = (a * w + c) / W32 ^ n % W32 ∧ a * w + c < W32 ^ (n + 1) := by
  have h := mulC_lt a w c n hw hc
  have e : mulC a w c n = (a * w + c) / W32 ^ n := by unfold mulC; rw [Nat.mod_eq_of_lt ha]
  rw [e] at h
  refine ⟨by rw [e, Nat.mod_eq_of_lt h], ?_⟩
  rw [Nat.div_lt_iff_lt_mul (Nat.pow_pos W32_pos), ← Nat.pow_succ'] at h
  exact h

theorem mask32 (s : Nat) (h : s < 18446744073709551616) : bits BinOp.and IntKind.u64 (s : Int) 4294967295 = ((s % 4294967296 : Nat) : Int) := by
  have h1 := bits_and_u64_nat s 4294967295 (by omega) (by omega)
  rw [show ((4294967295 : Nat) : Int) = 4294967295 from rfl] at h1
  rw [h1, show (4294967295 : Nat) = 2 ^ 32 - 1 from rfl, Nat.and_two_pow_sub_one_eq_mod]

theorem new_cell (W : World) (x : Nat) : ∀ j, j < 1 → (W.alloc (.cells #[.int .u32 (x : Int)] 90)).cell? ((⟨W.heap.size, 0, none⟩ : Addr).add j) = some (.int .u32 ((el [x] j : Nat) : Int)) := fun j hj => by
  obtain rfl : j = 0 := by omega
  simp [Addr.add, el]

set_option maxRecDepth 100000 in
set_option maxHeartbeats 1000000 in
theorem rmul_walk (v : Value) (a x c : Nat) (w : World) (h : DgAt w v a) (hx : x < 4294967296) (hc : c < 4294967296) (hs : (toD a).length ≤ 50000) :
    Calls Tryz.prog 44 #[v, .int .u32 (x : Int), .int .u32 (c : Int)] w fun e w' => ∃ v', e = .returned v' ∧ DgAt w' v' (a * x + c) ∧ Below w.heap.size w w' := by
  obtain ⟨A, cp, rfl, hcp, hz, hr⟩ := h
  have hel := el_toD a
  have halt := (toD_length_le a (toD a).length).1 (Nat.le_refl _)
  generalize toD a = l at *
  have hx32 : x < W32 := by rw [W32_num]; exact hx
  have hc32 : c < W32 := by rw [W32_num]; exact hc
  have HR := Lib.hid hr
  have HL := Lib.hid hel
  have HA := Lib.hid halt
  have HX := Lib.hid hx32
  have HC := Lib.hid hc32
  have hxi : (x : Int) < 4294967296 := by omega
  have hmk := make_u32c 0 (l.length + 1) 0 ((l.length : Int) + 1) rfl (by omega) (by omega) (by omega)
  clear hr hel halt hz hx32 hc32
  go_enter Tryz.func44, Tryz.ntmps44
  go_wp2_with fail
  have hO := OwD.made (w := w) (B := w.heap.size) (UD (List.replicate (l.length + 1) 0)) (l.length + 1) (Nat.le_refl _) (by omega) (by rw [UD_size]; simp)
  have hb := below_alloc' w (.cells (UD (List.replicate (l.length + 1) 0)) 90)
  go_loopw [7, 8, 9] (fun p q i wr => ∃ k : Nat, k ≤ l.length ∧ i = .int .i64 (k : Int) ∧ q = .int .u64 ((mulC a x c k : Nat) : Int) ∧ Hid (OwD wr w.heap.size p (paD k (a * x + c))) ∧ Hid (Below w.heap.size w wr)) (fun _ _ i _ => l.length - (intOf i).toNat)
  case atStart => exact ⟨0, by omega, rfl, by rw [mulC_zero], Lib.hid hO, Lib.hid hb⟩
  case round =>
    obtain ⟨k, hk, rfl, rfl, HO, HW⟩ := hrel
    have hmc := mulC_lt a x c k HX.out HC.out
    rw [W32_num] at hmc
    by_cases hlt : k < l.length
    · obtain ⟨ad, rfl, hc0⟩ := (HR.out.below HW.out) (by omega)
      have hck := hc0 k hlt
      have hst := mul_step a x c k
      rw [← HL.out k] at hst
      have hd : el l k < 4294967296 := by rw [HL.out k, ← W32_num]; exact Nat.mod_lt _ W32_pos
      obtain ⟨d, hdd⟩ : ∃ d, el l k = d := ⟨_, rfl⟩
      rw [hdd] at hck hst hd
      obtain ⟨m, hm⟩ : ∃ m, mulC a x c k = m := ⟨_, rfl⟩
      rw [hm] at hst hmc ⊢
      have hxb : d * x ≤ 4294967295 * 4294967295 := Nat.mul_le_mul (by omega) (by omega)
      obtain ⟨y, hy⟩ : ∃ y, d * x = y := ⟨_, rfl⟩
      rw [hy] at hst hxb
      have hmul : (d : Int) * (x : Int) = (y : Int) := by rw [← hy, Int.natCast_mul]
      obtain ⟨s, hs2⟩ : ∃ s, m + y = s := ⟨_, rfl⟩
      obtain ⟨lo, hlo⟩ : ∃ lo, (a * x + c) / W32 ^ k % W32 = lo := ⟨_, rfl⟩
      obtain ⟨hi, hhi⟩ : ∃ hi, mulC a x c (k + 1) = hi := ⟨_, rfl⟩
      rw [hlo, hhi, hs2, W32_num] at hst
      have hsb : s < 18446744073709551616 := by omega
      have k1 : IntKind.u64.wrap (d : Int) = (d : Int) := by rw [IntKind.wrap_u64]; omega
      have k2 : IntKind.u64.wrap (x : Int) = (x : Int) := by rw [IntKind.wrap_u64]; omega
      have k3 : IntKind.u64.wrap ((d : Int) * (x : Int)) = (y : Int) := by rw [hmul, IntKind.wrap_u64]; omega
      have k4 : IntKind.u64.wrap ((m : Int) + (y : Int)) = (s : Int) := by rw [IntKind.wrap_u64]; omega
      have k5 := mask32 s hsb
      rw [hst.1] at k5
      have k6 : IntKind.u32.wrap (lo : Int) = (lo : Int) := by rw [IntKind.wrap_u32]; omega
      have k7 : (s : Int) / 4294967296 = (hi : Int) := by omega
      have HS := Lib.hid (paD_succ k (a * x + c))
      rw [hlo] at HS
      have HHI := Lib.hid hhi
      have hOl : (paD k (a * x + c)).length + 1 ≤ 1000000 := by rw [paD_length]; omega
      have hB0 : w.heap.size ≤ wr.heap.size := HW.out.size
      clear hx hc hxi hmc hd hxb hsb hst hs2 hlo hhi hmul hy hdd hm hc0 hO hb
      go_wp2_with (at_builtin; refine wpList_appendD rfl (.tmp 32) (.tmp 36) rfl w.heap.size _ (paD k (a * x + c)) rfl (HO.out.alloc _) ⟨wr.heap.size, 0, none⟩ 1 1 [lo] rfl rfl (new_cell wr lo) hOl (by simp; omega) (fun v' w1 h1 h2 => ?_))
      have h3 := h2 w (HW.out.alloc hB0 _)
      rw [← HS.out] at h1
      go_roundw
      case rel => exact ⟨k + 1, by omega, by go_num, by rw [HHI.out], Lib.hid h1, Lib.hid h3⟩
      case measure => simp [intOf]; omega
    · have hk2 : k = l.length := by omega
      subst hk2
      obtain ⟨t1, t2⟩ := mul_top HA.out HX.out HC.out
      have HS := Lib.hid (paD_succ l.length (a * x + c))
      rw [← t1] at HS
      have HV := Lib.hid (vd_paD_of t2)
      obtain ⟨m, hm⟩ : ∃ m, mulC a x c l.length = m := ⟨_, rfl⟩
      rw [hm] at hmc HS ⊢
      have k6 : IntKind.u32.wrap (m : Int) = (m : Int) := by rw [IntKind.wrap_u32]; omega
      have hOl : (paD l.length (a * x + c)).length + 1 ≤ 1000000 := by rw [paD_length]; omega
      have hB0 : w.heap.size ≤ wr.heap.size := HW.out.size
      clear hx hc hxi hmc hO hb t1 t2 hm
      go_wp2_with (at_builtin; refine wpList_appendD rfl (.tmp 40) (.tmp 43) rfl w.heap.size _ (paD l.length (a * x + c)) rfl (HO.out.alloc _) ⟨wr.heap.size, 0, none⟩ 1 1 [m] rfl rfl (new_cell wr m) hOl (by simp; omega) (fun v' w1 h1 h2 => ?_))
      have h3 := h2 w (HW.out.alloc hB0 _)
      rw [← HS.out] at h1
      have HN := rnorm_walk _ _ _ h1.ls (We_paD _ _) (by rw [paD_length]; omega)
      rw [HV.out] at HN
      have HN2 := Lib.hid HN
      have H3 := Lib.hid h3
      clear h1 h2 h3 HN
      go_wp2_with fail
      refine HN2.out.mono ?_
      rintro e w2 ⟨v2, rfl, hn2, hb2⟩
      have HD2 := Lib.hid hn2
      obtain ⟨A2, c2, rfl, hc2, hz2, hr2⟩ := hn2
      clear hc2 hz2 hr2
      go_wp2
      go_ret
      exact ⟨_, rfl, HD2.out, below_next H3.out H3.out.size hb2⟩
end Go.Proofs.YtooehlneoboenaaGreatDoor
