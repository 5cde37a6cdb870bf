/- Plain facts: long division by digits of 32 bits (turned from the limbs' facts by gen_a1.py). No program in sight. · Words on digits of 32 bits that lie apart from a block. · Walk of gnomonref01: digit (one digit of a long division, in place). · Walks of gnomonref01: Norm, Shl, whose results are the call's own (printed by gen_a3.py out of XVf, XVa). -/
import Derived.Test.YtmfjimmodaofdaaGreatDoorVm
import Derived.Test.YtmfjimmodaofdaaGreatDoorPp
import Derived.Test.YtmfjimmodaofdaaGreatDoorGj
import Derived.BigQuiet
import Derived.Deep.QuietTactic
import Derived.Deep.LoopGhost
namespace Go.Proofs.YtmfjimmodaofdaaGreatDoor

theorem lenD_less {a b : Nat} (h : (toD a).length < (toD b).length) : a < b := by
  have h1 := (toD_length_le a (toD a).length).1 (Nat.le_refl _)
  refine Nat.lt_of_lt_of_le h1 (Nat.le_of_not_lt fun h2 => ?_)
  have := (toD_length_le b (toD a).length).2 h2
  omega
theorem longD_pads {m n j U V : Nat} (hj : j + (n + 1) ≤ m) (hV : V < W32 ^ n) (hV0 : 0 < V) :
    paD m (U % (W32 ^ (j + 1) * V)) = paD j (U % (W32 ^ (j + 1) * V)) ++ (paD (n + 1) (U % (W32 ^ (j + 1) * V) / W32 ^ j) ++ paD (m - j - (n + 1)) 0) ∧
    paD j (U % (W32 ^ (j + 1) * V)) ++ (paD (n + 1) (U % (W32 ^ (j + 1) * V) / W32 ^ j % V) ++ paD (m - j - (n + 1)) 0) = paD m (U % (W32 ^ j * V)) ∧
    U % (W32 ^ (j + 1) * V) / W32 ^ j < W32 ^ (n + 1) ∧ U % (W32 ^ (j + 1) * V) / W32 ^ j < W32 * V := by
  obtain ⟨h1, _, h3⟩ := longD_step U V j hV0
  have hp := Nat.pow_pos W32_pos (n := j)
  generalize U % (W32 ^ (j + 1) * V) = X at *
  have h4 : X / W32 ^ j < W32 ^ (n + 1) := by
    refine Nat.lt_of_lt_of_le h3 ?_
    rw [Nat.pow_succ, Nat.mul_comm]
    exact Nat.mul_le_mul_right _ (Nat.le_of_lt hV)
  have e1 : m = j + ((n + 1) + (m - j - (n + 1))) := by omega
  have key : ∀ Y, Y / W32 ^ j < W32 ^ (n + 1) → paD m Y = paD j Y ++ (paD (n + 1) (Y / W32 ^ j) ++ paD (m - j - (n + 1)) 0) := fun Y hY => by
    conv => lhs; rw [e1]
    rw [paD_split, paD_split, Nat.div_eq_of_lt hY]
  refine ⟨key X h4, ?_, h4, h3⟩
  have h5 : U % (W32 ^ j * V) / W32 ^ j = X / W32 ^ j % V := by
    rw [h1, Nat.add_mul_div_left _ _ hp, Nat.div_eq_of_lt (Nat.mod_lt _ hp), Nat.zero_add]
  have h6 : paD j (U % (W32 ^ j * V)) = paD j X := by
    rw [h1]
    apply list_ext
    · simp [paD_length]
    · intro t ht
      rw [paD_length] at ht
      rw [el_paD ht, el_paD ht, accD_low ht]
      have e2 : W32 ^ j = W32 ^ t * W32 ^ (j - t) := by rw [← Nat.pow_add]; congr 1; omega
      rw [e2, Nat.mod_mul_right_div_self]
      have e3 : W32 ∣ W32 ^ (j - t) := by
        have : j - t = (j - t - 1) + 1 := by omega
        rw [this, Nat.pow_succ]; exact Nat.dvd_mul_left _ _
      rw [Nat.mod_mod_of_dvd _ e3]
  rw [key _ (by rw [h5]; exact Nat.lt_of_lt_of_le (Nat.mod_lt _ hV0) (Nat.le_trans (Nat.le_of_lt hV) (Nat.pow_le_pow_right W32_pos (by omega)))), h5, h6]
theorem trialD_digit {n R V : Nat} (hn : 1 ≤ n) (hR : R < W32 ^ (n + 1)) (hRV : R < W32 * V) (hV : V < W32 ^ n) (hV1 : W32 ^ (n - 1) ≤ V) :
    R / V ≤ (if V / W32 ^ (n - 1) % W32 ≤ R / W32 ^ n % W32 then W32 - 1 else (R / W32 ^ n % W32 * W32 + R / W32 ^ (n - 1) % W32) / (V / W32 ^ (n - 1) % W32)) ∧
    (if V / W32 ^ (n - 1) % W32 ≤ R / W32 ^ n % W32 then W32 - 1 else (R / W32 ^ n % W32 * W32 + R / W32 ^ (n - 1) % W32) / (V / W32 ^ (n - 1) % W32)) < W32 := by
  obtain ⟨k, rfl⟩ : ∃ k, n = k + 1 := ⟨n - 1, by omega⟩
  rw [Nat.add_sub_cancel] at *
  have hp := Nat.pow_pos W32_pos (n := k)
  have hd : V / W32 ^ k % W32 = V / W32 ^ k := Nat.mod_eq_of_lt (by rw [Nat.div_lt_iff_lt_mul hp, Nat.mul_comm, ← Nat.pow_succ]; exact hV)
  have hd0 : 0 < V / W32 ^ k := Nat.div_pos hV1 hp
  have hh : R / W32 ^ (k + 1) % W32 = R / W32 ^ k / W32 := by
    rw [Nat.pow_succ, ← Nat.div_div_eq_div_mul]
    refine Nat.mod_eq_of_lt ?_
    rw [Nat.div_div_eq_div_mul, ← Nat.pow_succ, Nat.div_lt_iff_lt_mul (Nat.pow_pos W32_pos), Nat.mul_comm, ← Nat.pow_succ]
    exact hR
  rw [hd, hh]
  refine ⟨trial_le (p := W32 ^ k) (low := R % W32 ^ k) (vlow := V % W32 ^ k) ?_ ?_ hp (Nat.mod_lt _ hp) hd0 W32_pos hRV, ?_⟩
  · have h1 := Nat.div_add_mod (R / W32 ^ k) W32
    have h2 := Nat.div_add_mod R (W32 ^ k)
    rw [Nat.mul_comm _ W32, h1, Nat.mul_comm, h2]
  · rw [Nat.mul_comm]; exact (Nat.div_add_mod V (W32 ^ k)).symm
  · split
    · have := W32_pos; omega
    · rename_i h
      rw [Nat.div_lt_iff_lt_mul hd0]
      have hl := Nat.mod_lt (R / W32 ^ k) W32_pos
      have h1 : (R / W32 ^ k / W32 + 1) * W32 ≤ (V / W32 ^ k) * W32 := Nat.mul_le_mul_right _ (by omega)
      rw [Nat.add_mul, Nat.one_mul, Nat.mul_comm (V / W32 ^ k)] at h1
      omega
theorem paD_mod (n x : Nat) : paD n (x % W32 ^ n) = paD n x := by
  apply list_ext
  · simp [paD_length]
  · intro t ht
    rw [paD_length] at ht
    have e2 : W32 ^ n = W32 ^ t * W32 ^ (n - t) := by rw [← Nat.pow_add]; congr 1; omega
    have e3 : W32 ∣ W32 ^ (n - t) := by
      have : n - t = (n - t - 1) + 1 := by omega
      rw [this, Nat.pow_succ]; exact Nat.dvd_mul_left _ _
    rw [el_paD ht, el_paD ht, e2, Nat.mod_mul_right_div_self, Nat.mod_mod_of_dvd _ e3]
theorem paD_take {m n X : Nat} (h : n ≤ m) : (paD m X).take n = paD n X := by
  apply list_ext
  · rw [List.length_take, paD_length, paD_length]; omega
  · intro j hj
    rw [List.length_take, paD_length] at hj
    rw [el_take (by omega), el_paD (by omega), el_paD (by omega)]
theorem shiftD_facts {a b la lb s : Nat} (hla : (toD a).length = la) (hlb : (toD b).length = lb) (hb : b ≠ 0) (hab : b ≤ a) (hs : s = 32 - blen (el (toD b) (lb - 1))) :
    b * 2 ^ s < W32 ^ lb ∧ W32 ^ (lb - 1) ≤ b * 2 ^ s ∧ a * 2 ^ s < W32 ^ (la + 1 - lb) * (b * 2 ^ s) ∧ s < 32 ∧ 1 ≤ lb ∧ lb < la + 1 := by
  have h1 := blen_digs hb
  rw [hlb] at h1
  have hl0 : lb ≠ 0 := fun e => hb ((toD_length_zero b).1 (by omega))
  have hlast := toD_last hb
  rw [hlb] at hlast
  have ht1 := blen_pos hlast
  have ht2 : blen (el (toD b) (lb - 1)) ≤ 32 := by rw [blen_le, ← W32_eq]; exact eD_lt (We_toD b) _
  have hp := Nat.two_pow_pos s
  have hlo : W32 ^ (lb - 1) ≤ b := by
    refine Nat.le_of_not_lt fun h => ?_
    have := (toD_length_le b (lb - 1)).2 h
    omega
  have hle : lb ≤ la := by
    refine Nat.le_of_not_lt fun h => ?_
    have := lenD_less (a := a) (b := b) (by omega)
    omega
  have ha := (toD_length_le a la).1 (by omega)
  refine ⟨?_, ?_, ?_, by omega, by omega, by omega⟩
  · have h2 : b * 2 ^ s < 2 ^ blen b * 2 ^ s := Nat.mul_lt_mul_of_pos_right (blen_hi b) hp
    rw [← Nat.pow_add] at h2
    rw [W32_pow]
    exact Nat.lt_of_lt_of_le h2 (Nat.pow_le_pow_right (by omega) (by omega))
  · exact Nat.le_trans hlo (Nat.le_mul_of_pos_right _ hp)
  · rw [← Nat.mul_assoc]
    refine Nat.mul_lt_mul_of_pos_right ?_ hp
    have h3 : W32 ^ (la + 1 - lb) * W32 ^ (lb - 1) ≤ W32 ^ (la + 1 - lb) * b := Nat.mul_le_mul_left _ hlo
    rw [← Nat.pow_add, show la + 1 - lb + (lb - 1) = la by omega] at h3
    omega
end Go.Proofs.YtmfjimmodaofdaaGreatDoor

namespace Go.Proofs.YtmfjimmodaofdaaGreatDoor
open Go.RowKit

/-- Digits that are read, and lie in another block than g. -/
def RdE (g : Nat) (w : World) (A : Option Addr) (l : List Nat) : Prop :=
  0 < l.length → ∃ ad : Addr, A = some ad ∧ ad.block ≠ g ∧ ∀ j, j < l.length → w.cell? (ad.add j) = some (.int .u32 ((el l j : Nat) : Int))
theorem RdE.kb {g : Nat} {w w' : World} {A : Option Addr} {l : List Nat} (h : RdE g w A l) (hk : KB g w w') : RdE g w' A l := fun hl =>
  let ⟨ad, e, hg, hc⟩ := h hl
  ⟨ad, e, hg, fun j hj => hk.cell (hc j hj) (by rw [add_block]; exact hg)⟩
theorem RdD.away {g : Nat} {w : World} {A : Option Addr} {l : List Nat} (h : RdD w A l) (hg : w.heap.size ≤ g) : RdE g w A l := fun hl =>
  let ⟨ad, e, hc⟩ := h hl
  ⟨ad, e, fun e2 => by
    have := World.block_lt_of_cell? w _ (hc 0 hl)
    rw [add_block] at this
    omega, hc⟩
/-- Block g begins with the digits l; tl lies behind them. -/
def BlE (w : World) (g : Nat) (tl : Array Value) (l : List Nat) : Prop := w.heap[g]? = some (.cells (UD l ++ tl) 198 (0, 0))
theorem BlE.cell {w : World} {g : Nat} {tl : Array Value} {l : List Nat} (h : BlE w g tl l) {j : Nat} (hj : j < l.length) : w.cell? ⟨g, j, none⟩ = some (.int .u32 ((el l j : Nat) : Int)) :=
  (cell_of_row w g j _ _ (0, 0) h).trans ((Array.getElem?_append_left (by rw [UD_size]; exact hj)).trans (UD_get hj))
theorem BlE.frozen {w : World} {g : Nat} {tl : Array Value} {l : List Nat} (h : BlE w g tl l) (j : Nat) : w.frozen? ⟨g, j, none⟩ = false := by
  unfold BlE at h; simp [World.frozen?, h]
theorem BlE.lt {w : World} {g : Nat} {tl : Array Value} {l : List Nat} (h : BlE w g tl l) : g < w.heap.size := (Array.getElem?_eq_some_iff.1 h).1
theorem BlE.set {w : World} {g : Nat} {tl : Array Value} {l : List Nat} (h : BlE w g tl l) (i x : Nat) (hi : i < l.length) : BlE (w.setCell ⟨g, i, none⟩ (.int .u32 ((x : Nat) : Int))) g tl (l.set i x) := by
  unfold BlE at h
  have h2 : (w.setCell ⟨g, i, none⟩ (.int .u32 ((x : Nat) : Int))).heap[g]? = some (.cells ((UD l ++ tl).setIfInBounds i (.int .u32 ((x : Nat) : Int))) 198 (0, 0)) := by
    simp [World.setCell, Array.getElem?_modify, h]
  rw [BlE, h2]
  congr 2
  apply Array.ext'
  simp only [Array.toList_setIfInBounds, Array.toList_append, UD, List.map_set]
  rw [List.set_append_left _ _ (by simpa using hi)]
theorem BlE.dn {w : World} {g : Nat} {tl : Array Value} {l : List Nat} (h : BlE w g tl l) (n : Nat) : BlE (w.drewN n) g tl l := h
theorem BlE.kb {g g' : Nat} {w w' : World} {tl : Array Value} {l : List Nat} (hB : BlE w g' tl l) (h : KB g w w') (hg : g' ≠ g) : BlE w' g' tl l := (h.block g' hB.lt hg).trans hB
theorem BlE.far {w : World} {g : Nat} {tl : Array Value} {l : List Nat} (h : BlE w g tl l) {p : Addr} (hp : g ≠ p.block) (u : Value) : BlE (w.setCell p u) g tl l := (Below.heap_setCell w p u g hp).trans h
theorem BlE.below {w w1 : World} {g : Nat} {tl : Array Value} {l : List Nat} (h : BlE w g tl l) (hb : Below w.heap.size w w1) : BlE w1 g tl l := (hb.block g h.lt).trans h
theorem BlE.read {w : World} {g : Nat} {tl : Array Value} {l : List Nat} (h : BlE w g tl l) : RdD w (some ⟨g, 0, none⟩) l := fun _ =>
  ⟨_, rfl, fun j hj => by rw [add_flat]; exact h.cell hj⟩
theorem BlD.kb {g g' : Nat} {w w' : World} {l : List Nat} (hB : BlD w g' l) (h : KB g w w') (hg : g' ≠ g) : BlD w' g' l := (h.block g' hB.lt hg).trans hB
theorem BlD.far {w : World} {g : Nat} {l : List Nat} (h : BlD w g l) {p : Addr} (hp : g ≠ p.block) (u : Value) : BlD (w.setCell p u) g l := (Below.heap_setCell w p u g hp).trans h

theorem trial_min {hi lo d : Nat} (hd : 0 < d) (hlo : lo < W32) : min ((hi * W32 + lo) / d) (W32 - 1) = if d ≤ hi then W32 - 1 else (hi * W32 + lo) / d := by
  have hW := W32_pos
  by_cases h : d ≤ hi
  · rw [if_pos h]
    apply Nat.min_eq_right
    have : W32 ≤ (hi * W32 + lo) / d := (Nat.le_div_iff_mul_le hd).2 (by
      have := Nat.mul_le_mul_right W32 h
      rw [Nat.mul_comm]; omega)
    omega
  · rw [if_neg h]
    apply Nat.min_eq_left
    have : (hi * W32 + lo) / d < W32 := by
      rw [Nat.div_lt_iff_lt_mul hd]
      have h1 : (hi + 1) * W32 ≤ d * W32 := Nat.mul_le_mul_right W32 (by omega)
      rw [Nat.add_mul, Nat.one_mul, Nat.mul_comm d] at h1
      omega
    omega
/-- Behind a trial digit k: too much was taken (o = 1), or it is right (o = 0). -/
def DigSt (R V B k o X : Nat) : Prop := (o = 1 ∧ R < k * V ∧ R + (B - k * V) = X ∧ k * V ≤ B) ∨ (o = 0 ∧ k = R / V ∧ X % B = R % V)
theorem dig_next {R V B k X : Nat} (hV : 0 < V) (hR : R < B) (h : DigSt R V B (k + 1) 1 X) : X < B ∧ ∃ c, (X + V) / B = c ∧ c ≤ 1 ∧ DigSt R V B k (1 - c) (X + V) := by
  rcases h with ⟨_, h1, h2, h3⟩ | ⟨h0, _⟩
  · obtain ⟨_, b2, b3⟩ := digit_back hV hR h3 h1
    rw [Nat.add_sub_cancel] at b2 b3
    rw [h2] at b2 b3
    refine ⟨by omega, ?_⟩
    by_cases hl : R < k * V
    · obtain ⟨f1, f2, _, f4⟩ := b2 hl
      exact ⟨0, f1, by omega, .inl ⟨rfl, hl, f2.symm, f4⟩⟩
    · obtain ⟨f1, f2, f3⟩ := b3 hl
      exact ⟨1, f1, by omega, .inr ⟨rfl, f3, f2⟩⟩
  · omega
theorem caD_last {X V n : Nat} (hX : X < W32 ^ (n + 1)) (hV : V < W32 ^ n) : caD X V (n + 1) = (X + V) / W32 ^ (n + 1) := by
  unfold caD
  rw [Nat.mod_eq_of_lt hX, Nat.mod_eq_of_lt (Nat.lt_of_lt_of_le hV (Nat.pow_le_pow_right W32_pos (by omega)))]
/-- One digit of a difference: what is taken, what is owed. -/
theorem dig_less {z li ow zn on : Nat} (hz : z < 4294967296) (hl : li < 4294967296) (ho : ow ≤ 1) (h1 : (z + 4294967296 - li - ow) % 4294967296 = zn) (h2 : (if z < li + ow then 1 else 0) = on) :
    (z < li + ow → on = 1 ∧ z + 4294967296 - (li + ow) = zn) ∧ (¬ z < li + ow → on = 0 ∧ z - (li + ow) = zn) := by
  constructor
  · intro h; rw [if_pos h] at h2; omega
  · intro h; rw [if_neg h] at h2; omega

set_option maxRecDepth 100000 in
set_option maxHeartbeats 4000000 in
theorem rdig_walk (g p c : Nat) (tl : Array Value) (pre post : List Nat) (A : Option Addr) (n cv V R : Nat) (w : World) (hpre : pre.length = p) (hA : RdE g w A (paD n V)) (hn1 : 1 ≤ n) (hVn : V < W32 ^ n) (hV1 : W32 ^ (n - 1) ≤ V) (hcv : n ≤ cv) (hz : BlE w g tl (pre ++ (paD (n + 1) R ++ post))) (hR : R < W32 ^ (n + 1)) (hRV : R < W32 * V) (hc : n + 1 ≤ c) (hn : n ≤ 60000) (hp : p ≤ 60000) :
    Calls Tryz.prog 210 #[.slice (some ⟨g, p, none⟩) (n + 1) c, .slice A n cv] w fun e w' => e = .returned (.int .u32 ((R / V : Nat) : Int)) ∧ BlE w' g tl (pre ++ (paD (n + 1) (R % V) ++ post)) ∧ KB g w w' := by
  -- the cells that are read first
  have hl1 : n < n + 1 := Nat.lt_succ_self n
  have hl2 : n - 1 < n + 1 := by omega
  have hl3 : n - 1 < n := by omega
  have cu1 := hz.cell (j := p + n) (by rw [List.length_append, List.length_append, hpre, paD_length]; omega)
  have cu2 := hz.cell (j := p + (n - 1)) (by rw [List.length_append, List.length_append, hpre, paD_length]; omega)
  rw [← hpre, el_mid _ _ _ _ (by rw [paD_length]; exact hl1), el_paD hl1, hpre] at cu1
  rw [← hpre, el_mid _ _ _ _ (by rw [paD_length]; exact hl2), el_paD hl2, hpre] at cu2
  obtain ⟨ada, hAe, hga, hca0⟩ := hA (by rw [paD_length]; omega)
  have cv1 := hca0 (n - 1) (by rw [paD_length]; omega)
  rw [el_paD hl3] at cv1
  have hV0 : 0 < V := Nat.lt_of_lt_of_le (Nat.pow_pos W32_pos) hV1
  obtain ⟨t1, t2⟩ := trialD_digit hn1 hR hRV hVn hV1
  obtain ⟨n1, hn1e⟩ : ∃ n1, n - 1 = n1 := ⟨_, rfl⟩
  rw [hn1e] at t1 t2 cu2 cv1
  obtain ⟨hi, hhi⟩ : ∃ hi, R / W32 ^ n % W32 = hi := ⟨_, rfl⟩
  obtain ⟨lo, hlo⟩ : ∃ lo, R / W32 ^ n1 % W32 = lo := ⟨_, rfl⟩
  obtain ⟨d, hd⟩ : ∃ d, V / W32 ^ n1 % W32 = d := ⟨_, rfl⟩
  have hhl : hi < W32 := by rw [← hhi]; exact Nat.mod_lt _ W32_pos
  have hll : lo < W32 := by rw [← hlo]; exact Nat.mod_lt _ W32_pos
  have hdl : d < W32 := by rw [← hd]; exact Nat.mod_lt _ W32_pos
  have hd0 : 0 < d := by
    rw [← hd, Nat.mod_eq_of_lt (by rw [Nat.div_lt_iff_lt_mul (Nat.pow_pos W32_pos), Nat.mul_comm, ← Nat.pow_succ, show n1.succ = n by omega]; exact hVn)]
    exact Nat.div_pos (by rw [← hn1e]; exact hV1) (Nat.pow_pos W32_pos)
  rw [hhi, hlo, hd] at t1 t2
  rw [hhi] at cu1
  rw [hlo] at cu2
  rw [hd] at cv1
  have htm := trial_min (hi := hi) (lo := lo) (d := d) hd0 hll
  obtain ⟨T, hT⟩ : ∃ T, (if d ≤ hi then W32 - 1 else (hi * W32 + lo) / d) = T := ⟨_, rfl⟩
  rw [hT] at t1 t2 htm
  have hPb : ∀ k, k < W32 → k * V ≤ W32 ^ (n + 1) := fun k hk => by
    rw [Nat.pow_succ, Nat.mul_comm]
    exact Nat.mul_le_mul (Nat.le_of_lt hVn) (Nat.le_of_lt hk)
  have HPB := Lib.hid hPb
  have hTb := hPb T t2
  have hsub := take_mul (R := R) (V := V) (w := T) (B := W32 ^ (n + 1)) hR hTb
  obtain ⟨X', hX'⟩ : ∃ X', (R + (W32 ^ (n + 1) - T * V)) % W32 ^ (n + 1) = X' := ⟨_, rfl⟩
  have hXl : X' < W32 ^ (n + 1) := by rw [← hX']; exact Nat.mod_lt _ (Nat.pow_pos W32_pos)
  rw [hX'] at hsub
  obtain ⟨o, ho⟩ : ∃ o, (if R < T * V then 1 else 0 : Nat) = o := ⟨_, rfl⟩
  have hox : X' + V * T = R + W32 ^ (n + 1) * o := by
    rw [Nat.mul_comm V T, hsub, ← ho]
    split <;> omega
  have hlimb : ∀ i, i ≤ n → (X' + V * T) / W32 ^ i % W32 = R / W32 ^ i % W32 := fun i hi => by rw [hox]; exact accD_low (by omega)
  have hlast : caD X' (V * T) (n + 1) = o := by
    have h1 : V * T < W32 ^ (n + 1) := by rw [Nat.pow_succ]; exact Nat.mul_lt_mul'' hVn t2
    unfold caD
    rw [Nat.mod_eq_of_lt hXl, Nat.mod_eq_of_lt h1, hox, Nat.add_mul_div_left _ _ (Nat.pow_pos W32_pos), Nat.div_eq_of_lt hR, Nat.zero_add]
  have htop : (V * T) / W32 ^ n % W32 = mcD 0 V T n := by
    have h1 : mcD 0 V T n = (V * T) / W32 ^ n := by unfold mcD; rw [Nat.zero_mod, Nat.zero_add, Nat.mod_eq_of_lt hVn]
    have h2 := mcD_lt 0 V T n t2
    rw [← h1, Nat.mod_eq_of_lt h2]
  have hs0 : miD (n + 1) 0 X' R = paD (n + 1) R := miD_zero _ _ _
  rw [← hs0] at hz
  have HZ := Lib.hid hz
  have HA := Lib.hid hA
  have HLimb := Lib.hid hlimb
  have HLast := Lib.hid hlast
  have HTop := Lib.hid htop
  have HM := Lib.hid (show n + 1 ≤ c ∧ n ≤ 60000 ∧ p ≤ 60000 ∧ T < W32 ∧ pre.length = p ∧ n ≤ cv ∧ 0 < V ∧ V < W32 ^ n from ⟨hc, hn, hp, t2, hpre, hcv, hV0, hVn⟩)
  have HR := Lib.hid (show R < W32 ^ (n + 1) ∧ R / V ≤ T ∧ (if R < T * V then 1 else 0 : Nat) = o ∧ (R + (W32 ^ (n + 1) - T * V)) % W32 ^ (n + 1) = X' from ⟨hR, t1, ho, hX'⟩)
  have H0 := Lib.hid (show mcD 0 V T 0 = 0 ∧ caD X' (V * T) 0 = 0 from ⟨mcD_zero 0 V T, caD_zero X' (V * T)⟩)
  rw [W32_num] at hhl hll hdl t2 htm
  obtain ⟨s, hs⟩ : ∃ s, hi * 4294967296 + lo = s := ⟨_, rfl⟩
  rw [hs] at htm
  have k1 : IntKind.u64.wrap (hi : Int) = (hi : Int) := by rw [IntKind.wrap_u64]; omega
  have k2 : IntKind.u64.wrap (lo : Int) = (lo : Int) := by rw [IntKind.wrap_u64]; omega
  have k3 : IntKind.u64.wrap (d : Int) = (d : Int) := by rw [IntKind.wrap_u64]; omega
  have k4 : IntKind.u64.wrap ((hi : Int) * 4294967296) = (hi : Int) * 4294967296 := by rw [IntKind.wrap_u64]; omega
  have k5 : IntKind.u64.wrap ((hi : Int) * 4294967296 + (lo : Int)) = (s : Int) := by rw [IntKind.wrap_u64]; omega
  obtain ⟨qq, hqq⟩ : ∃ qq, s / d = qq := ⟨_, rfl⟩
  rw [hqq] at htm
  have hqs : qq ≤ s := by rw [← hqq]; exact Nat.div_le_self _ _
  have kd : (s : Int) / (d : Int) = (qq : Int) := by rw [← hqq]; rfl
  have kq : IntKind.u64.wrap (qq : Int) = (qq : Int) := by rw [IntKind.wrap_u64]; omega
  have k6 : min (qq : Int) 4294967295 = (T : Int) := by omega
  have hdz : ¬ (d : Int) = 0 := by omega
  have p1 : IntKind.i64.wrap ((n : Int) - 1) = (n1 : Int) := by rw [IntKind.wrap_i64]; omega
  have p2 : (n : Int) < (n : Int) + 1 := by omega
  have p3 : (n1 : Int) < (n : Int) + 1 := by omega
  have p4 : (n1 : Int) < (n : Int) := by omega
  have HN1 := Lib.hid hn1e
  clear hs0 hz hA hlimb hlast htop hV0 hVn hV1 hcv hR hRV hc hn hp hpre hPb hTb hsub hX' hXl ho hox htm hT hl1 hl2 hl3 t1 t2 hhi hlo hd hs hqq hqs hll hhl hdl hd0 hca0 hn1 hn1e
  subst hAe
  go_enter Tryz.func210, Tryz.ntmps210
  go_wp2_with fail
  go_quiet (fail)
  have HK0 := Lib.hid ((KB.refl g w).dn nq)
  have HZ0 := Lib.hid (HZ.out.dn nq)
  clear HZ
  go_wp2_with fail
  clear k1 k2 k3 k4 k5 k6 kd kq hdz p1 p2 p3 p4 cu1 cu2 cv1
  go_loopw [8, 9, 10] (fun cy ow i wr => ∃ t : Nat, t ≤ n + 1 ∧ i = .int .i64 (t : Int) ∧ cy = .int .u64 ((mcD 0 V T t : Nat) : Int) ∧ ow = .int .u64 ((caD X' (V * T) t : Nat) : Int) ∧ Hid (BlE wr g tl (pre ++ (miD (n + 1) t X' R ++ post))) ∧ Hid (KB g w wr)) (fun _ _ i _ => n + 1 - (intOf i).toNat)
  case atStart => exact ⟨0, by omega, rfl, by rw [H0.out.1]; rfl, by rw [H0.out.2]; rfl, HZ0, HK0⟩
  case round =>
    obtain ⟨t, ht, rfl, rfl, rfl, HT, HK⟩ := hrel
    by_cases htn : t ≤ n
    · have hM := HM.out
      have hT1 := HT.out
      have hml : t < (miD (n + 1) t X' R).length := by rw [miD_length (by omega)]; omega
      obtain ⟨a, ha⟩ : ∃ a, p + t = a := ⟨_, rfl⟩
      have c3 := hT1.cell (j := p + t) (by rw [List.length_append, List.length_append, hM.2.2.2.2.1]; omega)
      rw [← hM.2.2.2.2.1, el_mid _ _ _ _ hml, el_miD (by omega), if_neg (by omega), hM.2.2.2.2.1, ← HLimb.out t (by omega)] at c3
      have f3 := hT1.frozen (p + t)
      obtain ⟨s1, s2⟩ := mulD_step V T t
      obtain ⟨u1, u2⟩ := subD_step X' (V * T) t
      have hcl := mcD_lt 0 V T t hM.2.2.2.1
      have hol := caD_le X' (V * T) t
      have hvl : V / W32 ^ t % W32 < W32 := Nat.mod_lt _ W32_pos
      have hzl : (X' + V * T) / W32 ^ t % W32 < W32 := Nat.mod_lt _ W32_pos
      have hset := hT1.set (p + t) (X' / W32 ^ t % W32) (by rw [List.length_append, List.length_append, hM.2.2.2.2.1]; omega)
      rw [← hM.2.2.2.2.1, set_mid _ _ _ _ _ hml, miD_set (by omega), hM.2.2.2.2.1] at hset
      have hKs := HK.out.set (p + t) (.int .u32 ((X' / W32 ^ t % W32 : Nat) : Int))
      rw [ha] at c3 f3 hset hKs
      have hv0 : t = n → V / W32 ^ t % W32 = 0 := fun e => by rw [e, Nat.div_eq_of_lt hM.2.2.2.2.2.2.2, Nat.zero_mod]
      have hcv : t < n → ∃ vi, V / W32 ^ t % W32 = vi ∧ wr.cell? (ada.add t) = some (.int .u32 (vi : Int)) := fun h => by
        obtain ⟨ad2, e2, hg2, hc2⟩ := HA.out (by rw [paD_length]; omega)
        cases e2
        have c1 := HK.out.cell (hc2 t (by rw [paD_length]; omega)) (by rw [add_block]; exact hg2)
        rw [el_paD h] at c1
        exact ⟨_, rfl, c1⟩
      obtain ⟨cn, hcn⟩ : ∃ cn, mcD 0 V T (t + 1) = cn := ⟨_, rfl⟩
      obtain ⟨on, hon⟩ : ∃ on, caD X' (V * T) (t + 1) = on := ⟨_, rfl⟩
      rw [hcn] at s2
      rw [hon] at u2
      have HC := Lib.hid (show mcD 0 V T (t + 1) = cn ∧ caD X' (V * T) (t + 1) = on from ⟨hcn, hon⟩)
      obtain ⟨cy, hcy⟩ : ∃ cy, mcD 0 V T t = cy := ⟨_, rfl⟩
      obtain ⟨ow, how⟩ : ∃ ow, caD X' (V * T) t = ow := ⟨_, rfl⟩
      obtain ⟨vi, hvi⟩ : ∃ vi, V / W32 ^ t % W32 = vi := ⟨_, rfl⟩
      obtain ⟨li, hli⟩ : ∃ li, (V * T) / W32 ^ t % W32 = li := ⟨_, rfl⟩
      obtain ⟨zi, hzi⟩ : ∃ zi, (X' + V * T) / W32 ^ t % W32 = zi := ⟨_, rfl⟩
      obtain ⟨zn, hzn⟩ : ∃ zn, X' / W32 ^ t % W32 = zn := ⟨_, rfl⟩
      rw [hcy] at s1 s2 hcl ⊢
      rw [how] at u1 u2 hol ⊢
      rw [hvi] at s1 s2 hvl hv0
      rw [hli] at s1 u1 u2
      rw [hzi] at c3 u1 u2 hzl
      rw [hzn] at u1 hset hKs
      have hm32 := hM.2.2.2.1
      rw [W32_num] at s1 s2 u1 hvl hzl hcl hm32
      have hpb : vi * T ≤ 4294967295 * 4294967295 := Nat.mul_le_mul (by omega) (by omega)
      obtain ⟨y, hy⟩ : ∃ y, vi * T = y := ⟨_, rfl⟩
      rw [hy] at s1 s2 hpb
      obtain ⟨s, hs⟩ : ∃ s, y + cy = s := ⟨_, rfl⟩
      rw [hs] at s1 s2
      have hsb : s < 18446744073709551616 := by omega
      have hlib : li < 4294967296 := by omega
      obtain ⟨b1, b2⟩ := dig_less hzl hlib hol u1 u2
      have k6 := mask32 s hsb
      rw [← s1] at k6
      have k8 : (s : Int) / 4294967296 = (cn : Int) := by omega
      obtain ⟨tk, htk⟩ : ∃ tk, li + ow = tk := ⟨_, rfl⟩
      rw [htk] at b1 b2
      have k9 : IntKind.u64.wrap ((li : Int) + (ow : Int)) = (tk : Int) := by rw [IntKind.wrap_u64]; omega
      have k10 : IntKind.u64.wrap (zi : Int) = (zi : Int) := by rw [IntKind.wrap_u64]; omega
      have hznl : zn < 4294967296 := by omega
      have k7 : IntKind.u32.wrap (zn : Int) = (zn : Int) := by rw [IntKind.wrap_u32]; omega
      have q1 : (t : Int) < (n : Int) + 1 := by omega
      have q2 : (t : Int) ≤ (n : Int) := by omega
      have q3 : IntKind.i64.wrap ((t : Int) + 1) = (t : Int) + 1 := by rw [IntKind.wrap_i64]; omega
      have HS := Lib.hid hset
      have HKs := Lib.hid hKs
      have HTn := Lib.hid htn
      by_cases hlt : zi < tk
      · obtain ⟨hon1, hzn1⟩ := b1 hlt
        have g1 : (zi : Int) < (tk : Int) := by omega
        have k11 : IntKind.u64.wrap ((zi : Int) + 4294967296) = (zi : Int) + 4294967296 := by rw [IntKind.wrap_u64]; omega
        have k12 : IntKind.u64.wrap ((zi : Int) + 4294967296 - (tk : Int)) = (zn : Int) := by rw [IntKind.wrap_u64]; omega
        have HON := Lib.hid hon1
        by_cases htl : t < n
        · obtain ⟨vi2, hvi2, c1⟩ := hcv htl
          rw [hvi] at hvi2
          subst hvi2
          have q4 : (t : Int) < (n : Int) := by omega
          have k1 : IntKind.u64.wrap (vi : Int) = (vi : Int) := by rw [IntKind.wrap_u64]; omega
          have hmul : (T : Int) * (vi : Int) = (y : Int) := by rw [← hy, Int.natCast_mul, Int.mul_comm]
          have k2 : IntKind.u64.wrap ((T : Int) * (vi : Int)) = (y : Int) := by rw [hmul, IntKind.wrap_u64]; omega
          have k3 : IntKind.u64.wrap ((cy : Int) + (y : Int)) = (s : Int) := by rw [IntKind.wrap_u64]; omega
          clear hset hKs hT1 s1 s2 u1 u2 hcl hol hvl hzl hM hml hv0 hcv hcn hon hcy how hvi hli hzi hzn hm32 hpb hy hs hsb hlib b1 b2 htk hznl htn htl hlt hon1 hzn1 hmul ht
          go_wp2_with fail
          go_roundw
          case rel => exact ⟨t + 1, by have := HTn.out; omega, by go_num, by rw [HC.out.1], by rw [HC.out.2, HON.out]; rfl, HS, HKs⟩
          case measure => have := HTn.out; simp [intOf]; omega
        · have hte : t = n := by omega
          have q4 : ¬ (t : Int) < (n : Int) := by omega
          have hv00 := hv0 hte
          rw [hv00, Nat.zero_mul] at hy
          have hsc : s = cy := by omega
          have HSC := Lib.hid hsc
          subst hsc
          clear hset hKs hT1 s1 s2 u1 u2 hcl hol hvl hzl hM hml hv0 hcv hcn hon hcy how hvi hli hzi hzn hm32 hpb hy hs hsb hlib b1 b2 htk hznl htn htl hlt hon1 hzn1 hv00 hte ht
          go_wp2_with fail
          go_roundw
          case rel => exact ⟨t + 1, by have := HTn.out; omega, by go_num, by rw [HC.out.1], by rw [HC.out.2, HON.out]; rfl, HS, HKs⟩
          case measure => have := HTn.out; simp [intOf]; omega
      · obtain ⟨hon1, hzn1⟩ := b2 hlt
        have g1 : ¬ (zi : Int) < (tk : Int) := by omega
        have k12 : IntKind.u64.wrap ((zi : Int) - (tk : Int)) = (zn : Int) := by rw [IntKind.wrap_u64]; omega
        have HON := Lib.hid hon1
        by_cases htl : t < n
        · obtain ⟨vi2, hvi2, c1⟩ := hcv htl
          rw [hvi] at hvi2
          subst hvi2
          have q4 : (t : Int) < (n : Int) := by omega
          have k1 : IntKind.u64.wrap (vi : Int) = (vi : Int) := by rw [IntKind.wrap_u64]; omega
          have hmul : (T : Int) * (vi : Int) = (y : Int) := by rw [← hy, Int.natCast_mul, Int.mul_comm]
          have k2 : IntKind.u64.wrap ((T : Int) * (vi : Int)) = (y : Int) := by rw [hmul, IntKind.wrap_u64]; omega
          have k3 : IntKind.u64.wrap ((cy : Int) + (y : Int)) = (s : Int) := by rw [IntKind.wrap_u64]; omega
          clear hset hKs hT1 s1 s2 u1 u2 hcl hol hvl hzl hM hml hv0 hcv hcn hon hcy how hvi hli hzi hzn hm32 hpb hy hs hsb hlib b1 b2 htk hznl htn htl hlt hon1 hzn1 hmul ht
          go_wp2_with fail
          go_roundw
          case rel => exact ⟨t + 1, by have := HTn.out; omega, by go_num, by rw [HC.out.1], by rw [HC.out.2, HON.out]; rfl, HS, HKs⟩
          case measure => have := HTn.out; simp [intOf]; omega
        · have hte : t = n := by omega
          have q4 : ¬ (t : Int) < (n : Int) := by omega
          have hv00 := hv0 hte
          rw [hv00, Nat.zero_mul] at hy
          have hsc : s = cy := by omega
          have HSC := Lib.hid hsc
          subst hsc
          clear hset hKs hT1 s1 s2 u1 u2 hcl hol hvl hzl hM hml hv0 hcv hcn hon hcy how hvi hli hzi hzn hm32 hpb hy hs hsb hlib b1 b2 htk hznl htn htl hlt hon1 hzn1 hv00 hte ht
          go_wp2_with fail
          go_roundw
          case rel => exact ⟨t + 1, by have := HTn.out; omega, by go_num, by rw [HC.out.1], by rw [HC.out.2, HON.out]; rfl, HS, HKs⟩
          case measure => have := HTn.out; simp [intOf]; omega
    · have hte : t = n + 1 := by omega
      subst hte
      have q2 : ¬ ((n + 1 : Nat) : Int) ≤ (n : Int) := by omega
      have hT1 := HT.out
      rw [miD_full] at hT1
      have HTf := Lib.hid hT1
      rw [HLast.out]
      have HO := Lib.hid (show o ≤ 1 by have := HR.out.2.2.1; split at this <;> omega)
      have HSt := Lib.hid (show DigSt R V (W32 ^ (n + 1)) T o X' from by
        obtain ⟨r1, r2, r3, r4⟩ := HR.out
        by_cases hlt : R < T * V
        · rw [if_pos hlt] at r3
          rw [Nat.mod_eq_of_lt (by have := HPB.out T HM.out.2.2.2.1; omega)] at r4
          exact .inl ⟨r3.symm, hlt, r4, HPB.out T HM.out.2.2.2.1⟩
        · rw [if_neg hlt] at r3
          obtain ⟨f1, f2⟩ := digit_hit HM.out.2.2.2.2.2.2.1 r1 (HPB.out T HM.out.2.2.2.1) r2 hlt
          exact .inr ⟨r3.symm, f1, by rw [← r4, Nat.mod_mod]; exact f2⟩)
      clear hT1 htn HT ht
      go_wp2_with fail
      go_loopg [7, 9] T (fun k wv ov wx => ∃ o X : Nat, wv = .int .u64 (k : Int) ∧ ov = .int .u64 (o : Int) ∧ Hid (k < W32) ∧ Hid (DigSt R V (W32 ^ (n + 1)) k o X) ∧ Hid (BlE wx g tl (pre ++ (paD (n + 1) X ++ post))) ∧ Hid (KB g w wx))
      case atStart => exact ⟨o, X', rfl, rfl, Lib.hid HM.out.2.2.2.1, HSt, HTf, HK⟩
      case round =>
        obtain ⟨o, X, rfl, rfl, HKl, HSt2, HX, HK2⟩ := hrel
        rcases id HSt2.out with ⟨ho1, hR1, hX1, hB1⟩ | ⟨ho0, hq, hX0⟩
        · subst ho1
          obtain ⟨k, rfl⟩ : ∃ k, gk = k + 1 := ⟨gk - 1, by
            have : gk ≠ 0 := fun e => by rw [e, Nat.zero_mul] at hR1; omega
            omega⟩
          obtain ⟨hXl, c, hc, hc1, hst⟩ := dig_next HM.out.2.2.2.2.2.2.1 HR.out.1 HSt2.out
          rw [← caD_last hXl HM.out.2.2.2.2.2.2.2] at hc
          have HNx := Lib.hid (show c ≤ 1 ∧ DigSt R V (W32 ^ (n + 1)) k (1 - c) (X + V) from ⟨hc1, hst⟩)
          have HCa := Lib.hid hc
          have HC0 := Lib.hid (caD_zero X V)
          have hz1 := HX.out
          rw [← miD_zero (n + 1) (X + V) X] at hz1
          have HX1 := Lib.hid hz1
          have hkl := HKl.out
          have HKk := Lib.hid (show k < W32 by omega)
          rw [W32_num] at hkl
          have k1 : IntKind.u64.wrap (((k + 1 : Nat) : Int) - 1) = (k : Int) := by rw [IntKind.wrap_u64]; omega
          have k1' : IntKind.u64.wrap (k : Int) = (k : Int) := by rw [IntKind.wrap_u64]; omega
          have g1 : (0 : Int) < ((1 : Nat) : Int) := by omega
          obtain ⟨XV, hXV⟩ : ∃ XV, X + V = XV := ⟨_, rfl⟩
          rw [hXV] at HX1 HNx
          have hst2 := addD_word X V
          rw [hXV] at hst2
          have HStp := Lib.hid hst2
          clear hR1 hX1 hB1 hXl hc hc1 hst hz1 hkl hXV hst2 HX HSt2 HKl
          go_wp2_with fail
          go_loopw [8, 13] (fun cy i wr2 => ∃ t : Nat, t ≤ n + 1 ∧ i = .int .i64 (t : Int) ∧ cy = .int .u64 ((caD X V t : Nat) : Int) ∧ Hid (BlE wr2 g tl (pre ++ (miD (n + 1) t XV X ++ post))) ∧ Hid (KB g w wr2)) (fun _ i _ => n + 1 - (intOf i).toNat)
          case atStart => exact ⟨0, by omega, rfl, by rw [HC0.out]; rfl, HX1, HK2⟩
          case round =>
            obtain ⟨t, ht, rfl, rfl, HT, HK3⟩ := hrel
            by_cases htn : t ≤ n
            · have hM := HM.out
              have hT1 := HT.out
              have hml : t < (miD (n + 1) t XV X).length := by rw [miD_length (by omega)]; omega
              obtain ⟨a, ha⟩ : ∃ a, p + t = a := ⟨_, rfl⟩
              have c3 := hT1.cell (j := p + t) (by rw [List.length_append, List.length_append, hM.2.2.2.2.1]; omega)
              rw [← hM.2.2.2.2.1, el_mid _ _ _ _ hml, el_miD (by omega), if_neg (by omega), hM.2.2.2.2.1] at c3
              have f3 := hT1.frozen (p + t)
              obtain ⟨u1, u2⟩ := HStp.out t
              have hol := caD_le X V t
              have hvl : V / W32 ^ t % W32 < W32 := Nat.mod_lt _ W32_pos
              have hzl : X / W32 ^ t % W32 < W32 := Nat.mod_lt _ W32_pos
              have hset := hT1.set (p + t) (XV / W32 ^ t % W32) (by rw [List.length_append, List.length_append, hM.2.2.2.2.1]; omega)
              rw [← hM.2.2.2.2.1, set_mid _ _ _ _ _ hml, miD_set (by omega), hM.2.2.2.2.1] at hset
              have hKs := HK3.out.set (p + t) (.int .u32 ((XV / W32 ^ t % W32 : Nat) : Int))
              rw [ha] at c3 f3 hset hKs
              have hv0 : t = n → V / W32 ^ t % W32 = 0 := fun e => by rw [e, Nat.div_eq_of_lt hM.2.2.2.2.2.2.2, Nat.zero_mod]
              have hcv : t < n → ∃ vi, V / W32 ^ t % W32 = vi ∧ wr.cell? (ada.add t) = some (.int .u32 (vi : Int)) := fun h => by
                obtain ⟨ad2, e2, hg2, hc2⟩ := HA.out (by rw [paD_length]; omega)
                cases e2
                have c1 := HK3.out.cell (hc2 t (by rw [paD_length]; omega)) (by rw [add_block]; exact hg2)
                rw [el_paD h] at c1
                exact ⟨_, rfl, c1⟩
              obtain ⟨cn, hcn⟩ : ∃ cn, caD X V (t + 1) = cn := ⟨_, rfl⟩
              rw [hcn] at u2
              have HC := Lib.hid hcn
              obtain ⟨cy, hcy⟩ : ∃ cy, caD X V t = cy := ⟨_, rfl⟩
              obtain ⟨vi, hvi⟩ : ∃ vi, V / W32 ^ t % W32 = vi := ⟨_, rfl⟩
              obtain ⟨zi, hzi⟩ : ∃ zi, X / W32 ^ t % W32 = zi := ⟨_, rfl⟩
              obtain ⟨zn, hzn⟩ : ∃ zn, XV / W32 ^ t % W32 = zn := ⟨_, rfl⟩
              rw [hcy] at u1 u2 hol ⊢
              rw [hvi] at u1 u2 hvl hv0
              rw [hzi] at c3 u1 u2 hzl
              rw [hzn] at u1 hset hKs
              rw [W32_num] at hvl hzl
              obtain ⟨s, hs⟩ : ∃ s, zi + vi + cy = s := ⟨_, rfl⟩
              rw [hs] at u1 u2
              have k6 := mask32 s (by omega)
              rw [u1] at k6
              have k8 : (s : Int) / 4294967296 = (cn : Int) := by omega
              have k10 : IntKind.u64.wrap (zi : Int) = (zi : Int) := by rw [IntKind.wrap_u64]; omega
              have k7 : IntKind.u32.wrap (zn : Int) = (zn : Int) := by rw [IntKind.wrap_u32]; omega
              have q1 : (t : Int) < (n : Int) + 1 := by omega
              have q2 : (t : Int) ≤ (n : Int) := by omega
              have q3 : IntKind.i64.wrap ((t : Int) + 1) = (t : Int) + 1 := by rw [IntKind.wrap_i64]; omega
              have HS := Lib.hid hset
              have HKs := Lib.hid hKs
              have HTn := Lib.hid htn
              obtain ⟨r, hr⟩ : ∃ r, cy + zi = r := ⟨_, rfl⟩
              have k9 : IntKind.u64.wrap ((cy : Int) + (zi : Int)) = (r : Int) := by rw [IntKind.wrap_u64]; omega
              by_cases htl : t < n
              · obtain ⟨vi2, hvi2, c1⟩ := hcv htl
                rw [hvi] at hvi2
                subst hvi2
                have q4 : (t : Int) < (n : Int) := by omega
                have k2 : IntKind.u64.wrap (vi : Int) = (vi : Int) := by rw [IntKind.wrap_u64]; omega
                have k3 : IntKind.u64.wrap ((r : Int) + (vi : Int)) = (s : Int) := by rw [IntKind.wrap_u64]; omega
                clear hset hKs hT1 u1 u2 hol hvl hzl hM hml hv0 hcv hcn hcy hvi hzi hzn hs hr htn htl ht
                go_wp2_with fail
                go_roundw
                case rel => exact ⟨t + 1, by have := HTn.out; omega, by go_num, by rw [HC.out], HS, HKs⟩
                case measure => have := HTn.out; simp [intOf]; omega
              · have hte : t = n := by omega
                have q4 : ¬ (t : Int) < (n : Int) := by omega
                have hv00 := hv0 hte
                have hsc : s = r := by omega
                subst hsc
                clear hset hKs hT1 u1 u2 hol hvl hzl hM hml hv0 hcv hcn hcy hvi hzi hzn hs hr htn htl hv00 hte ht
                go_wp2_with fail
                go_roundw
                case rel => exact ⟨t + 1, by have := HTn.out; omega, by go_num, by rw [HC.out], HS, HKs⟩
                case measure => have := HTn.out; simp [intOf]; omega
            · have hte : t = n + 1 := by omega
              subst hte
              have q2 : ¬ ((n + 1 : Nat) : Int) ≤ (n : Int) := by omega
              have hT1 := HT.out
              rw [miD_full] at hT1
              have HTf := Lib.hid hT1
              rw [HCa.out]
              have hc1 := HNx.out.1
              have k3 : min (1 : Int) (c : Int) = (c : Int) := by omega
              have k4 : IntKind.u64.wrap (1 - (c : Int)) = ((1 - c : Nat) : Int) := by rw [IntKind.wrap_u64]; omega
              clear hT1 htn HT ht hc1
              go_wp2_with fail
              go_roundg k
              case rel => exact ⟨1 - c, XV, rfl, rfl, HKk, Lib.hid HNx.out.2, HTf, HK3⟩
              case measure => omega
        · subst ho0
          have hX2 := HX.out
          rw [← paD_mod, hX0] at hX2
          have HX2 := Lib.hid hX2
          have hkl := HKl.out
          rw [W32_num] at hkl
          have HQ := Lib.hid hq
          have k1 : IntKind.u32.wrap (gk : Int) = (gk : Int) := by rw [IntKind.wrap_u32]; omega
          have g1 : ¬ (0 : Int) < ((0 : Nat) : Int) := by omega
          clear hX2 hX0 hq hkl
          go_wp2_with fail
          go_ret
          exact ⟨by rw [HQ.out]; rfl, HX2.out, HK2.out⟩
end Go.Proofs.YtmfjimmodaofdaaGreatDoor

namespace Go.Proofs.YtmfjimmodaofdaaGreatDoor
open Go.RowKit

theorem OwD.mono {w : World} {B B2 : Nat} {v : Value} {l : List Nat} (h : OwD w B v l) (hb : B2 ≤ B) : OwD w B2 v l := by
  refine ⟨h.1, ?_⟩
  rcases h.2 with h2 | ⟨g, cap, cur, e, hg, hr⟩
  · exact .inl h2
  · exact .inr ⟨g, cap, cur, e, Nat.le_trans hb hg, hr⟩
theorem BlD.own {w : World} {B g : Nat} {l : List Nat} (h : BlD w g l) (k : Nat) (hk : l.length = k) (hB : B ≤ g) (hm : k ≤ 1000000) : OwD w B (.slice (some ⟨g, 0, none⟩) k k) l := by
  subst hk
  refine ⟨by rw [Array.length_toList, UD_size, Nat.mul_one], .inr ⟨g, l.length, UD l, rfl, hB, h, Nat.le_refl _, by unfold maxLen; omega, by rw [UD_size, Nat.mul_one], ?_⟩⟩
  apply List.take_of_length_le
  rw [Array.length_toList, UD_size, Nat.mul_one]; exact Nat.le_refl _
/-- A slice of the call's own, with what lies behind it. -/
theorem OwD.blk {w : World} {B : Nat} {v : Value} {l : List Nat} (h : OwD w B v l) (hl : 0 < l.length) : ∃ g c tl, v = .slice (some ⟨g, 0, none⟩) l.length c ∧ B ≤ g ∧ l.length ≤ c ∧ BlE w g tl l := by
  rcases h.2 with ⟨_, hn⟩ | ⟨g, cap, cur, e, hb, hg, hn, hm, hs, ht⟩
  · omega
  · refine ⟨g, cap, (cur.toList.drop l.length).toArray, e, hb, hn, ?_⟩
    rw [Nat.mul_one] at ht
    have e2 : UD l ++ (cur.toList.drop l.length).toArray = cur := by
      apply Array.ext'
      rw [Array.toList_append, ← ht]
      simp
    unfold BlE
    rw [e2]; exact hg

set_option maxRecDepth 100000 in
set_option maxHeartbeats 1000000 in
theorem rnorm_own (v : Value) (l : List Nat) (w : World) (h : LsD w v l) (hw : We l) (hs : l.length ≤ 100000) :
    Calls Tryz.prog 192 #[v] w fun e w' => ∃ v', e = .returned v' ∧ OwD w' w.heap.size v' (toD (vd l)) ∧ Below w.heap.size w w' := by
  obtain ⟨A, c, rfl, hc, hAc, hr⟩ := h
  have HAC := Lib.hid hAc
  have HR := Lib.hid hr
  have HW := Lib.hid hw
  clear hr hw hAc
  go_enter Tryz.func192, Tryz.ntmps192
  go_wp2_with fail
  go_loop [3] (fun n => ∃ k : Nat, k ≤ l.length ∧ n = .int .i64 k ∧ trimD l l.length = trimD l k) (fun n => (intOf n).toNat)
  case atStart => exact ⟨l.length, Nat.le_refl _, rfl, rfl⟩
  case round =>
    obtain ⟨k, hk, rfl, hT⟩ := hrel
    have HT := Lib.hid hT
    clear hT
    by_cases hgo : k = 0 ∨ el l (k - 1) ≠ 0
    · -- the loop's end
      have HD := Lib.hid (show l.take k = toD (vd l) by
        rw [← trimD_stop hk hgo, ← HT.out, trimD_eq HW.out _ (Nat.le_refl _), List.take_length])
      have hmk := make_u32 k (by omega)
      have hB := BlD.new w (List.replicate k 0)
      have hb := below_alloc' w (.cells (UD (List.replicate k 0)) 198)
      have hlk : (l.take k).length = k := by rw [List.length_take]; omega
      have hrk : RdD (w.alloc (.cells (UD (List.replicate k 0)) 198)) A (l.take k) := fun hl => by
        obtain ⟨ad, e, hcl⟩ := (RdD.below HR.out hb) (by omega)
        exact ⟨ad, e, fun j hj => by rw [hcl j (by omega), el_take (by omega)]⟩
      obtain ⟨w1, hcp, hB1, hb1⟩ := copy_u32 (w.alloc (.cells (UD (List.replicate k 0)) 198)) w.heap.size (List.replicate k 0) (l.take k) (by rw [hlk]; simp) hB A c HAC.out hrk
      have HB1 := Lib.hid hB1
      have HW1 := Lib.hid (hb1 w.heap.size (Nat.le_refl _) w hb)
      rw [hlk] at hcp
      simp only [List.length_replicate] at hcp
      clear hB hb hB1 hb1 hrk
      rcases Nat.eq_zero_or_pos k with h0 | hp
      · have h0i : ¬ (0 : Int) < (k : Int) := by omega
        clear h0 hgo
        go_wp2
        go_ret
        refine ⟨_, rfl, ?_, HW1.out⟩
        have := HB1.out.own k hlk (Nat.le_refl _) (by omega)
        rw [HD.out] at this
        exact this
      · obtain ⟨ad, rfl, hc0⟩ := HR.out (by omega)
        have hck := hc0 (k - 1) (by omega)
        have hne : (((el l (k - 1) : Nat) : Int) == 0) = false := by
          rw [beq_eq_false_iff_ne]
          rcases hgo with h | h
          · omega
          · omega
        have hkp : (0 : Int) < (k : Int) := by omega
        have e1 : ((k : Int) - 1).toNat = k - 1 := by omega
        clear hc0 hgo
        go_wp2
        go_ret
        refine ⟨_, rfl, ?_, HW1.out⟩
        have := HB1.out.own k hlk (Nat.le_refl _) (by omega)
        rw [HD.out] at this
        exact this
    · obtain ⟨m, rfl⟩ : ∃ m, k = m + 1 := ⟨k - 1, by omega⟩
      have hz : el l m = 0 := by
        have : ¬ (m + 1 = 0 ∨ el l (m + 1 - 1) ≠ 0) := hgo
        rw [Nat.add_sub_cancel] at this
        omega
      obtain ⟨ad, rfl, hc0⟩ := HR.out (by omega)
      have hck := hc0 m (by omega)
      rw [hz] at hck
      have HT2 := Lib.hid (show trimD l l.length = trimD l m by rw [HT.out, trimD, if_pos hz])
      clear hc0 hgo hz
      go_wp2
      go_round
      case rel => exact ⟨m, by omega, rfl, HT2.out⟩
      case measure => simp [intOf]

set_option maxRecDepth 100000 in
set_option maxHeartbeats 1000000 in
theorem rshl_own (v : Value) (a : Nat) (i : Int) (w : World) (h : DgAt w v a) (hi : 0 ≤ i) (hi2 : i ≤ 1000000) (hs : (toD a).length ≤ 40000) :
    Calls Tryz.prog 184 #[v, .int .i64 i] w fun e w' => ∃ v', e = .returned v' ∧ OwD w' w.heap.size v' (toD (a * 2 ^ i.toNat)) ∧ Below w.heap.size w w' := by
  obtain ⟨n, rfl⟩ := Int.eq_ofNat_of_zero_le hi
  simp only [Int.toNat_natCast]
  have hN := rnorm_own v (toD a) w h (We_toD a) (by omega)
  rw [vd_toD] at hN
  have hmul : ∀ W, Below w.heap.size w W → Calls Tryz.prog 207 #[v, .int .u32 ((2 ^ (n % 32) : Nat) : Int), .int .u32 0] W fun e w' => ∃ v', e = .returned v' ∧ DgAt w' v' (a * 2 ^ (n % 32)) ∧ Below W.heap.size W w' := fun W hW => rmul_walk v a (2 ^ (n % 32)) 0 W (h.below hW) (show 2 ^ (n % 32) < 2 ^ 32 from Nat.pow_lt_pow_right (by omega) (by omega)) (by omega) (by omega)
  have h0 := toD_length_zero a
  have halt := (toD_length_le a (toD a).length).1 (Nat.le_refl _)
  obtain ⟨A, c, rfl, hc, hz, hr⟩ := h
  generalize hTA : toD a = l at *
  have HTA := Lib.hid hTA
  clear hTA
  by_cases hq : n = 0 ∨ a = 0
  · have he : a * 2 ^ n = a := by rcases hq with h | h <;> subst h <;> simp
    rw [he]
    have HN := Lib.hid hN
    have hq2 : n = 0 ∨ (0 < n ∧ l.length = 0) := by
      rcases Nat.eq_zero_or_pos n with h1 | h1
      · exact .inl h1
      · exact .inr ⟨h1, h0.2 (hq.elim (fun e => by omega) id)⟩
    clear hN hmul h0 hr hz hq he
    rcases hq2 with hn | ⟨hn, hl⟩
    · have hni : (n : Int) ≤ 0 := by omega
      clear hn
      go_enter Tryz.func184, Tryz.ntmps184
      go_wp2_with fail
      refine HN.out.mono ?_
      rintro e w2 ⟨v2, rfl, hn2, hb2⟩
      have HD2 := Lib.hid hn2
      obtain ⟨A2, c2, rfl, hc2, hz2, hr2⟩ := hn2.ls
      clear hc2 hz2 hr2
      go_wp2
      go_ret
      exact ⟨_, rfl, by rw [HTA.out]; exact HD2.out, hb2⟩
    · have hni : ¬ (n : Int) ≤ 0 := by omega
      have hl2 : ((l.length : Int) == 0) = true := by simp [hl]
      clear hn hl
      go_enter Tryz.func184, Tryz.ntmps184
      go_wp2_with fail
      refine HN.out.mono ?_
      rintro e w2 ⟨v2, rfl, hn2, hb2⟩
      have HD2 := Lib.hid hn2
      obtain ⟨A2, c2, rfl, hc2, hz2, hr2⟩ := hn2.ls
      clear hc2 hz2 hr2
      go_wp2
      go_ret
      exact ⟨_, rfl, by rw [HTA.out]; exact HD2.out, hb2⟩
  · have ha : a ≠ 0 := fun e => hq (.inr e)
    have hn : 0 < n := by omega
    have hni : ¬ (n : Int) ≤ 0 := by omega
    have hl2 : ((l.length : Int) == 0) = false := by rw [beq_eq_false_iff_ne]; have := fun e => ha (h0.1 e); omega
    obtain ⟨p, hp⟩ : ∃ p, a * 2 ^ (n % 32) = p := ⟨_, rfl⟩
    rw [hp] at hmul
    have hp0 : p ≠ 0 := by rw [← hp]; exact Nat.mul_ne_zero ha (by have := Nat.two_pow_pos (n % 32); omega)
    have hpl : (toD p).length ≤ l.length + 1 := by
      rw [toD_length_le, ← hp, Nat.pow_succ]
      have h5 : 2 ^ (n % 32) ≤ W32 := by rw [W32_eq]; exact Nat.pow_le_pow_right (by omega) (by omega)
      exact Nat.lt_of_lt_of_le (Nat.mul_lt_mul_of_pos_right halt (Nat.two_pow_pos _)) (Nat.mul_le_mul_left _ h5)
    have HFIN := Lib.hid (show vd (List.replicate (n / 32) 0 ++ toD p) = a * 2 ^ n by
      rw [vd_zeros, vd_toD, ← hp, pow_parts n]; ac_rfl)
    obtain ⟨z, hzz⟩ : ∃ z, 2 ^ (n % 32) = z := ⟨_, rfl⟩
    have HSH := Lib.hid (show ((2 : Int) ^ (n % 32)) % 4294967296 = (z : Int) by
      have h3 : 2 ^ (n % 32) < 2 ^ 32 := Nat.pow_lt_pow_right (by omega) (by omega)
      have e2 : ((2 : Int) ^ (n % 32)) = ((2 ^ (n % 32) : Nat) : Int) := by simp
      rw [e2, hzz]
      rw [hzz] at h3
      omega)
    rw [hzz] at hmul
    have hpz : 0 < (toD p).length := Nat.pos_of_ne_zero fun e => hp0 ((toD_length_zero p).1 e)
    have HMUL := Lib.hid hmul
    have HWP := Lib.hid (We_toD p)
    have hmod : ((n : Int) % 32).toNat = n % 32 := by omega
    generalize hTP : toD p = t at *
    have HTP := Lib.hid hTP
    clear hTP
    have hnb : n / 32 ≤ 40000 := by omega
    have hnn : (n : Int) / 32 = ((n / 32 : Nat) : Int) := by omega
    obtain ⟨q, hq2⟩ : ∃ q, n / 32 = q := ⟨_, rfl⟩
    rw [hq2] at HFIN hnb hnn
    have hmk := make_u32c q (q + l.length + 1) (q : Int) ((q : Int) + (l.length : Int) + 1) rfl (by omega) (by omega) (by omega)
    clear hN hmul hp hp0 h0 halt hr hz hq ha hn
    go_enter Tryz.func184, Tryz.ntmps184
    go_wp2_with fail
    have hO := OwD.zeros (w := w) (B := w.heap.size) q (q + l.length + 1) (Nat.le_refl _) (by omega) (by omega)
    have hb0 := below_alloc' w (.cells (UD (List.replicate (q + l.length + 1) 0)) 198)
    have HB0 := Lib.hid hb0
    have HO := Lib.hid hO
    clear hO hb0
    rw [HSH.out]
    refine (HMUL.out _ HB0.out).mono ?_
    rintro e w1 ⟨v1, rfl, hn1, hb1⟩
    have hn1' : LsD w1 v1 t := by rw [← HTP.out]; exact hn1
    have HW1 := Lib.hid (below_chain HB0.out hb1)
    have HO1 := Lib.hid (show OwD w1 w.heap.size (.slice (some ⟨w.heap.size, 0, none⟩) q (q + l.length + 1)) (List.replicate q 0) from World.ownsRow.kept HO.out ⟨hb1.os, hb1.tape, hb1.output, hb1.size, fun k hk _ => hb1.block k hk⟩ (row := none) (by simp [Value.ownBlock]))
    obtain ⟨A2, c2, rfl, hc2, hz2, hr2⟩ := hn1'
    obtain ⟨ad2, rfl, hcl2⟩ := hr2 hpz
    have HCL := Lib.hid hcl2
    have hlen : (List.replicate q 0).length + t.length ≤ 1000000 := by rw [List.length_replicate]; omega
    clear hn1 hc2 hz2 hr2 hcl2 hb1
    go_wp2_with (at_builtin; refine wpList_appendD rfl (.tmp 24) (.tmp 29) rfl w.heap.size _ (List.replicate q 0) rfl HO1.out ad2 t.length c2 t rfl rfl HCL.out hlen HW1.out.size (fun v' w2 h1 h2 => ?_))
    have h3 := h2 w HW1.out
    have HN := rnorm_own _ _ _ h1.ls (We_zeros q HWP.out) (by rw [List.length_append, List.length_replicate]; omega)
    rw [HFIN.out] at HN
    have HN2 := Lib.hid HN
    have H3 := Lib.hid h3
    clear h1 h2 h3 HN
    go_wp2_with fail
    refine HN2.out.mono ?_
    rintro e w3 ⟨v3, rfl, hn3, hb3⟩
    have HD3 := Lib.hid hn3
    obtain ⟨A3, c3, rfl, hc3, hz3, hr3⟩ := hn3.ls
    clear hc3 hz3 hr3
    go_wp2
    go_ret
    exact ⟨_, rfl, HD3.out.mono H3.out.size, below_next H3.out H3.out.size hb3⟩
end Go.Proofs.YtmfjimmodaofdaaGreatDoor
