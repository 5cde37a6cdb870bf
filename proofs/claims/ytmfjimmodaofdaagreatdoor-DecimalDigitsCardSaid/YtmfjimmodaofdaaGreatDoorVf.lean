/- Plain facts on digits of 32 bits: a natural as a list of them, the least first (turned from the limbs' facts by gen_v.py). No program in sight. · Words on digits of 32 bits: a list of them that is read, a natural at a value; slices of the call's own that grow. · Walks of gnomonref01: Norm, Word. · Walks of gnomonref01: MulSmall. · Walks of gnomonref01: Bits, Cmp, DivSmall. · Walks of gnomonref01: DivSmall. -/
import Derived.Test.YtmfjimmodaofdaaGreatDoorPj
import Derived.Test.YtmfjimmodaofdaaGreatDoorWa
import Derived.Laws.CopyRow
import Derived.Laws.AppendOwn
import Derived.OwnWalk
namespace Go.Proofs.YtmfjimmodaofdaaGreatDoor
def W32 : Nat := 4294967296
theorem W32_eq : W32 = 2 ^ 32 := by decide
theorem W32_pos : 0 < W32 := by decide
theorem W32_pow (n : Nat) : W32 ^ n = 2 ^ (32 * n) := by rw [W32_eq, ← Nat.pow_mul]
attribute [irreducible] W32

def vd : List Nat → Nat
  | [] => 0
  | x :: t => x + W32 * vd t
def toD (a : Nat) : List Nat := if _h : a = 0 then [] else a % W32 :: toD (a / W32)
termination_by a
decreasing_by exact Nat.div_lt_self (by omega) (by rw [W32_eq]; decide)
def We (l : List Nat) : Prop := ∀ x ∈ l, x < W32
def paD (m x : Nat) : List Nat := (List.range m).map fun i => x / W32 ^ i % W32

theorem toD_zero : toD 0 = [] := by rw [toD]; simp
theorem toD_pos {a : Nat} (h : a ≠ 0) : toD a = a % W32 :: toD (a / W32) := by rw [toD, dif_neg h]
theorem eD_lt {l : List Nat} (h : We l) (j : Nat) : el l j < W32 := by
  unfold el
  by_cases hj : j < l.length
  · simp only [List.getD_eq_getElem?_getD, List.getElem?_eq_getElem hj, Option.getD_some]
    exact h _ (List.getElem_mem hj)
  · simp only [List.getD_eq_getElem?_getD, List.getElem?_eq_none (Nat.le_of_not_lt hj), Option.getD_none]
    exact W32_pos
theorem We_nil : We [] := fun x h => by simp at h
theorem We_cons {x : Nat} {t : List Nat} : We (x :: t) ↔ x < W32 ∧ We t := by simp [We]
theorem We_toD (a : Nat) : We (toD a) := by
  induction a using Nat.strongRecOn with
  | _ a ih =>
    by_cases h : a = 0
    · rw [h, toD_zero]; exact We_nil
    · rw [toD_pos h, We_cons]
      exact ⟨Nat.mod_lt _ W32_pos, ih _ (Nat.div_lt_self (by omega) (by rw [W32_eq]; decide))⟩
theorem vd_toD (a : Nat) : vd (toD a) = a := by
  induction a using Nat.strongRecOn with
  | _ a ih =>
    by_cases h : a = 0
    · rw [h, toD_zero]; rfl
    · rw [toD_pos h, vd, ih _ (Nat.div_lt_self (by omega) (by rw [W32_eq]; decide))]
      exact Nat.mod_add_div a W32
theorem el_toD (a j : Nat) : el (toD a) j = a / W32 ^ j % W32 := by
  induction j generalizing a with
  | zero =>
    by_cases h : a = 0
    · rw [h, toD_zero, el_nil]; simp
    · rw [toD_pos h, el_cons_zero]; simp
  | succ j ih =>
    by_cases h : a = 0
    · rw [h, toD_zero, el_nil]; simp
    · rw [toD_pos h, el_cons_succ, ih, Nat.pow_succ, Nat.div_div_eq_div_mul, Nat.mul_comm (W32 ^ j)]
theorem toD_length_le (a n : Nat) : (toD a).length ≤ n ↔ a < W32 ^ n := by
  induction n generalizing a with
  | zero =>
    by_cases h : a = 0
    · rw [h, toD_zero]; simp
    · rw [toD_pos h]; simp; omega
  | succ n ih =>
    by_cases h : a = 0
    · rw [h, toD_zero]; simp; exact Nat.pow_pos W32_pos
    · rw [toD_pos h, List.length_cons, Nat.succ_le_succ_iff, ih, Nat.pow_succ, Nat.div_lt_iff_lt_mul W32_pos]
theorem toD_length_zero (a : Nat) : (toD a).length = 0 ↔ a = 0 := by
  by_cases h : a = 0
  · rw [h, toD_zero]; simp
  · rw [toD_pos h]; simp [h]
theorem toD_last {a : Nat} (h : a ≠ 0) : el (toD a) ((toD a).length - 1) ≠ 0 := by
  induction a using Nat.strongRecOn with
  | _ a ih =>
    rw [toD_pos h, List.length_cons]
    by_cases h2 : a / W32 = 0
    · rw [h2, toD_zero]
      simp only [List.length_nil, Nat.zero_add, Nat.sub_self, el_cons_zero]
      rw [Nat.mod_eq_of_lt ((Nat.div_eq_zero_iff_lt W32_pos).1 h2)]; exact h
    · have h3 := ih _ (Nat.div_lt_self (by omega) (by rw [W32_eq]; decide)) h2
      have h4 : (toD (a / W32)).length ≠ 0 := fun e => h2 ((toD_length_zero _).1 e)
      obtain ⟨m, hm⟩ : ∃ m, (toD (a / W32)).length = m + 1 := ⟨(toD (a / W32)).length - 1, by omega⟩
      rw [hm] at h3 ⊢
      simpa [el_cons_succ] using h3
theorem vd_zero_of {l : List Nat} (h : ∀ j, j < l.length → el l j = 0) : vd l = 0 := by
  induction l with
  | nil => rfl
  | cons x t ih =>
    have h0 : x = 0 := by simpa [el_cons_zero] using h 0 (by simp)
    have ht := ih fun j hj => by simpa [el_cons_succ] using h (j + 1) (by simp; omega)
    simp [vd, h0, ht]
theorem toD_vd_of {l : List Nat} (hw : We l) (h : l = [] ∨ el l (l.length - 1) ≠ 0) : toD (vd l) = l := by
  induction l with
  | nil => simp [vd, toD_zero]
  | cons x t ih =>
    have ⟨hx, ht⟩ := We_cons.1 hw
    have hlast : el (x :: t) t.length ≠ 0 := by
      rcases h with h | h
      · cases h
      · simpa using h
    have hne : vd (x :: t) ≠ 0 := by
      cases t with
      | nil => simp only [List.length_nil, el_cons_zero] at hlast; simp [vd, hlast]
      | cons y u =>
        have h2 : y :: u = [] ∨ el (y :: u) ((y :: u).length - 1) ≠ 0 := .inr (by simpa [el_cons_succ] using hlast)
        have h3 := ih ht h2
        have h4 : vd (y :: u) ≠ 0 := fun e => by rw [e, toD_zero] at h3; cases h3
        intro e
        have e2 : x + W32 * vd (y :: u) = 0 := e
        have := W32_pos
        have : W32 * vd (y :: u) = 0 := by omega
        rcases Nat.mul_eq_zero.1 this with h5 | h5 <;> omega
    have hm : vd (x :: t) % W32 = x := by simp [vd, Nat.add_mul_mod_self_left, Nat.mod_eq_of_lt hx]
    have hd : vd (x :: t) / W32 = vd t := by simp only [vd]; rw [Nat.add_mul_div_left _ _ W32_pos, Nat.div_eq_of_lt hx, Nat.zero_add]
    rw [toD_pos hne, hm, hd]
    congr 1
    apply ih ht
    cases t with
    | nil => exact .inl rfl
    | cons y u => exact .inr (by simpa [el_cons_succ] using hlast)
theorem vd_append_zero (l : List Nat) (n : Nat) : vd (l ++ List.replicate n 0) = vd l := by
  induction l with
  | nil =>
    refine vd_zero_of fun j hj => ?_
    simp at hj
    simp [el, List.getD_eq_getElem?_getD, hj]
  | cons x t ih => simp [vd, ih]
def trimD (l : List Nat) : Nat → List Nat
  | 0 => []
  | n + 1 => if el l n = 0 then trimD l n else l.take (n + 1)
theorem We_take {l : List Nat} (h : We l) (n : Nat) : We (l.take n) := fun x hx => h x (List.mem_of_mem_take hx)
theorem vd_take_succ {l : List Nat} {n : Nat} (hn : n < l.length) (hz : el l n = 0) : vd (l.take (n + 1)) = vd (l.take n) := by
  have e : l.take (n + 1) = l.take n ++ List.replicate 1 0 := by
    rw [List.take_succ_eq_append_getElem hn]
    have : l[n] = 0 := by rwa [el_get hn] at hz
    simp [this]
  rw [e, vd_append_zero]
theorem trimD_eq {l : List Nat} (hw : We l) (n : Nat) (hn : n ≤ l.length) : trimD l n = toD (vd (l.take n)) := by
  induction n with
  | zero => simp [trimD, vd, toD_zero]
  | succ n ih =>
    rw [trimD]
    by_cases hz : el l n = 0
    · rw [if_pos hz, ih (by omega), vd_take_succ (by omega) hz]
    · rw [if_neg hz]
      refine (toD_vd_of (We_take hw _) (.inr ?_)).symm
      have e : (l.take (n + 1)).length - 1 = n := by simp; omega
      rw [e, el_take (by omega)]; exact hz
theorem paD_length (m x : Nat) : (paD m x).length = m := by simp [paD]
theorem el_paD {m x j : Nat} (h : j < m) : el (paD m x) j = x / W32 ^ j % W32 := by
  rw [el_get (by rw [paD_length]; exact h)]
  simp [paD]
theorem We_paD (m x : Nat) : We (paD m x) := by
  intro y hy
  simp only [paD, List.mem_map] at hy
  obtain ⟨i, _, rfl⟩ := hy
  exact Nat.mod_lt _ W32_pos
theorem paD_succ' (m x : Nat) : paD (m + 1) x = x % W32 :: paD m (x / W32) := by
  apply list_ext
  · simp [paD_length]
  · intro j hj
    rw [paD_length] at hj
    rw [el_paD hj]
    cases j with
    | zero => simp [el_cons_zero]
    | succ j => rw [el_cons_succ, el_paD (by omega), Nat.pow_succ, Nat.div_div_eq_div_mul, Nat.mul_comm (W32 ^ j)]
theorem vd_paD (m x : Nat) : vd (paD m x) = x % W32 ^ m := by
  induction m generalizing x with
  | zero => simp [paD, vd, Nat.mod_one]
  | succ m ih =>
    rw [paD_succ', vd, ih, Nat.pow_succ, Nat.mul_comm (W32 ^ m), Nat.mod_mul]
theorem vd_paD_of {m x : Nat} (h : x < W32 ^ m) : vd (paD m x) = x := by rw [vd_paD, Nat.mod_eq_of_lt h]
theorem el_vd {l : List Nat} (h : We l) (j : Nat) : el l j = vd l / W32 ^ j % W32 := by
  induction l generalizing j with
  | nil => simp [el_nil, vd]
  | cons x t ih =>
    have ⟨hx, ht⟩ := We_cons.1 h
    cases j with
    | zero => simp [el_cons_zero, vd, Nat.add_mul_mod_self_left, Nat.mod_eq_of_lt hx]
    | succ j =>
      rw [el_cons_succ, ih ht, Nat.pow_succ, Nat.mul_comm (W32 ^ j), ← Nat.div_div_eq_div_mul, vd, Nat.add_mul_div_left _ _ W32_pos, Nat.div_eq_of_lt hx, Nat.zero_add]
theorem paD_vd {l : List Nat} (h : We l) : paD l.length (vd l) = l := by
  apply list_ext (paD_length _ _)
  intro j hj
  rw [paD_length] at hj
  rw [el_paD hj, el_vd h]
theorem paD_toD {a m : Nat} (h : (toD a).length = m) : paD m a = toD a := by
  have := paD_vd (We_toD a)
  rwa [vd_toD, h] at this
theorem toD_top {a : Nat} (h : a ≠ 0) : el (toD a) ((toD a).length - 1) = a / W32 ^ ((toD a).length - 1) := by
  rw [el_toD]
  apply Nat.mod_eq_of_lt
  rw [Nat.div_lt_iff_lt_mul (Nat.pow_pos W32_pos), Nat.mul_comm, ← Nat.pow_succ]
  have h1 : (toD a).length ≠ 0 := fun e => h ((toD_length_zero a).1 e)
  have : (toD a).length - 1 + 1 = (toD a).length := by omega
  rw [Nat.succ_eq_add_one, this]
  exact (toD_length_le a _).1 (Nat.le_refl _)
theorem blen_digs {a : Nat} (h : a ≠ 0) : blen a = 32 * ((toD a).length - 1) + blen (el (toD a) ((toD a).length - 1)) := by
  have ht := toD_top h
  have hl := toD_last h
  generalize (toD a).length - 1 = n at *
  rw [ht] at hl ⊢
  rw [W32_pow] at hl ⊢
  have h1 := blen_lo hl
  have h2 := blen_hi (a / 2 ^ (32 * n))
  have h3 := blen_pos hl
  have e : 32 * n + blen (a / 2 ^ (32 * n)) = (32 * n + (blen (a / 2 ^ (32 * n)) - 1)) + 1 := by omega
  rw [e]
  generalize blen (a / 2 ^ (32 * n)) = b at *
  apply blen_of
  · rw [Nat.pow_add]
    calc 2 ^ (32 * n) * 2 ^ (b - 1) ≤ 2 ^ (32 * n) * (a / 2 ^ (32 * n)) := Nat.mul_le_mul_left _ h1
      _ ≤ a := Nat.mul_div_le _ _
  · have e2 : 32 * n + (b - 1) + 1 = b + 32 * n := by omega
    rw [e2, Nat.pow_add]
    exact (Nat.div_lt_iff_lt_mul (Nat.two_pow_pos _)).1 h2
theorem toD_length (a : Nat) : (toD a).length = (blen a + 31) / 32 := by
  by_cases h : a = 0
  · subst h; simp [toD_zero, blen_zero]
  · have h1 := blen_digs h
    have h2 := blen_pos (toD_last h)
    have h3 : blen (el (toD a) ((toD a).length - 1)) ≤ 32 := blen_le.2 (by rw [← W32_eq]; exact eD_lt (We_toD a) _)
    have h4 : (toD a).length ≠ 0 := fun e => h ((toD_length_zero a).1 e)
    omega
theorem W32_num : W32 = 4294967296 := by rw [W32_eq]
theorem modD_pow_succ (a i : Nat) : a % W32 ^ (i + 1) = W32 ^ i * (a / W32 ^ i % W32) + a % W32 ^ i := by
  rw [Nat.pow_succ, Nat.mod_mul]; omega
def caD (a b i : Nat) : Nat := (a % W32 ^ i + b % W32 ^ i) / W32 ^ i
theorem caD_zero (a b : Nat) : caD a b 0 = 0 := by simp [caD, Nat.mod_one]
theorem caD_le (a b i : Nat) : caD a b i ≤ 1 := by
  have h1 := Nat.mod_lt a (Nat.pow_pos W32_pos (n := i))
  have h2 := Nat.mod_lt b (Nat.pow_pos W32_pos (n := i))
  have : caD a b i < 2 := by
    unfold caD
    rw [Nat.div_lt_iff_lt_mul (Nat.pow_pos W32_pos)]; omega
  omega
theorem addD_low (a b i : Nat) : (a + b) / W32 ^ i = a / W32 ^ i + b / W32 ^ i + caD a b i := by
  have hp := Nat.pow_pos W32_pos (n := i)
  have h1 := Nat.div_add_mod a (W32 ^ i)
  have h2 := Nat.div_add_mod b (W32 ^ i)
  unfold caD
  conv => lhs; rw [← h1, ← h2]
  have e : W32 ^ i * (a / W32 ^ i) + a % W32 ^ i + (W32 ^ i * (b / W32 ^ i) + b % W32 ^ i) = W32 ^ i * (a / W32 ^ i + b / W32 ^ i) + (a % W32 ^ i + b % W32 ^ i) := by rw [Nat.mul_add]; omega
  rw [e, Nat.mul_add_div hp]
theorem caD_succ (a b i : Nat) : caD a b (i + 1) = (a / W32 ^ i % W32 + b / W32 ^ i % W32 + caD a b i) / W32 := by
  have h1 := addD_low a b (i + 1)
  have h2 := addD_low a b i
  have e : ∀ z, z / W32 ^ (i + 1) = z / W32 ^ i / W32 := fun z => by rw [Nat.pow_succ, Nat.div_div_eq_div_mul]
  rw [e, e, e, h2] at h1
  generalize a / W32 ^ i = x at *
  generalize b / W32 ^ i = y at *
  generalize caD a b i = c at *
  have hx := Nat.div_add_mod x W32
  have hy := Nat.div_add_mod y W32
  have e2 : x + y + c = W32 * (x / W32 + y / W32) + (x % W32 + y % W32 + c) := by rw [Nat.mul_add]; omega
  rw [e2, Nat.mul_add_div W32_pos] at h1
  omega
theorem addD_limb (a b i : Nat) : (a / W32 ^ i % W32 + b / W32 ^ i % W32 + caD a b i) % W32 = (a + b) / W32 ^ i % W32 := by
  rw [addD_low, Nat.add_mod (a / W32 ^ i + b / W32 ^ i), Nat.add_mod (a / W32 ^ i), Nat.mod_add_mod, Nat.add_mod_mod]
theorem addD_word (a b k : Nat) : (a / W32 ^ k % W32 + b / W32 ^ k % W32 + caD a b k) % 4294967296 = (a + b) / W32 ^ k % W32 ∧ (a / W32 ^ k % W32 + b / W32 ^ k % W32 + caD a b k) / 4294967296 = caD a b (k + 1) := by
  rw [caD_succ, ← addD_limb, W32_num]; exact ⟨rfl, rfl⟩

end Go.Proofs.YtmfjimmodaofdaaGreatDoor

namespace Go.Proofs.YtmfjimmodaofdaaGreatDoor
open Go.RowKit

/-- The digits l can be read at A. -/
def RdD (w : World) (A : Option Addr) (l : List Nat) : Prop :=
  0 < l.length → ∃ ad, A = some ad ∧ ∀ j, j < l.length → w.cell? (ad.add j) = some (.int .u32 ((el l j : Nat) : Int))
/-- v is a slice of the digits l. -/
def LsD (w : World) (v : Value) (l : List Nat) : Prop := ∃ A c, v = .slice A l.length c ∧ l.length ≤ c ∧ (A = none → c = 0) ∧ RdD w A l
/-- v is a slice of the digits of the natural a. -/
def DgAt (w : World) (v : Value) (a : Nat) : Prop := LsD w v (toD a)
theorem RdD.nil (w : World) (A : Option Addr) : RdD w A [] := fun h => absurd h (by simp)
theorem RdD.below {w w1 : World} {A : Option Addr} {l : List Nat} (h : RdD w A l) (hb : Below w.heap.size w w1) : RdD w1 A l := fun hl => by
  obtain ⟨ad, e, hc⟩ := h hl
  exact ⟨ad, e, fun j hj => cell_kept hb (hc j hj)⟩
theorem LsD.below {w w1 : World} {v : Value} {l : List Nat} (h : LsD w v l) (hb : Below w.heap.size w w1) : LsD w1 v l := by
  obtain ⟨A, c, e, hc, hz, hr⟩ := h
  exact ⟨A, c, e, hc, hz, hr.below hb⟩
theorem DgAt.below {w w1 : World} {v : Value} {a : Nat} (h : DgAt w v a) (hb : Below w.heap.size w w1) : DgAt w1 v a := LsD.below h hb
theorem LsD.nil (w : World) : LsD w (.slice none 0 0) [] := ⟨none, 0, rfl, Nat.le_refl _, fun _ => rfl, RdD.nil _ _⟩
theorem DgAt.nil (w : World) : DgAt w (.slice none 0 0) 0 := by unfold DgAt; rw [toD_zero]; exact LsD.nil w
/-- The digits as cells. -/
def UD (l : List Nat) : Array Value := (l.map fun x => Value.int .u32 ((x : Nat) : Int)).toArray
/-- Block g holds just the digits l. -/
def BlD (w : World) (g : Nat) (l : List Nat) : Prop := w.heap[g]? = some (.cells (UD l) 198 (0, 0))
theorem UD_get {l : List Nat} {j : Nat} (h : j < l.length) : (UD l)[j]? = some (.int .u32 ((el l j : Nat) : Int)) := by
  simp [UD, el, List.getD_eq_getElem?_getD, List.getElem?_eq_getElem h]
theorem UD_size (l : List Nat) : (UD l).size = l.length := by simp [UD]
theorem BlD.cell {w : World} {g : Nat} {l : List Nat} (h : BlD w g l) {j : Nat} (hj : j < l.length) : w.cell? ⟨g, j, none⟩ = some (.int .u32 ((el l j : Nat) : Int)) :=
  (cell_of_row w g j _ _ (0, 0) h).trans (UD_get hj)
theorem BlD.frozen {w : World} {g : Nat} {l : List Nat} (h : BlD w g l) (j : Nat) : w.frozen? ⟨g, j, none⟩ = false := by
  unfold BlD at h; simp [World.frozen?, h]
theorem BlD.lt {w : World} {g : Nat} {l : List Nat} (h : BlD w g l) : g < w.heap.size := (Array.getElem?_eq_some_iff.1 h).1
theorem BlD.read {w : World} {g : Nat} {l : List Nat} (h : BlD w g l) : RdD w (some ⟨g, 0, none⟩) l := fun _ =>
  ⟨_, rfl, fun j hj => by rw [add_flat]; exact h.cell hj⟩
theorem BlD.ls {w : World} {g : Nat} {l : List Nat} (h : BlD w g l) (c : Nat) (hc : l.length ≤ c) : LsD w (.slice (some ⟨g, 0, none⟩) l.length c) l :=
  ⟨_, c, rfl, hc, (fun e => by cases e), h.read⟩
theorem BlD.new (w : World) (l : List Nat) : BlD (w.alloc (.cells (UD l) 198)) w.heap.size l := heap_alloc_new w _
theorem BlD.below {w w1 : World} {g : Nat} {l : List Nat} (h : BlD w g l) (hb : Below w.heap.size w w1) : BlD w1 g l := (hb.block g h.lt).trans h
theorem BlD.set {w : World} {g : Nat} {l : List Nat} (h : BlD w g l) (i x : Nat) : BlD (w.setCell ⟨g, i, none⟩ (.int .u32 ((x : Nat) : Int))) g (l.set i x) := by
  unfold BlD at h
  have h2 : (w.setCell ⟨g, i, none⟩ (.int .u32 ((x : Nat) : Int))).heap[g]? = some (.cells ((UD l).setIfInBounds i (.int .u32 ((x : Nat) : Int))) 198 (0, 0)) := by
    simp [World.setCell, Array.getElem?_modify, h]
  rw [BlD, h2]
  simp [UD, List.map_set]
theorem UD_zeros (m : Nat) : UD (List.replicate m 0) = madeCells #[.int .u32 0] m := by
  apply Array.ext'
  apply List.ext_getElem
  · simp [UD, madeCells]
  · intro i h1 h2
    simp [UD, madeCells, Nat.mod_one]
/-- make([]uint32, m): a rule of the walk. -/
theorem make_u32 (m : Nat) (hm : m ≤ 1000000) : ∀ W : World, (Instr.makeSlice 184 (.int .i64 (m : Int)) (.int .i64 (m : Int))).run Tryz.prog W = .ok (.slice (some ⟨W.heap.size, 0, none⟩) m m) (W.alloc (.cells (UD (List.replicate m 0)) 198)) := by
  intro W
  rw [UD_zeros]
  exact run_make_row' 184 198 (.int .u32 0) 4 Tryz.underlying184 (by kernel_rfl) rfl .i64 .i64 m (by omega) (by omega) W
/-- copy(dst, src) from digits onto a block of the call's own of the same length. -/
theorem copy_u32 (W : World) (g : Nat) (cur l : List Nat) (hl : l.length = cur.length) (hg : BlD W g cur) (A : Option Addr) (c : Nat) (hA : A = none → c = 0) (hr : RdD W A l) :
    ∃ w1, (Builtin.copy_ #[184, 184] 3 #[.slice (some ⟨g, 0, none⟩) cur.length cur.length, .slice A l.length c]).run Tryz.prog W = .ok (goInt l.length) w1 ∧ BlD w1 g l ∧ (∀ B, B ≤ g → ∀ w, Below B w W → Below B w w1) := by
  have hi : (Tryz.prog.info? 198).map (·.size) = some 1 := by kernel_rfl
  by_cases h0 : l.length = 0 ∧ A = none
  · have hc0 : c = 0 := hA h0.2
    have hl0 : l = [] := List.eq_nil_of_length_eq_zero h0.1
    have hcur : cur = [] := List.eq_nil_of_length_eq_zero (by omega)
    subst hl0; subst hcur
    rw [h0.2, hc0]
    refine ⟨W, run_copy_nil Tryz.prog W _ _ _ 198 _ _ _ Tryz.underlying184 (by kernel_rfl), hg, fun B hB w hb => hb⟩
  · obtain ⟨ad, rfl, hcell⟩ : ∃ ad, A = some ad ∧ ∀ j, j < l.length → W.cell? (ad.add j) = some (.int .u32 ((el l j : Nat) : Int)) := by
      by_cases h1 : l.length = 0
      · cases A with
        | none => exact absurd ⟨h1, rfl⟩ h0
        | some a => exact ⟨a, rfl, fun j hj => by omega⟩
      · exact hr (by omega)
    have hrun := run_copy_row Tryz.prog W 184 184 3 198 g 0 cur.length cur.length ad l.length c (UD cur) 198 (UD l).toList Tryz.underlying184 hi hg
      (by rw [Array.length_toList, UD_size, hl]; exact (Nat.min_self _).symm) (fun j v hv => by
        have hj : j < l.length := by
          have := (List.getElem?_eq_some_iff.1 hv).1
          rwa [Array.length_toList, UD_size] at this
        rw [Array.getElem?_toList, UD_get hj] at hv
        rw [hcell j hj]; exact hv) (by rw [Array.length_toList, UD_size, UD_size, hl]; omega)
      (fun v hv => by
        simp only [UD, List.mem_map] at hv
        obtain ⟨x, _, rfl⟩ := hv
        rfl)
    refine ⟨_, by rw [hrun, Array.length_toList, UD_size], ?_, fun B hB w hb => ?_⟩
    · have e : ((UD cur).toList.take 0 ++ (UD l).toList ++ (UD cur).toList.drop (0 + l.length)).toArray = UD l := by
        have h2 : (UD cur).toList.drop (0 + l.length) = [] := by
          apply List.drop_eq_nil_of_le
          rw [Array.length_toList, UD_size]; omega
        rw [h2]; simp
      rw [e]
      exact setRow_heap W g (UD cur) (UD l) 198 (0, 0) hg
    · refine ⟨hb.os, hb.tape, hb.output, ?_, fun i hi2 => ?_⟩
      · have := hb.size
        simpa [World.setRow] using this
      · rw [← hb.block i hi2]
        simp only [World.setRow]
        rw [Array.getElem?_modify, if_neg (by omega)]

/-- The value v is a slice of the call's own, from block B on, of the digits l. -/
def OwD (w : World) (B : Nat) (v : Value) (l : List Nat) : Prop := w.ownsRow B 198 1 v l.length (UD l).toList
theorem UD_app (a b : List Nat) : (UD a).toList ++ (UD b).toList = (UD (a ++ b)).toList := by simp [UD]
theorem OwD.ls {w : World} {B : Nat} {v : Value} {l : List Nat} (h : OwD w B v l) : LsD w v l := by
  rcases h.2 with ⟨rfl, hn⟩ | ⟨g, cap, cur, rfl, hb, hg, hn, hm, hs, ht⟩
  · have : l = [] := List.eq_nil_of_length_eq_zero hn
    subst this
    exact LsD.nil w
  · refine ⟨some ⟨g, 0, none⟩, cap, rfl, hn, (fun e => by cases e), fun _ => ⟨_, rfl, fun j hj => ?_⟩⟩
    refine World.ownsRow.cells h (g := g) rfl j _ ?_
    rw [Array.getElem?_toList]; exact UD_get hj
theorem OwD.block {w : World} {B : Nat} {v : Value} {l : List Nat} (h : OwD w B v l) : ∀ k, v.ownBlock = some k → B ≤ k := fun k hk => (World.ownsRow.lt h k hk).1
theorem OwD.alloc {w : World} {B : Nat} {v : Value} {l : List Nat} (h : OwD w B v l) (o : Obj) : OwD (w.alloc o) B v l := World.ownsRow.alloc h o
theorem OwD.nil (w : World) (B : Nat) : OwD w B (.slice none 0 0) [] := World.ownsRow_nil w B _ 1
theorem OwD.made {w : World} {B : Nat} (cur : Array Value) (cap : Nat) (hb : B ≤ w.heap.size) (hm : cap ≤ 1000000) (hs : cur.size = cap) : OwD (w.alloc (.cells cur 198)) B (.slice (some ⟨w.heap.size, 0, none⟩) 0 cap) [] :=
  World.ownsRow_made w cur cap hb (by unfold maxLen; omega) (by omega)
theorem below_grown {B : Nat} {w W W' : World} {row : Option Nat} (h : Below B w W) (hB : B ≤ W.heap.size) (g : W.grownBy W' row) (hr : ∀ k, row = some k → B ≤ k) : Below B w W' := by
  refine ⟨g.os.trans h.os, g.tape.trans h.tape, g.output.trans h.output, Nat.le_trans h.size g.size, fun i hi => ?_⟩
  rw [g.block i (by omega) (fun e => by have := hr i e.symm; omega)]
  exact h.block i hi
end Go.Proofs.YtmfjimmodaofdaaGreatDoor

namespace Go.Proofs.YtmfjimmodaofdaaGreatDoor
open Go.RowKit

theorem trimD_stop {l : List Nat} {k : Nat} (hk : k ≤ l.length) (h : k = 0 ∨ el l (k - 1) ≠ 0) : trimD l k = l.take k := by
  cases k with
  | zero => simp [trimD]
  | succ k => rw [trimD, if_neg (by rcases h with h | h; omega; exact h)]

set_option maxRecDepth 100000 in
set_option maxHeartbeats 1000000 in
theorem rnorm_walk (v : Value) (l : List Nat) (w : World) (h : LsD w v l) (hw : We l) (hs : l.length ≤ 100000) :
    Calls Tryz.prog 192 #[v] w fun e w' => ∃ v', e = .returned v' ∧ DgAt w' v' (vd l) ∧ Below w.heap.size w w' := by
  obtain ⟨A, c, rfl, hc, hAc, hr⟩ := h
  have HAC := Lib.hid hAc
  have HR := Lib.hid hr
  have HW := Lib.hid hw
  clear hr hw hAc
  go_enter Tryz.func192, Tryz.ntmps192
  go_wp2_with fail
  go_loop [3] (fun n => ∃ k : Nat, k ≤ l.length ∧ n = .int .i64 k ∧ trimD l l.length = trimD l k) (fun n => (intOf n).toNat)
  case atStart => exact ⟨l.length, Nat.le_refl _, rfl, rfl⟩
  case round =>
    obtain ⟨k, hk, rfl, hT⟩ := hrel
    have HT := Lib.hid hT
    clear hT
    by_cases hgo : k = 0 ∨ el l (k - 1) ≠ 0
    · -- the loop's end
      have HD := Lib.hid (show l.take k = toD (vd l) by
        rw [← trimD_stop hk hgo, ← HT.out, trimD_eq HW.out _ (Nat.le_refl _), List.take_length])
      have hmk := make_u32 k (by omega)
      have hB := BlD.new w (List.replicate k 0)
      have hb := below_alloc' w (.cells (UD (List.replicate k 0)) 198)
      have hlk : (l.take k).length = k := by rw [List.length_take]; omega
      have hrk : RdD (w.alloc (.cells (UD (List.replicate k 0)) 198)) A (l.take k) := fun hl => by
        obtain ⟨ad, e, hcl⟩ := (RdD.below HR.out hb) (by omega)
        exact ⟨ad, e, fun j hj => by rw [hcl j (by omega), el_take (by omega)]⟩
      obtain ⟨w1, hcp, hB1, hb1⟩ := copy_u32 (w.alloc (.cells (UD (List.replicate k 0)) 198)) w.heap.size (List.replicate k 0) (l.take k) (by rw [hlk]; simp) hB A c HAC.out hrk
      have HB1 := Lib.hid hB1
      have HW1 := Lib.hid (hb1 w.heap.size (Nat.le_refl _) w hb)
      rw [hlk] at hcp
      simp only [List.length_replicate] at hcp
      clear hB hb hB1 hb1 hrk
      rcases Nat.eq_zero_or_pos k with h0 | hp
      · have h0i : ¬ (0 : Int) < (k : Int) := by omega
        clear h0 hgo
        go_wp2
        go_ret
        refine ⟨_, rfl, ?_, HW1.out⟩
        have := HB1.out.ls k (by omega)
        rw [hlk, HD.out] at this
        exact this
      · obtain ⟨ad, rfl, hc0⟩ := HR.out (by omega)
        have hck := hc0 (k - 1) (by omega)
        have hne : (((el l (k - 1) : Nat) : Int) == 0) = false := by
          rw [beq_eq_false_iff_ne]
          rcases hgo with h | h
          · omega
          · omega
        have hkp : (0 : Int) < (k : Int) := by omega
        have e1 : ((k : Int) - 1).toNat = k - 1 := by omega
        clear hc0 hgo
        go_wp2
        go_ret
        refine ⟨_, rfl, ?_, HW1.out⟩
        have := HB1.out.ls k (by omega)
        rw [hlk, HD.out] at this
        exact this
    · obtain ⟨m, rfl⟩ : ∃ m, k = m + 1 := ⟨k - 1, by omega⟩
      have hz : el l m = 0 := by
        have : ¬ (m + 1 = 0 ∨ el l (m + 1 - 1) ≠ 0) := hgo
        rw [Nat.add_sub_cancel] at this
        omega
      obtain ⟨ad, rfl, hc0⟩ := HR.out (by omega)
      have hck := hc0 m (by omega)
      rw [hz] at hck
      have HT2 := Lib.hid (show trimD l l.length = trimD l m by rw [HT.out, trimD, if_pos hz])
      clear hc0 hgo hz
      go_wp2
      go_round
      case rel => exact ⟨m, by omega, rfl, HT2.out⟩
      case measure => simp [intOf]

set_option maxRecDepth 100000 in
theorem word_list {x : Nat} (h : x < 18446744073709551616) : vd [x % 4294967296, x / 4294967296] = x ∧ We [x % 4294967296, x / 4294967296] := by
  refine ⟨?_, ?_⟩
  · simp only [vd, W32_num]; omega
  · intro y hy
    simp at hy
    rw [W32_num]
    omega

set_option maxRecDepth 100000 in
theorem rword_walk (x : Nat) (hx : x < 18446744073709551616) (w : World) :
    Calls Tryz.prog 179 #[.int .u64 (x : Int)] w fun e w' => ∃ v', e = .returned v' ∧ DgAt w' v' x ∧ Below w.heap.size w w' := by
  obtain ⟨hv, hw⟩ := word_list hx
  have hand : bits BinOp.and IntKind.u64 (x : Int) 4294967295 = ((x % 4294967296 : Nat) : Int) := by
    have h1 := bits_and_u64_nat x 4294967295 (by omega) (by omega)
    rw [show ((4294967295 : Nat) : Int) = 4294967295 from rfl] at h1
    rw [h1, show (4294967295 : Nat) = 2 ^ 32 - 1 from rfl, Nat.and_two_pow_sub_one_eq_mod]
  have hdiv : (x : Int) / 4294967296 = ((x / 4294967296 : Nat) : Int) := by omega
  obtain ⟨lo, hlo⟩ : ∃ lo, x % 4294967296 = lo := ⟨_, rfl⟩
  obtain ⟨hi, hhi⟩ : ∃ hi, x / 4294967296 = hi := ⟨_, rfl⟩
  rw [hlo] at hv hw hand
  rw [hhi] at hv hw hdiv
  have hlb : (lo : Int) < 4294967296 := by omega
  have hhb : (hi : Int) < 4294967296 := by omega
  have hB := BlD.new w [lo, hi]
  have hb := below_alloc' w (.cells (UD [lo, hi]) 198)
  have HN := Lib.hid (rnorm_walk _ [lo, hi] _ (hB.ls 2 (by simp)) hw (by simp))
  have HB := Lib.hid hb
  rw [hv] at HN
  clear hv hw hlo hhi hB hb hx
  go_enter Tryz.func179, Tryz.ntmps179
  go_wp2_with fail
  refine HN.out.mono ?_
  rintro e w2 ⟨v', rfl, hn2, hb2⟩
  have HN2 := Lib.hid hn2
  obtain ⟨A2, c2, rfl, hc2, hz2, hr2⟩ := hn2
  clear hc2 hz2 hr2
  go_wp2
  go_ret
  exact ⟨_, rfl, HN2.out, below_chain HB.out hb2⟩
end Go.Proofs.YtmfjimmodaofdaaGreatDoor

namespace Go.Proofs.YtmfjimmodaofdaaGreatDoor
open Go.RowKit

theorem Tryz.infoD : (Tryz.prog.info? 198).map (fun i => (i.zero, i.size, i.bytes)) = some (some (.int .u32 0), 1, 4) := by kernel_rfl
/-- append(s, news...) where s is a slice of the call's own. -/
theorem wpList_appendD {W : World} {ops : Array Oper} {rest : List Oper} {o : Oper} {a : Act} {Q : Exit → Act → World → Prop} (hgd : o.guard = none) (s x : Operand)
    (ho : o.op = .call { callee := .builtin .append, args := #[s, x], argTypes := #[184, 184] }) (B : Nat) (v : Value) (l : List Nat) (hs : a.eval s = v) (hown : OwD W B v l)
    (ad : Addr) (m c : Nat) (news : List Nat) (hx : a.eval x = .slice (some ad) m c) (hm : news.length = m) (hnews : ∀ j, j < m → W.cell? (ad.add j) = some (.int .u32 ((el news j : Nat) : Int)))
    (hlen : l.length + m ≤ 1000000) (hB : B ≤ W.heap.size)
    (h : ∀ v' w', OwD w' B v' (l ++ news) → (∀ w, Below B w W → Below B w w') → wpList Tryz.prog ops Q rest (a.put o.dst v') w') : wpList Tryz.prog ops Q (o :: rest) a W := by
  obtain ⟨i0, hi, hz0, hz1, hz2⟩ := info_parts Tryz.infoD
  refine wpList_append_own W hgd s x 184 ho B 198 i0 (.int .u32 0) 1 4 Tryz.underlying184 hi hz0 hz1 hz2 rfl (by decide) v l.length (UD l).toList hs hown ad m c (UD news).toList hx
    (by rw [Array.length_toList, UD_size, hm]; omega) (fun j u hu => ?_) (fun u hu => ?_) (by unfold maxLen; omega) (by omega) hB (fun v' w' h1 h2 _ => ?_)
  · have hj : j < news.length := by
      have := (List.getElem?_eq_some_iff.1 hu).1
      rwa [Array.length_toList, UD_size] at this
    rw [Array.getElem?_toList, UD_get hj] at hu
    rw [hnews j (by omega)]; exact hu
  · simp only [UD, List.mem_map] at hu
    obtain ⟨y, _, rfl⟩ := hu
    rfl
  · rw [UD_app] at h1
    refine h v' w' (by unfold OwD; rw [List.length_append, hm]; exact h1) (fun w hb => below_grown hb hB h2 hown.block)

/-- make([]uint32, k, n): a rule of the walk. -/
theorem make_u32c (k n : Nat) (ki ni : Int) (hk : ki = (k : Int)) (hn : ni = (n : Int)) (hkn : k ≤ n) (hm : n ≤ 1000000) : ∀ W : World, (Instr.makeSlice 184 (.int .i64 ki) (.int .i64 ni)).run Tryz.prog W = .ok (.slice (some ⟨W.heap.size, 0, none⟩) k n) (W.alloc (.cells (UD (List.replicate n 0)) 198)) := by
  intro W
  subst hk; subst hn
  obtain ⟨i0, hi, hz0, hz1, hz2⟩ := info_parts Tryz.infoD
  rw [run_make W 184 198 i0 (.int .u32 0) Tryz.underlying184 hi hz0 .i64 .i64 (k : Int) (n : Int) (by omega) (by omega) (by rw [hz2]; omega) (by omega), hz1, UD_zeros]
  simp only [Int.toNat_natCast, Nat.mul_one]
  rfl
/-- The carry of a * w + c into digit k. -/
def mulC (a w c k : Nat) : Nat := (a % W32 ^ k * w + c) / W32 ^ k
theorem mulC_zero (a w c : Nat) : mulC a w c 0 = c := by simp [mulC, Nat.mod_one]
theorem mulC_lt (a w c k : Nat) (hw : w < W32) (hc : c < W32) : mulC a w c k < W32 := by
  have hp := Nat.pow_pos W32_pos (n := k)
  have h1 : a % W32 ^ k + 1 ≤ W32 ^ k := Nat.mod_lt _ hp
  unfold mulC
  rw [Nat.div_lt_iff_lt_mul hp]
  have h2 := Nat.mul_le_mul_right w h1
  rw [Nat.add_mul, Nat.one_mul] at h2
  have h3 : W32 ^ k * w + W32 ^ k ≤ W32 * W32 ^ k := by
    have := Nat.mul_le_mul_left (W32 ^ k) (show w + 1 ≤ W32 from hw)
    rw [Nat.mul_add, Nat.mul_one, Nat.mul_comm _ W32] at this
    exact this
  by_cases hk : k = 0
  · subst hk
    simp only [Nat.pow_zero, Nat.mod_one, Nat.zero_mul, Nat.zero_add] at *
    omega
  · have hpk : W32 ≤ W32 ^ k := by
      obtain ⟨j, rfl⟩ : ∃ j, k = j + 1 := ⟨k - 1, by omega⟩
      rw [Nat.pow_succ]; exact Nat.le_mul_of_pos_left _ (Nat.pow_pos W32_pos)
    have hc2 : c + 1 ≤ W32 ^ k := by omega
    by_cases hw0 : w = 0
    · subst hw0
      rw [Nat.mul_zero, Nat.zero_add]
      exact Nat.lt_of_lt_of_le hc2 (Nat.le_mul_of_pos_left _ W32_pos)
    · have : a % W32 ^ k * w + w ≤ W32 ^ k * w := h2
      have e : W32 * W32 ^ k = W32 ^ k * W32 := Nat.mul_comm _ _
      omega
theorem mul_digit (a w c k : Nat) : mulC a w c k + a / W32 ^ k % W32 * w = (a % W32 ^ (k + 1) * w + c) / W32 ^ k := by
  have hp := Nat.pow_pos W32_pos (n := k)
  unfold mulC
  rw [modD_pow_succ, Nat.add_mul, Nat.add_assoc, Nat.mul_assoc, Nat.mul_add_div hp, Nat.add_comm]
theorem mul_stepD (a w c k : Nat) : (mulC a w c k + a / W32 ^ k % W32 * w) % W32 = (a * w + c) / W32 ^ k % W32 ∧ (mulC a w c k + a / W32 ^ k % W32 * w) / W32 = mulC a w c (k + 1) := by
  have hp := Nat.pow_pos W32_pos (n := k)
  rw [mul_digit]
  refine ⟨?_, by rw [Nat.div_div_eq_div_mul, ← Nat.pow_succ]; rfl⟩
  have e : a * w + c = (a % W32 ^ (k + 1) * w + c) + W32 ^ k * (W32 * (a / W32 ^ (k + 1) * w)) := by
    have h1 := Nat.div_add_mod a (W32 ^ (k + 1))
    conv => lhs; rw [← h1]
    rw [Nat.add_mul, Nat.pow_succ, Nat.add_comm (W32 ^ k * W32 * _ * w), Nat.add_right_comm]
    congr 1
    ac_rfl
  rw [e, Nat.add_mul_div_left _ _ hp, Nat.add_mul_mod_self_left]
theorem paD_succ (k x : Nat) : paD (k + 1) x = paD k x ++ [x / W32 ^ k % W32] := by unfold paD; rw [List.range_succ]; simp
theorem mul_top {a w c n : Nat} (ha : a < W32 ^ n) (hw : w < W32) (hc : c < W32) : mulC a w c n = (a * w + c) / W32 ^ n % W32 ∧ a * w + c < W32 ^ (n + 1) := by
  have h := mulC_lt a w c n hw hc
  have e : mulC a w c n = (a * w + c) / W32 ^ n := by unfold mulC; rw [Nat.mod_eq_of_lt ha]
  rw [e] at h
  refine ⟨by rw [e, Nat.mod_eq_of_lt h], ?_⟩
  rw [Nat.div_lt_iff_lt_mul (Nat.pow_pos W32_pos), ← Nat.pow_succ'] at h
  exact h

theorem mask32 (s : Nat) (h : s < 18446744073709551616) : bits BinOp.and IntKind.u64 (s : Int) 4294967295 = ((s % 4294967296 : Nat) : Int) := by
  have h1 := bits_and_u64_nat s 4294967295 (by omega) (by omega)
  rw [show ((4294967295 : Nat) : Int) = 4294967295 from rfl] at h1
  rw [h1, show (4294967295 : Nat) = 2 ^ 32 - 1 from rfl, Nat.and_two_pow_sub_one_eq_mod]

theorem new_cell (W : World) (x : Nat) : ∀ j, j < 1 → (W.alloc (.cells #[.int .u32 (x : Int)] 198)).cell? ((⟨W.heap.size, 0, none⟩ : Addr).add j) = some (.int .u32 ((el [x] j : Nat) : Int)) := fun j hj => by
  obtain rfl : j = 0 := by omega
  simp [Addr.add, el]

set_option maxRecDepth 100000 in
set_option maxHeartbeats 1000000 in
theorem rmul_walk (v : Value) (a x c : Nat) (w : World) (h : DgAt w v a) (hx : x < 4294967296) (hc : c < 4294967296) (hs : (toD a).length ≤ 50000) :
    Calls Tryz.prog 207 #[v, .int .u32 (x : Int), .int .u32 (c : Int)] w fun e w' => ∃ v', e = .returned v' ∧ DgAt w' v' (a * x + c) ∧ Below w.heap.size w w' := by
  obtain ⟨A, cp, rfl, hcp, hz, hr⟩ := h
  have hel := el_toD a
  have halt := (toD_length_le a (toD a).length).1 (Nat.le_refl _)
  generalize toD a = l at *
  have hx32 : x < W32 := by rw [W32_num]; exact hx
  have hc32 : c < W32 := by rw [W32_num]; exact hc
  have HR := Lib.hid hr
  have HL := Lib.hid hel
  have HA := Lib.hid halt
  have HX := Lib.hid hx32
  have HC := Lib.hid hc32
  have hxi : (x : Int) < 4294967296 := by omega
  have hmk := make_u32c 0 (l.length + 1) 0 ((l.length : Int) + 1) rfl (by omega) (by omega) (by omega)
  clear hr hel halt hz hx32 hc32
  go_enter Tryz.func207, Tryz.ntmps207
  go_wp2_with fail
  have hO := OwD.made (w := w) (B := w.heap.size) (UD (List.replicate (l.length + 1) 0)) (l.length + 1) (Nat.le_refl _) (by omega) (by rw [UD_size]; simp)
  have hb := below_alloc' w (.cells (UD (List.replicate (l.length + 1) 0)) 198)
  go_loopw [7, 8, 9] (fun p q i wr => ∃ k : Nat, k ≤ l.length ∧ i = .int .i64 (k : Int) ∧ q = .int .u64 ((mulC a x c k : Nat) : Int) ∧ Hid (OwD wr w.heap.size p (paD k (a * x + c))) ∧ Hid (Below w.heap.size w wr)) (fun _ _ i _ => l.length - (intOf i).toNat)
  case atStart => exact ⟨0, by omega, rfl, by rw [mulC_zero], Lib.hid hO, Lib.hid hb⟩
  case round =>
    obtain ⟨k, hk, rfl, rfl, HO, HW⟩ := hrel
    have hmc := mulC_lt a x c k HX.out HC.out
    rw [W32_num] at hmc
    by_cases hlt : k < l.length
    · obtain ⟨ad, rfl, hc0⟩ := (HR.out.below HW.out) (by omega)
      have hck := hc0 k hlt
      have hst := mul_stepD a x c k
      rw [← HL.out k] at hst
      have hd : el l k < 4294967296 := by rw [HL.out k, ← W32_num]; exact Nat.mod_lt _ W32_pos
      obtain ⟨d, hdd⟩ : ∃ d, el l k = d := ⟨_, rfl⟩
      rw [hdd] at hck hst hd
      obtain ⟨m, hm⟩ : ∃ m, mulC a x c k = m := ⟨_, rfl⟩
      rw [hm] at hst hmc ⊢
      have hxb : d * x ≤ 4294967295 * 4294967295 := Nat.mul_le_mul (by omega) (by omega)
      obtain ⟨y, hy⟩ : ∃ y, d * x = y := ⟨_, rfl⟩
      rw [hy] at hst hxb
      have hmul : (d : Int) * (x : Int) = (y : Int) := by rw [← hy, Int.natCast_mul]
      obtain ⟨s, hs2⟩ : ∃ s, m + y = s := ⟨_, rfl⟩
      obtain ⟨lo, hlo⟩ : ∃ lo, (a * x + c) / W32 ^ k % W32 = lo := ⟨_, rfl⟩
      obtain ⟨hi, hhi⟩ : ∃ hi, mulC a x c (k + 1) = hi := ⟨_, rfl⟩
      rw [hlo, hhi, hs2, W32_num] at hst
      have hsb : s < 18446744073709551616 := by omega
      have k1 : IntKind.u64.wrap (d : Int) = (d : Int) := by rw [IntKind.wrap_u64]; omega
      have k2 : IntKind.u64.wrap (x : Int) = (x : Int) := by rw [IntKind.wrap_u64]; omega
      have k3 : IntKind.u64.wrap ((d : Int) * (x : Int)) = (y : Int) := by rw [hmul, IntKind.wrap_u64]; omega
      have k4 : IntKind.u64.wrap ((m : Int) + (y : Int)) = (s : Int) := by rw [IntKind.wrap_u64]; omega
      have k5 := mask32 s hsb
      rw [hst.1] at k5
      have k6 : IntKind.u32.wrap (lo : Int) = (lo : Int) := by rw [IntKind.wrap_u32]; omega
      have k7 : (s : Int) / 4294967296 = (hi : Int) := by omega
      have HS := Lib.hid (paD_succ k (a * x + c))
      rw [hlo] at HS
      have HHI := Lib.hid hhi
      have hOl : (paD k (a * x + c)).length + 1 ≤ 1000000 := by rw [paD_length]; omega
      have hB0 : w.heap.size ≤ wr.heap.size := HW.out.size
      clear hx hc hxi hmc hd hxb hsb hst hs2 hlo hhi hmul hy hdd hm hc0 hO hb
      go_wp2_with (at_builtin; refine wpList_appendD rfl (.tmp 32) (.tmp 36) rfl w.heap.size _ (paD k (a * x + c)) rfl (HO.out.alloc _) ⟨wr.heap.size, 0, none⟩ 1 1 [lo] rfl rfl (new_cell wr lo) hOl (by simp; omega) (fun v' w1 h1 h2 => ?_))
      have h3 := h2 w (HW.out.alloc hB0 _)
      rw [← HS.out] at h1
      go_roundw
      case rel => exact ⟨k + 1, by omega, by go_num, by rw [HHI.out], Lib.hid h1, Lib.hid h3⟩
      case measure => simp [intOf]; omega
    · have hk2 : k = l.length := by omega
      subst hk2
      obtain ⟨t1, t2⟩ := mul_top HA.out HX.out HC.out
      have HS := Lib.hid (paD_succ l.length (a * x + c))
      rw [← t1] at HS
      have HV := Lib.hid (vd_paD_of t2)
      obtain ⟨m, hm⟩ : ∃ m, mulC a x c l.length = m := ⟨_, rfl⟩
      rw [hm] at hmc HS ⊢
      have k6 : IntKind.u32.wrap (m : Int) = (m : Int) := by rw [IntKind.wrap_u32]; omega
      have hOl : (paD l.length (a * x + c)).length + 1 ≤ 1000000 := by rw [paD_length]; omega
      have hB0 : w.heap.size ≤ wr.heap.size := HW.out.size
      clear hx hc hxi hmc hO hb t1 t2 hm
      go_wp2_with (at_builtin; refine wpList_appendD rfl (.tmp 40) (.tmp 43) rfl w.heap.size _ (paD l.length (a * x + c)) rfl (HO.out.alloc _) ⟨wr.heap.size, 0, none⟩ 1 1 [m] rfl rfl (new_cell wr m) hOl (by simp; omega) (fun v' w1 h1 h2 => ?_))
      have h3 := h2 w (HW.out.alloc hB0 _)
      rw [← HS.out] at h1
      have HN := rnorm_walk _ _ _ h1.ls (We_paD _ _) (by rw [paD_length]; omega)
      rw [HV.out] at HN
      have HN2 := Lib.hid HN
      have H3 := Lib.hid h3
      clear h1 h2 h3 HN
      go_wp2_with fail
      refine HN2.out.mono ?_
      rintro e w2 ⟨v2, rfl, hn2, hb2⟩
      have HD2 := Lib.hid hn2
      obtain ⟨A2, c2, rfl, hc2, hz2, hr2⟩ := hn2
      clear hc2 hz2 hr2
      go_wp2
      go_ret
      exact ⟨_, rfl, HD2.out, below_next H3.out H3.out.size hb2⟩
end Go.Proofs.YtmfjimmodaofdaaGreatDoor

namespace Go.Proofs.YtmfjimmodaofdaaGreatDoor
open Go.RowKit

theorem blen_half {x : Nat} (h : x ≠ 0) : blen x = 1 + blen (x / 2) := by
  by_cases h1 : x / 2 = 0
  · have : x = 1 := by omega
    subst this; decide
  · have h2 := blen_lo h1
    have h3 := blen_hi (x / 2)
    have h4 := blen_pos h1
    have e : 1 + blen (x / 2) = blen (x / 2) + 1 := by omega
    rw [e]
    apply blen_of
    · have e2 : 2 ^ blen (x / 2) = 2 * 2 ^ (blen (x / 2) - 1) := by rw [← Nat.pow_succ']; congr 1; omega
      omega
    · rw [Nat.pow_succ]; omega

set_option maxRecDepth 100000 in
set_option maxHeartbeats 1000000 in
theorem rbits_walk (v : Value) (a : Nat) (w : World) (h : DgAt w v a) (hs : (toD a).length ≤ 100000) :
    Calls Tryz.prog 185 #[v] w fun e w' => e = .returned (.int .i64 ((blen a : Nat) : Int)) ∧ w' = w := by
  obtain ⟨A, c, rfl, hc, hz, hr⟩ := h
  have h0 := toD_length_zero a
  have hbd := @blen_digs a
  have hwe := We_toD a
  generalize toD a = l at *
  by_cases ha : a = 0
  · have h1 : l.length = 0 := h0.2 ha
    have h2 : ((l.length : Int) == 0) = true := by simp [h1]
    subst ha
    clear hr hbd h0 h1 hz
    go_enter Tryz.func185, Tryz.ntmps185
    go_wp2
    go_ret
    exact ⟨rfl, rfl⟩
  · have hp : 0 < l.length := by have := fun e => ha (h0.1 e); omega
    have h2 : ((l.length : Int) == 0) = false := by rw [beq_eq_false_iff_ne]; omega
    obtain ⟨ad, rfl, hc0⟩ := hr hp
    have hck := hc0 (l.length - 1) (by omega)
    obtain ⟨t, ht⟩ : ∃ t, el l (l.length - 1) = t := ⟨_, rfl⟩
    rw [ht] at hck
    have HB := Lib.hid (show blen a = 32 * (l.length - 1) + blen t by rw [hbd ha, ht])
    have HTW := Lib.hid (show t < W32 by rw [← ht]; exact eD_lt hwe _)
    have HTB := Lib.hid (show blen t ≤ 64 by
      rw [← ht]
      exact blen_le.2 (Nat.lt_of_lt_of_le (eD_lt hwe _) (by rw [W32_eq]; exact Nat.pow_le_pow_right (by omega) (by omega))))
    have e1 : ((l.length : Int) - 1).toNat = l.length - 1 := by omega
    clear h0 hbd ht hc0 hz hwe
    go_enter Tryz.func185, Tryz.ntmps185
    go_wp2_with fail
    go_loop [3, 4] (fun n x => ∃ j y : Nat, n = .int .i64 (32 * ((l.length : Int) - 1) + (j : Int)) ∧ x = .int .u32 (y : Int) ∧ Hid (blen t = j + blen y) ∧ j ≤ 1000000 ∧ Hid (y < W32)) (fun _ x => (intOf x).toNat)
    case atStart => exact ⟨0, t, by simp, rfl, Lib.hid (by omega), by omega, HTW⟩
    case round =>
      obtain ⟨j, y, rfl, rfl, HY, hj, HYW⟩ := hrel
      by_cases hy : y = 0
      · subst hy
        have hE : 32 * ((l.length : Int) - 1) + (j : Int) = ((blen a : Nat) : Int) := by
          have h3 := HB.out
          have h4 := HY.out
          rw [blen_zero] at h4
          omega
        have HE := Lib.hid hE
        clear hE
        have h0' : ¬ (0 : Int) < ((0 : Nat) : Int) := by omega
        go_wp2
        go_ret
        exact ⟨by rw [HE.out]; rfl, rfl⟩
      · have hyp : (0 : Int) < (y : Int) := by omega
        have HY2 := Lib.hid (show blen t = (j + 1) + blen (y / 2) by rw [HY.out, blen_half hy]; omega)
        have hj2 : j ≤ 64 := by
          have h3 := HY.out
          have h4 := blen_pos hy
          have h5 := HTB.out
          omega
        have HJ2 := Lib.hid hj2
        have HWR := Lib.hid (show IntKind.u32.wrap ((y : Int) / 2) = ((y / 2 : Nat) : Int) by have := HYW.out; rw [W32_num] at this; rw [IntKind.wrap_u32]; omega)
        have hwr := HWR.out
        go_wp2
        go_round
        case rel => exact ⟨j + 1, y / 2, by go_num, by first | rfl | go_num | (rw [HWR.out]), HY2, Nat.le_trans (Nat.succ_le_succ HJ2.out) (by omega), Lib.hid (Nat.lt_of_le_of_lt (Nat.div_le_self _ _) HYW.out)⟩
        case measure => simp [intOf]; omega

/-- -1, 0, 1. -/
def cmpD (a b : Nat) : Int := if a < b then -1 else if a = b then 0 else 1
theorem len_ltD {a b : Nat} (h : (toD a).length < (toD b).length) : a < b := by
  have h1 := (toD_length_le a (toD a).length).1 (Nat.le_refl _)
  apply Nat.lt_of_lt_of_le h1
  apply Classical.byContradiction
  intro h2
  have := (toD_length_le b (toD a).length).2 (by omega)
  omega
theorem cmp_high {a b k : Nat} (h : a / W32 ^ (k + 1) = b / W32 ^ (k + 1)) (h2 : a / W32 ^ k % W32 < b / W32 ^ k % W32) : a < b := by
  apply Classical.byContradiction
  intro h3
  have h4 : b / W32 ^ k ≤ a / W32 ^ k := Nat.div_le_div_right (by omega)
  have e : ∀ z, z / W32 ^ (k + 1) = z / W32 ^ k / W32 := fun z => by rw [Nat.pow_succ, Nat.div_div_eq_div_mul]
  rw [e, e] at h
  have h5 := Nat.div_add_mod (a / W32 ^ k) W32
  have h6 := Nat.div_add_mod (b / W32 ^ k) W32
  rw [h] at h5
  omega
theorem cmp_next {a b k : Nat} (h : a / W32 ^ (k + 1) = b / W32 ^ (k + 1)) (h2 : a / W32 ^ k % W32 = b / W32 ^ k % W32) : a / W32 ^ k = b / W32 ^ k := by
  have e : ∀ z, z / W32 ^ (k + 1) = z / W32 ^ k / W32 := fun z => by rw [Nat.pow_succ, Nat.div_div_eq_div_mul]
  rw [e, e] at h
  have h5 := Nat.div_add_mod (a / W32 ^ k) W32
  have h6 := Nat.div_add_mod (b / W32 ^ k) W32
  rw [h, h2] at h5
  omega

set_option maxRecDepth 100000 in
set_option maxHeartbeats 1000000 in
theorem rncmp_walk (v u : Value) (a b : Nat) (w : World) (h : DgAt w v a) (g : DgAt w u b) (hs : (toD a).length ≤ 100000) :
    Calls Tryz.prog 190 #[v, u] w fun e w' => e = .returned (.int .i64 (cmpD a b)) ∧ Below w.heap.size w w' := by
  obtain ⟨A, c, rfl, hc, hz, hr⟩ := h
  obtain ⟨A', c', rfl, hc', hz', hr'⟩ := g
  have hL1 := @len_ltD a b
  have hL2 := @len_ltD b a
  have he := el_toD a
  have he' := el_toD b
  have ha := (toD_length_le a (toD a).length).1 (Nat.le_refl _)
  have hb := (toD_length_le b (toD b).length).1 (Nat.le_refl _)
  generalize toD a = l at *
  generalize toD b = m at *
  clear hz hz'
  by_cases hne : l.length = m.length
  case neg =>
    have hneb : ((l.length : Int) != (m.length : Int)) = true := by rw [bne_iff_ne]; omega
    by_cases hlt : l.length < m.length
    · have HC := Lib.hid (show cmpD a b = -1 by unfold cmpD; rw [if_pos (hL1 hlt)])
      have hlti : (l.length : Int) < (m.length : Int) := by omega
      clear hr hr' hL1 hL2 he he' ha hb hne hlt
      go_enter Tryz.func190, Tryz.ntmps190
      go_wp2
      go_ret
      exact ⟨by rw [HC.out]; rfl, Below.refl _ _⟩
    · have hgt := hL2 (by omega)
      have HC := Lib.hid (show cmpD a b = 1 by unfold cmpD; rw [if_neg (by omega), if_neg (by omega)])
      have hlti : ¬ (l.length : Int) < (m.length : Int) := by omega
      clear hr hr' hL1 hL2 he he' ha hb hne hlt hgt
      go_enter Tryz.func190, Tryz.ntmps190
      go_wp2
      go_ret
      exact ⟨by rw [HC.out]; rfl, Below.refl _ _⟩
  have hneb : ((l.length : Int) != (m.length : Int)) = false := by rw [bne_eq_false_iff_eq]; omega
  have HR := Lib.hid hr
  have HR' := Lib.hid hr'
  have HE := Lib.hid he
  have HE' := Lib.hid he'
  have HST := Lib.hid (show a / W32 ^ l.length = b / W32 ^ l.length by rw [Nat.div_eq_of_lt ha, hne, Nat.div_eq_of_lt hb])
  have HNE := Lib.hid hne
  clear hr hr' hL1 hL2 he he' ha hb hne
  go_enter Tryz.func190, Tryz.ntmps190
  go_wp2_with fail
  go_loopw [5] (fun i wr => ∃ k : Nat, k ≤ l.length ∧ i = .int .i64 ((k : Int) - 1) ∧ Hid (a / W32 ^ k = b / W32 ^ k) ∧ Hid (Below w.heap.size w wr)) (fun i _ => (intOf i + 1).toNat)
  case atStart => exact ⟨l.length, Nat.le_refl _, by go_num, HST, Lib.hid (Below.refl _ _)⟩
  case round =>
    obtain ⟨k, hk, rfl, HK, HW⟩ := hrel
    by_cases h0 : k = 0
    · have HC := Lib.hid (show cmpD a b = 0 by
        have := HK.out
        rw [h0] at this
        simp at this
        unfold cmpD
        rw [if_neg (by omega), if_pos this])
      have hneg : ¬ (0 : Int) ≤ (k : Int) - 1 := by omega
      clear h0
      go_wp2
      go_ret
      exact ⟨by rw [HC.out]; rfl, HW.out⟩
    · obtain ⟨j, rfl⟩ : ∃ j, k = j + 1 := ⟨k - 1, by omega⟩
      obtain ⟨ad, rfl, hc0⟩ := (HR.out.below HW.out) (by omega)
      obtain ⟨ad', rfl, hc0'⟩ := (HR'.out.below HW.out) (by have := HNE.out; omega)
      have hck := hc0 j (by omega)
      have hck' := hc0' j (by have := HNE.out; omega)
      have e1 := HE.out j
      have e2 := HE'.out j
      obtain ⟨x, hx⟩ : ∃ x, el l j = x := ⟨_, rfl⟩
      obtain ⟨y, hy⟩ : ∃ y, el m j = y := ⟨_, rfl⟩
      rw [hx] at hck e1
      rw [hy] at hck' e2
      have hkj : (((j + 1 : Nat) : Int) - 1) = (j : Int) := by omega
      rw [hkj]
      have hjm : (j : Int) < (m.length : Int) := by have := HNE.out; omega
      have HX := Lib.hid e1
      have HY := Lib.hid e2
      clear hc0 hc0' e1 e2 hx hy h0
      rcases Nat.lt_trichotomy x y with h | h | h
      · have HC := Lib.hid (show cmpD a b = -1 by
          unfold cmpD; rw [if_pos (cmp_high HK.out (by rw [← HX.out, ← HY.out]; exact h))])
        have hi : (x : Int) < (y : Int) := by omega
        clear h
        go_wp2_with fail
        go_quiet (fail)
        go_wp2
        go_ret
        exact ⟨by rw [HC.out]; rfl, by first | exact below_dn HW.out _ | exact below_dn (below_dn HW.out _) _⟩
      · subst h
        have HK2 := Lib.hid (cmp_next HK.out (by rw [← HX.out, ← HY.out]))
        have hi : ¬ (x : Int) < (x : Int) := by omega
        go_wp2_with fail
        go_quiet (fail)
        go_wp2_with fail
        go_quiet (fail)
        go_wp2
        go_roundw
        case rel => exact ⟨j, by omega, by go_num, HK2, Lib.hid (below_dn HW.out _)⟩
        case measure => simp [intOf]
      · have HC := Lib.hid (show cmpD a b = 1 by
          have h3 := cmp_high HK.out.symm (by rw [← HX.out, ← HY.out]; exact h)
          unfold cmpD; rw [if_neg (by omega), if_neg (by omega)])
        have hi : ¬ (x : Int) < (y : Int) := by omega
        have hi2 : (y : Int) < (x : Int) := by omega
        clear h
        go_wp2_with fail
        go_quiet (fail)
        go_wp2_with fail
        go_quiet (fail)
        go_wp2
        go_ret
        exact ⟨by rw [HC.out]; rfl, by first | exact below_dn HW.out _ | exact below_dn (below_dn HW.out _) _⟩
end Go.Proofs.YtmfjimmodaofdaaGreatDoor

namespace Go.Proofs.YtmfjimmodaofdaaGreatDoor
open Go.RowKit

/-- The quotient's digits from k on, noughts below. -/
def quD (a x n k : Nat) : List Nat := (List.range n).map fun j => if k ≤ j then a / x / W32 ^ j % W32 else 0
theorem quD_length (a x n k : Nat) : (quD a x n k).length = n := by simp [quD]
theorem el_quD {a x n k j : Nat} (h : j < n) : el (quD a x n k) j = if k ≤ j then a / x / W32 ^ j % W32 else 0 := by
  rw [el_get (by rw [quD_length]; exact h)]; simp [quD]
theorem quD_full (a x n : Nat) : quD a x n n = List.replicate n 0 := by
  apply list_ext
  · simp [quD_length]
  · intro j hj
    rw [quD_length] at hj
    rw [el_quD hj, if_neg (by omega)]
    simp [el, List.getD_eq_getElem?_getD, hj]
theorem quD_zero (a x n : Nat) : quD a x n 0 = paD n (a / x) := by
  apply list_ext
  · simp [quD_length, paD_length]
  · intro j hj
    rw [quD_length] at hj
    rw [el_quD hj, if_pos (by omega), el_paD hj]
theorem quD_set {a x n k : Nat} (h : k < n) {v : Nat} (hv : v = a / x / W32 ^ k % W32) : (quD a x n (k + 1)).set k v = quD a x n k := by
  apply list_ext
  · rw [List.length_set, quD_length, quD_length]
  · intro j hj
    rw [List.length_set, quD_length] at hj
    rw [el_set (by rw [quD_length]; exact h), el_quD hj, el_quD hj]
    by_cases e : j = k
    · subst e; simp [hv]
    · rw [if_neg e]
      by_cases h1 : k ≤ j
      · rw [if_pos h1, if_pos (by omega)]
      · rw [if_neg h1, if_neg (by omega)]
/-- One round: what is left so far with the next digit behind it. -/
theorem div_step (a x k : Nat) (hx : 0 < x) :
    (a / W32 ^ (k + 1) % x * W32 + a / W32 ^ k % W32) / x = a / x / W32 ^ k % W32 ∧ (a / W32 ^ (k + 1) % x * W32 + a / W32 ^ k % W32) % x = a / W32 ^ k % x := by
  have e : a / W32 ^ (k + 1) = a / W32 ^ k / W32 := by rw [Nat.pow_succ, Nat.div_div_eq_div_mul]
  have e2 : a / x / W32 ^ k = a / W32 ^ k / x := by rw [Nat.div_div_eq_div_mul, Nat.div_div_eq_div_mul, Nat.mul_comm]
  rw [e, e2]
  generalize a / W32 ^ k = A
  have h1 := Nat.div_add_mod A W32
  have h2 := Nat.div_add_mod (A / W32) x
  have hm := Nat.mod_lt A W32_pos
  have hr := Nat.mod_lt (A / W32) hx
  generalize A / W32 / x = Q at *
  generalize A / W32 % x = R at *
  generalize A % W32 = d at *
  generalize A / W32 = B at *
  have hA : A = x * (Q * W32) + (R * W32 + d) := by
    rw [← h1, ← h2, Nat.mul_add]
    have : W32 * (x * Q) = x * (Q * W32) := by ac_rfl
    rw [this, Nat.mul_comm W32 R]; omega
  have hlt : (R * W32 + d) / x < W32 := by
    rw [Nat.div_lt_iff_lt_mul hx]
    have := Nat.mul_le_mul_right W32 (show R + 1 ≤ x from hr)
    rw [Nat.add_mul, Nat.one_mul] at this
    rw [Nat.mul_comm W32 x]; omega
  refine ⟨?_, ?_⟩
  · rw [hA, Nat.mul_add_div hx, Nat.mul_comm Q, Nat.mul_add_mod, Nat.mod_eq_of_lt hlt]
  · conv => rhs; rw [hA]
    rw [Nat.mul_add_mod]

set_option maxRecDepth 100000 in
set_option maxHeartbeats 2000000 in
theorem rdiv_walk (v : Value) (a x : Nat) (w : World) (h : DgAt w v a) (hx0 : 0 < x) (hx : x < 4294967296) (hs : (toD a).length ≤ 50000) :
    Calls Tryz.prog 180 #[v, .int .u32 (x : Int)] w fun e w' => ∃ v', e = .returned (.tuple #[v', .int .u32 ((a % x : Nat) : Int)]) ∧ DgAt w' v' (a / x) ∧ Below w.heap.size w w' := by
  obtain ⟨A, cp, rfl, hcp, hz, hr⟩ := h
  have hel := el_toD a
  have halt := (toD_length_le a (toD a).length).1 (Nat.le_refl _)
  generalize toD a = l at *
  have HR := Lib.hid hr
  have HL := Lib.hid hel
  have hxz : ((x : Int) == 0) = false := by rw [beq_eq_false_iff_ne]; omega
  have hxz2 : (x : Int) ≠ 0 := by omega
  have HX0 := Lib.hid hx0
  have hx32 : x < W32 := by rw [W32_num]; exact hx
  have HX := Lib.hid hx32
  have k2 : IntKind.u64.wrap (x : Int) = (x : Int) := by rw [IntKind.wrap_u64]; omega
  have hmk := make_u32 l.length (by omega)
  have HST := Lib.hid (show a / W32 ^ l.length % x = 0 by rw [Nat.div_eq_of_lt halt, Nat.zero_mod])
  have HV := Lib.hid (show vd (paD l.length (a / x)) = a / x from vd_paD_of (Nat.lt_of_le_of_lt (Nat.div_le_self _ _) halt))
  clear hr hel halt hz hx hx0 hx32
  go_enter Tryz.func180, Tryz.ntmps180
  go_wp2_with fail
  have hB := BlD.new w (List.replicate l.length 0)
  have hb := below_alloc' w (.cells (UD (List.replicate l.length 0)) 198)
  rw [← quD_full a x] at hB hb ⊢
  go_loopw [7, 8] (fun q i wr => ∃ k : Nat, k ≤ l.length ∧ i = .int .i64 ((k : Int) - 1) ∧ q = .int .u64 ((a / W32 ^ k % x : Nat) : Int) ∧ Hid (BlD wr w.heap.size (quD a x l.length k)) ∧ Hid (Below w.heap.size w wr)) (fun _ i _ => (intOf i + 1).toNat)
  case atStart => exact ⟨l.length, Nat.le_refl _, by go_num, by rw [HST.out]; rfl, Lib.hid hB, Lib.hid hb⟩
  case round =>
    obtain ⟨k, hk, rfl, rfl, HB, HW⟩ := hrel
    by_cases h0 : k = 0
    · subst h0
      have hneg : ¬ (0 : Int) ≤ ((0 : Nat) : Int) - 1 := by omega
      have hN := rnorm_walk _ _ _ (HB.out.ls l.length (by rw [quD_length]; omega)) (by rw [quD_zero]; exact We_paD _ _) (by rw [quD_length]; omega)
      rw [quD_length, quD_zero, HV.out] at hN
      have HN := Lib.hid hN
      have HM := Lib.hid (show a / W32 ^ 0 % x = a % x by rw [Nat.pow_zero, Nat.div_one])
      rw [HM.out]
      have hmx : a % x < W32 := Nat.lt_trans (Nat.mod_lt _ HX0.out) HX.out
      rw [W32_num] at hmx
      obtain ⟨r, hr⟩ : ∃ r, a % x = r := ⟨_, rfl⟩
      rw [hr] at hmx ⊢
      have k6 : IntKind.u32.wrap (r : Int) = (r : Int) := by rw [IntKind.wrap_u32]; omega
      have HRR := Lib.hid hr
      clear hN hmx hB hb hr
      go_wp2_with fail
      refine HN.out.mono ?_
      rintro e w2 ⟨v2, rfl, hn2, hb2⟩
      have HD2 := Lib.hid hn2
      have HW2 := Lib.hid (below_next HW.out HW.out.size hb2)
      obtain ⟨A2, c2, rfl, hc2, hz2, hr2⟩ := hn2
      clear hc2 hz2 hr2 hb2
      go_wp2
      go_ret2
      exact ⟨_, by rw [HRR.out]; rfl, HD2.out, HW2.out⟩
    · obtain ⟨j, rfl⟩ : ∃ j, k = j + 1 := ⟨k - 1, by omega⟩
      obtain ⟨ad, rfl, hc0⟩ := HR.out (by omega)
      have hck0 := hc0 j (by omega)
      have hadb : ad.block < w.heap.size := by
        have := World.block_lt_of_cell? w _ hck0
        rwa [add_block] at this
      have hck : wr.cell? (ad.add j) = some (.int .u32 ((el l j : Nat) : Int)) := (HW.out.cell (p := ad.add j) (by rw [add_block]; exact hadb)).trans hck0
      obtain ⟨s1, s2⟩ := div_step a x j HX0.out
      rw [← HL.out j] at s1 s2
      have hd : el l j < W32 := by rw [HL.out j]; exact Nat.mod_lt _ W32_pos
      have hR : a / W32 ^ (j + 1) % x < W32 := Nat.lt_trans (Nat.mod_lt _ HX0.out) HX.out
      have hRx : a / W32 ^ (j + 1) % x < x := Nat.mod_lt _ HX0.out
      have HQ := Lib.hid (quD_set (a := a) (x := x) (n := l.length) (k := j) (by omega) rfl)
      have hlt2 : a / x / W32 ^ j % W32 < W32 := Nat.mod_lt _ W32_pos
      have hsx := Nat.lt_trans (Nat.mod_lt (a / W32 ^ j) HX0.out) HX.out
      obtain ⟨R, hRR⟩ : ∃ R, a / W32 ^ (j + 1) % x = R := ⟨_, rfl⟩
      obtain ⟨d, hdd⟩ : ∃ d, el l j = d := ⟨_, rfl⟩
      obtain ⟨y, hy⟩ : ∃ y, a / x / W32 ^ j % W32 = y := ⟨_, rfl⟩
      obtain ⟨z, hzz⟩ : ∃ z, a / W32 ^ j % x = z := ⟨_, rfl⟩
      rw [hRR, hdd, hy] at s1
      rw [hRR, hdd, hzz] at s2
      rw [hdd] at hck hd
      rw [hRR] at hR ⊢
      rw [hy] at HQ hlt2
      rw [hzz] at hsx
      have HZ := Lib.hid hzz
      rw [W32_num] at s1 s2 hd hR hlt2 hsx
      obtain ⟨t, ht⟩ : ∃ t, R * 4294967296 + d = t := ⟨_, rfl⟩
      rw [ht] at s1 s2
      have k1 : IntKind.u64.wrap (d : Int) = (d : Int) := by rw [IntKind.wrap_u64]; omega
      have k3 : IntKind.u64.wrap ((R : Int) * 4294967296) = (R : Int) * 4294967296 := by rw [IntKind.wrap_u64]; omega
      have k4 : IntKind.u64.wrap ((R : Int) * 4294967296 + (d : Int)) = (t : Int) := by rw [IntKind.wrap_u64]; omega
      have k5 : (t : Int).tdiv (x : Int) = (y : Int) := by rw [← s1]; rfl
      have k5' : (t : Int) / (x : Int) = (y : Int) := by rw [← s1]; rfl
      have k6 : IntKind.u32.wrap (y : Int) = (y : Int) := by rw [IntKind.wrap_u32]; omega
      have k6' : IntKind.u64.wrap (y : Int) = (y : Int) := by rw [IntKind.wrap_u64]; omega
      have k7 : (t : Int).tmod (x : Int) = (z : Int) := by rw [← s2]; rfl
      have k7' : (t : Int) % (x : Int) = (z : Int) := by rw [← s2]; rfl
      have k8 : IntKind.u64.wrap (z : Int) = (z : Int) := by rw [IntKind.wrap_u64]; omega
      have hkj : (((j + 1 : Nat) : Int) - 1) = (j : Int) := by omega
      rw [hkj]
      have hjl : (j : Int) < (l.length : Int) := by omega
      have hpl : j < (quD a x l.length (j + 1)).length := by rw [quD_length]; omega
      have hcs := HB.out.cell hpl
      have hfz := HB.out.frozen j
      have HB1 := Lib.hid (HB.out.set j y)
      have HW1 := Lib.hid (HW.out.setCell (p := ⟨w.heap.size, j, none⟩) (Nat.le_refl _) (.int .u32 (y : Int)))
      clear s1 s2 hd hR hRx hlt2 hsx hzz hy hdd hRR ht h0 hc0 hck0 hB hb hpl hadb
      have hB2 := HB1.out
      rw [HQ.out] at hB2
      go_wp2_with fail
      go_roundw
      case rel => exact ⟨j, by omega, by go_num, by rw [HZ.out], Lib.hid hB2, HW1⟩
      case measure => simp [intOf]
end Go.Proofs.YtmfjimmodaofdaaGreatDoor
