/- Plain law: what a well-made text means. · Plain law: texts of numbers, those that Print writes among them; Join's number. · What hexfloat Print answers at any pattern, and how that is read. -/
import Derived.Test.YtibjogbalmbeeaaGreatDoorY34
import Derived.Test.YtibjogbalmbeeaaGreatDoorY36
import Derived.Test.YtibjogbalmbeeaaGreatDoorY12
import Derived.Test.YtibjogbalmbeeaaGreatDoorY35

namespace Go.Proofs.YtibjogbalmbeeaaGreatDoor

theorem by8_left (a b : List UInt8) (j : Nat) (h : j < a.length) : by8 (bs (a ++ b)) j = by8 (bs a) j := by
  rw [bs_by8, bs_by8, List.getD_eq_getElem?_getD, List.getD_eq_getElem?_getD, List.getElem?_append_left h]
theorem by8_right (a b : List UInt8) (j : Nat) : by8 (bs (a ++ b)) (a.length + j) = by8 (bs b) j := by
  rw [bs_by8, bs_by8, List.getD_eq_getElem?_getD, List.getD_eq_getElem?_getD, List.getElem?_append_right (by omega), show a.length + j - a.length = j by omega]
theorem by8_next (a : List UInt8) (c : UInt8) (b : List UInt8) : by8 (bs (a ++ c :: b)) a.length = c := by
  have := by8_right a (c :: b) 0
  rw [Nat.add_zero] at this
  rw [this]; rfl
theorem ext_mid (a m b : List UInt8) : (bs (a ++ m ++ b)).extract a.length (a.length + m.length) = bs m := by
  apply ByteArray.ext
  apply Array.ext'
  rw [Lib.extract_data]
  show ((a ++ m ++ b).toArray.toList.drop a.length).take (a.length + m.length - a.length) = m.toArray.toList
  simp
theorem by8_mem (l : List UInt8) (j : Nat) (h : j < l.length) : by8 (bs l) j ∈ l := by
  rw [bs_by8, List.getD_eq_getElem?_getD, List.getElem?_eq_getElem h]
  exact List.getElem_mem h
/-- A run of bytes that p takes, and what p does not take behind it. -/
theorem runTo_text (p : UInt8 → Bool) (a m b : List UInt8) (hm : ∀ c ∈ m, p c = true) (hb : ∀ c t, b = c :: t → p c = false) : runTo p (bs (a ++ m ++ b)) (bs (a ++ m ++ b)).size a.length = a.length + m.length := by
  have hs : (bs (a ++ m ++ b)).size = a.length + m.length + b.length := by rw [bs_size]; simp; omega
  refine runTo_of p _ _ _ _ (by omega) (by omega) (by omega) (fun j h1 h2 => ?_) (fun h => ?_)
  · obtain ⟨k, rfl⟩ : ∃ k, j = a.length + k := ⟨j - a.length, by omega⟩
    rw [List.append_assoc, by8_right, by8_left _ _ _ (by omega)]
    exact hm _ (by8_mem _ _ (by omega))
  · cases b with
    | nil => simp only [List.length_nil] at hs; omega
    | cons c t =>
      have e := by8_next (a ++ m) c t
      rw [List.length_append] at e
      rw [e, hb c t rfl] at h
      exact absurd h.2 (by simp)
theorem hxE_text (a m b : List UInt8) (hm : ∀ c ∈ m, isHex c = true) (hb : ∀ c t, b = c :: t → isHex c = false) : hxE (bs (a ++ m ++ b)) a.length = a.length + m.length := runTo_text _ _ _ _ hm hb
theorem dcE_text (a m : List UInt8) (hm : ∀ c ∈ m, isDec c = true) : dcE (bs (a ++ m)) a.length = a.length + m.length := by
  have := runTo_text isDec a m [] hm (fun c t h => by cases h)
  rw [List.append_nil] at this
  exact this

/-- The number of hexadecimal digits, of decimal ones (far at most). -/
def hexN (l : List UInt8) : Nat := l.foldl (fun n c => 16 * n + hexV c) 0
def decS (l : List UInt8) : Nat := l.foldl (fun n c => min (10 * n + (c.toNat - 48)) far) 0
theorem hexN_from (l : List UInt8) (a : Nat) : l.foldl (fun n c => 16 * n + hexV c) a = a * 16 ^ l.length + hexN l := by
  induction l generalizing a with
  | nil => simp [hexN]
  | cons c t ih =>
    have e : hexN (c :: t) = t.foldl (fun n c => 16 * n + hexV c) (16 * 0 + hexV c) := rfl
    rw [e, ih, List.foldl_cons, ih, List.length_cons, Nat.pow_succ, Nat.add_mul, Nat.mul_zero, Nat.zero_add, Nat.add_assoc]
    congr 1
    ac_rfl
theorem hexN_cons (c : UInt8) (t : List UInt8) : hexN (c :: t) = hexV c * 16 ^ t.length + hexN t := by
  have e : hexN (c :: t) = t.foldl (fun n c => 16 * n + hexV c) (16 * 0 + hexV c) := rfl
  rw [e, hexN_from, Nat.mul_zero, Nat.zero_add]
theorem hexN_append (a b : List UInt8) : hexN (a ++ b) = hexN a * 16 ^ b.length + hexN b := by
  unfold hexN
  rw [List.foldl_append, hexN_from]; rfl
theorem hexN_one (c : UInt8) : hexN [c] = hexV c := by simp [hexN]
theorem hv_list (l : List UInt8) (k : Nat) (h : k ≤ l.length) : hv (by8 (bs l)) l.length k = hexN (l.drop (l.length - k)) := by
  induction k with
  | zero => simp [hv, hexN]
  | succ k ih =>
    have hk : l.length - (k + 1) < l.length := by omega
    rw [hv, ih (by omega), List.drop_eq_getElem_cons hk, hexN_cons, List.length_drop, show l.length - (k + 1) + 1 = l.length - k by omega, show l.length - (l.length - k) = k by omega, bs_by8, List.getD_eq_getElem?_getD, show l.length - 1 - k = l.length - (k + 1) by omega, List.getElem?_eq_getElem hk]
    rw [Nat.add_comm]; rfl
theorem hv_all (l : List UInt8) : hv (by8 (bs l)) (bs l).size (bs l).size = hexN l := by
  rw [bs_size, hv_list l _ (Nat.le_refl _), Nat.sub_self, List.drop_zero]
theorem decS_snoc (l : List UInt8) (c : UInt8) : decS (l ++ [c]) = min (10 * decS l + (c.toNat - 48)) far := by
  unfold decS; rw [List.foldl_append]; rfl
theorem dv_list (a m : List UInt8) (k : Nat) (h : k ≤ m.length) : dv (bs (a ++ m)) a.length k = decS (m.take k) := by
  induction k with
  | zero => rfl
  | succ k ih =>
    rw [dv, ih (by omega), by8_right, List.take_succ_eq_append_getElem (by omega), decS_snoc, bs_by8, List.getD_eq_getElem?_getD, List.getElem?_eq_getElem (by omega)]
    rfl
theorem dv_text (a m : List UInt8) : dv (bs (a ++ m)) a.length m.length = decS m := by
  rw [dv_list _ _ _ (Nat.le_refl _), List.take_length]

/-- The digits of a text, with a point and without one. -/
theorem dg_point (a A F b : List UInt8) (hA : ∀ c ∈ A, isHex c = true) (hF : ∀ c ∈ F, isHex c = true) (hb : ∀ c t, b = c :: t → isHex c = false) :
    hgD (bs (a ++ (A ++ 46 :: F) ++ b)) a.length = bs (A ++ F) ∧ dgB (bs (a ++ (A ++ 46 :: F) ++ b)) a.length = F.length ∧ dgE (bs (a ++ (A ++ 46 :: F) ++ b)) a.length = a.length + (A ++ 46 :: F).length := by
  have e1 : a ++ (A ++ 46 :: F) ++ b = a ++ A ++ (46 :: (F ++ b)) := by simp
  have e2 : a ++ (A ++ 46 :: F) ++ b = (a ++ A ++ [46]) ++ F ++ b := by simp
  have hl : (a ++ A ++ [46]).length = a.length + A.length + 1 := by simp; omega
  have h1 : hxE (bs (a ++ (A ++ 46 :: F) ++ b)) a.length = a.length + A.length := by
    rw [e1]; exact hxE_text _ _ _ hA (fun c t h => by injection h with h _; subst h; decide)
  have h2 : hxE (bs (a ++ (A ++ 46 :: F) ++ b)) (a.length + A.length + 1) = a.length + A.length + 1 + F.length := by
    rw [e2, ← hl]; exact hxE_text _ _ _ hF hb
  have h3 : by8 (bs (a ++ (A ++ 46 :: F) ++ b)) (a.length + A.length) = 46 := by
    have := by8_next (a ++ A) 46 (F ++ b)
    rw [List.length_append] at this
    rw [e1]; exact this
  have hs : (bs (a ++ (A ++ 46 :: F) ++ b)).size = a.length + A.length + 1 + F.length + b.length := by rw [bs_size]; simp; omega
  have hc : hxE (bs (a ++ (A ++ 46 :: F) ++ b)) a.length < (bs (a ++ (A ++ 46 :: F) ++ b)).size ∧ by8 (bs (a ++ (A ++ 46 :: F) ++ b)) (hxE (bs (a ++ (A ++ 46 :: F) ++ b)) a.length) = 46 := ⟨by rw [h1]; omega, by rw [h1]; exact h3⟩
  have x1 : (bs (a ++ (A ++ 46 :: F) ++ b)).extract a.length (a.length + A.length) = bs A := by rw [e1]; exact ext_mid _ _ _
  have x2 : (bs (a ++ (A ++ 46 :: F) ++ b)).extract (a.length + A.length + 1) (a.length + A.length + 1 + F.length) = bs F := by rw [e2, ← hl]; exact ext_mid _ _ _
  unfold hgD dgB dgE
  rw [if_pos hc, if_pos hc, if_pos hc, h1, h2, x1, x2, bs_append, bs_size]
  exact ⟨rfl, rfl, by simp; omega⟩
theorem dg_plain (a A b : List UInt8) (hA : ∀ c ∈ A, isHex c = true) (hb : ∀ c t, b = c :: t → isHex c = false ∧ c ≠ 46) :
    hgD (bs (a ++ A ++ b)) a.length = bs A ∧ dgB (bs (a ++ A ++ b)) a.length = 0 ∧ dgE (bs (a ++ A ++ b)) a.length = a.length + A.length := by
  have h1 : hxE (bs (a ++ A ++ b)) a.length = a.length + A.length := hxE_text _ _ _ hA (fun c t h => (hb c t h).1)
  have hs : (bs (a ++ A ++ b)).size = a.length + A.length + b.length := by rw [bs_size]; simp; omega
  have hc : ¬ (hxE (bs (a ++ A ++ b)) a.length < (bs (a ++ A ++ b)).size ∧ by8 (bs (a ++ A ++ b)) (hxE (bs (a ++ A ++ b)) a.length) = 46) := by
    rw [h1]
    rintro ⟨h2, h3⟩
    cases b with
    | nil => simp only [List.length_nil] at hs; omega
    | cons c t =>
      have e := by8_next (a ++ A) c t
      rw [List.length_append] at e
      rw [e] at h3
      exact (hb c t rfl).2 h3
  unfold hgD dgB dgE
  rw [if_neg hc, if_neg hc, if_neg hc, h1]
  exact ⟨ext_mid _ _ _, rfl, rfl⟩

/-- The exponent's text. -/
structure ExpText (sg D : List UInt8) : Prop where
  sg : sg = [] ∨ sg = [45] ∨ sg = [43]
  ne : D ≠ []
  dec : ∀ c ∈ D, isDec c = true
def expN (sg D : List UInt8) : Int := if sg = [45] then -((decS D : Nat) : Int) else ((decS D : Nat) : Int)

theorem numOf_of (pre M sg D V : List UInt8) (x p : UInt8) (B : Nat) (hx : x = 120 ∨ x = 88) (hp : p = 112 ∨ p = 80) (hE : ExpText sg D) (hV : V ≠ [])
    (h1 : hgD (bs ((pre ++ [48, x]) ++ M ++ (p :: (sg ++ D)))) (pre ++ [48, x]).length = bs V) (h2 : dgB (bs ((pre ++ [48, x]) ++ M ++ (p :: (sg ++ D)))) (pre ++ [48, x]).length = B)
    (h3 : dgE (bs ((pre ++ [48, x]) ++ M ++ (p :: (sg ++ D)))) (pre ++ [48, x]).length = (pre ++ [48, x]).length + M.length) :
    numOf (bs ((pre ++ [48, x]) ++ M ++ (p :: (sg ++ D)))) pre.length = some (hexN V, expN sg D - 4 * B, (bs ((pre ++ [48, x]) ++ M ++ (p :: (sg ++ D)))).size) := by
  have hl : (pre ++ [48, x]).length = pre.length + 2 := by simp
  have hs : (bs ((pre ++ [48, x]) ++ M ++ (p :: (sg ++ D)))).size = pre.length + 2 + M.length + 1 + sg.length + D.length := by rw [bs_size]; simp; omega
  have hDl : 0 < D.length := by cases D with | nil => exact absurd rfl hE.ne | cons c t => simp
  have g0 : by8 (bs ((pre ++ [48, x]) ++ M ++ (p :: (sg ++ D)))) pre.length = 48 := by
    have e : (pre ++ [48, x]) ++ M ++ (p :: (sg ++ D)) = pre ++ 48 :: (x :: (M ++ (p :: (sg ++ D)))) := by simp
    rw [e, by8_next]
  have g1 : by8 (bs ((pre ++ [48, x]) ++ M ++ (p :: (sg ++ D)))) (pre.length + 1) = x := by
    have e : (pre ++ [48, x]) ++ M ++ (p :: (sg ++ D)) = (pre ++ [48]) ++ x :: (M ++ (p :: (sg ++ D))) := by simp
    have hl2 : (pre ++ [48]).length = pre.length + 1 := by simp
    rw [e, ← hl2, by8_next]
  have g2 : by8 (bs ((pre ++ [48, x]) ++ M ++ (p :: (sg ++ D)))) (pre.length + 2 + M.length) = p := by
    have hl2 : ((pre ++ [48, x]) ++ M).length = pre.length + 2 + M.length := by simp; omega
    rw [← hl2, by8_next]
  rw [hl] at h1 h2 h3
  -- the sign of the exponent
  have hq : sgI (bs ((pre ++ [48, x]) ++ M ++ (p :: (sg ++ D)))) (pre.length + 2 + M.length + 1) = pre.length + 2 + M.length + 1 + sg.length ∧
      sgB (bs ((pre ++ [48, x]) ++ M ++ (p :: (sg ++ D)))) (pre.length + 2 + M.length + 1) = decide (sg = [45]) := by
    have hl3 : ((pre ++ [48, x]) ++ M ++ [p]).length = pre.length + 2 + M.length + 1 := by simp; omega
    have e : (pre ++ [48, x]) ++ M ++ (p :: (sg ++ D)) = ((pre ++ [48, x]) ++ M ++ [p]) ++ (sg ++ D) := by simp
    obtain ⟨c, t, hD⟩ : ∃ c t, D = c :: t := by cases D with | nil => exact absurd rfl hE.ne | cons c t => exact ⟨c, t, rfl⟩
    have hc := isDec_range c (hE.dec c (by rw [hD]; simp))
    unfold sgI sgB
    rw [hs]
    rcases hE.sg with h | h | h
    · subst h
      have g3 : by8 (bs ((pre ++ [48, x]) ++ M ++ (p :: ([] ++ D)))) (pre.length + 2 + M.length + 1) = c := by
        rw [e, ← hl3, List.nil_append, hD, by8_next]
      rw [g3]
      have n1 : ¬ (c = 45 ∨ c = 43) := by rintro (h | h) <;> subst h <;> exact absurd hc.1 (by decide)
      have n2 : (c == 45) = false := by
        cases hcc : c == 45
        · rfl
        · exact absurd (.inl (by simpa using hcc)) n1
      rw [if_neg (fun h => n1 h.2), n2]
      simp
    · subst h
      have g3 : by8 (bs ((pre ++ [48, x]) ++ M ++ (p :: ([45] ++ D)))) (pre.length + 2 + M.length + 1) = 45 := by
        rw [e, ← hl3]; exact by8_next _ _ _
      rw [g3, if_pos ⟨by simp; omega, .inl rfl⟩]
      simp; omega
    · subst h
      have g3 : by8 (bs ((pre ++ [48, x]) ++ M ++ (p :: ([43] ++ D)))) (pre.length + 2 + M.length + 1) = 43 := by
        rw [e, ← hl3]; exact by8_next _ _ _
      rw [g3, if_pos ⟨by simp; omega, .inr rfl⟩]
      simp
  have hl4 : ((pre ++ [48, x]) ++ M ++ [p] ++ sg).length = pre.length + 2 + M.length + 1 + sg.length := by simp; omega
  have e4 : (pre ++ [48, x]) ++ M ++ (p :: (sg ++ D)) = ((pre ++ [48, x]) ++ M ++ [p] ++ sg) ++ D := by simp
  have hdc : dcE (bs ((pre ++ [48, x]) ++ M ++ (p :: (sg ++ D)))) (pre.length + 2 + M.length + 1 + sg.length) = pre.length + 2 + M.length + 1 + sg.length + D.length := by
    rw [e4, ← hl4]; exact dcE_text _ _ hE.dec
  have hdv : dv (bs ((pre ++ [48, x]) ++ M ++ (p :: (sg ++ D)))) (pre.length + 2 + M.length + 1 + sg.length) D.length = decS D := by
    rw [e4, ← hl4]; exact dv_text _ _
  have hd0 : isDec (by8 (bs ((pre ++ [48, x]) ++ M ++ (p :: (sg ++ D)))) (pre.length + 2 + M.length + 1 + sg.length)) = true := by
    have := by8_right ((pre ++ [48, x]) ++ M ++ [p] ++ sg) D 0
    rw [hl4, Nat.add_zero] at this
    rw [e4, this]
    exact hE.dec _ (by8_mem _ _ hDl)
  unfold numOf
  rw [if_neg (fun h => h ⟨by omega, g0⟩), if_neg (fun h => h ⟨by omega, by rw [g1]; exact hx⟩), h1, if_neg (by rw [bs_size]; intro h; exact hV (List.eq_nil_of_length_eq_zero h)), h3, if_neg (fun h => h ⟨by omega, by rw [g2]; exact hp⟩), hq.1, if_neg (fun h => h ⟨by omega, hd0⟩), hq.2, hdc, h2]
  unfold hgV hgX expN
  rw [h1, hv_all, hdc, show pre.length + 2 + M.length + 1 + sg.length + D.length - (pre.length + 2 + M.length + 1 + sg.length) = D.length by omega, hdv, hs]
  by_cases hsg : sg = [45]
  · simp [hsg]
  · simp [hsg]
theorem isHex_p {p : UInt8} (h : p = 112 ∨ p = 80) : isHex p = false ∧ p ≠ 46 := by rcases h with h | h <;> subst h <;> decide
/-- A text without a point. -/
theorem numOf_plain (pre A sg D : List UInt8) (x p : UInt8) (hx : x = 120 ∨ x = 88) (hp : p = 112 ∨ p = 80) (hE : ExpText sg D) (hA : ∀ c ∈ A, isHex c = true) (hne : A ≠ []) :
    numOf (bs ((pre ++ [48, x]) ++ A ++ (p :: (sg ++ D)))) pre.length = some (hexN A, expN sg D, (bs ((pre ++ [48, x]) ++ A ++ (p :: (sg ++ D)))).size) := by
  obtain ⟨h1, h2, h3⟩ := dg_plain (pre ++ [48, x]) A (p :: (sg ++ D)) hA (fun c t h => by injection h with h _; subst h; exact isHex_p hp)
  have := numOf_of pre A sg D A x p 0 hx hp hE hne h1 h2 h3
  simpa using this
/-- A text with a point. -/
theorem numOf_point (pre A F sg D : List UInt8) (x p : UInt8) (hx : x = 120 ∨ x = 88) (hp : p = 112 ∨ p = 80) (hE : ExpText sg D) (hA : ∀ c ∈ A, isHex c = true) (hF : ∀ c ∈ F, isHex c = true) (hne : A ++ F ≠ []) :
    numOf (bs ((pre ++ [48, x]) ++ (A ++ 46 :: F) ++ (p :: (sg ++ D)))) pre.length = some (hexN (A ++ F), expN sg D - 4 * F.length, (bs ((pre ++ [48, x]) ++ (A ++ 46 :: F) ++ (p :: (sg ++ D)))).size) := by
  obtain ⟨h1, h2, h3⟩ := dg_point (pre ++ [48, x]) A F (p :: (sg ++ D)) hA hF (fun c t h => by injection h with h _; subst h; exact (isHex_p hp).1)
  exact numOf_of pre (A ++ 46 :: F) sg D (A ++ F) x p F.length hx hp hE hne h1 h2 h3
/-- From the number to the pattern. -/
theorem parse_num (f : Fm) (sg0 R : List UInt8) (a : Nat) (x : Int) (h0 : sg0 = [] ∨ sg0 = [45] ∨ sg0 = [43]) (hR : ∃ t, R = 48 :: t) (hn : numOf (bs (sg0 ++ R)) sg0.length = some (a, x, (bs (sg0 ++ R)).size)) :
    parseOf f (bs (sg0 ++ R)) = some (sgn f (decide (sg0 = [45])) (hxPat f a x)) := by
  obtain ⟨t, rfl⟩ := hR
  have hsI : sgI (bs (sg0 ++ 48 :: t)) 0 = sg0.length ∧ sgB (bs (sg0 ++ 48 :: t)) 0 = decide (sg0 = [45]) := by
    unfold sgI sgB
    rw [bs_size]
    rcases h0 with h | h | h
    · subst h
      have e : by8 (bs ([] ++ 48 :: t)) 0 = 48 := rfl
      rw [e]; simp
    · subst h
      have e : by8 (bs ([45] ++ 48 :: t)) 0 = 45 := rfl
      rw [e]; simp
    · subst h
      have e : by8 (bs ([43] ++ 48 :: t)) 0 = 43 := rfl
      rw [e]; simp
  have hnan : ((bs (sg0 ++ 48 :: t)).toList == [110, 97, 110]) = false := by
    rw [bs_list, beq_eq_false_iff_ne]
    rcases h0 with h | h | h <;> subst h <;> intro h <;> injection h with h _ <;> exact absurd h (by decide)
  have hext : (bs (sg0 ++ 48 :: t)).extract sg0.length (bs (sg0 ++ 48 :: t)).size = bs (48 :: t) := by
    have := ext_mid sg0 (48 :: t) []
    rw [List.append_nil] at this
    rw [bs_size, List.length_append]; exact this
  unfold parseOf
  rw [hnan, hsI.1, hsI.2, hext, bs_list]
  have hinf : ((48 :: t : List UInt8) == [105, 110, 102]) = false := by
    rw [beq_eq_false_iff_ne]; intro h; injection h with h _; exact absurd h (by decide)
  rw [hinf, hn]
  simp
/-- strconv.Itoa's text as an exponent. -/
theorem decDigits_dec (u : Nat) : (∀ c ∈ Lib.decDigits u, isDec c = true) ∧ Lib.decDigits u ≠ [] := by
  have hd : ∀ d : Fin 10, isDec (UInt8.ofNat (48 + d.val)) = true := by decide
  induction u using Nat.strongRecOn with
  | _ u ih =>
    rw [Lib.decDigits]
    by_cases h : u < 10
    · rw [dif_pos h]
      refine ⟨fun c hc => ?_, by simp⟩
      rw [List.mem_singleton] at hc
      rw [hc]; exact hd ⟨u, h⟩
    · rw [dif_neg h]
      refine ⟨fun c hc => ?_, by simp⟩
      rcases List.mem_append.1 hc with hc | hc
      · exact (ih _ (by omega)).1 c hc
      · rw [List.mem_singleton] at hc
        rw [hc]; exact hd ⟨u % 10, by omega⟩
theorem decS_digits (u : Nat) (h : u ≤ far) : decS (Lib.decDigits u) = u := by
  have hd : ∀ d : Fin 10, (UInt8.ofNat (48 + d.val)).toNat - 48 = d.val := by decide
  induction u using Nat.strongRecOn with
  | _ u ih =>
    rw [Lib.decDigits]
    by_cases h1 : u < 10
    · rw [dif_pos h1]
      have := hd ⟨u, h1⟩
      show min (10 * 0 + ((UInt8.ofNat (48 + u)).toNat - 48)) far = u
      rw [this]; show min (10 * 0 + u) far = u
      omega
    · rw [dif_neg h1, decS_snoc, ih _ (by omega) (by omega)]
      have := hd ⟨u % 10, by omega⟩
      rw [this]; show min (10 * (u / 10) + u % 10) far = u
      omega
/-- strconv.FormatUint's text at base 16. -/
theorem hxDig_val : ∀ d : Fin 16, hexV (hxDig d.val) = d.val ∧ isHex (hxDig d.val) = true := by decide
end Go.Proofs.YtibjogbalmbeeaaGreatDoor

namespace Go.Proofs.YtibjogbalmbeeaaGreatDoor

/-- The fraction's digits. -/
theorem digs_val (k r : Nat) (hk : k ≤ 16) (hr : r < 2 ^ 64) (hd : 2 ^ 64 ∣ r * 16 ^ k) :
    (digs k r).length ≤ k ∧ hexN (digs k r) * 16 ^ (16 - (digs k r).length) = r ∧ ∀ c ∈ digs k r, isHex c = true := by
  induction k generalizing r with
  | zero =>
    rw [Nat.pow_zero, Nat.mul_one] at hd
    have : r = 0 := by obtain ⟨q, hq⟩ := hd; omega
    subst this
    exact ⟨Nat.le_refl _, by simp [digs, hexN], fun c h => by simp [digs] at h⟩
  | succ k ih =>
    unfold digs
    by_cases h0 : r = 0
    · rw [if_pos h0, h0]
      exact ⟨Nat.zero_le _, by simp [hexN], fun c h => by simp at h⟩
    · rw [if_neg h0]
      have hr' : r * 16 % 2 ^ 64 < 2 ^ 64 := Nat.mod_lt _ (by omega)
      have e16 : r * 16 % 2 ^ 64 = 16 * (r % 2 ^ 60) := by omega
      have hd' : 2 ^ 64 ∣ r * 16 % 2 ^ 64 * 16 ^ k := by
        have h1 : 2 ^ 64 ∣ r * 16 * 16 ^ k := by rw [show 16 ^ (k + 1) = 16 * 16 ^ k from Nat.pow_succ', ← Nat.mul_assoc] at hd; exact hd
        have h2 : r * 16 * 16 ^ k = (2 ^ 64 * (r * 16 / 2 ^ 64) + r * 16 % 2 ^ 64) * 16 ^ k := by rw [Nat.div_add_mod]
        rw [h2, Nat.add_mul, Nat.mul_assoc] at h1
        exact (Nat.dvd_add_right (Nat.dvd_mul_right _ _)).1 h1
      obtain ⟨i1, i2, i3⟩ := ih (r * 16 % 2 ^ 64) (by omega) hr' hd'
      have hq : r / 2 ^ 60 < 16 := by omega
      have hdg := hxDig_val ⟨r / 2 ^ 60, hq⟩
      refine ⟨by rw [List.length_cons]; omega, ?_, fun c hc => ?_⟩
      · rw [hexN_cons, List.length_cons]
        have e1 : hexV (hxDig (r / 2 ^ 60)) = r / 2 ^ 60 := hdg.1
        rw [e1]
        generalize (digs k (r * 16 % 2 ^ 64)).length = l at *
        generalize hexN (digs k (r * 16 % 2 ^ 64)) = n at *
        have e2 : 16 - l = (16 - (l + 1)) + 1 := by omega
        rw [e2, Nat.pow_succ, ← Nat.mul_assoc, e16] at i2
        have i3 : n * 16 ^ (16 - (l + 1)) = r % 2 ^ 60 := by omega
        rw [Nat.add_mul, i3, Nat.mul_assoc, ← Nat.pow_add, show l + (16 - (l + 1)) = 15 by omega]
        have h15 : (16 : Nat) ^ 15 = 2 ^ 60 := by decide
        rw [h15]; omega
      · rcases List.mem_cons.1 hc with hc | hc
        · rw [hc]; exact hdg.2
        · exact i3 c hc
/-- What Print writes of a number is read as that number, in whatever format. -/
theorem print_means {f : Fm} (hf : f.ok) (neg : Bool) (m : Nat) (e : Int) (hm : m ≠ 0) (hb : blen m ≤ 64) (h1 : -100000 ≤ e) (h2 : e ≤ 100000) :
    parseOf f (bs (prN neg (digs 16 (fracOf m)) (e + ((blen m - 1 : Nat) : Int)))) = some (sgn f neg (hxPat f m e)) := by
  have hb1 := blen_pos hm
  have hlo := blen_lo hm
  have hhi := blen_hi m
  obtain ⟨n, hn⟩ : ∃ n, blen m = n + 1 := ⟨blen m - 1, by omega⟩
  rw [hn] at hlo hhi hb
  rw [Nat.add_sub_cancel] at hlo
  -- the fraction
  have hfr : 2 ^ 64 + fracOf m = m * 2 ^ (64 - n) := by
    unfold fracOf
    rw [hn, Nat.add_sub_cancel]
    have e1 : 2 ^ (64 - n) = 2 * 2 ^ (63 - n) := by rw [← Nat.pow_succ']; congr 1; omega
    have e2 : 2 ^ n * 2 ^ (63 - n) = 2 ^ 63 := by rw [← Nat.pow_add]; congr 1; omega
    have e3 : 2 ^ (n + 1) * 2 ^ (63 - n) = 2 ^ 64 := by rw [← Nat.pow_add]; congr 1; omega
    have l1 := Nat.mul_le_mul_right (2 ^ (63 - n)) hlo
    have l2 := Nat.mul_lt_mul_of_pos_right hhi (Nat.two_pow_pos (63 - n))
    rw [e2] at l1
    rw [e3] at l2
    rw [e1, Nat.mul_left_comm]
    generalize m * 2 ^ (63 - n) = y at *
    omega
  have hfl : fracOf m < 2 ^ 64 := Nat.mod_lt _ (by omega)
  obtain ⟨d1, d2, d3⟩ := digs_val 16 (fracOf m) (Nat.le_refl _) hfl ⟨fracOf m, by rw [Nat.mul_comm, show (16 : Nat) ^ 16 = 2 ^ 64 by decide]⟩
  rw [hn, Nat.add_sub_cancel]
  generalize digs 16 (fracOf m) = ds at *
  generalize hr : fracOf m = r at *
  -- the exponent's text
  obtain ⟨t, ht⟩ : ∃ t : Int, e + (n : Int) = t := ⟨_, rfl⟩
  rw [ht]
  have hX : ∃ sg D, [if t < 0 then (45 : UInt8) else 43] ++ Lib.itoa (if t < 0 then -t else t) = sg ++ D ∧ ExpText sg D ∧ expN sg D = t := by
    have hfar : far = 1099511627776 := rfl
    by_cases h : t < 0
    · obtain ⟨a1, a2⟩ := decDigits_dec (-t).toNat
      refine ⟨[45], Lib.decDigits (-t).toNat, ?_, ⟨.inr (.inl rfl), a2, a1⟩, ?_⟩
      · rw [if_pos h, if_pos h]; unfold Lib.itoa; rw [if_neg (by omega)]
      · unfold expN; rw [if_pos rfl, decS_digits _ (by omega)]; omega
    · obtain ⟨a1, a2⟩ := decDigits_dec t.toNat
      refine ⟨[43], Lib.decDigits t.toNat, ?_, ⟨.inr (.inr rfl), a2, a1⟩, ?_⟩
      · rw [if_neg h, if_neg h]; unfold Lib.itoa; rw [if_neg (by omega)]
      · unfold expN; rw [if_neg (by decide), decS_digits _ (by omega)]; omega
  obtain ⟨sg, D, hXe, hE, hXv⟩ := hX
  obtain ⟨sg0, hsg0⟩ : ∃ sg0 : List UInt8, (if neg then [45] else []) = sg0 := ⟨_, rfl⟩
  have h0 : sg0 = [] ∨ sg0 = [45] ∨ sg0 = [43] := by rw [← hsg0]; cases neg <;> simp
  have hneg : decide (sg0 = [45]) = neg := by rw [← hsg0]; cases neg <;> simp
  have h49 : hexV 49 = 1 ∧ isHex 49 = true := by decide
  have key : ∃ M X, parseOf f (bs (prN neg ds t)) = some (sgn f neg (hxPat f M X)) ∧ X = t - 4 * ds.length ∧ M = 16 ^ ds.length + hexN ds := by
    by_cases hds : ds = []
    · subst hds
      refine ⟨hexN [49], t, ?_, by simp, by simp [hexN, h49.1]⟩
      have hn := numOf_plain sg0 [49] sg D 120 112 (.inl rfl) (.inl rfl) hE (fun c hc => by rw [List.mem_singleton] at hc; rw [hc]; exact h49.2) (by simp)
      have eL : (sg0 ++ [48, 120]) ++ [49] ++ (112 :: (sg ++ D)) = sg0 ++ 48 :: (120 :: 49 :: 112 :: (sg ++ D)) := by simp
      rw [hXv, eL] at hn
      have := parse_num f sg0 _ _ _ h0 ⟨_, rfl⟩ hn
      rw [hneg] at this
      rw [← this]
      unfold prN
      rw [hsg0, if_pos rfl]
      refine congrArg (fun l => parseOf f (bs l)) ?_
      simp only [List.append_assoc, List.nil_append, List.cons_append]
      rw [← hXe]; simp
    · refine ⟨hexN ([49] ++ ds), t - 4 * ds.length, ?_, rfl, by rw [hexN_append, hexN_one, h49.1, Nat.one_mul]⟩
      have hn := numOf_point sg0 [49] ds sg D 120 112 (.inl rfl) (.inl rfl) hE (fun c hc => by rw [List.mem_singleton] at hc; rw [hc]; exact h49.2) d3 (by simp)
      have eL : (sg0 ++ [48, 120]) ++ ([49] ++ 46 :: ds) ++ (112 :: (sg ++ D)) = sg0 ++ 48 :: (120 :: 49 :: 46 :: (ds ++ (112 :: (sg ++ D)))) := by simp
      rw [hXv, eL] at hn
      have := parse_num f sg0 _ _ _ h0 ⟨_, rfl⟩ hn
      rw [hneg] at this
      rw [← this]
      unfold prN
      rw [hsg0, if_neg hds]
      refine congrArg (fun l => parseOf f (bs l)) ?_
      simp only [List.append_assoc, List.nil_append, List.cons_append]
      rw [← hXe]; simp
  obtain ⟨M, X, hk, hX, hM⟩ := key
  rw [hk]
  congr 2
  obtain ⟨B, hB1, hB2⟩ : ∃ B : Int, B ≤ t - 64 ∧ B ≤ f.L - 1 := ⟨min (t - 64) (f.L - 1), by omega, by omega⟩
  refine hxPat_same hf (B := B) (by omega) (by omega) hB2 ?_
  unfold nv
  have hMv : M * 16 ^ (16 - ds.length) = m * 2 ^ (64 - n) := by
    rw [hM, Nat.add_mul, d2, ← Nat.pow_add, show ds.length + (16 - ds.length) = 16 by omega, ← hfr]
  have e1 : (X - B).toNat = 4 * (16 - ds.length) + (t - 64 - B).toNat := by omega
  have e2 : (e - B).toNat = (64 - n) + (t - 64 - B).toNat := by omega
  rw [e1, e2, Nat.pow_add, Nat.pow_add, ← Nat.mul_assoc, ← Nat.mul_assoc, Nat.pow_mul, show (2 : Nat) ^ 4 = 16 from rfl, hMv]

/-- A finite pattern's mantissa and exponent are its number. -/
theorem parts_val (f : Fm) (z : Nat) (B : Int) (hB : B ≤ f.L) : nv B (ptM (2 ^ (f.P - 1)) z) (ptE (2 ^ (f.P - 1)) f.L z) = nv B (vP f z) f.L := by
  have hH := Nat.two_pow_pos (f.P - 1)
  unfold nv ptM ptE vP
  generalize 2 ^ (f.P - 1) = H at *
  by_cases h : z < H
  · rw [if_pos h, Nat.div_eq_of_lt h, if_pos rfl, if_pos rfl, Nat.mod_eq_of_lt h]
  · have h1 : 1 ≤ z / H := (Nat.le_div_iff_mul_le hH).2 (by omega)
    rw [if_neg h, if_neg (by omega), if_neg (by omega), show (f.L + ((z / H : Nat) : Int) - 1 - B).toNat = (z / H - 1) + (f.L - B).toNat by omega, Nat.pow_add, Nat.mul_assoc]
theorem parts_exact {f : Fm} (hf : f.ok) (z : Nat) (hz : z ≤ f.inf) : hxPat f (ptM (2 ^ (f.P - 1)) z) (ptE (2 ^ (f.P - 1)) f.L z) = z := by
  refine hxPat_exact hf (B := f.L - 1) ?_ (by omega) hz (parts_val f z (f.L - 1) (by omega))
  unfold ptE
  generalize z / 2 ^ (f.P - 1) = q
  split <;> omega
theorem ptM_facts (f : Fm) (hP : 1 ≤ f.P) (z : Nat) : ptM (2 ^ (f.P - 1)) z < 2 ^ f.P ∧ (z ≠ 0 → ptM (2 ^ (f.P - 1)) z ≠ 0) := by
  have hH := Nat.two_pow_pos (f.P - 1)
  have e : 2 ^ f.P = 2 * 2 ^ (f.P - 1) := by rw [← Nat.pow_succ']; congr 1; omega
  unfold ptM
  rw [e]
  generalize 2 ^ (f.P - 1) = H at *
  have hm := Nat.mod_lt z hH
  split
  · rename_i h
    have := Nat.div_add_mod z H
    rw [h] at this
    omega
  · omega

end Go.Proofs.YtibjogbalmbeeaaGreatDoor

namespace Go.Proofs.YtibjogbalmbeeaaGreatDoor
open Go.RowKit Go.Sort
/-- The format of a number. -/
def fmOf (f : Int) : Fm := if f = 32 then fmS else fmD
theorem parse_any (f : Int) (hf : f = 32 ∨ f = 64) (s : ByteArray) (hs : s.size ≤ 4000) (w : World) (ht : Tab64 w) :
    Calls Tryz.prog 202 #[.int .i64 f, .string s] w fun e w' => e = .returned (.tuple #[.int .u64 (((parseOf (fmOf f) s).getD 0 : Nat) : Int), .int .i64 (if (parseOf (fmOf f) s).isSome then 0 else 8)]) ∧ Below w.heap.size w w' := by
  rcases hf with rfl | rfl
  · refine (parse_walk_S s w (by omega) ht).mono fun e w' ⟨he, hb⟩ => ⟨?_, hb⟩
    rw [he]; unfold prP prE; rw [if_pos hs, if_pos hs]; rfl
  · refine (parse_walk_D s w (by omega) ht).mono fun e w' ⟨he, hb⟩ => ⟨?_, hb⟩
    rw [he]; unfold prP prE; rw [if_pos hs, if_pos hs]; rfl
/-- Parse of a text that means a pattern. -/
theorem parse_bs (f : Int) (hf : f = 32 ∨ f = 64) (l : List UInt8) (p : Nat) (hl : l.length ≤ 4000) (hp : parseOf (fmOf f) (bs l) = some p) (W : World) (ht : Tab64 W) :
    Calls Tryz.prog 202 #[.int .i64 f, .string (bs l)] W fun e w' => e = .returned (.tuple #[.int .u64 (p : Int), .int .i64 0]) ∧ Below W.heap.size W w' := by
  have := parse_any f hf (bs l) (by rw [bs_size]; exact hl) W ht
  rw [hp] at this
  exact this
theorem hxdigs_len (k r : Nat) : (digs k r).length ≤ k := by
  induction k generalizing r with
  | zero => simp [digs]
  | succ k ih => unfold digs; split; simp; rw [List.length_cons]; have := ih (r * 16 % 2 ^ 64); omega
theorem prN_len (neg : Bool) (r : Nat) (t : Int) (h1 : -10000 ≤ t) (h2 : t ≤ 10000) : (prN neg (digs 16 r) t).length ≤ 100 := by
  have a1 := hxdigs_len 16 r
  have a2 := itoa_len (if t < 0 then -t else t) (by split <;> omega) (by split <;> omega)
  unfold prN
  simp only [List.length_append, List.length_cons, List.length_nil]
  have a3 : (if neg then [45] else [] : List UInt8).length ≤ 1 := by split <;> simp
  have a4 : (if digs 16 r = [] then [] else 46 :: digs 16 r : List UInt8).length ≤ 17 := by split; simp; rw [List.length_cons]; omega
  omega
theorem rest_read (g : Fm) (hg : g.ok) (neg : Bool) : parseOf g (bs (prR neg 0)) = some (sgn g neg 0) ∧ parseOf g (bs (prR neg 3)) = some (sgn g neg g.inf) ∧ parseOf g (bs (prR neg 4)) = some g.quiet := by
  rcases hg with rfl | rfl <;> cases neg <;> decide +kernel
theorem back_val_D (b : Nat) (hb : b < 18446744073709551616) (hz : b % 9223372036854775808 ≤ 9218868437227405312) : (sgn fmD (decide (9223372036854775808 ≤ b)) (if b % 9223372036854775808 = 9218868437227405312 then fmD.inf else hxPat fmD (ptM 4503599627370496 (b % 9223372036854775808)) (ptE 4503599627370496 (-1074) (b % 9223372036854775808)))) = b := by
  have hi : fmD.inf = 9218868437227405312 := by decide
  have e : (if b % 9223372036854775808 = 9218868437227405312 then fmD.inf else hxPat fmD (ptM 4503599627370496 (b % 9223372036854775808)) (ptE 4503599627370496 (-1074) (b % 9223372036854775808))) = b % 9223372036854775808 := by
    split
    · rename_i h; rw [hi, h]
    · exact parts_exact (f := fmD) (.inr rfl) (b % 9223372036854775808) (by rw [hi]; exact hz)
  rw [e]
  unfold sgn
  have e2 : 2 ^ fmD.S = 9223372036854775808 := by decide
  rw [e2]
  by_cases h : 9223372036854775808 ≤ b
  · rw [if_pos (decide_eq_true h)]; omega
  · rw [if_neg (by simpa using h)]; omega
end Go.Proofs.YtibjogbalmbeeaaGreatDoor
