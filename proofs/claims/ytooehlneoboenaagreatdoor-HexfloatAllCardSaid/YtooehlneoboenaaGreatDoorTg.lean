/- Plain law: the texts of numbers, as the reference cuts them and as the reader reads them. -/
import Derived.Test.YtooehlneoboenaaGreatDoorTb
namespace Go.Proofs.YtooehlneoboenaaGreatDoor

/-- R is the text of the number a * 2^e. -/
def WMv (R : List UInt8) (a : Nat) (e : Int) : Prop := ∃ (x p : UInt8) (sg D A : List UInt8), (x = 120 ∨ x = 88) ∧ (p = 112 ∨ p = 80) ∧ ExpText sg D ∧ (∀ c ∈ A, isHex c = true) ∧
  ((A ≠ [] ∧ R = [48, x] ++ A ++ (p :: (sg ++ D)) ∧ a = hexN A ∧ e = expN sg D) ∨
   (∃ F : List UInt8, (∀ c ∈ F, isHex c = true) ∧ A ++ F ≠ [] ∧ R = [48, x] ++ (A ++ 46 :: F) ++ (p :: (sg ++ D)) ∧ a = hexN (A ++ F) ∧ e = expN sg D - 4 * F.length))
theorem WMv.num {R : List UInt8} {a : Nat} {e : Int} (h : WMv R a e) (pre : List UInt8) : numOf (bs (pre ++ R)) pre.length = some (a, e, (bs (pre ++ R)).size) := by
  obtain ⟨x, p, sg, D, A, hx, hp, hE, hA, h | ⟨F, hF, hne, hR, ha, he⟩⟩ := h
  · obtain ⟨hne, hR, ha, he⟩ := h
    have := numOf_plain pre A sg D x p hx hp hE hA hne
    have e1 : (pre ++ [48, x]) ++ A ++ (p :: (sg ++ D)) = pre ++ R := by rw [hR]; simp
    rw [e1] at this
    rw [this, ha, he]
  · have := numOf_point pre A F sg D x p hx hp hE hA hF hne
    have e1 : (pre ++ [48, x]) ++ (A ++ 46 :: F) ++ (p :: (sg ++ D)) = pre ++ R := by rw [hR]; simp
    rw [e1] at this
    rw [this, ha, he]

/-- The bytes from i to j. -/
def sgm (s : ByteArray) (i j : Nat) : List UInt8 := (s.toList.drop i).take (j - i)
theorem drop_seg (s : ByteArray) (i j : Nat) (h : i ≤ j) : s.toList.drop i = sgm s i j ++ s.toList.drop j := by
  unfold sgm
  have e := List.take_append_drop (j - i) (s.toList.drop i)
  rw [List.drop_drop, show i + (j - i) = j by omega] at e
  exact e.symm
theorem size_list (s : ByteArray) : s.toList.length = s.size := by rw [Lib.toList_data]; rfl
theorem drop_cons (s : ByteArray) (i : Nat) (h : i < s.size) : s.toList.drop i = by8 s i :: s.toList.drop (i + 1) := by
  have hl := size_list s
  rw [List.drop_eq_getElem_cons (by omega)]
  congr 1
  unfold by8
  rw [List.getD_eq_getElem?_getD, ← Lib.toList_data, List.getElem?_eq_getElem (by omega)]
  rfl
theorem sgm_length (s : ByteArray) (i j : Nat) (h : j ≤ s.size) : (sgm s i j).length = j - i := by
  unfold sgm; rw [List.length_take, List.length_drop, size_list]; omega
theorem sgm_mem (s : ByteArray) (i j : Nat) (h : j ≤ s.size) {c : UInt8} (hc : c ∈ sgm s i j) : ∃ t, i ≤ t ∧ t < j ∧ c = by8 s t := by
  have hl := sgm_length s i j h
  unfold sgm at hc hl
  obtain ⟨k, hk, e⟩ := List.getElem_of_mem hc
  have hk2 := hk
  rw [hl] at hk2
  refine ⟨i + k, by omega, by omega, ?_⟩
  rw [← e]
  unfold by8
  rw [List.getElem_take, List.getElem_drop, List.getD_eq_getElem?_getD, ← Lib.toList_data, List.getElem?_eq_getElem (by rw [size_list]; omega)]
  rfl
theorem wm_of_num {s : ByteArray} {i a k : Nat} {x : Int} (h : numOf s i = some (a, x, k)) (hk : k = s.size) : ∃ a' e', WMv (s.toList.drop i) a' e' := by
  unfold numOf at h
  split at h
  · cases h
  split at h
  · cases h
  split at h
  · cases h
  split at h
  · cases h
  split at h
  · cases h
  rename_i g1 g2 g3 g4 g5
  have g1 := Classical.not_not.1 g1
  have g2 := Classical.not_not.1 g2
  have g4 := Classical.not_not.1 g4
  have g5 := Classical.not_not.1 g5
  injection h with h
  injection h with _ h
  injection h with _ hk2
  rw [hk] at hk2
  -- the exponent
  have hX : ∃ sg D, ExpText sg D ∧ s.toList.drop (dgE s (i + 2) + 1) = sg ++ D := by
    refine ⟨sgm s (dgE s (i + 2) + 1) (sgI s (dgE s (i + 2) + 1)), sgm s (sgI s (dgE s (i + 2) + 1)) s.size, ⟨?_, ?_, ?_⟩, ?_⟩
    · unfold sgI
      split
      · rename_i hc
        have : sgm s (dgE s (i + 2) + 1) (dgE s (i + 2) + 1 + 1) = [by8 s (dgE s (i + 2) + 1)] := by
          unfold sgm; rw [drop_cons s _ hc.1]; simp
        rw [this]
        rcases hc.2 with e | e <;> rw [e] <;> simp
      · left; unfold sgm; simp
    · intro e
      have := sgm_length s (sgI s (dgE s (i + 2) + 1)) s.size (Nat.le_refl _)
      rw [e] at this
      simp at this
      omega
    · intro c hc
      obtain ⟨t, h1, h2, e⟩ := sgm_mem s _ _ (Nat.le_refl _) hc
      rw [e]
      exact runTo_all isDec s s.size _ t h1 (by rw [← hk2] at h2; exact h2)
    · have h1 : dgE s (i + 2) + 1 ≤ sgI s (dgE s (i + 2) + 1) := by unfold sgI; split <;> omega
      rw [drop_seg s _ _ h1, drop_seg s (sgI s (dgE s (i + 2) + 1)) s.size (by omega), List.drop_eq_nil_of_le (by rw [size_list]; omega), List.append_nil]
  obtain ⟨sg, D, hE, hX⟩ := hX
  have ep : s.toList.drop (dgE s (i + 2)) = by8 s (dgE s (i + 2)) :: (sg ++ D) := by rw [drop_cons s _ g4.1, hX]
  have e0 : s.toList.drop i = [48, by8 s (i + 1)] ++ s.toList.drop (i + 2) := by rw [drop_cons s i g1.1, drop_cons s (i + 1) g2.1, g1.2]; rfl
  have l1 : i + 2 ≤ hxE s (i + 2) := runTo_ge _ _ _ _
  by_cases hp : hxE s (i + 2) < s.size ∧ by8 s (hxE s (i + 2)) = 46
  · have l2 : hxE s (i + 2) + 1 ≤ hxE s (hxE s (i + 2) + 1) := runTo_ge _ _ _ _
    have hd : dgE s (i + 2) = hxE s (hxE s (i + 2) + 1) := by unfold dgE; rw [if_pos hp]
    have hlt := g4.1
    rw [hd] at ep hlt
    refine ⟨_, _, by8 s (i + 1), by8 s (dgE s (i + 2)), sg, D, sgm s (i + 2) (hxE s (i + 2)), g2.2, g4.2, hE, ?_, .inr ⟨sgm s (hxE s (i + 2) + 1) (hxE s (hxE s (i + 2) + 1)), ?_, ?_, ?_, rfl, rfl⟩⟩
    · intro c hc
      obtain ⟨t, h1, h2, e⟩ := sgm_mem s _ _ (by omega) hc
      rw [e]; exact runTo_all isHex s s.size _ t h1 h2
    · intro c hc
      obtain ⟨t, h1, h2, e⟩ := sgm_mem s _ _ (by omega) hc
      rw [e]; exact runTo_all isHex s s.size _ t h1 h2
    · intro e
      have e2 := congrArg List.length e
      rw [List.length_append, sgm_length s _ _ (by omega), sgm_length s _ _ (by omega), List.length_nil] at e2
      apply g3
      unfold dgD
      rw [if_pos hp, ByteArray.size_append, ByteArray.size_extract, ByteArray.size_extract]
      omega
    · rw [e0, drop_seg s (i + 2) _ l1, drop_cons s _ hp.1, hp.2, drop_seg s (hxE s (i + 2) + 1) _ l2, ep, hd]
      simp
  · have hd : dgE s (i + 2) = hxE s (i + 2) := by unfold dgE; rw [if_neg hp]
    have hlt := g4.1
    rw [hd] at ep hlt
    refine ⟨_, _, by8 s (i + 1), by8 s (dgE s (i + 2)), sg, D, sgm s (i + 2) (hxE s (i + 2)), g2.2, g4.2, hE, ?_, .inl ⟨?_, ?_, rfl, rfl⟩⟩
    · intro c hc
      obtain ⟨t, h1, h2, e⟩ := sgm_mem s _ _ (by omega) hc
      rw [e]; exact runTo_all isHex s s.size _ t h1 h2
    · intro e
      have e2 := congrArg List.length e
      rw [sgm_length s _ _ (by omega), List.length_nil] at e2
      apply g3
      unfold dgD
      rw [if_neg hp, ByteArray.size_extract]
      omega
    · rw [e0, drop_seg s (i + 2) _ l1, ep, hd]
      simp
theorem num_wm {pre R : List UInt8} {a : Nat} {e : Int} : numOf (bs (pre ++ R)) pre.length = some (a, e, (bs (pre ++ R)).size) ↔ WMv R a e := by
  refine ⟨fun h => ?_, fun h => h.num pre⟩
  obtain ⟨a', e', hw⟩ := wm_of_num h rfl
  rw [bs_list, List.drop_left] at hw
  have := hw.num pre
  rw [h] at this
  injection this with this
  injection this with h1 h2
  injection h2 with h2 _
  rw [h1, h2]
  exact hw

/-- The reference's way: cut at the first p, at the first point. -/
def notP (c : UInt8) : Bool := !(c == 112 || c == 80)
def not46 (c : UInt8) : Bool := !(c == 46)
def sgT (l : List UInt8) : List UInt8 := match l with | c :: t => if c = 43 ∨ c = 45 then t else l | [] => []
def sgM (l : List UInt8) : Bool := match l with | c :: _ => c == 45 | [] => false
def powN (l : List UInt8) : Option Int := if sgT l = [] ∨ (sgT l).all isDec = false then none else some (if sgM l then -((decS (sgT l) : Nat) : Int) else ((decS (sgT l) : Nat) : Int))
def rfV (A : List UInt8) : List UInt8 := A.takeWhile not46 ++ (A.dropWhile not46).tail
def rfDig (A : List UInt8) (e : Int) : Option (Nat × Int) := if rfV A = [] ∨ (rfV A).all isHex = false then none else some (hexN (rfV A), e - 4 * ((A.dropWhile not46).tail.length : Int))
def rfNum (R : List UInt8) : Option (Nat × Int) :=
  match R with
  | c :: x :: t => if c = 48 ∧ (x = 120 ∨ x = 88) then (match t.dropWhile notP with | [] => none | _ :: ex => match powN ex with | none => none | some e => rfDig (t.takeWhile notP) e) else none
  | _ => none
theorem tw_cut (q : UInt8 → Bool) (M : List UInt8) (p : UInt8) (r : List UInt8) (hM : ∀ c ∈ M, q c = true) (hp : q p = false) : (M ++ p :: r).takeWhile q = M ∧ (M ++ p :: r).dropWhile q = p :: r := by
  induction M with
  | nil => simp [hp]
  | cons c t ih =>
    have hc := hM c (by simp)
    have := ih (fun d hd => hM d (by simp [hd]))
    simp [hc, this.1, this.2]
theorem tw_all (q : UInt8 → Bool) (M : List UInt8) (hM : ∀ c ∈ M, q c = true) : M.takeWhile q = M ∧ M.dropWhile q = [] := by
  induction M with
  | nil => simp
  | cons c t ih =>
    have hc := hM c (by simp)
    have := ih (fun d hd => hM d (by simp [hd]))
    simp [hc, this.1, this.2]
theorem dw_head (q : UInt8 → Bool) : ∀ (l : List UInt8) (c : UInt8) (r : List UInt8), l.dropWhile q = c :: r → q c = false
  | [], c, r, h => by simp at h
  | d :: t, c, r, h => by
    by_cases hd : q d = true
    · rw [List.dropWhile_cons_of_pos hd] at h
      exact dw_head q t c r h
    · rw [List.dropWhile_cons_of_neg hd] at h
      injection h with h _
      rw [← h]; simpa using hd
theorem pow_exp {sg D : List UInt8} (h : ExpText sg D) : powN (sg ++ D) = some (expN sg D) := by
  obtain ⟨d, t, hD⟩ : ∃ d t, D = d :: t := by cases D with | nil => exact absurd rfl h.ne | cons c t => exact ⟨c, t, rfl⟩
  have hd := isDec_range d (h.dec d (by rw [hD]; simp))
  have hall : D.all isDec = true := List.all_eq_true.2 h.dec
  have n1 : ¬ (d = 43 ∨ d = 45) := by rintro (h | h) <;> subst h <;> exact absurd hd.1 (by decide)
  have n2 : (d == 45) = false := by
    cases hcc : d == 45
    · rfl
    · exact absurd (.inr (by simpa using hcc)) n1
  have key : sgT (sg ++ D) = D ∧ sgM (sg ++ D) = decide (sg = [45]) := by
    rcases h.sg with e | e | e
    · subst e
      rw [List.nil_append, hD]
      unfold sgT sgM
      simp [n1, n2]
    · subst e; exact ⟨rfl, rfl⟩
    · subst e; exact ⟨rfl, by simp [sgM]⟩
  unfold powN expN
  rw [key.1, key.2, if_neg (by rw [hall]; simp [h.ne])]
  by_cases e : sg = [45] <;> simp [e]
theorem exp_pow {l : List UInt8} {e : Int} (h : powN l = some e) : ∃ sg D, l = sg ++ D ∧ ExpText sg D := by
  unfold powN at h
  split at h
  · cases h
  rename_i hc
  have h1 : sgT l ≠ [] := fun e => hc (.inl e)
  have h2 : (sgT l).all isDec = true := by
    cases hh : (sgT l).all isDec
    · exact absurd (.inr hh) hc
    · rfl
  cases l with
  | nil => exact absurd rfl h1
  | cons c t =>
    by_cases hs : c = 43 ∨ c = 45
    · have e : sgT (c :: t) = t := by unfold sgT; simp only [if_pos hs]
      rw [e] at h1 h2
      exact ⟨[c], t, rfl, ⟨by rcases hs with h | h <;> subst h <;> simp, h1, List.all_eq_true.1 h2⟩⟩
    · have e : sgT (c :: t) = c :: t := by unfold sgT; simp only [if_neg hs]
      rw [e] at h1 h2
      exact ⟨[], c :: t, rfl, ⟨.inl rfl, h1, List.all_eq_true.1 h2⟩⟩
theorem hex_notP {c : UInt8} (h : isHex c = true) : notP c = true ∧ not46 c = true := by
  have h1 : c ≠ 112 := fun e => by subst e; exact absurd h (by decide)
  have h2 : c ≠ 80 := fun e => by subst e; exact absurd h (by decide)
  have h3 : c ≠ 46 := fun e => by subst e; exact absurd h (by decide)
  unfold notP not46
  simp [h1, h2, h3]
theorem p_notP {p : UInt8} (h : p = 112 ∨ p = 80) : notP p = false := by rcases h with h | h <;> subst h <;> decide
theorem WMv.ref {R : List UInt8} {a : Nat} {e : Int} (h : WMv R a e) : rfNum R = some (a, e) := by
  obtain ⟨x, p, sg, D, A, hx, hp, hE, hA, h | ⟨F, hF, hne, hR, ha, he⟩⟩ := h
  · obtain ⟨hne, hR, ha, he⟩ := h
    obtain ⟨c1, c2⟩ := tw_cut notP A p (sg ++ D) (fun c hc => (hex_notP (hA c hc)).1) (p_notP hp)
    obtain ⟨c3, c4⟩ := tw_all not46 A (fun c hc => (hex_notP (hA c hc)).2)
    have hv : rfV A = A := by unfold rfV; rw [c3, c4]; simp
    have hR2 : R = 48 :: x :: (A ++ p :: (sg ++ D)) := by rw [hR]; simp
    rw [hR2]
    unfold rfNum
    simp only [hx, and_self, if_true, c1, c2, pow_exp hE]
    unfold rfDig
    rw [hv, c4, if_neg (by rw [List.all_eq_true.2 hA]; simp [hne]), ha, he]
    simp
  · obtain ⟨c1, c2⟩ := tw_cut notP (A ++ 46 :: F) p (sg ++ D) (fun c hc => by
      rcases List.mem_append.1 hc with hc | hc
      · exact (hex_notP (hA c hc)).1
      · rcases List.mem_cons.1 hc with hc | hc
        · subst hc; decide
        · exact (hex_notP (hF c hc)).1) (p_notP hp)
    obtain ⟨c3, c4⟩ := tw_cut not46 A 46 F (fun c hc => (hex_notP (hA c hc)).2) (by decide)
    have hv : rfV (A ++ 46 :: F) = A ++ F := by unfold rfV; rw [c3, c4]; rfl
    have hR2 : R = 48 :: x :: ((A ++ 46 :: F) ++ p :: (sg ++ D)) := by rw [hR]; simp
    have hall : (A ++ F).all isHex = true := List.all_eq_true.2 fun c hc => by
      rcases List.mem_append.1 hc with hc | hc
      · exact hA c hc
      · exact hF c hc
    rw [hR2]
    unfold rfNum
    simp only [hx, and_self, if_true, c1, c2, pow_exp hE]
    unfold rfDig
    rw [hv, c4, if_neg (by rw [hall]; simp only [Bool.true_eq_false, or_false]; exact hne), ha, he]
    rfl
theorem ref_wm {R : List UInt8} {v : Nat × Int} (h : rfNum R = some v) : ∃ a e, WMv R a e := by
  unfold rfNum at h
  split at h
  · rename_i c x t
    split at h
    · rename_i hcx
      obtain ⟨hc, hx⟩ := hcx
      subst hc
      split at h
      · cases h
      rename_i p ex hdw
      split at h
      · cases h
      rename_i e hpw
      obtain ⟨sg, D, hl, hE⟩ := exp_pow hpw
      have hp0 := dw_head _ _ _ _ hdw
      have hp : p = 112 ∨ p = 80 := by
        unfold notP at hp0
        simp at hp0
        by_cases e : p = 112
        · exact .inl e
        · exact .inr (hp0 e)
      have ht := List.takeWhile_append_dropWhile (p := notP) (l := t)
      rw [hdw, hl] at ht
      obtain ⟨A, hAe⟩ : ∃ A, t.takeWhile notP = A := ⟨_, rfl⟩
      rw [hAe] at ht h
      unfold rfDig at h
      split at h
      · cases h
      rename_i hv
      have h1 : rfV A ≠ [] := fun e => hv (.inl e)
      have h2 : (rfV A).all isHex = true := by
        cases hh : (rfV A).all isHex
        · exact absurd (.inr hh) hv
        · rfl
      rw [List.all_eq_true] at h2
      have hA := List.takeWhile_append_dropWhile (p := not46) (l := A)
      cases hdp : A.dropWhile not46 with
      | nil =>
        have e1 : rfV A = A := by unfold rfV; rw [hdp]; rw [hdp, List.append_nil] at hA; rw [hA]; simp
        rw [e1] at h1 h2
        exact ⟨_, _, x, p, sg, D, A, hx, hp, hE, h2, .inl ⟨h1, by rw [← ht]; simp, rfl, rfl⟩⟩
      | cons d F =>
        have hd0 := dw_head _ _ _ _ hdp
        have hd : d = 46 := by unfold not46 at hd0; simpa using hd0
        subst hd
        have e1 : rfV A = A.takeWhile not46 ++ F := by unfold rfV; rw [hdp]; rfl
        rw [e1] at h1 h2
        rw [hdp] at hA
        exact ⟨_, _, x, p, sg, D, A.takeWhile not46, hx, hp, hE, fun c hc => h2 c (List.mem_append.2 (.inl hc)), .inr ⟨F, fun c hc => h2 c (List.mem_append.2 (.inr hc)), h1, by rw [hA, ← ht]; simp, rfl, rfl⟩⟩
    · cases h
  · cases h
theorem rf_num {pre R : List UInt8} {a : Nat} {e : Int} : rfNum R = some (a, e) ↔ numOf (bs (pre ++ R)) pre.length = some (a, e, (bs (pre ++ R)).size) := by
  rw [num_wm]
  refine ⟨fun h => ?_, fun h => h.ref⟩
  obtain ⟨a', e', hw⟩ := ref_wm h
  have := hw.ref
  rw [h] at this
  injection this with this
  injection this with h1 h2
  rw [h1, h2]
  exact hw
end Go.Proofs.YtooehlneoboenaaGreatDoor
