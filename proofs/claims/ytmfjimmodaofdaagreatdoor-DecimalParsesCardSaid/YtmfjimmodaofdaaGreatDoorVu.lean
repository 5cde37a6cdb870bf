/- Plain facts: what the reference reads of a text and what the program reads. No program in sight. -/
import Derived.Test.YtmfjimmodaofdaaGreatDoorVr
import Derived.Test.YtmfjimmodaofdaaGreatDoorQt
namespace Go.Proofs.YtmfjimmodaofdaaGreatDoor

/-- More digits stand in no text. -/
def dgMax : Nat := 8000
/-- Alike, or both far out on one side. -/
def NearX (x y : Int) : Prop := x = y ∨ (900000 ≤ x ∧ 900000 ≤ y) ∨ (x ≤ -900000 ∧ y ≤ -900000)
theorem mS_iff (s : ByteArray) (k : Nat) : mS s k = false ↔ (dW s k).size = 0 ∧ (dP s k).size = 0 := by
  have e : ∀ b : ByteArray, b.data.toList = [] ↔ b.size = 0 := fun b => by
    rw [← List.length_eq_zero_iff, Array.length_toList]; rfl
  unfold mS
  rw [decide_eq_false_iff_not, ne_eq, Decidable.not_not, List.append_eq_nil_iff, e, e]
theorem rd_tok {s : ByteArray} (hs : s.size ≤ 4000) :
    match rdAt s with
    | none => tokOf s = none
    | some (k, ng, d, x) => ∃ y, tokOf s = some (k, ng, d, y) ∧ NearX x y ∧ (k = 2 → d < 10 ^ dgMax) := by
  have hi0 : sgI s 0 ≤ s.size := sgI_le s 0 (Nat.zero_le _)
  obtain ⟨k, hk⟩ : ∃ k, sgI s 0 = k := ⟨_, rfl⟩
  have hle := dP_le s k (by omega)
  unfold rdAt tokOf decAt expAt
  rw [hk] at hi0 ⊢
  by_cases c1 : s = nanS
  · rw [if_pos c1, if_pos c1]; exact ⟨_, rfl, .inl rfl, fun h => by cases h⟩
  rw [if_neg c1, if_neg c1]
  by_cases c2 : s.extract k s.size = infS
  · rw [if_pos c2, if_pos c2]; exact ⟨_, rfl, .inl rfl, fun h => by cases h⟩
  rw [if_neg c2, if_neg c2]
  by_cases c3 : mS s k = false
  · rw [if_pos c3, if_pos ((mS_iff s k).1 c3)]; rfl
  rw [if_neg c3, if_neg (fun h => c3 ((mS_iff s k).2 h))]
  have hd : dcV (strip0 ((dW s k).data.toList ++ (dP s k).data.toList)) = dcV ((dW s k).data.toList ++ (dP s k).data.toList) := dcV_drop _
  have hb : dcV ((dW s k).data.toList ++ (dP s k).data.toList) < 10 ^ dgMax := by
    have h1 : ((dW s k).data.toList ++ (dP s k).data.toList).all dgQ = true := by rw [List.all_append, dW_all s k hi0, dP_all s k]; rfl
    refine Nat.lt_of_lt_of_le (dcV_lt h1) (Nat.pow_le_pow_right (by omega) ?_)
    rw [List.length_append, Array.length_toList, Array.length_toList]
    have := hle.2.2
    show (dW s k).size + (dP s k).size ≤ dgMax
    unfold dgMax
    omega
  by_cases c4 : dK s k < s.size
  · rw [if_pos c4]
    by_cases c5 : isE s (dK s k) = true
    · have e5 : ¬ isE s (dK s k) = false := by rw [c5]; decide
      rw [if_pos c5, if_neg e5]
      unfold exO exR
      obtain ⟨l, hl⟩ : ∃ l, sgI s (dK s k + 1) = l := ⟨_, rfl⟩
      rw [hl]
      have hg := runTo_ge isDec s s.size l
      have hg2 : l ≤ dcE s l := hg
      have hls : dcE s l ≤ s.size := runTo_le _ _ _ _ (by rw [← hl]; exact sgI_le s _ (by omega))
      have hev := ev_evR s l (dcE s l - l)
      have hfr := evR_le s l (dcE s l - l)
      unfold vast at hev
      by_cases c6 : dcE s l = l
      · rw [if_pos c6, if_neg (by rw [c6]; simp)]; rfl
      rw [if_neg c6]
      by_cases c7 : dcE s l = s.size
      · rw [if_pos (by rw [Bool.and_eq_true]; exact ⟨decide_eq_true (by omega), decide_eq_true c7⟩)]
        refine ⟨(if sgB s (dK s k + 1) = true then -((ev s l (dcE s l - l) : Nat) : Int) else ((ev s l (dcE s l - l) : Nat) : Int)) - ((dP s k).size : Int), ?_, ?_, fun _ => hb⟩
        · show Option.map _ (if dcE s l < s.size then none else _) = _
          rw [if_neg (by omega)]
          show some (2, sgB s 0, dcV (strip0 _), _) = _
          rw [hd]
        · have := hle.2.2.2
          unfold NearX
          cases sgB s (dK s k + 1)
          · rw [if_neg (by decide), if_neg (by decide)]; omega
          · rw [if_pos rfl, if_pos rfl]; omega
      · rw [if_neg (by rw [Bool.and_eq_true]; intro h; exact c7 (of_decide_eq_true h.2))]
        show Option.map _ (if dcE s l < s.size then none else _) = _
        rw [if_pos (by omega)]; rfl
    · have e5 : isE s (dK s k) = false := by simpa using c5
      rw [if_neg c5, if_pos e5]
      show Option.map _ (if dK s k < s.size then none else _) = _
      rw [if_pos c4]; rfl
  · rw [if_neg c4]
    have c5 : isE s (dK s k) = false := by
      cases e : isE s (dK s k)
      · rfl
      · exact absurd ((isE_iff s _).1 e).1 c4
    rw [if_pos c5]
    refine ⟨0 - ((dP s k).size : Int), ?_, .inl rfl, fun _ => hb⟩
    show Option.map _ (if dK s k < s.size then none else _) = _
    rw [if_neg c4]
    show some (2, sgB s 0, dcV (strip0 _), _) = _
    rw [hd]
theorem rd_kind {s : ByteArray} {k : Nat} {ng : Bool} {d : Nat} {x : Int} (h0 : k ≠ 0) (h1 : k ≠ 1) (h2 : k ≠ 2) : ¬ rdAt s = some (k, ng, d, x) := by
  intro h
  unfold rdAt at h
  repeat' split at h
  all_goals first
    | (injection h with h; have := congrArg Prod.fst h; simp at this; omega)
    | (injection h)
/-- What DocParse answers. -/
def RefOk (f : Fm) (s : ByteArray) (v : Nat) (e : Int) : Prop :=
  if 4000 < s.size then v = 0 ∧ e = 7 else
  match rdAt s with
  | none => v = 0 ∧ e = 8
  | some (k, neg, m, x) => TokP f k neg m x v ∧ e = 0
theorem near_pat {f : Fm} (hf : f.ok) {d p q : Nat} {x y : Int} (h : NearX x y) (hd : d < 10 ^ dgMax) (hp : IsPat f (tn d x) (td x) p) (hq : IsPat f (tn d y) (td y) q) : p = q := by
  rcases h with h | h | h
  · subst h; exact hp.unique hq
  · by_cases h0 : d = 0
    · subst h0
      have e : ∀ x, tn 0 x = 0 := fun x => Nat.zero_mul _
      rw [e] at hp hq
      rw [pat_none (td_pos x) hp, pat_none (td_pos y) hq]
    · have hn1 : 1 ≤ (Lib.decDigits d).length := by have := (dcV_digits d).2.2.2; omega
      exact ((hp.unique (dec_high hf hn1 (digs_lo h0) (by omega))).trans (hq.unique (dec_high hf hn1 (digs_lo h0) (by omega))).symm)
  · have hl : ∀ z : Int, z ≤ -900000 → (dgMax : Int) + z < -400 := fun z hz => by unfold dgMax; omega
    exact (hp.unique (dec_low hf hd (hl x h.1))).trans (hq.unique (dec_low hf hd (hl y h.2))).symm
/-- The program and the reference answer alike. -/
theorem ref_par {f : Fm} (hf : f.ok) {s : ByteArray} {v u : Nat} {e k : Int} (h : ParOk f s v e) (g : RefOk f s u k) : v = u ∧ e = k := by
  unfold ParOk at h
  unfold RefOk at g
  by_cases c : 4000 < s.size
  · rw [if_pos c] at h g
    exact ⟨h.1.trans g.1.symm, h.2.trans g.2.symm⟩
  rw [if_neg c] at h g
  have hr := rd_tok (s := s) (by omega)
  cases hd : rdAt s with
  | none =>
    rw [hd] at hr g
    rw [show tokOf s = none from hr] at h
    exact ⟨h.1.trans g.1.symm, h.2.trans g.2.symm⟩
  | some t =>
    obtain ⟨k0, ng, d, x⟩ := t
    rw [hd] at hr g
    obtain ⟨y, ht, hn, hb⟩ := hr
    rw [ht] at h
    obtain ⟨h1, h2⟩ := h
    obtain ⟨g1, g2⟩ := g
    refine ⟨?_, h2.trans g2.symm⟩
    unfold TokP at h1 g1
    by_cases k1 : k0 = 0
    · rw [if_pos k1] at h1 g1; rw [h1, g1]
    rw [if_neg k1] at h1 g1
    by_cases k2 : k0 = 1
    · rw [if_pos k2] at h1 g1; rw [h1, g1]
    rw [if_neg k2] at h1 g1
    obtain ⟨p, hp, _, rfl⟩ := h1
    obtain ⟨q, hq, _, rfl⟩ := g1
    by_cases k3 : k0 = 2
    · rw [near_pat hf hn (hb k3) hq hp]
    · exact absurd hd (rd_kind k1 k2 k3)
end Go.Proofs.YtmfjimmodaofdaaGreatDoor
