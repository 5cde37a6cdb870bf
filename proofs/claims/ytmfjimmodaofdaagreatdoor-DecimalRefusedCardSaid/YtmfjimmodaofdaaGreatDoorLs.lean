/- The law Refused, plain: what stands in a number. · Walk of the law Refused. · Walk of the law Refused. -/
import Derived.Test.YtmfjimmodaofdaaGreatDoorEf
import Derived.Test.YtmfjimmodaofdaaGreatDoorEp
namespace Go.Proofs.YtmfjimmodaofdaaGreatDoor
open Go.RowKit

def digU (c : UInt8) : Bool := decide ((48 : Int) ≤ (c.toNat : Int)) && decide ((c.toNat : Int) ≤ 57)
/-- The bytes of numbers. -/
def plQ (c : UInt8) : Bool := digU c || (c == 43) || (c == 45) || (c == 46) || (c == 101) || (c == 69)
theorem isDec_digU {c : UInt8} (h : isDec c = true) : digU c = true := by
  obtain ⟨h1, h2⟩ := isDec_range c h
  unfold digU
  rw [Bool.and_eq_true, decide_eq_true_eq, decide_eq_true_eq]
  omega
theorem isDec_plQ {c : UInt8} (h : isDec c = true) : plQ c = true := by unfold plQ; rw [isDec_digU h]; rfl
theorem dc_all (s : ByteArray) (i j : Nat) (h1 : i ≤ j) (h2 : j < dcE s i) : isDec (by8 s j) = true := runTo_all _ _ _ _ _ h1 h2
theorem sg_plQ (s : ByteArray) (i j : Nat) (h1 : i ≤ j) (h2 : j < sgI s i) : plQ (by8 s j) = true := by
  unfold sgI at h2
  split at h2
  · rename_i h
    have : j = i := by omega
    subst this
    rcases h.2 with e | e <;> rw [e] <;> decide
  · omega
theorem sg_two (s : ByteArray) (i : Nat) : sgI s i ≤ i + 1 ∧ i ≤ sgI s i := by unfold sgI; split <;> omega
/-- A text that is a number has its bytes alone, and a digit. -/
theorem num_plain {s : ByteArray} {i : Nat} {d : List UInt8 × Int} (hi : i ≤ s.size) (h : decAt s i = some d) : (∀ j, i ≤ j → j < s.size → plQ (by8 s j) = true) ∧ ∃ j, i ≤ j ∧ j < s.size ∧ digU (by8 s j) = true := by
  have hge : i ≤ dcE s i := runTo_ge _ _ _ _
  have hle : dcE s i ≤ s.size := runTo_le _ _ _ _ hi
  unfold decAt at h
  split at h
  · exact absurd h (by simp)
  rename_i hd
  have hK : (∀ j, dcE s i ≤ j → j < dK s i → plQ (by8 s j) = true) ∧ dcE s i ≤ dK s i ∧ dK s i ≤ s.size := by
    unfold dK
    by_cases hp : ptQ s i = true
    · rw [if_pos hp]
      obtain ⟨p1, p2⟩ := (ptQ_iff s i).1 hp
      have g1 : dcE s i + 1 ≤ dcE s (dcE s i + 1) := runTo_ge _ _ _ _
      refine ⟨fun j j1 j2 => ?_, by omega, runTo_le _ _ _ _ (by omega)⟩
      by_cases e : j = dcE s i
      · rw [e, p2]; decide
      · exact isDec_plQ (dc_all s (dcE s i + 1) j (by omega) j2)
    · rw [if_neg hp]; exact ⟨fun j j1 j2 => by omega, Nat.le_refl _, hle⟩
  refine ⟨?_, ?_⟩
  · intro j j1 j2
    by_cases c1 : j < dcE s i
    · exact isDec_plQ (dc_all s i j j1 c1)
    by_cases c2 : j < dK s i
    · exact hK.1 j (by omega) c2
    split at h
    · exact absurd h (by simp)
    rename_i x k hx
    split at h
    · exact absurd h (by simp)
    rename_i hk
    unfold expAt at hx
    split at hx
    · injection hx with hx
      injection hx with _ hx
      omega
    rename_i hE
    obtain ⟨e1, e2⟩ := (isE_iff s (dK s i)).1 (by simpa using hE)
    split at hx
    · exact absurd hx (by simp)
    injection hx with hx
    injection hx with _ hx
    by_cases c3 : j = dK s i
    · rw [c3]; rcases e2 with e | e <;> rw [e] <;> decide
    by_cases c4 : j < sgI s (dK s i + 1)
    · exact sg_plQ s (dK s i + 1) j (by omega) c4
    · exact isDec_plQ (dc_all s (sgI s (dK s i + 1)) j (by omega) (by omega))
  · by_cases c1 : i < dcE s i
    · exact ⟨i, Nat.le_refl _, by omega, isDec_digU (dc_all s i i (Nat.le_refl _) c1)⟩
    have hw : (dW s i).size = 0 := by unfold dW; rw [size_ext _ _ _ hle]; omega
    have hp : (dP s i).size ≠ 0 := fun e => hd ⟨hw, e⟩
    unfold dP at hp
    by_cases hq : ptQ s i = true
    · rw [if_pos hq] at hp
      obtain ⟨p1, p2⟩ := (ptQ_iff s i).1 hq
      have hl : dcE s (dcE s i + 1) ≤ s.size := runTo_le _ _ _ _ (by omega)
      rw [size_ext _ _ _ hl] at hp
      exact ⟨dcE s i + 1, by omega, by omega, isDec_digU (dc_all s (dcE s i + 1) _ (Nat.le_refl _) (by omega))⟩
    · rw [if_neg hq] at hp
      exact absurd rfl hp
theorem by8_eq {s t : ByteArray} (hl : s.size = t.size) (h : ∀ j, j < s.size → by8 s j = by8 t j) : s = t := by
  have e : s.data.toList = t.data.toList := by
    have hl1 : s.data.toList.length = s.size := by rw [Array.length_toList]; rfl
    have hl2 : t.data.toList.length = t.size := by rw [Array.length_toList]; rfl
    refine List.ext_getElem (by omega) fun j h1 h2 => ?_
    have := h j (by omega)
    unfold by8 at this
    rwa [List.getD_eq_getElem?_getD, List.getD_eq_getElem?_getD, List.getElem?_eq_getElem h1, List.getElem?_eq_getElem h2] at this
  cases s
  cases t
  exact congrArg ByteArray.mk (Array.toList_inj.1 e)
theorem ext_self (s : ByteArray) : s.extract 0 s.size = s :=
  by8_eq (by rw [size_ext s 0 s.size (Nat.le_refl _)]; omega) fun j hj => by
    rw [size_ext s 0 s.size (Nat.le_refl _)] at hj
    rw [by8_extract s 0 s.size j (Nat.le_refl _) (by omega), Nat.zero_add]
/-- The words. -/
def wordQ (s : ByteArray) : Bool := decide (s = nanS) || decide (s = infS) || decide (s = ⟨#[43, 105, 110, 102]⟩) || decide (s = ⟨#[45, 105, 110, 102]⟩)
theorem word_tok {s : ByteArray} (h : wordQ s = true) : ∃ k neg m x, tokOf s = some (k, neg, m, x) ∧ k ≤ 1 := by
  unfold wordQ at h
  simp only [Bool.or_eq_true, decide_eq_true_eq] at h
  rcases h with ((h | h) | h) | h <;> subst h
  · exact ⟨0, false, 0, 0, by decide, by omega⟩
  · exact ⟨1, false, 0, 0, by decide, by omega⟩
  · exact ⟨1, false, 0, 0, by decide, by omega⟩
  · exact ⟨1, true, 0, 0, by decide, by omega⟩
theorem tok_num {s : ByteArray} (hw : wordQ s = false) {k : Nat} {neg : Bool} {m : Nat} {x : Int} (h : tokOf s = some (k, neg, m, x)) : ∃ d, decAt s (sgI s 0) = some d := by
  unfold tokOf at h
  split at h
  · rename_i hn
    subst hn
    exact absurd hw (by decide)
  split at h
  · rename_i hn
    exfalso
    have hs := sg_two s 0
    by_cases c : 0 < s.size ∧ (by8 s 0 = 45 ∨ by8 s 0 = 43)
    · have e : sgI s 0 = 1 := by unfold sgI; rw [if_pos c]
      rw [e] at hn
      have hz : s.size = 4 := by
        have := size_ext s 1 s.size (Nat.le_refl _)
        rw [hn] at this
        have h3 : infS.size = 3 := rfl
        omega
      have hb : ∀ j, j < 3 → by8 s (1 + j) = by8 infS j := fun j hj => by
        rw [← hn, by8_extract s 1 s.size j (Nat.le_refl _) (by omega)]
      have hall : ∀ c, by8 s 0 = c → s = ⟨#[c, 105, 110, 102]⟩ := fun c hc => by8_eq hz fun j hj => by
        rcases (show j = 0 ∨ j = 1 ∨ j = 2 ∨ j = 3 by omega) with e | e | e | e <;> subst e
        · rw [hc]; rfl
        · exact hb 0 (by omega)
        · exact hb 1 (by omega)
        · exact hb 2 (by omega)
      rcases c.2 with c | c
      · rw [hall _ c] at hw; exact absurd hw (by decide)
      · rw [hall _ c] at hw; exact absurd hw (by decide)
    · have e : sgI s 0 = 0 := by unfold sgI; rw [if_neg c]
      rw [e] at hn
      have : s = infS := by
        rw [← hn]; exact (ext_self s).symm
      subst this
      exact absurd hw (by decide)
  · cases hd : decAt s (sgI s 0) with
    | none => rw [hd] at h; exact absurd h (by simp)
    | some d => exact ⟨d, rfl⟩
theorem tok_inf {s : ByteArray} {k : Nat} {neg : Bool} {m : Nat} {x : Int} (h : tokOf s = some (k, neg, m, x)) : k = 0 ∨ k = 1 ∨ k = 2 := by
  unfold tokOf at h
  split at h
  · injection h with h; injection h with h _; exact .inl h.symm
  split at h
  · injection h with h; injection h with h _; exact .inr (.inl h.symm)
  · cases hd : decAt s (sgI s 0) with
    | none => rw [hd] at h; exact absurd h (by simp)
    | some d => rw [hd] at h; injection h with h; injection h with h _; exact .inr (.inr h.symm)
/-- What Parse answers of a text that is no word. -/
theorem par_text {f : Fm} {s : ByteArray} {v : Nat} {e : Int} (h : ParOk f s v e) (hl : s.size ≤ 4000) (hw : wordQ s = false) : (e = 8 ∧ v = 0) ∨ (e = 0 ∧ (∀ j, j < s.size → plQ (by8 s j) = true) ∧ ∃ j, j < s.size ∧ digU (by8 s j) = true) := by
  unfold ParOk at h
  rw [if_neg (by omega)] at h
  cases ht : tokOf s with
  | none => rw [ht] at h; exact .inl ⟨h.2, h.1⟩
  | some t =>
    obtain ⟨k, neg, m, x⟩ := t
    rw [ht] at h
    obtain ⟨d, hd⟩ := tok_num hw ht
    have hs := sg_two s 0
    obtain ⟨n1, j, j1, j2, j3⟩ := num_plain (sgI_le s 0 (Nat.zero_le _)) hd
    refine .inr ⟨h.2, fun j hj => ?_, j, j2, j3⟩
    by_cases c : j < sgI s 0
    · exact sg_plQ s 0 j (Nat.zero_le _) c
    · exact n1 j (by omega) hj
/-- .. of a word. -/
theorem par_word {f : Fm} (hf : f.ok) {s : ByteArray} {v : Nat} {e : Int} (h : ParOk f s v e) (hw : wordQ s = true) : e = 0 ∧ 2139095040 ≤ v % 2 ^ f.S := by
  have hl : s.size ≤ 4000 := by
    unfold wordQ at hw
    simp only [Bool.or_eq_true, decide_eq_true_eq] at hw
    rcases hw with ((h | h) | h) | h <;> subst h <;> decide
  unfold ParOk at h
  rw [if_neg (by omega)] at h
  obtain ⟨k, neg, m, x, ht, hk⟩ := word_tok hw
  rw [ht] at h
  refine ⟨h.2, ?_⟩
  have h1 := h.1
  unfold TokP at h1
  by_cases k0 : k = 0
  · rw [if_pos k0] at h1
    subst h1
    rcases hf with h | h <;> subst h <;> decide
  · rw [if_neg k0, if_pos (by omega)] at h1
    subst h1
    rcases hf with h | h <;> subst h <;> cases neg <;> decide
end Go.Proofs.YtmfjimmodaofdaaGreatDoor

namespace Go.Proofs.YtmfjimmodaofdaaGreatDoor
open Go.RowKit

def plI (y : Int) : Bool := (decide (48 ≤ y) && decide (y ≤ 57)) || (y == 43) || (y == 45) || (y == 46) || (y == 101) || (y == 69)
theorem u8_beq (c : UInt8) (n : Nat) (hn : n < 256) : (((c.toNat : Nat) : Int) == (n : Int)) = (c == UInt8.ofNat n) := by
  rw [Bool.eq_iff_iff, beq_iff_eq, beq_iff_eq, ← UInt8.toNat_inj, UInt8.toNat_ofNat', Nat.mod_eq_of_lt (by omega)]
  omega
theorem plI_at (c : UInt8) : plI ((c.toNat : Nat) : Int) = plQ c := by
  unfold plI plQ digU
  rw [show (43 : Int) = ((43 : Nat) : Int) from rfl, show (45 : Int) = ((45 : Nat) : Int) from rfl, show (46 : Int) = ((46 : Nat) : Int) from rfl, show (101 : Int) = ((101 : Nat) : Int) from rfl, show (69 : Int) = ((69 : Nat) : Int) from rfl, u8_beq c 43 (by omega), u8_beq c 45 (by omega), u8_beq c 46 (by omega), u8_beq c 101 (by omega), u8_beq c 69 (by omega)]
  rfl
set_option maxRecDepth 100000 in
theorem plain_walk (y : Int) (w : World) : Calls Tryz.prog 22 #[.int .u8 y] w fun e w' => e = .returned (.bool (plI y)) ∧ w' = w := by
  have hp : plI y = ((decide (48 ≤ y) && decide (y ≤ 57)) || (y == 43) || (y == 45) || (y == 46) || (y == 101) || (y == 69)) := rfl
  obtain ⟨c1, h1⟩ : ∃ c, (y == 43) = c := ⟨_, rfl⟩
  obtain ⟨c2, h2⟩ : ∃ c, (y == 45) = c := ⟨_, rfl⟩
  obtain ⟨c3, h3⟩ : ∃ c, (y == 46) = c := ⟨_, rfl⟩
  obtain ⟨c4, h4⟩ : ∃ c, (y == 101) = c := ⟨_, rfl⟩
  obtain ⟨c5, h5⟩ : ∃ c, (y == 69) = c := ⟨_, rfl⟩
  rw [h1, h2, h3, h4, h5] at hp
  by_cases a : 48 ≤ y
  · by_cases b : y ≤ 57
    · rw [decide_eq_true a, decide_eq_true b] at hp
      have HP := Lib.hid hp
      clear hp
      go_enter Tryz.func22, Tryz.ntmps22
      go_wp2
      go_ret
      exact ⟨by rw [HP.out]; simp, rfl⟩
    · rw [decide_eq_true a, decide_eq_false b] at hp
      have HP := Lib.hid hp
      clear hp
      cases c1 <;> cases c2 <;> cases c3 <;> cases c4
      all_goals
        go_enter Tryz.func22, Tryz.ntmps22
        go_wp2
        go_ret
        exact ⟨by rw [HP.out]; simp, rfl⟩
  · rw [decide_eq_false a] at hp
    have HP := Lib.hid hp
    clear hp
    cases c1 <;> cases c2 <;> cases c3 <;> cases c4
    all_goals
      go_enter Tryz.func22, Tryz.ntmps22
      go_wp2
      go_ret
      exact ⟨by rw [HP.out]; simp, rfl⟩
theorem tok_blank {f : Fm} {v : Nat} {e : Int} (h : ParOk f ⟨#[49, 32]⟩ v e) : v = 0 ∧ e = 8 := by
  unfold ParOk at h
  rw [if_neg (by decide), show tokOf ⟨#[49, 32]⟩ = none from by decide] at h
  exact h
theorem tok_minf {f : Fm} {v : Nat} {e : Int} (h : ParOk f ⟨#[45, 105, 110, 102]⟩ v e) : 2 ^ f.S ≤ v ∧ e = 0 := by
  unfold ParOk at h
  rw [if_neg (by decide), show tokOf ⟨#[45, 105, 110, 102]⟩ = some (1, true, 0, 0) from by decide] at h
  obtain ⟨h1, h2⟩ := h
  unfold TokP at h1
  rw [if_neg (by decide), if_pos (by decide)] at h1
  subst h1
  exact ⟨Nat.le_add_right _ _, h2⟩
end Go.Proofs.YtmfjimmodaofdaaGreatDoor

namespace Go.Proofs.YtmfjimmodaofdaaGreatDoor
open Go.RowKit

set_option maxRecDepth 100000 in
set_option maxHeartbeats 2000000 in
theorem refused_walk (d : Bool) (s : ByteArray) (hs : s.size ≤ 9223372036854775807) (w : World) (ht : Tab64 w) (h10 : Tab10 w) :
    Calls Tryz.prog 5 #[.bool d, .string s] w fun e w' => e = .returned (.bool true) ∧ Below w.heap.size w w' := by
  have hF := format_walk d w
  have hP := fun (x : ByteArray) (hx : x.size ≤ 9223372036854775807) W (h : Below w.heap.size w W) => dparse_walk (fmB d) (fmB_ok d) x W hx (ht.below h)
  have hS := fun W => lsign_walk d W
  have hA := fun W (h : Below w.heap.size w W) => awake_walk W (ht.below h) (h10.below h)
  have hF0 := fmB_ok d
  obtain ⟨F, hFd⟩ : ∃ F, fmB d = F := ⟨_, rfl⟩
  rw [hFd] at hF hP hS hF0
  obtain ⟨FF, hFF⟩ : ∃ FF, fmt F = FF := ⟨_, rfl⟩
  rw [hFF] at hF hP hS
  obtain ⟨SG, hSG⟩ : ∃ SG, 2 ^ F.S = SG := ⟨_, rfl⟩
  rw [hSG] at hS
  have hsg : 0 < SG := by rw [← hSG]; exact Nat.two_pow_pos _
  have HF := Lib.hid hF
  have HP := Lib.hid hP
  have HS := Lib.hid hS
  have HA := Lib.hid hA
  have HG := Lib.hid hSG
  have H0 := Lib.hid hF0
  have HSz := Lib.hid hs
  clear hF hP hS hA hFd hFF hSG ht h10 hF0
  go_enter Tryz.func5, Tryz.ntmps5
  go_wp2_with fail
  refine HF.out.mono ?_
  rintro e w0 ⟨rfl, hw0⟩
  have h := hw0.symm
  subst h
  clear hw0 HF
  go_wp2_with fail
  refine (HP.out ⟨#[49, 32]⟩ (by decide) _ (Below.refl _ _)).mono ?_
  rintro e w1 ⟨v1, k1, rfl, hok, hb1⟩
  obtain ⟨rfl, rfl⟩ := tok_blank hok
  have HW1 := Lib.hid hb1
  clear hok hb1
  go_wp2_with fail
  refine (HP.out ⟨#[45, 105, 110, 102]⟩ (by decide) _ HW1.out).mono ?_
  rintro e w2 ⟨v2, k2, rfl, hok, hb2⟩
  obtain ⟨hv2, rfl⟩ := tok_minf hok
  rw [HG.out] at hv2
  have HW2 := Lib.hid (below_chain HW1.out hb2)
  have hlt : ¬ (v2 : Int) < (SG : Int) := by omega
  clear hok hb2 hv2 HW1
  go_wp2_with fail
  refine (HS.out w2).mono ?_
  rintro e w3 ⟨rfl, hw3⟩
  have h := hw3.symm
  subst h
  clear hw3
  go_wp2_with fail
  refine (HA.out w2 HW2.out).mono ?_
  rintro e w4 ⟨rfl, hb4⟩
  have HW4 := Lib.hid (below_chain HW2.out hb4)
  clear hb4 hlt HA HW2
  go_wp2_with fail
  refine (HP.out s HSz.out _ HW4.out).mono ?_
  rintro e w5 ⟨v, k, rfl, hok, hb5⟩
  have HW5 := Lib.hid (below_chain HW4.out hb5)
  have HOk := Lib.hid hok
  clear hok hb5 HP HW4
  by_cases hl : 4000 < s.size
  · obtain ⟨rfl, rfl⟩ : v = 0 ∧ k = 7 := by
      have h := HOk.out
      unfold ParOk at h
      rwa [if_pos hl] at h
    have hl' : (4000 : Int) < (s.size : Int) := by omega
    clear HOk hl
    go_wp2
    go_ret
    exact ⟨rfl, HW5.out⟩
  have hl' : ¬ (4000 : Int) < (s.size : Int) := by omega
  obtain ⟨b1, hb1⟩ : ∃ b, (s.toList == [110, 97, 110]) = b := ⟨_, rfl⟩
  obtain ⟨b2, hb2⟩ : ∃ b, (s.toList == [105, 110, 102]) = b := ⟨_, rfl⟩
  obtain ⟨b3, hb3⟩ : ∃ b, (s.toList == [43, 105, 110, 102]) = b := ⟨_, rfl⟩
  obtain ⟨b4, hb4⟩ : ∃ b, (s.toList == [45, 105, 110, 102]) = b := ⟨_, rfl⟩
  have hwq : wordQ s = (b1 || b2 || b3 || b4) := by
    unfold wordQ
    rw [← hb1, ← hb2, ← hb3, ← hb4, ← str_eq s nanS, ← str_eq s infS, ← str_eq s ⟨#[43, 105, 110, 102]⟩, ← str_eq s ⟨#[45, 105, 110, 102]⟩]
    rfl
  by_cases hw : wordQ s = true
  · obtain ⟨rfl, hr⟩ := par_word H0.out HOk.out hw
    rw [HG.out] at hr
    have hm : Int.tmod (v : Int) (SG : Int) = ((v % SG : Nat) : Int) := rfl
    have hne : ¬ (SG : Int) = 0 := by omega
    obtain ⟨r, hr'⟩ : ∃ r, v % SG = r := ⟨_, rfl⟩
    rw [hr'] at hr hm
    have hge : decide ((2139095040 : Int) ≤ (r : Int)) = true := decide_eq_true (by omega)
    rw [hw] at hwq
    have HB := Lib.hid hwq
    clear HOk hl hw hwq hr hr' hsg
    cases b1
    · cases b2
      · cases b3
        · cases b4
          · exact absurd HB.out (by decide)
          · go_wp2_with fail
            refine (HS.out w5).mono ?_
            rintro e w6 ⟨rfl, hw6⟩
            have h := hw6.symm
            subst h
            clear hw6
            go_wp2
            go_ret
            exact ⟨rfl, HW5.out⟩
        · go_wp2_with fail
          refine (HS.out w5).mono ?_
          rintro e w6 ⟨rfl, hw6⟩
          have h := hw6.symm
          subst h
          clear hw6
          go_wp2
          go_ret
          exact ⟨rfl, HW5.out⟩
      · go_wp2_with fail
        refine (HS.out w5).mono ?_
        rintro e w6 ⟨rfl, hw6⟩
        have h := hw6.symm
        subst h
        clear hw6
        go_wp2
        go_ret
        exact ⟨rfl, HW5.out⟩
    · go_wp2_with fail
      refine (HS.out w5).mono ?_
      rintro e w6 ⟨rfl, hw6⟩
      have h := hw6.symm
      subst h
      clear hw6
      go_wp2
      go_ret
      exact ⟨rfl, HW5.out⟩
  have hw' : wordQ s = false := by simpa using hw
  rw [hw'] at hwq
  have hbs : b1 = false ∧ b2 = false ∧ b3 = false ∧ b4 = false := by
    cases b1 <;> cases b2 <;> cases b3 <;> cases b4 <;> first | exact ⟨rfl, rfl, rfl, rfl⟩ | exact absurd hwq (by decide)
  obtain ⟨rfl, rfl, rfl, rfl⟩ := hbs
  rcases par_text HOk.out (by omega) hw' with ⟨rfl, rfl⟩ | ⟨rfl, hpl, j0, hj0, hd0⟩
  · clear HOk hl hw hw' hwq
    go_wp2_with fail
    go_loopw [10, 11] (fun sv iv wr => ∃ (i : Nat) (sm : Bool), sv = .bool sm ∧ iv = .int .i64 (i : Int) ∧ i ≤ s.size ∧ Hid (True) ∧ Hid (Below w.heap.size w wr)) (fun _ iv _ => ((s.size : Int) - intOf iv).toNat)
    case atStart => exact ⟨0, false, rfl, rfl, Nat.zero_le _, Lib.hid (trivial), HW5⟩
    case round =>
      obtain ⟨i, sm, rfl, rfl, hi, HR, HWr⟩ := hrel
      by_cases hin : i < s.size
      · have hin' : (i : Int) < (s.size : Int) := by omega
        have hix := run_byte s i hin HSz.out wr
        obtain ⟨c, hc⟩ : ∃ c, by8 s i = c := ⟨_, rfl⟩
        have HC := Lib.hid hc
        rw [hc] at hix
        clear hc
        go_wp2_with fail
        refine (plain_walk _ wr).mono ?_
        rintro e w6 ⟨rfl, hw6⟩
        have h := hw6.symm
        subst h
        clear hw6
        rw [plI_at]
        by_cases hpl : plQ c = true
        · rw [hpl]
          obtain ⟨y, hy⟩ : ∃ y, ((c.toNat : Nat) : Int) = y := ⟨_, rfl⟩
          have hdg : digU c = (decide (48 ≤ y) && decide (y ≤ 57)) := by rw [← hy]; rfl
          have HD := Lib.hid hdg
          rw [hy] at hix ⊢
          clear hpl hdg hy
          cases sm
          · by_cases y1 : 48 ≤ y
            · by_cases y2 : y ≤ 57
              · go_wp2_with fail
                go_roundw
                case rel => exact ⟨i + 1, true, rfl, by simp, by omega, Lib.hid (trivial), HWr⟩
                case measure => simp [intOf]; omega
              · go_wp2_with fail
                go_roundw
                case rel => exact ⟨i + 1, false, by rw [decide_eq_false (Int.not_le.2 y2)], by simp, by omega, Lib.hid (trivial), HWr⟩
                case measure => simp [intOf]; omega
            · go_wp2_with fail
              go_roundw
              case rel => exact ⟨i + 1, false, rfl, by simp, by omega, Lib.hid (trivial), HWr⟩
              case measure => simp [intOf]; omega
          · go_wp2_with fail
            go_roundw
            case rel => exact ⟨i + 1, true, rfl, by simp, by omega, Lib.hid (trivial), HWr⟩
            case measure => simp [intOf]; omega
        · rw [Bool.not_eq_true] at hpl
          rw [hpl]
          clear hpl
          go_wp2
          go_ret
          exact ⟨rfl, HWr.out⟩
      · have hin' : ¬ (i : Int) < (s.size : Int) := by omega
        cases sm
        · go_wp2
          go_ret
          exact ⟨rfl, HWr.out⟩
        · go_wp2
          go_ret
          exact ⟨rfl, HWr.out⟩
  · have HPl := Lib.hid hpl
    have HJ := Lib.hid (And.intro hj0 hd0)
    clear HOk hl hw hw' hwq hpl hj0 hd0
    go_wp2_with fail
    go_loopw [10, 11] (fun sv iv wr => ∃ (i : Nat) (sm : Bool), sv = .bool sm ∧ iv = .int .i64 (i : Int) ∧ i ≤ s.size ∧ Hid (j0 < i → sm = true) ∧ Hid (Below w.heap.size w wr)) (fun _ iv _ => ((s.size : Int) - intOf iv).toNat)
    case atStart => exact ⟨0, false, rfl, rfl, Nat.zero_le _, Lib.hid (fun h => by omega), HW5⟩
    case round =>
      obtain ⟨i, sm, rfl, rfl, hi, HR, HWr⟩ := hrel
      by_cases hin : i < s.size
      · have hin' : (i : Int) < (s.size : Int) := by omega
        have hix := run_byte s i hin HSz.out wr
        obtain ⟨c, hc⟩ : ∃ c, by8 s i = c := ⟨_, rfl⟩
        have HC := Lib.hid hc
        rw [hc] at hix
        clear hc
        go_wp2_with fail
        refine (plain_walk _ wr).mono ?_
        rintro e w6 ⟨rfl, hw6⟩
        have h := hw6.symm
        subst h
        clear hw6
        rw [plI_at]
        by_cases hpl : plQ c = true
        · rw [hpl]
          obtain ⟨y, hy⟩ : ∃ y, ((c.toNat : Nat) : Int) = y := ⟨_, rfl⟩
          have hdg : digU c = (decide (48 ≤ y) && decide (y ≤ 57)) := by rw [← hy]; rfl
          have HD := Lib.hid hdg
          rw [hy] at hix ⊢
          clear hpl hdg hy
          cases sm
          · by_cases y1 : 48 ≤ y
            · by_cases y2 : y ≤ 57
              · go_wp2_with fail
                go_roundw
                case rel => exact ⟨i + 1, true, rfl, by simp, by omega, Lib.hid (fun _ => rfl), HWr⟩
                case measure => simp [intOf]; omega
              · go_wp2_with fail
                go_roundw
                case rel => exact ⟨i + 1, false, by rw [decide_eq_false (Int.not_le.2 y2)], by simp, by omega, Lib.hid (fun hj => by
                  by_cases e : j0 = i
                  · exfalso; have h1 := HJ.out.2; rw [e, HC.out, HD.out, Bool.and_eq_true, decide_eq_true_eq, decide_eq_true_eq] at h1; omega
                  · exact HR.out (by omega)), HWr⟩
                case measure => simp [intOf]; omega
            · go_wp2_with fail
              go_roundw
              case rel => exact ⟨i + 1, false, rfl, by simp, by omega, Lib.hid (fun hj => by
                  by_cases e : j0 = i
                  · exfalso; have h1 := HJ.out.2; rw [e, HC.out, HD.out, Bool.and_eq_true, decide_eq_true_eq, decide_eq_true_eq] at h1; omega
                  · exact HR.out (by omega)), HWr⟩
              case measure => simp [intOf]; omega
          · go_wp2_with fail
            go_roundw
            case rel => exact ⟨i + 1, true, rfl, by simp, by omega, Lib.hid (fun _ => rfl), HWr⟩
            case measure => simp [intOf]; omega
        · exact absurd (by rw [← HC.out]; exact HPl.out i hin) hpl
      · have hin' : ¬ (i : Int) < (s.size : Int) := by omega
        cases sm
        · exact absurd (HR.out (by have := HJ.out.1; omega)) (by decide)
        · go_wp2
          go_ret
          exact ⟨rfl, HWr.out⟩
end Go.Proofs.YtmfjimmodaofdaaGreatDoor
