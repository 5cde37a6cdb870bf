/- Walk of the law Strange. -/
import Derived.Test.YtooehlneoboenaaDoorLf
import Derived.Test.YtooehlneoboenaaDoorQa
import Derived.Laws.Concat
namespace Go.Proofs.YtooehlneoboenaaDoor
open Go.RowKit Go.Sort

theorem kn_no (c : UInt8) (h : ∀ j, j < 31 → by8 knownSet j ≠ c) : isKn c = false := by
  cases hk : isKn c
  · rfl
  · exfalso
    unfold isKn at hk
    rw [List.contains_eq_mem, decide_eq_true_eq] at hk
    obtain ⟨j, hj, e⟩ := List.getElem_of_mem hk
    have hj2 : j < 31 := hj
    apply h j hj2
    unfold by8
    rw [List.getD_eq_getElem?_getD, List.getElem?_eq_getElem hj, e]; rfl
theorem parse_strange (f : Int) (hf : f = 32 ∨ f = 64) (s : ByteArray) (j : Nat) (hj : j < s.size) (hs : s.size ≤ 4000) (hk : isKn (by8 s j) = false) (w : World) (ht : Tab64 w) :
    Calls Tryd.prog 13 #[.int .i64 f, .string s] w fun e w' => e = .returned (.tuple #[.int .u64 0, .int .i64 8]) ∧ Below w.heap.size w w' := by
  rcases hf with rfl | rfl
  · refine (parse_walk_S s w (by omega) ht).mono fun e w' ⟨he, hb⟩ => ⟨?_, hb⟩
    rw [he, show prP fmS s = 0 by unfold prP; rw [if_pos hs, strange_none _ _ j hj hk]; rfl, show prE fmS s = 8 by unfold prE; rw [if_pos hs, strange_none _ _ j hj hk]; rfl]; rfl
  · refine (parse_walk_D s w (by omega) ht).mono fun e w' ⟨he, hb⟩ => ⟨?_, hb⟩
    rw [he, show prP fmD s = 0 by unfold prP; rw [if_pos hs, strange_none _ _ j hj hk]; rfl, show prE fmD s = 8 by unfold prE; rw [if_pos hs, strange_none _ _ j hj hk]; rfl]; rfl

set_option maxRecDepth 100000 in
set_option maxHeartbeats 2000000 in
theorem strange_main (f : Int) (hf : f = 32 ∨ f = 64) (s : ByteArray) (a : Nat) (c : UInt8) (w : World) (hs : s.size < 4000) (ha : a ≤ s.size) (ht : Tab64 w) (h10 : Tab10 w) :
    Calls Tryd.prog 7 #[.int .i64 f, .string s, .int .i64 (a : Int), .int .u8 (c.toNat : Int)] w fun e w' => e = .returned (.bool true) ∧ Below w.heap.size w w' := by
  have HT := Lib.hid ht
  have H10 := Lib.hid h10
  have hs1 : ((s.size : Nat) : Int) < 4000 := by omega
  have hs2 : ¬ (4000 : Int) ≤ ((s.size : Nat) : Int) := by omega
  have ha1 : (a : Int) ≤ ((s.size : Nat) : Int) := by omega
  have HFm := Lib.hid hf
  clear ht h10
  go_enter Tryd.func7, Tryd.ntmps7
  go_name_bytes KN hKN
  have eKN : KN = knownSet := by rw [← hKN]; decide +kernel
  subst eKN
  clear hKN
  go_wp2_with fail
  refine (awake_walk w HT.out H10.out).mono ?_
  rintro e w1 ⟨rfl, hb1⟩
  have HW1 := Lib.hid hb1
  clear hb1
  go_wp2_with fail
  refine (formats_yes f HFm.out _).mono ?_
  rintro e w2 ⟨rfl, rfl⟩
  go_wp2_with fail
  have hkz : ((knownSet.size : Nat) : Int) = 31 := by decide
  go_loop [10] (fun i => ∃ k : Nat, k ≤ 31 ∧ i = .int .i64 (k : Int) ∧ Hid (∀ j, j < k → by8 knownSet j ≠ c)) (fun i => 31 - (intOf i).toNat)
  case atStart => exact ⟨0, by omega, rfl, Lib.hid (fun j hj => by omega)⟩
  case round =>
    obtain ⟨k, hk, rfl, HK⟩ := hrel
    by_cases hlt : k < 31
    · have hix := fun w => run_byte knownSet k (by have : knownSet.size = 31 := by decide
                                                   omega) (by decide) w
      obtain ⟨x, hx⟩ : ∃ x, by8 knownSet k = x := ⟨_, rfl⟩
      rw [hx] at hix
      by_cases hxc : x = c
      · have hb : (((x.toNat : Nat) : Int) == ((c.toNat : Nat) : Int)) = true := by rw [hxc]; simp
        clear hx hxc
        go_wp2
        go_ret
        exact ⟨rfl, HW1.out⟩
      · have hb : (((x.toNat : Nat) : Int) == ((c.toNat : Nat) : Int)) = false := by
          rw [beq_eq_false_iff_ne]
          intro e
          exact hxc (UInt8.toNat_inj.1 (by omega))
        have HK2 := Lib.hid (show ∀ j, j < k + 1 → by8 knownSet j ≠ c from fun j hj => by
          by_cases e : j = k
          · rw [e, hx]; exact hxc
          · exact HK.out j (by omega))
        clear hx hxc
        go_wp2
        go_round
        case rel => exact ⟨k + 1, by omega, by go_num, HK2⟩
        case measure => simp [intOf]; omega
    · have hk31 : k = 31 := by omega
      subst hk31
      have HN := Lib.hid (kn_no c HK.out)
      have hcv : ∀ (W : World) (b : Nat), W.cell? ⟨b, 0, none⟩ = some (.int .u8 ((c.toNat : Nat) : Int)) → (convert 45 9 (.slice (some ⟨b, 0, none⟩) 1 1)).run Tryd.prog W = .ok (.string ⟨#[c]⟩) W := fun W b h =>
        run_convert_bytes_back (P := Tryd.prog) W 45 9 5 ⟨b, 0, none⟩ 1 [c] Tryd.underlying45 Tryd.underlying5 Tryd.underlying9 (fun j hj => by
          have e : j = 0 := by simpa using hj
          subst e
          simpa [Addr.add] using h)
      have HT1 := Lib.hid (HT.out.below HW1.out)
      have ha0 : 0 ≤ (a : Int) := by omega
      obtain ⟨A, hA⟩ : ∃ A, s.extract 0 a = A := ⟨_, rfl⟩
      obtain ⟨B, hB⟩ : ∃ B, s.extract a s.size = B := ⟨_, rfl⟩
      have hAs : A.size = a := by rw [← hA, size_ext _ _ _ ha]; omega
      have hBs : B.size = s.size - a := by rw [← hB, size_ext _ _ _ (Nat.le_refl _)]
      obtain ⟨AC, hAC⟩ : ∃ AC, A ++ (⟨#[c]⟩ : ByteArray) = AC := ⟨_, rfl⟩
      have hACs : AC.size = a + 1 := by rw [← hAC, ByteArray.size_append, hAs]; rfl
      obtain ⟨T, hT⟩ : ∃ T, AC ++ B = T := ⟨_, rfl⟩
      have hTs : T.size = s.size + 1 := by rw [← hT, ByteArray.size_append, hACs, hBs]; omega
      have hTa : by8 T a = c := by
        rw [← hT, by8_append, if_pos (by omega), ← hAC, by8_append, if_neg (by omega), hAs, Nat.sub_self]; rfl
      have hd1 : ∀ W : World, (Op.stringOp .add A ⟨#[c]⟩).run Tryd.prog W = .ok (.string AC) W := fun W => by
        rw [run_string_add_sum W A ⟨#[c]⟩ (by rw [hAs]; show a + 1 ≤ _; omega), hAC]
      have hd2 : ∀ W : World, (Op.stringOp .add AC B).run Tryd.prog W = .ok (.string T) W := fun W => by
        rw [run_string_add_sum W AC B (by omega), hT]
      have HP := Lib.hid (fun W hW => parse_strange f HFm.out T a (by omega) (by omega) (by rw [hTa]; exact HN.out) W hW)
      clear hAs hBs hAC hACs hT hTs hTa
      go_wp2_with fail
      go_region_with (go_at_call 13; refine (HP.out _ (HT1.out.below (below_chain (below_alloc' _ _) (below_draw' _)))).mono ?_; rintro e w5 ⟨rfl, hb5⟩)
      all_goals
        have HWf := Lib.hid (show RowKit.Below w.heap.size w w5 from below_chain (below_chain HW1.out (below_chain (below_alloc' _ _) (below_draw' _))) hb5)
        go_wp2
        go_ret
        exact ⟨rfl, HWf.out⟩

set_option maxRecDepth 100000 in
/-- The law's walk: whatever the arguments, it answers true. -/
theorem strange_walk (f : Int) (s : ByteArray) (a : Int) (c : UInt8) (w : World) (hs : s.size ≤ 9223372036854775807) (ht : Tab64 w) (h10 : Tab10 w) :
    Calls Tryd.prog 7 #[.int .i64 f, .string s, .int .i64 a, .int .u8 (c.toNat : Int)] w fun e w' => e = .returned (.bool true) ∧ Below w.heap.size w w' := by
  have HT := Lib.hid ht
  have H10 := Lib.hid h10
  clear ht h10
  by_cases hf : f = 32 ∨ f = 64
  · have HFm := Lib.hid hf
    clear hf
    by_cases h1 : 4000 ≤ ((s.size : Nat) : Int)
    · go_enter Tryd.func7, Tryd.ntmps7
      go_wp2_with fail
      refine (awake_walk w HT.out H10.out).mono ?_
      rintro e w1 ⟨rfl, hb1⟩
      go_wp2_with fail
      refine (formats_yes f HFm.out _).mono ?_
      rintro e w2 ⟨rfl, rfl⟩
      go_wp2
      go_ret
      exact ⟨rfl, hb1⟩
    by_cases h2 : a < 0
    · have h1' : ((s.size : Nat) : Int) < 4000 := by omega
      go_enter Tryd.func7, Tryd.ntmps7
      go_wp2_with fail
      refine (awake_walk w HT.out H10.out).mono ?_
      rintro e w1 ⟨rfl, hb1⟩
      go_wp2_with fail
      refine (formats_yes f HFm.out _).mono ?_
      rintro e w2 ⟨rfl, rfl⟩
      go_wp2
      go_ret
      exact ⟨rfl, hb1⟩
    by_cases h3 : ((s.size : Nat) : Int) < a
    · have h1' : ((s.size : Nat) : Int) < 4000 := by omega
      have h2' : 0 ≤ a := by omega
      go_enter Tryd.func7, Tryd.ntmps7
      go_wp2_with fail
      refine (awake_walk w HT.out H10.out).mono ?_
      rintro e w1 ⟨rfl, hb1⟩
      go_wp2_with fail
      refine (formats_yes f HFm.out _).mono ?_
      rintro e w2 ⟨rfl, rfl⟩
      go_wp2
      go_ret
      exact ⟨rfl, hb1⟩
    obtain ⟨n, rfl⟩ : ∃ n : Nat, a = (n : Int) := ⟨a.toNat, by omega⟩
    exact strange_main f HFm.out s n c w (by omega) (by omega) HT.out H10.out
  · have HN := Lib.hid (show f ≠ 32 ∧ f ≠ 64 from ⟨fun e => hf (.inl e), fun e => hf (.inr e)⟩)
    clear hf
    go_enter Tryd.func7, Tryd.ntmps7
    go_wp2_with fail
    refine (awake_walk w HT.out H10.out).mono ?_
    rintro e w1 ⟨rfl, hb1⟩
    go_wp2_with fail
    refine (formats_no f HN.out.1 HN.out.2 _).mono ?_
    rintro e w2 ⟨rfl, rfl⟩
    go_wp2
    go_ret
    exact ⟨rfl, hb1⟩
end Go.Proofs.YtooehlneoboenaaDoor
