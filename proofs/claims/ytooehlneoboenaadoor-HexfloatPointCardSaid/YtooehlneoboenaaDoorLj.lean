/- Walk of the law Point. -/
import Derived.Test.YtooehlneoboenaaDoorLg
import Derived.Test.YtooehlneoboenaaDoorLf
import Derived.Test.YtooehlneoboenaaDoorTc
namespace Go.Proofs.YtooehlneoboenaaDoor
open Go.RowKit Go.Sort

/-- A byte's place among the hexadecimal digits, as the law asks. -/
theorem isHex_iff (c : UInt8) : isHex c = (decide (48 ≤ c.toNat) && decide (c.toNat ≤ 57) || decide (97 ≤ c.toNat) && decide (c.toNat ≤ 102) || decide (65 ≤ c.toNat) && decide (c.toNat ≤ 70)) := by
  have h : ∀ n : Fin 256, isHex (UInt8.ofNat n.val) = (decide (48 ≤ n.val) && decide (n.val ≤ 57) || decide (97 ≤ n.val) && decide (n.val ≤ 102) || decide (65 ≤ n.val) && decide (n.val ≤ 70)) := by decide +kernel
  have := h ⟨c.toNat, c.toNat_lt⟩
  simpa using this

set_option maxRecDepth 100000 in
set_option maxHeartbeats 2000000 in
theorem hexes_walk (l : List UInt8) (hs : l.length ≤ 9223372036854775807) (w : World) :
    Calls Tryd.prog 16 #[.string (bs l)] w fun e w' => e = .returned (.bool (l.all isHex)) ∧ w' = w := by
  have hsz : (bs l).size = l.length := bs_size l
  obtain ⟨s, hS⟩ : ∃ s, bs l = s := ⟨_, rfl⟩
  have hby : ∀ k, by8 s k = l.getD k 0 := fun k => by rw [← hS]; rfl
  rw [hS] at hsz ⊢
  have HB := Lib.hid hby
  clear hS hby
  go_enter Tryd.func16, Tryd.ntmps16
  go_wp2_with fail
  go_loop [3] (fun i => ∃ k : Nat, k ≤ s.size ∧ i = .int .i64 (k : Int) ∧ Hid (∀ j, j < k → isHex (l.getD j 0) = true)) (fun i => s.size - (intOf i).toNat)
  case atStart => exact ⟨0, by omega, rfl, Lib.hid (fun j hj => by omega)⟩
  case round =>
    obtain ⟨k, hk, rfl, HK⟩ := hrel
    by_cases hlt : k < s.size
    · have hix := fun w => run_byte s k hlt (by omega) w
      obtain ⟨c, hc⟩ : ∃ c, l.getD k 0 = c := ⟨_, rfl⟩
      rw [HB.out k, hc] at hix
      have hh := isHex_iff c
      have hcb : ((c.toNat : Nat) : Int) ≤ 255 := by have := c.toNat_lt; omega
      have HHH := Lib.hid hh
      obtain ⟨b, hb⟩ : ∃ b, isHex c = b := ⟨_, rfl⟩
      obtain ⟨n, hn⟩ : ∃ n : Nat, c.toNat = n := ⟨_, rfl⟩
      rw [hn] at hix hcb hh
      rw [hb] at hh
      cases b
      · have HF := Lib.hid (show l.all isHex = false by
          rw [List.all_eq_false]
          refine ⟨c, ?_, by rw [hb]; simp⟩
          rw [← hc, List.getD_eq_getElem?_getD, List.getElem?_eq_getElem (by omega)]
          exact List.getElem_mem _)
        have h3 : ¬ (48 ≤ n ∧ n ≤ 57) ∧ ¬ (97 ≤ n ∧ n ≤ 102) ∧ ¬ (65 ≤ n ∧ n ≤ 70) := by simpa [Bool.or_eq_false_iff, not_and, and_assoc] using hh.symm
        have h4 : (n : Int) < 48 ∨ (57 < (n : Int) ∧ (n : Int) < 65) ∨ (70 < (n : Int) ∧ (n : Int) < 97) ∨ 102 < (n : Int) := by omega
        clear hh hc hb hn h3
        rcases h4 with h4 | ⟨h4, h5⟩ | ⟨h4, h5⟩ | h4
        · have i1 : ¬ (48 : Int) ≤ (n : Int) := by omega
          have i2 : ¬ (97 : Int) ≤ (n : Int) := by omega
          have i3 : ¬ (65 : Int) ≤ (n : Int) := by omega
          go_wp2
          go_ret
          exact ⟨by rw [HF.out]; rfl, rfl⟩
        · have i0 : (48 : Int) ≤ (n : Int) := by omega
          have i1 : ¬ (n : Int) ≤ 57 := by omega
          have i2 : ¬ (97 : Int) ≤ (n : Int) := by omega
          have i3 : ¬ (65 : Int) ≤ (n : Int) := by omega
          go_wp2
          go_ret
          exact ⟨by rw [HF.out]; rfl, rfl⟩
        · have i0 : (48 : Int) ≤ (n : Int) := by omega
          have i1 : ¬ (n : Int) ≤ 57 := by omega
          have i2 : ¬ (97 : Int) ≤ (n : Int) := by omega
          have i3 : (65 : Int) ≤ (n : Int) := by omega
          have i4 : ¬ (n : Int) ≤ 70 := by omega
          go_wp2
          go_ret
          exact ⟨by rw [HF.out]; rfl, rfl⟩
        · have i0 : (48 : Int) ≤ (n : Int) := by omega
          have i1 : ¬ (n : Int) ≤ 57 := by omega
          have i2 : (97 : Int) ≤ (n : Int) := by omega
          have i3 : ¬ (n : Int) ≤ 102 := by omega
          have i4 : (65 : Int) ≤ (n : Int) := by omega
          have i5 : ¬ (n : Int) ≤ 70 := by omega
          go_wp2
          go_ret
          exact ⟨by rw [HF.out]; rfl, rfl⟩
      · have HK2 := Lib.hid (show ∀ j, j < k + 1 → isHex (l.getD j 0) = true from fun j hj => by
          by_cases e : j = k
          · rw [e, hc]; exact hb
          · exact HK.out j (by omega))
        have h3 : (48 ≤ n ∧ n ≤ 57) ∨ (97 ≤ n ∧ n ≤ 102) ∨ (65 ≤ n ∧ n ≤ 70) := by simpa [Bool.or_eq_true, or_assoc] using hh.symm
        clear hh hc hb hn
        rcases h3 with ⟨h4, h5⟩ | ⟨h4, h5⟩ | ⟨h4, h5⟩
        · have i0 : (48 : Int) ≤ (n : Int) := by omega
          have i1 : (n : Int) ≤ 57 := by omega
          clear h4 h5
          go_wp2
          go_round
          case rel => exact ⟨k + 1, by omega, by go_num, HK2⟩
          case measure => simp [intOf]; omega
        · have i0 : (48 : Int) ≤ (n : Int) := by omega
          have i1 : ¬ (n : Int) ≤ 57 := by omega
          have i2 : (97 : Int) ≤ (n : Int) := by omega
          have i3 : (n : Int) ≤ 102 := by omega
          clear h4 h5
          go_wp2
          go_round
          case rel => exact ⟨k + 1, by omega, by go_num, HK2⟩
          case measure => simp [intOf]; omega
        · have i0 : (48 : Int) ≤ (n : Int) := by omega
          have i1 : ¬ (n : Int) ≤ 57 := by omega
          have i2 : ¬ (97 : Int) ≤ (n : Int) := by omega
          have i3 : (65 : Int) ≤ (n : Int) := by omega
          have i4 : (n : Int) ≤ 70 := by omega
          clear h4 h5
          go_wp2
          go_round
          case rel => exact ⟨k + 1, by omega, by go_num, HK2⟩
          case measure => simp [intOf]; omega
    · have hk2 : k = s.size := by omega
      subst hk2
      have HT := Lib.hid (show l.all isHex = true by
        rw [List.all_eq_true]
        intro c hc
        obtain ⟨j, hj, e⟩ := List.getElem_of_mem hc
        have := HK.out j (by omega)
        rw [List.getD_eq_getElem?_getD, List.getElem?_eq_getElem hj, e] at this
        exact this)
      go_wp2
      go_ret
      exact ⟨by rw [HT.out]; rfl, rfl⟩

/-- A hexadecimal digit's letter made great. -/
def upC (c : UInt8) : UInt8 := if 97 ≤ c.toNat ∧ c.toNat ≤ 102 then UInt8.ofNat (c.toNat - 32) else c
theorem upC_facts (c : UInt8) (h : isHex c = true) : isHex (upC c) = true ∧ hexV (upC c) = hexV c := by
  have h2 : ∀ n : Fin 256, isHex (UInt8.ofNat n.val) = true → isHex (upC (UInt8.ofNat n.val)) = true ∧ hexV (upC (UInt8.ofNat n.val)) = hexV (UInt8.ofNat n.val) := by decide +kernel
  have := h2 ⟨c.toNat, c.toNat_lt⟩
  simpa [h] using this
theorem upC_small (c : UInt8) (h1 : 97 ≤ c.toNat) (h2 : c.toNat ≤ 102) : ((upC c).toNat : Int) = (c.toNat : Int) - 97 + 65 := by
  unfold upC
  rw [if_pos ⟨h1, h2⟩]
  simp
  omega
theorem up_hexN (l : List UInt8) (h : ∀ c ∈ l, isHex c = true) : hexN (l.map upC) = hexN l ∧ ∀ c ∈ l.map upC, isHex c = true := by
  induction l with
  | nil => exact ⟨rfl, fun c hc => by simp at hc⟩
  | cons c t ih =>
    obtain ⟨i1, i2⟩ := ih fun x hx => h x (List.mem_cons_of_mem _ hx)
    obtain ⟨c1, c2⟩ := upC_facts c (h c (List.mem_cons_self ..))
    refine ⟨?_, fun x hx => ?_⟩
    · rw [List.map_cons, hexN_cons, hexN_cons, i1, c2, List.length_map]
    · rw [List.map_cons, List.mem_cons] at hx
      rcases hx with hx | hx
      · rw [hx]; exact c1
      · exact i2 x hx

set_option maxRecDepth 100000 in
set_option maxHeartbeats 2000000 in
theorem upper_walk (l : List UInt8) (hs : l.length ≤ 100000) (w : World) :
    Calls Tryd.prog 18 #[.string (bs l)] w fun e w' => e = .returned (.string (bs (l.map upC))) ∧ Below w.heap.size w w' := by
  have hsz : (bs l).size = l.length := bs_size l
  obtain ⟨s, hS⟩ : ∃ s, bs l = s := ⟨_, rfl⟩
  have hby : ∀ k, by8 s k = l.getD k 0 := fun k => by rw [← hS]; rfl
  rw [hS] at hsz ⊢
  have HB := Lib.hid hby
  clear hS hby
  go_enter Tryd.func18, Tryd.ntmps18
  go_wp2_with fail
  go_loopw [3, 4] (fun T i wr => ∃ k : Nat, k ≤ s.size ∧ i = .int .i64 (k : Int) ∧ T = .string (bs ((l.take k).map upC)) ∧ Hid (RowKit.Below w.heap.size w wr)) (fun _ i _ => s.size - (intOf i).toNat)
  case atStart => exact ⟨0, by omega, rfl, rfl, Lib.hid (Below.refl _ _)⟩
  case round =>
    obtain ⟨k, hk, rfl, rfl, HW⟩ := hrel
    by_cases hlt : k < s.size
    · have hix := fun w => run_byte s k hlt (by omega) w
      obtain ⟨c, hc⟩ : ∃ c, l.getD k 0 = c := ⟨_, rfl⟩
      rw [HB.out k, hc] at hix
      have hcb : ((c.toNat : Nat) : Int) ≤ 255 := by have := c.toNat_lt; omega
      have htk : l.take (k + 1) = l.take k ++ [c] := by
        rw [List.take_succ_eq_append_getElem (by omega)]
        rw [List.getD_eq_getElem?_getD, List.getElem?_eq_getElem (by omega)] at hc
        simp only [Option.getD_some] at hc
        rw [hc]
      have HTK := Lib.hid (show bs ((l.take k).map upC) ++ bs [upC c] = bs ((l.take (k + 1)).map upC) by rw [htk, List.map_append, bs_append]; rfl)
      have hl1 : (bs (List.take k (List.map upC l))).size ≤ 100000 := by rw [bs_size]; simp; omega
      obtain ⟨u, hu⟩ : ∃ u, upC c = u := ⟨_, rfl⟩
      rw [hu] at HTK
      have hcv : ∀ (W : World) (b : Nat), W.cell? ⟨b, 0, none⟩ = some (.int .u8 ((u.toNat : Nat) : Int)) → (convert 45 9 (.slice (some ⟨b, 0, none⟩) 1 1)).run Tryd.prog W = .ok (.string ⟨#[u]⟩) W := fun W b h =>
        run_convert_bytes_back (P := Tryd.prog) W 45 9 5 ⟨b, 0, none⟩ 1 [u] Tryd.underlying45 Tryd.underlying5 Tryd.underlying9 (fun j hj => by
          have e : j = 0 := by simpa using hj
          subst e
          simpa [Addr.add] using h)
      have HT2 := Lib.hid (show (Value.string (bs (List.take k (List.map upC l)) ++ (⟨#[u]⟩ : ByteArray))) = Value.string (bs ((l.take (k + 1)).map upC)) from congrArg Value.string (by rw [← HTK.out, List.map_take]; rfl))
      clear hc htk HTK
      by_cases hsm : 97 ≤ c.toNat ∧ c.toNat ≤ 102
      · have hu2 := upC_small c hsm.1 hsm.2
        rw [hu] at hu2
        obtain ⟨n, hn⟩ : ∃ n : Nat, c.toNat = n := ⟨_, rfl⟩
        rw [hn] at hix hcb hsm hu2
        have i1 : (97 : Int) ≤ (n : Int) := by omega
        have i2 : (n : Int) ≤ 102 := by omega
        rw [hu2] at hcv
        have HW2 := Lib.hid (below_chain HW.out (below_alloc' wr (.cells #[.int .u8 ((n : Int) - 97 + 65)] 5)))
        clear hu hn hsm hu2
        go_wp2
        go_roundw
        case rel => exact ⟨k + 1, by omega, by go_num, HT2.out, HW2⟩
        case measure => simp [intOf]; omega
      · have hu2 : u = c := by rw [← hu]; unfold upC; rw [if_neg hsm]
        subst hu2
        obtain ⟨n, hn⟩ : ∃ n : Nat, u.toNat = n := ⟨_, rfl⟩
        rw [hn] at hix hcb hsm hcv
        have HW2 := Lib.hid (below_chain HW.out (below_alloc' wr (.cells #[.int .u8 (n : Int)] 5)))
        have h4 : (n : Int) < 97 ∨ 102 < (n : Int) := by omega
        clear hu hn hsm
        rcases h4 with h4 | h4
        · have i1 : ¬ (97 : Int) ≤ (n : Int) := by omega
          clear h4
          go_wp2
          go_roundw
          case rel => exact ⟨k + 1, by omega, by go_num, HT2.out, HW2⟩
          case measure => simp [intOf]; omega
        · have i1 : (97 : Int) ≤ (n : Int) := by omega
          have i2 : ¬ (n : Int) ≤ 102 := by omega
          clear h4
          go_wp2
          go_roundw
          case rel => exact ⟨k + 1, by omega, by go_num, HT2.out, HW2⟩
          case measure => simp [intOf]; omega
    · have hk2 : k = s.size := by omega
      subst hk2
      have HE := Lib.hid (show l.take s.size = l by rw [hsz]; simp)
      go_wp2
      go_ret
      exact ⟨by rw [HE.out]; rfl, HW.out⟩
end Go.Proofs.YtooehlneoboenaaDoor
