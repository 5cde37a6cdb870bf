/- Walk of the laws' helper: digits. -/
import Derived.Test.YtmfjimmodaofdaaGreatDoorPy
namespace Go.Proofs.YtmfjimmodaofdaaGreatDoor
open Go.RowKit

theorem isDec_int (c : UInt8) : isDec c = (decide ((48 : Int) ≤ (c.toNat : Int)) && decide ((c.toNat : Int) ≤ 57)) := by
  rw [Bool.eq_iff_iff, isDec_iff, Bool.and_eq_true, decide_eq_true_eq, decide_eq_true_eq]
  omega
theorem take_next {T : List UInt8} {i : Nat} (h : i < T.length) : T.take (i + 1) = T.take i ++ [by8 (bs T) i] := by
  rw [List.take_add_one, List.getElem?_eq_getElem h, bs_by8, List.getD_eq_getElem?_getD, List.getElem?_eq_getElem h]; rfl
theorem pk_take {T : List UInt8} {i : Nat} (h : i < T.length) : (T.take (i + 1)).foldl pkD [] = pkD ((T.take i).foldl pkD []) (by8 (bs T) i) := by
  rw [take_next h, List.foldl_append]; rfl
theorem pk_len (l : List UInt8) : ∀ d, (l.foldl pkD d).length ≤ d.length + l.length := by
  induction l with
  | nil => intro d; simp
  | cons c t ih =>
    intro d
    rw [List.foldl_cons]
    have h1 := ih (pkD d c)
    have h2 : (pkD d c).length ≤ d.length + 1 := by unfold pkD; split <;> simp
    simp only [List.length_cons]
    omega
theorem tw_all (p : UInt8 → Bool) (A : List UInt8) (h : ∀ x ∈ A, p x = true) : A.takeWhile p = A := by
  induction A with
  | nil => rfl
  | cons a t ih => rw [List.takeWhile_cons_of_pos (h a (by simp)), ih fun x hx => h x (List.mem_cons_of_mem _ hx)]
/-- Up to the first e, or to the end. -/
theorem upto_take {T : List UInt8} {i : Nat} (hi : i ≤ T.length) (h : ∀ j, j < i → by8 (bs T) j ≠ 101) (hend : i = T.length ∨ by8 (bs T) i = 101) : uptoE T = T.take i := by
  unfold uptoE
  have hA : ∀ x ∈ T.take i, (x != 101) = true := fun x hx => by
    obtain ⟨j, hj, rfl⟩ := List.getElem_of_mem hx
    rw [List.length_take] at hj
    rw [bne_iff_ne, List.getElem_take]
    have := h j (by omega)
    rwa [bs_by8, List.getD_eq_getElem?_getD, List.getElem?_eq_getElem (by omega)] at this
  by_cases hl : i = T.length
  · subst hl
    have e : T.take T.length = T := List.take_length
    rw [e] at hA ⊢
    exact tw_all _ _ hA
  · have hc := hend.resolve_left hl
    have hlt : i < T.length := by omega
    have e : T = T.take i ++ 101 :: T.drop (i + 1) := by
      rw [bs_by8, List.getD_eq_getElem?_getD, List.getElem?_eq_getElem hlt] at hc
      have hc' : T[i] = 101 := hc
      rw [← hc', List.getElem_cons_drop]; exact (List.take_append_drop i T).symm
    conv => lhs; rw [e]
    exact takeWhile_stop _ _ _ _ hA rfl
theorem tl0_cut {d : List UInt8} (h : d ≠ []) (hl : by8 (bs d) (d.length - 1) = 48) : tl0 (d.take (d.length - 1)) = tl0 d := by
  have hlt : d.length - 1 < d.length := by have : d.length ≠ 0 := fun e => h (List.length_eq_zero_iff.1 e); omega
  have e : d = d.take (d.length - 1) ++ [48] := by
    have := take_next hlt
    rw [hl, show d.length - 1 + 1 = d.length by omega, List.take_length] at this
    exact this
  conv => rhs; rw [e]
  unfold tl0 Lib.trimRightB
  rw [List.reverse_append]
  show _ = (List.dropWhile (· == 48) (48 :: (d.take (d.length - 1)).reverse)).reverse
  rw [List.dropWhile_cons_of_pos (by decide)]
theorem tl0_done {d : List UInt8} (h : d = [] ∨ by8 (bs d) (d.length - 1) ≠ 48) : tl0 d = d := by
  by_cases h0 : d = []
  · rw [h0]; rfl
  have hn := h.resolve_left h0
  have hlt : d.length - 1 < d.length := by have : d.length ≠ 0 := fun e => h0 (List.length_eq_zero_iff.1 e); omega
  have e : d = d.take (d.length - 1) ++ [by8 (bs d) (d.length - 1)] := by
    have := take_next hlt
    rw [show d.length - 1 + 1 = d.length by omega, List.take_length] at this
    exact this
  obtain ⟨c, hc⟩ : ∃ c, by8 (bs d) (d.length - 1) = c := ⟨_, rfl⟩
  obtain ⟨l, hl⟩ : ∃ l, d.take (d.length - 1) = l := ⟨_, rfl⟩
  rw [hc, hl] at e
  rw [hc] at hn
  unfold tl0 Lib.trimRightB
  rw [e, List.reverse_append, List.reverse_singleton, List.singleton_append, List.dropWhile_cons_of_neg (by simpa using hn), List.reverse_cons, List.reverse_reverse]

set_option maxRecDepth 100000 in
set_option maxHeartbeats 4000000 in
theorem ldigits_walk (T : List UInt8) (hT : T.length ≤ 2000) (w : World) :
    Calls Tryz.prog 31 #[.string (bs T)] w fun e w' => e = .returned (.string (bs (digS T))) ∧ Below w.heap.size w w' := by
  have hsz := bs_size T
  obtain ⟨S, hS⟩ : ∃ S, bs T = S := ⟨_, rfl⟩
  have HS := Lib.hid hS
  rw [hS] at hsz ⊢
  have HSz := Lib.hid hsz
  clear hS hsz
  go_enter Tryz.func31, Tryz.ntmps31
  go_wp2_with fail
  go_loopw [3, 4] (fun dv iv wr => ∃ (i : Nat) (d : List UInt8), dv = .string (bs d) ∧ iv = .int .i64 (i : Int) ∧ i ≤ S.size ∧ Hid (d = (T.take i).foldl pkD []) ∧ Hid (∀ j, j < i → by8 S j ≠ 101) ∧ Hid (Below w.heap.size w wr)) (fun _ iv _ => S.size - (intOf iv).toNat)
  case atStart => exact ⟨0, [], rfl, rfl, Nat.zero_le _, Lib.hid rfl, Lib.hid (fun j h => by omega), Lib.hid (Below.refl _ _)⟩
  case round =>
    obtain ⟨i, d, rfl, rfl, hi, HD, HNo, HW⟩ := hrel
    have hdl : d.length ≤ 2000 := by
      have := pk_len (T.take i) []
      rw [← HD.out, List.length_take] at this
      simp only [List.length_nil] at this
      omega
    by_cases hgo : i < S.size ∧ by8 S i ≠ 101
    · have hin' : (i : Int) < (S.size : Int) := by omega
      have hi0 : (0 : Int) ≤ (i : Int) := by omega
      have hix := run_byte S i hgo.1 (by have := HSz.out; omega) wr
      have hcb : ((by8 S i).toNat : Int) ≤ 255 := by have := (by8 S i).toNat_lt; omega
      have HSt := Lib.hid (show (T.take (i + 1)).foldl pkD [] = pkD d (by8 S i) by rw [HD.out, pk_take (by have := HSz.out; omega), HS.out])
      have HNo2 := Lib.hid (show ∀ j, j < i + 1 → by8 S j ≠ 101 from fun j hj => by
        by_cases e : j = i
        · rw [e]; exact hgo.2
        · exact HNo.out j (by omega))
      have hne : ((((by8 S i).toNat : Nat) : Int) == 101) = false := by
        rw [beq_eq_false_iff_ne]
        intro e
        exact hgo.2 (UInt8.toNat_inj.1 (by have : (101 : UInt8).toNat = 101 := rfl; omega))
      have hdg := isDec_int (by8 S i)
      have h48 : ((((by8 S i).toNat : Nat) : Int) == 48) = decide (by8 S i = 48) := by
        rw [Bool.eq_iff_iff, beq_iff_eq, decide_eq_true_eq, ← UInt8.toNat_inj]
        have : (48 : UInt8).toNat = 48 := rfl
        omega
      have hemp : (bs d).toList.isEmpty = decide (d = []) := by
        rw [bs_list]
        cases d with
        | nil => rfl
        | cons a l => simp
      have hext : S.extract i (i + 1) = bs [by8 S i] := by
        rw [← HS.out, bs_ext]
        congr 1
        have hlt : i < T.length := by have := HSz.out; omega
        rw [bs_by8, List.getD_eq_getElem?_getD, List.getElem?_eq_getElem hlt, show i + 1 - i = 1 by omega, ← List.getElem_cons_drop hlt]; rfl
      have HL := Lib.hid hgo.1
      have hkl : (i : Int) + 1 ≤ (S.size : Int) := by omega
      have hki : IntKind.i64.wrap ((i : Int) + 1) = (i : Int) + 1 := by have := HSz.out; rw [IntKind.wrap_i64]; omega
      have HAp := Lib.hid (show bs d ++ bs [by8 S i] = bs (d ++ [by8 S i]) from bs_append _ _)
      have hs1 : (bs [by8 S i]).size = 1 := bs_size _
      have hs2 : (bs d).size ≤ 2000 := by rw [bs_size]; exact hdl
      obtain ⟨c, hc⟩ : ∃ c, by8 S i = c := ⟨_, rfl⟩
      rw [hc] at hix hcb HSt hne hdg h48 hext HAp hs1
      obtain ⟨DB, hDB⟩ : ∃ X, bs d = X := ⟨_, rfl⟩
      obtain ⟨CB, hCB⟩ : ∃ X, bs [c] = X := ⟨_, rfl⟩
      rw [hDB] at hemp HAp hs2 ⊢
      rw [hCB] at hext HAp hs1
      obtain ⟨y, hy⟩ : ∃ y, ((c.toNat : Nat) : Int) = y := ⟨_, rfl⟩
      rw [hy] at hix hcb hne hdg h48
      have hy0 : 0 ≤ y := by omega
      have hadd : ∀ W : World, (Op.stringOp .add DB CB).run Tryz.prog W = .ok (.string (bs (d ++ [c]))) W := fun W => by
        rw [run_string_add_sum W DB CB (by omega), HAp.out]
      have HDB := Lib.hid hDB
      have HR := Lib.hid (show (isDec c = true → ¬ (d = [] ∧ c = 48) → pkD d c = d ++ [c]) ∧ ((isDec c = false ∨ (d = [] ∧ c = 48)) → pkD d c = d) from
        ⟨fun h1 h2 => by unfold pkD; rw [if_pos ⟨h1, h2⟩], fun h => by unfold pkD; rw [if_neg (fun h2 => by rcases h with h | h; (· rw [h] at h2; exact absurd h2.1 (by decide)); (· exact h2.2 h))]⟩)
      clear hgo hc hDB hCB hy hs1 hs2 hdl HNo
      by_cases y1 : 48 ≤ y
      · by_cases y2 : y ≤ 57
        · have hdc : isDec c = true := by rw [hdg, decide_eq_true y1, decide_eq_true y2]; rfl
          by_cases hd0 : d = []
          · rw [decide_eq_true hd0] at hemp
            by_cases hc0 : c = 48
            · rw [decide_eq_true hc0] at h48
              have HF := Lib.hid (HR.out.2 (.inr ⟨hd0, hc0⟩))
              clear hdg hdc hd0 hc0 hext hadd
              go_wp2_with fail
              go_roundw
              case rel => exact ⟨i + 1, d, by rw [HDB.out], by simp, by have := HL.out; omega, Lib.hid (by rw [HSt.out, HF.out]), HNo2, HW⟩
              case measure => have := HL.out; simp [intOf]; omega
            · rw [decide_eq_false hc0] at h48
              have HF := Lib.hid (HR.out.1 hdc (fun h => hc0 h.2))
              clear hdg hdc hd0 hc0
              go_wp2_with fail
              go_roundw
              case rel => exact ⟨i + 1, _, rfl, by simp, by have := HL.out; omega, Lib.hid (by rw [HSt.out, HF.out]), HNo2, HW⟩
              case measure => have := HL.out; simp [intOf]; omega
          · rw [decide_eq_false hd0] at hemp
            have HF := Lib.hid (HR.out.1 hdc (fun h => hd0 h.1))
            clear hdg hdc hd0 h48
            go_wp2_with fail
            go_roundw
            case rel => exact ⟨i + 1, _, rfl, by simp, by have := HL.out; omega, Lib.hid (by rw [HSt.out, HF.out]), HNo2, HW⟩
            case measure => have := HL.out; simp [intOf]; omega
        · have hdc : isDec c = false := by rw [hdg, decide_eq_false y2, Bool.and_false]
          have y2d : decide (y ≤ 57) = false := decide_eq_false y2
          have HF := Lib.hid (HR.out.2 (.inl hdc))
          clear hdg hdc hext hadd h48
          go_wp2_with fail
          go_roundw
          case rel => exact ⟨i + 1, d, by rw [HDB.out], by simp, by have := HL.out; omega, Lib.hid (by rw [HSt.out, HF.out]), HNo2, HW⟩
          case measure => have := HL.out; simp [intOf]; omega
      · have hdc : isDec c = false := by rw [hdg, decide_eq_false y1, Bool.false_and]
        have y1d : decide (48 ≤ y) = false := decide_eq_false y1
        have HF := Lib.hid (HR.out.2 (.inl hdc))
        clear hdg hdc hext hadd h48
        go_wp2_with fail
        go_roundw
        case rel => exact ⟨i + 1, d, by rw [HDB.out], by simp, by have := HL.out; omega, Lib.hid (by rw [HSt.out, HF.out]), HNo2, HW⟩
        case measure => have := HL.out; simp [intOf]; omega
    · have HF := Lib.hid (show digS T = tl0 d by
        unfold digS
        rw [upto_take (i := i) (by have := HSz.out; omega) (by rw [HS.out]; exact HNo.out) (by
          rw [HS.out]
          by_cases h : i < S.size
          · exact .inr (Classical.byContradiction fun h2 => hgo ⟨h, h2⟩)
          · exact .inl (by have := HSz.out; omega)), ← HD.out])
      have hstop : (¬ (i : Int) < (S.size : Int)) ∨ ((i : Int) < (S.size : Int) ∧ by8 S i = 101) := by
        by_cases h : i < S.size
        · exact .inr ⟨by omega, Classical.byContradiction fun h2 => hgo ⟨h, h2⟩⟩
        · exact .inl (by omega)
      clear hgo
      rcases hstop with hin' | ⟨hin', hc⟩
      rotate_left
      · have hi0 : (0 : Int) ≤ (i : Int) := by omega
        have hix := run_byte S i (by omega) (by have := HSz.out; omega) wr
        rw [hc, show (((101 : UInt8).toNat : Nat) : Int) = 101 from rfl] at hix
        clear hc
        go_wp2_with fail
        go_loopw [3] (fun dv wq => ∃ (e : List UInt8), dv = .string (bs e) ∧ Hid (e.length ≤ 2000) ∧ Hid (digS T = tl0 e) ∧ Hid (Below w.heap.size w wq)) (fun dv _ => match dv with | .string x => x.size | _ => 0)
        case atStart => exact ⟨d, rfl, Lib.hid hdl, HF, HW⟩
        case round =>
          obtain ⟨e, rfl, HEl, HE, HWq⟩ := hrel
          by_cases h0 : e = []
          · have HFin := Lib.hid (show digS T = e by rw [HE.out, tl0_done (.inl h0)])
            have hz : (bs e).size = 0 := by rw [bs_size, h0]; rfl
            obtain ⟨E, hE⟩ : ∃ E, bs e = E := ⟨_, rfl⟩
            rw [hE] at hz ⊢
            have HEe := Lib.hid hE
            clear h0 hE
            go_wp2
            go_ret
            exact ⟨by rw [HFin.out, HEe.out]; rfl, HWq.out⟩
          · obtain ⟨k, hk⟩ : ∃ k, e.length = k + 1 := ⟨e.length - 1, by have : e.length ≠ 0 := fun h => h0 (List.length_eq_zero_iff.1 h); omega⟩
            have hEs := bs_size e
            have hex : (bs e).extract 0 k = bs (e.take k) := bs_take e k
            have hT48 : by8 (bs e) k = 48 → digS T = tl0 (e.take k) := fun h => by
              rw [HE.out, ← tl0_cut h0 (by rw [hk, Nat.add_sub_cancel]; exact h), hk, Nat.add_sub_cancel]
            have hTno : by8 (bs e) k ≠ 48 → digS T = e := fun h => by rw [HE.out, tl0_done (.inr (by rw [hk, Nat.add_sub_cancel]; exact h))]
            have hix := run_byte (bs e) k (by omega) (by have := HEl.out; omega) wr
            obtain ⟨E, hE⟩ : ∃ E, bs e = E := ⟨_, rfl⟩
            rw [hE] at hEs hex hT48 hTno hix ⊢
            have HEe := Lib.hid hE
            have HLk := Lib.hid (show (e.take k).length ≤ 2000 ∧ k < E.size ∧ (bs (e.take k)).size = k from ⟨by rw [List.length_take]; have := HEl.out; omega, by omega, by rw [bs_size, List.length_take]; omega⟩)
            have hp : 0 < E.size := by omega
            have hkw : IntKind.i64.wrap ((E.size : Int) - 1) = (k : Int) := by have := HEl.out; rw [IntKind.wrap_i64]; omega
            have r1 : (k : Int) < (E.size : Int) := by omega
            have r2 : (k : Int) ≤ (E.size : Int) := by omega
            have r3 : (0 : Int) ≤ (k : Int) := by omega
            by_cases hc : by8 E k = 48
            · rw [hc, show (((48 : UInt8).toNat : Nat) : Int) = 48 from rfl] at hix
              have HN := Lib.hid (hT48 hc)
              clear h0 hk hEs hT48 hTno hE hc
              go_wp2_with fail
              go_roundw
              case rel => exact ⟨_, rfl, Lib.hid HLk.out.1, HN, HWq⟩
              case measure => have := HLk.out; show (bs (e.take k)).size < E.size; omega
            · have hne : ((((by8 E k).toNat : Nat) : Int) == 48) = false := by
                rw [beq_eq_false_iff_ne]
                intro h
                exact hc (UInt8.toNat_inj.1 (by have : (48 : UInt8).toNat = 48 := rfl; omega))
              have HFin := Lib.hid (hTno hc)
              obtain ⟨y, hy⟩ : ∃ y, (((by8 E k).toNat : Nat) : Int) = y := ⟨_, rfl⟩
              rw [hy] at hix hne
              clear h0 hk hEs hT48 hTno hE hc hy hex
              go_wp2
              go_ret
              exact ⟨by rw [HFin.out, HEe.out]; rfl, HWq.out⟩
      · have hin'd : decide ((i : Int) < (S.size : Int)) = false := decide_eq_false hin'
        go_wp2_with fail
        go_loopw [3] (fun dv wq => ∃ (e : List UInt8), dv = .string (bs e) ∧ Hid (e.length ≤ 2000) ∧ Hid (digS T = tl0 e) ∧ Hid (Below w.heap.size w wq)) (fun dv _ => match dv with | .string x => x.size | _ => 0)
        case atStart => exact ⟨d, rfl, Lib.hid hdl, HF, HW⟩
        case round =>
          obtain ⟨e, rfl, HEl, HE, HWq⟩ := hrel
          by_cases h0 : e = []
          · have HFin := Lib.hid (show digS T = e by rw [HE.out, tl0_done (.inl h0)])
            have hz : (bs e).size = 0 := by rw [bs_size, h0]; rfl
            obtain ⟨E, hE⟩ : ∃ E, bs e = E := ⟨_, rfl⟩
            rw [hE] at hz ⊢
            have HEe := Lib.hid hE
            clear h0 hE
            go_wp2
            go_ret
            exact ⟨by rw [HFin.out, HEe.out]; rfl, HWq.out⟩
          · obtain ⟨k, hk⟩ : ∃ k, e.length = k + 1 := ⟨e.length - 1, by have : e.length ≠ 0 := fun h => h0 (List.length_eq_zero_iff.1 h); omega⟩
            have hEs := bs_size e
            have hex : (bs e).extract 0 k = bs (e.take k) := bs_take e k
            have hT48 : by8 (bs e) k = 48 → digS T = tl0 (e.take k) := fun h => by
              rw [HE.out, ← tl0_cut h0 (by rw [hk, Nat.add_sub_cancel]; exact h), hk, Nat.add_sub_cancel]
            have hTno : by8 (bs e) k ≠ 48 → digS T = e := fun h => by rw [HE.out, tl0_done (.inr (by rw [hk, Nat.add_sub_cancel]; exact h))]
            have hix := run_byte (bs e) k (by omega) (by have := HEl.out; omega) wr
            obtain ⟨E, hE⟩ : ∃ E, bs e = E := ⟨_, rfl⟩
            rw [hE] at hEs hex hT48 hTno hix ⊢
            have HEe := Lib.hid hE
            have HLk := Lib.hid (show (e.take k).length ≤ 2000 ∧ k < E.size ∧ (bs (e.take k)).size = k from ⟨by rw [List.length_take]; have := HEl.out; omega, by omega, by rw [bs_size, List.length_take]; omega⟩)
            have hp : 0 < E.size := by omega
            have hkw : IntKind.i64.wrap ((E.size : Int) - 1) = (k : Int) := by have := HEl.out; rw [IntKind.wrap_i64]; omega
            have r1 : (k : Int) < (E.size : Int) := by omega
            have r2 : (k : Int) ≤ (E.size : Int) := by omega
            have r3 : (0 : Int) ≤ (k : Int) := by omega
            by_cases hc : by8 E k = 48
            · rw [hc, show (((48 : UInt8).toNat : Nat) : Int) = 48 from rfl] at hix
              have HN := Lib.hid (hT48 hc)
              clear h0 hk hEs hT48 hTno hE hc
              go_wp2_with fail
              go_roundw
              case rel => exact ⟨_, rfl, Lib.hid HLk.out.1, HN, HWq⟩
              case measure => have := HLk.out; show (bs (e.take k)).size < E.size; omega
            · have hne : ((((by8 E k).toNat : Nat) : Int) == 48) = false := by
                rw [beq_eq_false_iff_ne]
                intro h
                exact hc (UInt8.toNat_inj.1 (by have : (48 : UInt8).toNat = 48 := rfl; omega))
              have HFin := Lib.hid (hTno hc)
              obtain ⟨y, hy⟩ : ∃ y, (((by8 E k).toNat : Nat) : Int) = y := ⟨_, rfl⟩
              rw [hy] at hix hne
              clear h0 hk hEs hT48 hTno hE hc hy hex
              go_wp2
              go_ret
              exact ⟨by rw [HFin.out, HEe.out]; rfl, HWq.out⟩
end Go.Proofs.YtmfjimmodaofdaaGreatDoor
