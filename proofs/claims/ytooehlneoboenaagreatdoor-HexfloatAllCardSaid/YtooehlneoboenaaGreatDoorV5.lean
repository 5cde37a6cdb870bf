/- Walks of gnomonref10: digit, find, signed. · Walk of gnomonref10: power. · Walk of gnomonref10: Number. · Walk of gnomonref10: Number behind a good front. · Walk of gnomonref10: Number, a p is there, no exponent behind it. · Walk of gnomonref10: Number, a p is there. · Walk of gnomonref10: Number. -/
import Derived.Test.YtooehlneoboenaaGreatDoorTk
import Derived.Test.YtooehlneoboenaaGreatDoorVf
namespace Go.Proofs.YtooehlneoboenaaGreatDoor
open Go.RowKit

theorem hex_not (c : UInt8) (h : isHex c = false) : ¬ (48 ≤ c.toNat ∧ c.toNat ≤ 57) ∧ ¬ (97 ≤ c.toNat ∧ c.toNat ≤ 102) ∧ ¬ (65 ≤ c.toNat ∧ c.toNat ≤ 70) := by
  have key : ∀ n : Fin 256, isHex (UInt8.ofNat n.val) = false → ¬ (48 ≤ n.val ∧ n.val ≤ 57) ∧ ¬ (97 ≤ n.val ∧ n.val ≤ 102) ∧ ¬ (65 ≤ n.val ∧ n.val ≤ 70) := by decide +kernel
  have := key ⟨c.toNat, c.toNat_lt⟩
  rw [UInt8.ofNat_toNat] at this
  exact this h

set_option maxRecDepth 100000 in
theorem rdigit_walk (c : UInt8) (w : World) :
    Calls Tryz.prog 43 #[.int .u8 (c.toNat : Int)] w fun e w' => e = .returned (.int .i64 (if isHex c = true then ((hexV c : Nat) : Int) else -1)) ∧ w' = w := by
  have hlt : c.toNat < 256 := c.toNat_lt
  cases h : isHex c
  · obtain ⟨h1, h2, h3⟩ := hex_not c h
    rw [if_neg (by decide)]
    clear h
    generalize c.toNat = n at *
    by_cases a1 : n < 48
    · go_enter Tryz.func43, Tryz.ntmps43
      go_wp2
      go_ret
      exact ⟨rfl, rfl⟩
    by_cases a2 : n < 65
    · have b1 : 58 ≤ n := by omega
      clear h1 h2 h3 a1
      go_enter Tryz.func43, Tryz.ntmps43
      go_wp2
      go_ret
      exact ⟨rfl, rfl⟩
    by_cases a3 : n < 97
    · have b1 : 71 ≤ n := by omega
      clear h1 h2 h3 a1 a2
      go_enter Tryz.func43, Tryz.ntmps43
      go_wp2
      go_ret
      exact ⟨rfl, rfl⟩
    · have b1 : 103 ≤ n := by omega
      clear h1 h2 h3 a1 a2 a3
      go_enter Tryz.func43, Tryz.ntmps43
      go_wp2
      go_ret
      exact ⟨rfl, rfl⟩
  · have hr := isHex_range c h
    rw [if_pos rfl]
    unfold hexV
    clear h
    generalize c.toNat = n at *
    rcases hr with hr | hr | hr
    · obtain ⟨h1, h2⟩ := hr
      rw [if_pos h2]
      go_enter Tryz.func43, Tryz.ntmps43
      go_wp2
      go_ret
      exact ⟨ret_int (by omega), rfl⟩
    · obtain ⟨h1, h2⟩ := hr
      rw [if_neg (by omega), if_pos h1]
      go_enter Tryz.func43, Tryz.ntmps43
      go_wp2
      go_ret
      exact ⟨ret_int (by omega), rfl⟩
    · obtain ⟨h1, h2⟩ := hr
      rw [if_neg (by omega), if_neg (by omega)]
      go_enter Tryz.func43, Tryz.ntmps43
      go_wp2
      go_ret
      exact ⟨ret_int (by omega), rfl⟩

theorem tw_facts (q : UInt8 → Bool) (l : List UInt8) : (l.takeWhile q).length ≤ l.length ∧ (∀ k, k < (l.takeWhile q).length → q (l.getD k 0) = true) ∧ ((l.takeWhile q).length < l.length → q (l.getD (l.takeWhile q).length 0) = false) := by
  induction l with
  | nil => simp
  | cons c t ih =>
    by_cases h : q c = true
    · rw [List.takeWhile_cons_of_pos h]
      refine ⟨by simp; exact ih.1, fun k hk => ?_, fun hk => ?_⟩
      · cases k with
        | zero => exact h
        | succ k => simp at hk ⊢; have := ih.2.1 k hk; simpa using this
      · simp at hk ⊢; have := ih.2.2 hk; simpa using this
    · rw [List.takeWhile_cons_of_neg h]
      refine ⟨by simp, fun k hk => by simp at hk, fun _ => by simpa using h⟩
def fdI (q : UInt8 → Bool) (l : List UInt8) : Int := if (l.takeWhile q).length < l.length then ((l.takeWhile q).length : Int) else -1
def twoQ (a b c : UInt8) : Bool := !(c == a || c == b)
theorem u8_beq (c a : UInt8) : (((c.toNat : Nat) : Int) == ((a.toNat : Nat) : Int)) = (c == a) := by
  rw [Bool.eq_iff_iff, beq_iff_eq, beq_iff_eq]
  constructor
  · intro h; exact UInt8.toNat_inj.1 (by omega)
  · intro h; rw [h]

set_option maxRecDepth 100000 in
set_option maxHeartbeats 1000000 in
theorem rfind_walk (l : List UInt8) (a b : UInt8) (hl : l.length ≤ 100000) (w : World) :
    Calls Tryz.prog 41 #[.string (bs l), .int .u8 (a.toNat : Int), .int .u8 (b.toNat : Int)] w fun e w' => e = .returned (.int .i64 (fdI (twoQ a b) l)) ∧ w' = w := by
  obtain ⟨f1, f2, f3⟩ := tw_facts (twoQ a b) l
  obtain ⟨n, hn⟩ : ∃ n, (l.takeWhile (twoQ a b)).length = n := ⟨_, rfl⟩
  have hr : fdI (twoQ a b) l = if n < l.length then (n : Int) else -1 := by unfold fdI; rw [hn]
  rw [hr]
  rw [hn] at f1 f2 f3
  have F2 := Lib.hid f2
  have F3 := Lib.hid f3
  have hsz := bs_size l
  obtain ⟨s, hs⟩ : ∃ s, bs l = s := ⟨_, rfl⟩
  have HG := Lib.hid (fun k => show by8 s k = l.getD k 0 by rw [← hs]; rfl)
  rw [hs] at hsz
  rw [hs]
  obtain ⟨m, hm⟩ : ∃ m, l.length = m := ⟨_, rfl⟩
  rw [hm] at f1 F3 hsz hl ⊢
  have HS := Lib.hid hsz
  have hszi : ((s.size : Nat) : Int) = (m : Int) := by omega
  obtain ⟨V, hV⟩ : ∃ V, (if n < m then (n : Int) else -1) = V := ⟨_, rfl⟩
  rw [hV]
  have HV := Lib.hid hV
  clear f2 f3 hn hr hs hm hsz hV
  go_enter Tryz.func41, Tryz.ntmps41
  go_wp2_with fail
  go_loop [7] (fun i => ∃ k : Nat, k ≤ n ∧ i = .int .i64 (k : Int)) (fun i => m - (intOf i).toNat)
  case atStart => exact ⟨0, by omega, rfl⟩
  case round =>
    obtain ⟨k, hk, rfl⟩ := hrel
    by_cases hkn : k < n
    · have hq := F2.out k hkn
      have hix := fun w => run_byte s k (by have := HS.out; omega) (by have := HS.out; omega) w
      rw [← HG.out k] at hq
      generalize by8 s k = c at *
      unfold twoQ at hq
      have hq1 : (c == a) = false := by cases h : c == a <;> simp [h] at hq ⊢
      have hq2 : (c == b) = false := by cases h : c == b <;> simp [h] at hq ⊢
      rw [← u8_beq] at hq1 hq2
      have hkm : (k : Int) < (m : Int) := by omega
      clear hq
      go_wp2
      go_round
      case rel => exact ⟨k + 1, hkn, by go_num⟩
      case measure => simp [intOf]; omega
    · have hkn2 : k = n := by omega
      subst hkn2
      by_cases hkm : k < m
      · have hq := F3.out hkm
        have hix := fun w => run_byte s k (by have := HS.out; omega) (by have := HS.out; omega) w
        rw [← HG.out k] at hq
        have e := HV.out
        rw [if_pos hkm] at e
        subst e
        generalize by8 s k = c at *
        unfold twoQ at hq
        have hkmi : (k : Int) < (m : Int) := by omega
        cases h1 : c == a
        · have h2 : (c == b) = true := by cases h : c == b <;> simp [h, h1] at hq ⊢
          rw [← u8_beq] at h1 h2
          clear hq
          go_wp2
          go_ret
          exact ⟨rfl, rfl⟩
        · rw [← u8_beq] at h1
          clear hq
          go_wp2
          go_ret
          exact ⟨rfl, rfl⟩
      · have e := HV.out
        rw [if_neg hkm] at e
        subst e
        have hkmi : (m : Int) ≤ (k : Int) := by omega
        go_wp2
        go_ret
        exact ⟨rfl, rfl⟩

set_option maxRecDepth 100000 in
theorem rsigned_walk (l : List UInt8) (hl : l.length ≤ 100000) (w : World) :
    Calls Tryz.prog 21 #[.string (bs l)] w fun e w' => e = .returned (.tuple #[.string (bs (sgT l)), .bool (sgM l)]) ∧ Below w.heap.size w w' := by
  cases l with
  | nil =>
    have hb : (bs []).toList.isEmpty = true := by rw [bs_list]; rfl
    go_enter Tryz.func21, Tryz.ntmps21
    go_wp2
    go_ret2
    exact ⟨rfl, Below.refl _ _⟩
  | cons c t =>
    have hb : (bs (c :: t)).toList.isEmpty = false := by rw [bs_list]; rfl
    have hsz : (bs (c :: t)).size = t.length + 1 := by rw [bs_size]; rfl
    have hix : ∀ w, (Instr.index 9 (.string (bs (c :: t))) (.int .i64 0)).run Tryz.prog w = .ok (.int .u8 (c.toNat : Int)) w := fun w => run_byte (bs (c :: t)) 0 (by omega) (by have := hl; simp at this; omega) w
    have hex : (bs (c :: t)).extract 1 (bs (c :: t)).size = bs t := by
      apply ByteArray.ext
      apply Array.ext'
      rw [Lib.extract_data, hsz]
      show ((c :: t).drop 1).take (t.length + 1 - 1) = t
      simp
    have hpos : (1 : Int) ≤ ((bs (c :: t)).size : Int) := by omega
    rw [hsz] at hex
    have HEX := Lib.hid hex
    obtain ⟨s, hs⟩ : ∃ s, bs (c :: t) = s := ⟨_, rfl⟩
    rw [hs] at hb hsz hpos HEX
    simp only [hs] at hix
    rw [hs]
    have HS := Lib.hid hs
    clear hs
    by_cases h1 : c = 43
    · have hq : (((c.toNat : Nat) : Int) == 43) = true := by rw [h1]; rfl
      have hq2 : (((c.toNat : Nat) : Int) == 45) = false := by rw [h1]; rfl
      have e1 : sgT (c :: t) = t ∧ sgM (c :: t) = false := by rw [h1]; exact ⟨rfl, rfl⟩
      rw [e1.1, e1.2, ← HEX.out]
      clear e1 h1 hex hl
      go_enter Tryz.func21, Tryz.ntmps21
      go_wp2_with fail
      go_quiet (fail)
      go_wp2
      go_ret2
      exact ⟨rfl, below_dn (Below.refl _ _) _⟩
    by_cases h2 : c = 45
    · have hq : (((c.toNat : Nat) : Int) == 43) = false := by rw [h2]; rfl
      have hq2 : (((c.toNat : Nat) : Int) == 45) = true := by rw [h2]; rfl
      have e1 : sgT (c :: t) = t ∧ sgM (c :: t) = true := by rw [h2]; exact ⟨rfl, rfl⟩
      rw [e1.1, e1.2, ← HEX.out]
      clear e1 h1 h2 hex hl
      go_enter Tryz.func21, Tryz.ntmps21
      go_wp2_with fail
      go_quiet (fail)
      go_wp2
      go_ret2
      exact ⟨rfl, below_dn (Below.refl _ _) _⟩
    · have hq : (((c.toNat : Nat) : Int) == 43) = false := (u8_beq c 43).trans (by simpa using h1)
      have hq2 : (((c.toNat : Nat) : Int) == 45) = false := (u8_beq c 45).trans (by simpa using h2)
      have e1 : sgT (c :: t) = c :: t ∧ sgM (c :: t) = false := ⟨by unfold sgT; simp only [if_neg (not_or.2 ⟨h1, h2⟩)], by simpa [sgM] using h2⟩
      rw [e1.1, e1.2, HS.out]
      clear e1 h1 h2 hex hl
      go_enter Tryz.func21, Tryz.ntmps21
      go_wp2
      go_ret2
      exact ⟨rfl, Below.refl _ _⟩
end Go.Proofs.YtooehlneoboenaaGreatDoor

namespace Go.Proofs.YtooehlneoboenaaGreatDoor
open Go.RowKit

theorem dec_not (c : UInt8) (h : isDec c = false) : ¬ (48 ≤ c.toNat ∧ c.toNat ≤ 57) := by
  have key : ∀ n : Fin 256, isDec (UInt8.ofNat n.val) = false → ¬ (48 ≤ n.val ∧ n.val ≤ 57) := by decide +kernel
  have := key ⟨c.toNat, c.toNat_lt⟩
  rw [UInt8.ofNat_toNat] at this
  exact this h
/-- What power answers. -/
def powV (l : List UInt8) : Value := match powN l with | some e => .tuple #[.int .i64 e, .bool true] | none => .tuple #[.int .i64 0, .bool false]
theorem decS_le (l : List UInt8) : decS l ≤ far := by
  rcases List.eq_nil_or_concat l with h | ⟨t, c, h⟩
  · subst h; exact Nat.zero_le _
  · rw [h, List.concat_eq_append, decS_snoc]; exact Nat.min_le_right _ _

set_option maxRecDepth 100000 in
set_option maxHeartbeats 1000000 in
theorem rpower_walk (l : List UInt8) (hl : l.length ≤ 100000) (w : World) :
    Calls Tryz.prog 42 #[.string (bs l)] w fun e w' => e = .returned (powV l) ∧ Below w.heap.size w w' := by
  have HSg := Lib.hid (rsigned_walk l hl w)
  have hD : (sgT l).length ≤ l.length := by have := congrArg List.length (sg_split l); rw [List.length_append] at this; omega
  have hp : powV l = if sgT l = [] ∨ (sgT l).all isDec = false then .tuple #[.int .i64 0, .bool false] else .tuple #[.int .i64 (if sgM l then -((decS (sgT l) : Nat) : Int) else ((decS (sgT l) : Nat) : Int)), .bool true] := by
    unfold powV powN
    by_cases h : sgT l = [] ∨ (sgT l).all isDec = false
    · rw [if_pos h, if_pos h]
    · rw [if_neg h, if_neg h]
  rw [hp]
  obtain ⟨D, hDe⟩ : ∃ D, sgT l = D := ⟨_, rfl⟩
  obtain ⟨neg, hne⟩ : ∃ neg, sgM l = neg := ⟨_, rfl⟩
  rw [hDe] at HSg hD ⊢
  rw [hne] at HSg ⊢
  have hd1 : D.length ≤ 100000 := by omega
  clear hp hDe hne hD hl
  by_cases hnil : D = []
  · subst hnil
    rw [if_pos (.inl rfl)]
    have hb : (bs []).toList.isEmpty = true := by rw [bs_list]; rfl
    generalize bs l = s at *
    go_enter Tryz.func42, Tryz.ntmps42
    go_wp2_with fail
    refine HSg.out.mono ?_
    rintro e w1 ⟨rfl, hb1⟩
    go_wp2
    go_ret2
    exact ⟨rfl, hb1⟩
  have hb : (bs D).toList.isEmpty = false := by
    obtain ⟨c, t, rfl⟩ := List.exists_cons_of_ne_nil hnil
    rw [bs_list]; rfl
  obtain ⟨V, hV⟩ : ∃ V, (if D = [] ∨ D.all isDec = false then Value.tuple #[.int .i64 0, .bool false] else .tuple #[.int .i64 (if neg then -((decS D : Nat) : Int) else ((decS D : Nat) : Int)), .bool true]) = V := ⟨_, rfl⟩
  rw [hV]
  have hno : D.all isDec = false → V = .tuple #[.int .i64 0, .bool false] := fun h => by rw [← hV, if_pos (.inr h)]
  have hyes : D.all isDec = true → V = .tuple #[.int .i64 (if neg then -((decS D : Nat) : Int) else ((decS D : Nat) : Int)), .bool true] := fun h => by
    rw [← hV, if_neg (by rw [h]; simp [hnil])]
  have HNo := Lib.hid hno
  have HYes := Lib.hid hyes
  have hsz := bs_size D
  obtain ⟨s, hs⟩ : ∃ s, bs D = s := ⟨_, rfl⟩
  have HG := Lib.hid (fun k => show by8 s k = D.getD k 0 by rw [← hs]; rfl)
  rw [hs] at hsz hb HSg
  obtain ⟨m, hm⟩ : ∃ m, D.length = m := ⟨_, rfl⟩
  have HDm := Lib.hid hm
  rw [hm] at hsz hd1
  have HS := Lib.hid hsz
  have hszi : ((s.size : Nat) : Int) = (m : Int) := by omega
  obtain ⟨s0, hs0⟩ : ∃ s0, bs l = s0 := ⟨_, rfl⟩
  rw [hs0] at HSg ⊢
  clear hnil hV hno hyes hs hm hsz hs0
  go_enter Tryz.func42, Tryz.ntmps42
  go_wp2_with fail
  refine HSg.out.mono ?_
  rintro e w1 ⟨rfl, hb1⟩
  have HW1 := Lib.hid hb1
  clear hb1
  go_wp2_with fail
  go_loop [5, 6] (fun E i => ∃ k q : Nat, k ≤ m ∧ i = .int .i64 (k : Int) ∧ E = .int .i64 (q : Int) ∧ Hid (q = decS (D.take k)) ∧ Hid (∀ c ∈ D.take k, isDec c = true)) (fun _ i => m - (intOf i).toNat)
  case atStart => exact ⟨0, 0, by omega, rfl, rfl, Lib.hid rfl, Lib.hid (fun c hc => by simp at hc)⟩
  case round =>
    obtain ⟨k, q, hk, rfl, rfl, HQ, HA⟩ := hrel
    have hq1 : q ≤ 1099511627776 := by rw [HQ.out]; exact decS_le _
    have HQ1 := Lib.hid hq1
    by_cases hkm : k < m
    · have hkmi : (k : Int) < (m : Int) := by omega
      have hix := fun w => run_byte s k (by have := HS.out; omega) (by have := HS.out; omega) w
      obtain ⟨c, hc⟩ : ∃ c, by8 s k = c := ⟨_, rfl⟩
      have hcD : c ∈ D ∧ D.take (k + 1) = D.take k ++ [c] := by
        have h1 : k < D.length := by rw [HDm.out]; exact hkm
        have h2 : c = D[k] := by rw [← hc, HG.out, List.getD_eq_getElem?_getD, List.getElem?_eq_getElem h1]; rfl
        exact ⟨by rw [h2]; exact List.getElem_mem h1, by rw [h2, List.take_add_one, List.getElem?_eq_getElem h1]; rfl⟩
      rw [hc] at hix
      cases hdec : isDec c
      · have hn := dec_not c hdec
        have hV := HNo.out (by
          cases h : D.all isDec
          · rfl
          · rw [List.all_eq_true] at h; have := h c hcD.1; rw [hdec] at this; cases this)
        subst hV
        clear hcD hc hdec hq1
        generalize c.toNat = n at *
        by_cases h1 : n < 48
        · clear hn
          go_wp2
          go_ret2
          exact ⟨rfl, HW1.out⟩
        · have h2 : 57 < n := by omega
          have h3 : 48 ≤ n := by omega
          clear hn h1
          go_wp2
          go_ret2
          exact ⟨rfl, HW1.out⟩
      · obtain ⟨h1, h2⟩ := isDec_range c hdec
        have hq2 : min (10 * q + (c.toNat - 48)) 1099511627776 = decS (D.take (k + 1)) := by rw [hcD.2, decS_snoc, ← HQ.out]; rfl
        have hA2 : ∀ d ∈ D.take (k + 1), isDec d = true := fun d hd => by
          rw [hcD.2] at hd
          rcases List.mem_append.1 hd with h | h
          · exact HA.out d h
          · rw [List.mem_singleton] at h; rw [h]; exact hdec
        have HQ2 := Lib.hid hq2
        have HA2 := Lib.hid hA2
        clear hcD hc hdec hq2 hA2
        generalize c.toNat = n at *
        obtain ⟨r, hr⟩ : ∃ r, 10 * q + (n - 48) = r := ⟨_, rfl⟩
        have p0 : IntKind.i64.wrap (10 * (q : Int)) = 10 * (q : Int) := by rw [IntKind.wrap_i64]; omega
        have p1 : IntKind.u8.wrap ((n : Int) - 48) = (n : Int) - 48 := by rw [IntKind.wrap_u8]; omega
        have p2 : IntKind.i64.wrap ((n : Int) - 48) = (n : Int) - 48 := by rw [IntKind.wrap_i64]; omega
        have p3 : IntKind.i64.wrap (10 * (q : Int) + ((n : Int) - 48)) = (r : Int) := by rw [IntKind.wrap_i64]; omega
        rw [hr] at HQ2
        clear hr hq1
        go_wp2
        go_round
        case rel => exact ⟨k + 1, min r 1099511627776, hkm, by go_num, by first | go_num | (congr 1; omega), HQ2, HA2⟩
        case measure => simp [intOf]; omega
    · have hkm2 : k = m := by omega
      subst hkm2
      have hkmi : (k : Int) ≤ (k : Int) := Int.le_refl _
      have ht : D.take k = D := List.take_of_length_le (by rw [HDm.out]; exact Nat.le_refl _)
      have hV := HYes.out (List.all_eq_true.2 (by have := HA.out; rw [ht] at this; exact this))
      have hQ := HQ.out
      rw [ht] at hQ
      rw [← hQ] at hV
      subst hV
      clear ht hQ
      cases neg
      · go_wp2
        go_ret2
        exact ⟨rfl, HW1.out⟩
      · have p4 : IntKind.i64.wrap (-(q : Int)) = -(q : Int) := by rw [IntKind.wrap_i64]; omega
        clear hq1
        go_wp2
        go_ret2
        exact ⟨rfl, HW1.out⟩
end Go.Proofs.YtooehlneoboenaaGreatDoor

namespace Go.Proofs.YtooehlneoboenaaGreatDoor
open Go.RowKit

/-- What Number comes to. -/
def NumP (w : World) (l : List UInt8) (e : Ending) (w' : World) : Prop :=
  (∃ a x v', rfNum l = some (a, x) ∧ e = .returned (.tuple #[v', .int .i64 x, .bool true]) ∧ DgAt w' v' a ∧ Below w.heap.size w w') ∨
  (rfNum l = none ∧ e = .returned (.tuple #[.slice none 0 0, .int .i64 0, .bool false]) ∧ Below w.heap.size w w')

set_option maxRecDepth 100000 in
set_option maxHeartbeats 1000000 in
theorem rnumber_short (l : List UInt8) (hl : l.length < 2) (w : World) : Calls Tryz.prog 22 #[.string (bs l)] w fun e w' => NumP w l e w' := by
  have hr : rfNum l = none := by
    match l, hl with
    | [], _ => rfl
    | [c], _ => rfl
  have hsz : ((bs l).size : Int) < 2 := by rw [bs_size]; omega
  have HR := Lib.hid hr
  generalize bs l = s at *
  clear hr hl
  go_enter Tryz.func22, Tryz.ntmps22
  go_wp2
  exact bodyPost_ret (v := .tuple #[.slice none 0 0, .int .i64 0, .bool false]) (by simp [results, Tryz.results22, go_sem]) rfl (.inr ⟨HR.out, rfl, Below.refl _ _⟩)

theorem bs_idx (l : List UInt8) (i : Nat) (h : i < l.length) (hl : l.length ≤ 100000) (w : World) : (Instr.index 9 (.string (bs l)) (.int .i64 (i : Int))).run Tryz.prog w = .ok (.int .u8 ((l.getD i 0).toNat : Int)) w :=
  run_byte (bs l) i (by rw [bs_size]; exact h) (by rw [bs_size]; omega) w
theorem bs_ext (l : List UInt8) (a b : Nat) : (bs l).extract a b = bs ((l.drop a).take (b - a)) := by
  apply ByteArray.ext
  apply Array.ext'
  rw [Lib.extract_data]
  rfl
theorem u8_ne {c a : UInt8} {n : Int} (e : (a.toNat : Int) = n) (h : c ≠ a) : (((c.toNat : Nat) : Int) != n) = true := by
  rw [← e, bne_iff_ne]; intro hh; exact h (UInt8.toNat_inj.1 (by omega))
theorem rf_bad1 {c x : UInt8} {t : List UInt8} (h : ¬ (c = 48 ∧ (x = 120 ∨ x = 88))) : rfNum (c :: x :: t) = none := by
  unfold rfNum; simp only [if_neg h]

set_option maxRecDepth 100000 in
set_option maxHeartbeats 1000000 in
theorem rnumber_front (c x : UInt8) (t : List UInt8) (hl : t.length ≤ 4000) (h : ¬ (c = 48 ∧ (x = 120 ∨ x = 88))) (w : World) : Calls Tryz.prog 22 #[.string (bs (c :: x :: t))] w fun e w' => NumP w (c :: x :: t) e w' := by
  have HR := Lib.hid (rf_bad1 (t := t) h)
  have hsz : (2 : Int) ≤ ((bs (c :: x :: t)).size : Int) := by rw [bs_size]; simp; omega
  have hix : ∀ w, (Instr.index 9 (.string (bs (c :: x :: t))) (.int .i64 0)).run Tryz.prog w = .ok (.int .u8 (c.toNat : Int)) w := fun w => bs_idx (c :: x :: t) 0 (by simp) (by simp; omega) w
  have hix1 : ∀ w, (Instr.index 9 (.string (bs (c :: x :: t))) (.int .i64 1)).run Tryz.prog w = .ok (.int .u8 (x.toNat : Int)) w := fun w => bs_idx (c :: x :: t) 1 (by simp) (by simp; omega) w
  obtain ⟨l, hle⟩ : ∃ l, c :: x :: t = l := ⟨_, rfl⟩
  rw [hle] at HR hsz ⊢
  simp only [hle] at hix hix1
  generalize bs l = s at *
  by_cases hc : c = 48
  · have h2 : ¬ (x = 120 ∨ x = 88) := fun hh => h ⟨hc, hh⟩
    have hq : (((c.toNat : Nat) : Int) != 48) = false := by rw [hc]; rfl
    have q1 : (((x.toNat : Nat) : Int) != 120) = true := u8_ne (a := 120) rfl fun e => h2 (.inl e)
    have q2 : (((x.toNat : Nat) : Int) != 88) = true := u8_ne (a := 88) rfl fun e => h2 (.inr e)
    clear h h2 hc hle hl
    go_enter Tryz.func22, Tryz.ntmps22
    go_wp2
    exact bodyPost_ret (v := .tuple #[.slice none 0 0, .int .i64 0, .bool false]) (by simp [results, Tryz.results22, go_sem]) rfl (.inr ⟨HR.out, rfl, Below.refl _ _⟩)
  · have hq : (((c.toNat : Nat) : Int) != 48) = true := u8_ne (a := 48) rfl hc
    clear h hc hle hl
    go_enter Tryz.func22, Tryz.ntmps22
    go_wp2
    exact bodyPost_ret (v := .tuple #[.slice none 0 0, .int .i64 0, .bool false]) (by simp [results, Tryz.results22, go_sem]) rfl (.inr ⟨HR.out, rfl, Below.refl _ _⟩)
end Go.Proofs.YtooehlneoboenaaGreatDoor

namespace Go.Proofs.YtooehlneoboenaaGreatDoor
open Go.RowKit

theorem twoQ_46 : twoQ 46 46 = not46 := by funext c; simp [twoQ, not46]
theorem rf_nop {x : UInt8} {t : List UInt8} (h : t.dropWhile notP = []) : rfNum (48 :: x :: t) = none := by
  unfold rfNum
  simp only [h]
  split <;> rfl
theorem dw_len (q : UInt8 → Bool) (l : List UInt8) : (l.dropWhile q).length = l.length - (l.takeWhile q).length := by
  have := congrArg List.length (List.takeWhile_append_dropWhile (p := q) (l := l))
  rw [List.length_append] at this
  omega

set_option maxRecDepth 100000 in
set_option maxHeartbeats 1000000 in
theorem rnumber_nop (x : UInt8) (t : List UInt8) (hl : t.length ≤ 4000) (hx : x = 120 ∨ x = 88) (hn : t.dropWhile notP = []) (w : World) : Calls Tryz.prog 22 #[.string (bs (48 :: x :: t))] w fun e w' => NumP w (48 :: x :: t) e w' := by
  have HR := Lib.hid (rf_nop (x := x) hn)
  have hfd : fdI (twoQ 112 80) t = -1 := by
    have h1 := dw_len notP t
    rw [hn] at h1
    have h2 := (tw_facts notP t).1
    simp at h1
    unfold fdI
    rw [show twoQ 112 80 = notP from rfl, if_neg (by omega)]
  have hF := rfind_walk t 112 80 (by omega)
  rw [hfd] at hF
  have HF := Lib.hid (show ∀ w, Calls Tryz.prog 41 #[.string (bs t), .int .u8 112, .int .u8 80] w fun e w' => e = .returned (.int .i64 (-1)) ∧ w' = w from hF)
  obtain ⟨m, hm⟩ : ∃ m, t.length = m := ⟨_, rfl⟩
  have hsz : (bs (48 :: x :: t)).size = m + 2 := by rw [bs_size]; simp [hm]
  have hix : ∀ w, (Instr.index 9 (.string (bs (48 :: x :: t))) (.int .i64 0)).run Tryz.prog w = .ok (.int .u8 48) w := fun w => bs_idx (48 :: x :: t) 0 (by simp) (by simp; omega) w
  have hix1 : ∀ w, (Instr.index 9 (.string (bs (48 :: x :: t))) (.int .i64 1)).run Tryz.prog w = .ok (.int .u8 (x.toNat : Int)) w := fun w => bs_idx (48 :: x :: t) 1 (by simp) (by simp; omega) w
  have hex : (bs (48 :: x :: t)).extract 2 (m + 2) = bs t := by rw [bs_ext]; simp [← hm]
  have HEX := Lib.hid hex
  obtain ⟨l, hle⟩ : ∃ l, 48 :: x :: t = l := ⟨_, rfl⟩
  rw [hle] at HR hsz HEX ⊢
  simp only [hle] at hix hix1
  generalize bs l = s at *
  generalize bs t = u at *
  have hxx : (((x.toNat : Nat) : Int) != 120) = false ∨ ((((x.toNat : Nat) : Int) != 120) = true ∧ (((x.toNat : Nat) : Int) != 88) = false) := by
    rcases hx with h | h <;> subst h
    · exact .inl rfl
    · exact .inr ⟨rfl, rfl⟩
  have hmi : (2 : Int) ≤ (m : Int) + 2 := by omega
  clear hn hfd hF hm hex hle hl hx
  rcases hxx with hq | ⟨hq, hq2⟩
  all_goals
    go_enter Tryz.func22, Tryz.ntmps22
    go_wp2_with fail
    rw [HEX.out]
    refine (HF.out _).mono ?_
    rintro e w1 ⟨rfl, rfl⟩
    go_wp2
    exact bodyPost_ret (v := .tuple #[.slice none 0 0, .int .i64 0, .bool false]) (by simp [results, Tryz.results22, go_sem]) rfl (.inr ⟨HR.out, rfl, Below.refl _ _⟩)
end Go.Proofs.YtooehlneoboenaaGreatDoor

namespace Go.Proofs.YtooehlneoboenaaGreatDoor
open Go.RowKit

/-- The text's parts: M the digits and the point, ex what is behind the p. -/
structure Cut (t M ex : List UInt8) : Prop where
  tw : t.takeWhile notP = M
  dw : ∃ p, t.dropWhile notP = p :: ex
theorem Cut.eq {t M ex : List UInt8} (h : Cut t M ex) : ∃ p, t = M ++ p :: ex := by
  obtain ⟨p, hp⟩ := h.dw
  have := List.takeWhile_append_dropWhile (p := notP) (l := t)
  rw [h.tw, hp] at this
  exact ⟨p, this.symm⟩
theorem Cut.rf {x : UInt8} {t M ex : List UInt8} (h : Cut t M ex) (hx : x = 120 ∨ x = 88) : rfNum (48 :: x :: t) = match powN ex with | none => none | some e => rfDig M e := by
  obtain ⟨p, hp⟩ := h.dw
  unfold rfNum
  simp only [hp, h.tw, hx, and_self, if_true]
  cases powN ex <;> rfl
theorem Cut.find {t M ex : List UInt8} (h : Cut t M ex) : fdI (twoQ 112 80) t = (M.length : Int) := by
  obtain ⟨p, hp⟩ := h.eq
  unfold fdI
  rw [show twoQ 112 80 = notP from rfl, h.tw, if_pos (by rw [hp]; simp)]
theorem Cut.left {t M ex : List UInt8} (h : Cut t M ex) : (bs t).extract 0 M.length = bs M := by
  obtain ⟨p, hp⟩ := h.eq
  rw [bs_ext, hp]; simp
theorem Cut.right {t M ex : List UInt8} (h : Cut t M ex) : (bs t).extract (M.length + 1) t.length = bs ex := by
  obtain ⟨p, hp⟩ := h.eq
  have e : t.length = M.length + 1 + ex.length := by rw [hp]; simp; omega
  rw [bs_ext, e, hp]
  congr 1
  rw [show M.length + 1 = (M ++ [p]).length by simp, show M ++ p :: ex = (M ++ [p]) ++ ex by simp, List.drop_left]
  exact List.take_of_length_le (by omega)
theorem cut_or (t : List UInt8) : t.dropWhile notP = [] ∨ ∃ M ex, Cut t M ex := by
  cases h : t.dropWhile notP with
  | nil => exact .inl rfl
  | cons p ex => exact .inr ⟨_, ex, rfl, p, h⟩
/-- The same about the point. -/
theorem fd_46 (M : List UInt8) : (M.dropWhile not46 = [] ∧ fdI (twoQ 46 46) M = -1 ∧ rfV M = M) ∨
    (∃ B F, M = B ++ 46 :: F ∧ M.dropWhile not46 = 46 :: F ∧ fdI (twoQ 46 46) M = (B.length : Int) ∧ rfV M = B ++ F) := by
  have ht := List.takeWhile_append_dropWhile (p := not46) (l := M)
  cases h : M.dropWhile not46 with
  | nil =>
    rw [h, List.append_nil] at ht
    refine .inl ⟨rfl, ?_, ?_⟩
    · unfold fdI; rw [twoQ_46, ht, if_neg (by omega)]
    · unfold rfV; rw [h, ht]; simp
  | cons d F =>
    have hd0 := dw_head _ _ _ _ h
    have hd : d = 46 := by unfold not46 at hd0; simpa using hd0
    subst hd
    rw [h] at ht
    refine .inr ⟨M.takeWhile not46, F, ht.symm, rfl, ?_, ?_⟩
    · unfold fdI
      have := congrArg List.length ht
      rw [List.length_append, List.length_cons] at this
      rw [twoQ_46, if_pos (by omega)]
    · unfold rfV; rw [h]; rfl
end Go.Proofs.YtooehlneoboenaaGreatDoor

namespace Go.Proofs.YtooehlneoboenaaGreatDoor
open Go.RowKit

theorem hexN_lt16 (l : List UInt8) (h : ∀ c ∈ l, isHex c = true) : hexN l < 16 ^ l.length := by
  induction l with
  | nil => simp [hexN]
  | cons c t ih =>
    have h1 := hexV_lt c (h c (by simp))
    have h2 := ih (fun d hd => h d (by simp [hd]))
    rw [hexN_cons, List.length_cons, Nat.pow_succ]
    have h3 : hexV c * 16 ^ t.length ≤ 15 * 16 ^ t.length := Nat.mul_le_mul_right _ (by omega)
    omega
theorem hexN_toD (l : List UInt8) (h : ∀ c ∈ l, isHex c = true) (hl : l.length ≤ 4000) : (toD (hexN l)).length ≤ 501 := by
  have h1 := hexN_lt16 l h
  have h2 : blen (hexN l) ≤ 4 * l.length := blen_le.2 (by rw [Nat.pow_mul]; exact h1)
  rw [toD_length]; omega
theorem pow_far {l : List UInt8} {e : Int} (h : powN l = some e) : -1099511627776 ≤ e ∧ e ≤ 1099511627776 := by
  unfold powN at h
  split at h
  · cases h
  injection h with h
  have := decS_le (sgT l)
  have hf : far = 1099511627776 := rfl
  rw [← h]
  split <;> omega

set_option maxRecDepth 100000 in
set_option maxHeartbeats 1000000 in
theorem rnumber_main (x : UInt8) (t M ex : List UInt8) (hl : t.length ≤ 4000) (hx : x = 120 ∨ x = 88) (hc : Cut t M ex) (w : World) : Calls Tryz.prog 22 #[.string (bs (48 :: x :: t))] w fun e w' => NumP w (48 :: x :: t) e w' := by
  have hrf := hc.rf hx
  obtain ⟨p, hp⟩ := hc.eq
  have hlen : t.length = M.length + 1 + ex.length := by rw [hp]; simp; omega
  have hF := rfind_walk t 112 80 (by omega)
  rw [hc.find] at hF
  have HF := Lib.hid (show ∀ w, Calls Tryz.prog 41 #[.string (bs t), .int .u8 112, .int .u8 80] w fun e w' => e = .returned (.int .i64 ((M.length : Nat) : Int)) ∧ w' = w from hF)
  have HP := Lib.hid (fun w => rpower_walk ex (by omega) w)
  have HF2 := Lib.hid (show ∀ w, Calls Tryz.prog 41 #[.string (bs M), .int .u8 46, .int .u8 46] w fun e w' => e = .returned (.int .i64 (fdI (twoQ 46 46) M)) ∧ w' = w from rfind_walk M 46 46 (by omega))
  obtain ⟨m, hm⟩ : ∃ m, t.length = m := ⟨_, rfl⟩
  obtain ⟨n, hn⟩ : ∃ n, M.length = n := ⟨_, rfl⟩
  have hsz : (bs (48 :: x :: t)).size = m + 2 := by rw [bs_size]; simp [hm]
  have hszu : (bs t).size = m := by rw [bs_size, hm]
  have hszM : (bs M).size = n := by rw [bs_size, hn]
  have hix : ∀ w, (Instr.index 9 (.string (bs (48 :: x :: t))) (.int .i64 0)).run Tryz.prog w = .ok (.int .u8 48) w := fun w => bs_idx (48 :: x :: t) 0 (by simp) (by simp; omega) w
  have hix1 : ∀ w, (Instr.index 9 (.string (bs (48 :: x :: t))) (.int .i64 1)).run Tryz.prog w = .ok (.int .u8 (x.toNat : Int)) w := fun w => bs_idx (48 :: x :: t) 1 (by simp) (by simp; omega) w
  have HEX := Lib.hid (show (bs (48 :: x :: t)).extract 2 (m + 2) = bs t by rw [bs_ext]; simp [← hm])
  have hcl := hc.left
  have hcr := hc.right
  rw [hn] at hcl hcr HF
  rw [hm] at hcr
  have HCL := Lib.hid hcl
  have HCR := Lib.hid hcr
  obtain ⟨l, hle⟩ : ∃ l, 48 :: x :: t = l := ⟨_, rfl⟩
  rw [hle] at hrf hsz HEX ⊢
  simp only [hle] at hix hix1
  have HRF := Lib.hid hrf
  generalize bs l = s at *
  generalize bs t = u at *
  have hxx : (((x.toNat : Nat) : Int) != 120) = false ∨ ((((x.toNat : Nat) : Int) != 120) = true ∧ (((x.toNat : Nat) : Int) != 88) = false) := by
    rcases hx with h | h <;> subst h
    · exact .inl rfl
    · exact .inr ⟨rfl, rfl⟩
  have hmi : (2 : Int) ≤ (m : Int) + 2 := by omega
  have hni : (n : Int) + 1 ≤ (m : Int) := by omega
  have hml : m ≤ 4000 := by omega
  clear hc hp hrf hF hm hle hl hx hcl hcr hlen
  rcases hxx with hq | ⟨hq, hq2⟩
  all_goals
    go_enter Tryz.func22, Tryz.ntmps22
    go_wp2_with fail
    rw [HEX.out]
    refine (HF.out _).mono ?_
    rintro e w1 ⟨rfl, rfl⟩
    go_wp2_with fail
    rw [HCR.out]
    refine (HP.out _).mono ?_
    rintro e w2 ⟨rfl, hb2⟩
    have HW2 := Lib.hid hb2
    clear hb2
    cases hpw : powN ex with
    | none =>
      have hV : powV ex = .tuple #[.int .i64 0, .bool false] := by unfold powV; rw [hpw]
      have HR : Hid (rfNum l = none) := Lib.hid (by rw [HRF.out, hpw])
      rw [hV]
      clear hV hpw
      go_wp2_with fail
      rw [HCL.out]
      refine (HF2.out _).mono ?_
      rintro e w3 ⟨rfl, rfl⟩
      rcases fd_46 M with ⟨e1, e2, e3⟩ | ⟨B, F, e0, e1, e2, e3⟩
      · rw [e2]
        clear e1 e2 e3
        go_wp2
        exact bodyPost_ret (v := .tuple #[.slice none 0 0, .int .i64 0, .bool false]) (by simp [results, Tryz.results22, go_sem]) rfl (.inr ⟨HR.out, rfl, HW2.out⟩)
      · rw [e2]
        obtain ⟨b, hb⟩ : ∃ b, B.length = b := ⟨_, rfl⟩
        obtain ⟨f, hf⟩ : ∃ f, F.length = f := ⟨_, rfl⟩
        have hnb : n = b + 1 + f := by rw [← hn, e0]; simp; omega
        have HX1 := Lib.hid (show (bs M).extract 0 b = bs B by rw [bs_ext, e0, ← hb]; simp)
        have HX2 := Lib.hid (show (bs M).extract (b + 1) n = bs F by
          rw [bs_ext, hnb, e0]
          congr 1
          rw [← hb, show B.length + 1 = (B ++ [46]).length by simp, show B ++ 46 :: F = (B ++ [46]) ++ F by simp, List.drop_left]
          exact List.take_of_length_le (by omega))
        rw [hb]
        have p1 : IntKind.i64.wrap ((n : Int) - (b : Int)) = (n : Int) - (b : Int) := by rw [IntKind.wrap_i64]; omega
        have p2 : IntKind.i64.wrap ((n : Int) - (b : Int) - 1) = (f : Int) := by rw [IntKind.wrap_i64]; omega
        have hnb2 : (b : Int) + 1 ≤ (n : Int) := by omega
        clear e0 e1 e2 e3 hb hf hn
        generalize bs M = v at *
        go_wp2_with fail
        go_quiet (fail)
        go_wp2
        exact bodyPost_ret (v := .tuple #[.slice none 0 0, .int .i64 0, .bool false]) (by simp [results, Tryz.results22, go_sem]) rfl (.inr ⟨HR.out, rfl, below_dn HW2.out _⟩)
    | some e0 =>
      have hV : powV ex = .tuple #[.int .i64 e0, .bool true] := by unfold powV; rw [hpw]
      have HR : Hid (rfNum l = rfDig M e0) := Lib.hid (by rw [HRF.out, hpw])
      have hfar := pow_far hpw
      rw [hV]
      clear hV hpw
      go_wp2_with fail
      rw [HCL.out]
      refine (HF2.out _).mono ?_
      rintro e w3 ⟨rfl, rfl⟩
      rcases fd_46 M with ⟨e1, e2, e3⟩ | ⟨B, F, e4, e1, e2, e3⟩
      · have HR2 : Hid (rfNum l = if M = [] ∨ M.all isHex = false then none else some (hexN M, e0)) := Lib.hid (by rw [HR.out]; unfold rfDig; rw [e3, e1]; simp)
        rw [e2]
        clear e1 e2 e3
        by_cases hM : M = []
        · have HR3 : Hid (rfNum l = none) := Lib.hid (by rw [HR2.out, if_pos (.inl hM)])
          have hb : (bs M).toList.isEmpty = true := by rw [bs_list, hM]; rfl
          clear hM
          go_wp2
          exact bodyPost_ret (v := .tuple #[.slice none 0 0, .int .i64 0, .bool false]) (by simp [results, Tryz.results22, go_sem]) rfl (.inr ⟨HR3.out, rfl, HW2.out⟩)
        · have hb : (bs M).toList.isEmpty = false := by rw [bs_list]; cases M with | nil => exact absurd rfl hM | cons c t => rfl
          go_wp2_with fail
          refine (rword_walk 0 (by omega) _).mono ?_
          rintro e w4 ⟨v4, rfl, hd4, hb4⟩
          have HD4 := Lib.hid hd4
          have HW4 := Lib.hid (below_chain HW2.out hb4)
          clear hd4 hb4
          go_wp2_with fail
          go_loopw [10, 11] (fun v i wr => ∃ k : Nat, k ≤ n ∧ i = .int .i64 (k : Int) ∧ Hid (DgAt wr v (hexN (M.take k))) ∧ Hid (∀ c ∈ M.take k, isHex c = true) ∧ Hid (RowKit.Below w1.heap.size w1 wr)) (fun _ i _ => n - (intOf i).toNat)
          case atStart => exact ⟨0, by omega, rfl, HD4, Lib.hid (fun c hc => by simp at hc), HW4⟩
          case round =>
            obtain ⟨k, hk, rfl, HD, HA, HW⟩ := hrel
            by_cases hkn : k < n
            · have hkni : (k : Int) < (n : Int) := by omega
              have hix2 : ∀ w, (Instr.index 9 (.string (bs M)) (.int .i64 (k : Int))).run Tryz.prog w = .ok (.int .u8 ((M.getD k 0).toNat : Int)) w := fun w => bs_idx M k (by omega) (by omega) w
              obtain ⟨d, hd⟩ : ∃ d, M.getD k 0 = d := ⟨_, rfl⟩
              simp only [hd] at hix2
              have hkl : k < M.length := by rw [hn]; exact hkn
              have hdM : d ∈ M ∧ M.take (k + 1) = M.take k ++ [d] := by
                have h2 : d = M[k] := by rw [← hd, List.getD_eq_getElem?_getD, List.getElem?_eq_getElem hkl]; rfl
                exact ⟨by rw [h2]; exact List.getElem_mem hkl, by rw [h2, List.take_add_one, List.getElem?_eq_getElem hkl]; rfl⟩
              have HDg := Lib.hid (rdigit_walk d wr)
              cases hxd : isHex d
              · have hall : M.all isHex = false := by
                  cases h : M.all isHex
                  · rfl
                  · rw [List.all_eq_true] at h; have := h d hdM.1; rw [hxd] at this; cases this
                have HR3 : Hid (rfNum l = none) := Lib.hid (by rw [HR2.out, if_pos (.inr hall)])
                clear hall
                rw [hxd, if_neg (by decide)] at HDg
                go_wp2_with fail
                refine HDg.out.mono ?_
                rintro e w5 ⟨rfl, rfl⟩
                go_wp2
                exact bodyPost_ret (v := .tuple #[.slice none 0 0, .int .i64 0, .bool false]) (by simp [results, Tryz.results22, go_sem]) rfl (.inr ⟨HR3.out, rfl, HW.out⟩)
              · rw [hxd, if_pos rfl] at HDg
                go_wp2_with fail
                refine HDg.out.mono ?_
                rintro e w5 ⟨rfl, rfl⟩
                have hv16 := hexV_lt d hxd
                have HL := Lib.hid (hexN_toD (M.take k) HA.out (by rw [List.length_take]; omega))
                have HA2 := Lib.hid (show ∀ c ∈ M.take (k + 1), isHex c = true from fun c hc => by
                  rw [hdM.2] at hc
                  rcases List.mem_append.1 hc with h | h
                  · exact HA.out c h
                  · rw [List.mem_singleton] at h; rw [h]; exact hxd)
                have HN2 := Lib.hid (show hexN (M.take (k + 1)) = hexN (M.take k) * 16 + hexV d by rw [hdM.2, hexN_append, hexN_one]; simp)
                obtain ⟨q, hq'⟩ : ∃ q, hexV d = q := ⟨_, rfl⟩
                rw [hq'] at hv16 HN2 ⊢
                have q1 : IntKind.u32.wrap (q : Int) = (q : Int) := by rw [IntKind.wrap_u32]; omega
                have q2 : ¬ ((q : Int) < 0) := by omega
                have HMu := Lib.hid (fun v w (h : DgAt w v (hexN (M.take k))) => rmul_walk v _ 16 q w h (by omega) (by omega) (Nat.le_trans HL.out (by omega)))
                clear hv16 hxd hdM hkl hd
                go_wp2_with fail
                refine (HMu.out _ _ HD.out).mono ?_
                rintro e w6 ⟨v6, rfl, hd6, hb6⟩
                rw [← HN2.out] at hd6
                have HD6 := Lib.hid hd6
                have HW6 := Lib.hid (below_chain HW.out hb6)
                clear hd6 hb6
                go_wp2
                go_round
                case rel => exact ⟨k + 1, hkn, by go_num, HD6, HA2, HW6⟩
                case measure => simp [intOf]; omega
            · have hkn2 : k = n := by omega
              subst hkn2
              have ht : M.take k = M := List.take_of_length_le (by omega)
              have hA := HA.out
              have hD := HD.out
              rw [ht] at hA hD
              have HR3 : Hid (rfNum l = some (hexN M, e0)) := Lib.hid (by rw [HR2.out, if_neg (by rw [List.all_eq_true.2 hA]; simp [hM])])
              have HD3 := Lib.hid hD
              clear ht hA hD
              go_wp2
              exact bodyPost_ret (v := .tuple #[_, .int .i64 e0, .bool true]) (by simp [results, Tryz.results22, go_sem]) rfl (.inl ⟨_, _, _, HR3.out, rfl, HD3.out, HW.out⟩)
      · rw [e2]
        obtain ⟨b, hb⟩ : ∃ b, B.length = b := ⟨_, rfl⟩
        obtain ⟨f, hf⟩ : ∃ f, F.length = f := ⟨_, rfl⟩
        have hnb : n = b + 1 + f := by rw [← hn, e4]; simp; omega
        have HX1 := Lib.hid (show (bs M).extract 0 b = bs B by rw [bs_ext, e4, ← hb]; simp)
        have HX2 := Lib.hid (show (bs M).extract (b + 1) n = bs F by
          rw [bs_ext, hnb, e4]
          congr 1
          rw [← hb, show B.length + 1 = (B ++ [46]).length by simp, show B ++ 46 :: F = (B ++ [46]) ++ F by simp, List.drop_left]
          exact List.take_of_length_le (by omega))
        rw [hb]
        have p1 : IntKind.i64.wrap ((n : Int) - (b : Int)) = (n : Int) - (b : Int) := by rw [IntKind.wrap_i64]; omega
        have p2 : IntKind.i64.wrap ((n : Int) - (b : Int) - 1) = (f : Int) := by rw [IntKind.wrap_i64]; omega
        have p3 : IntKind.i64.wrap (4 * (f : Int)) = 4 * (f : Int) := by rw [IntKind.wrap_i64]; omega
        obtain ⟨x2, hx2⟩ : ∃ x2 : Int, e0 - 4 * (f : Int) = x2 := ⟨_, rfl⟩
        have p4 : IntKind.i64.wrap (e0 - 4 * (f : Int)) = x2 := by rw [IntKind.wrap_i64]; omega
        have hnb2 : (b : Int) + 1 ≤ (n : Int) := by omega
        obtain ⟨V, hV⟩ : ∃ V, B ++ F = V := ⟨_, rfl⟩
        obtain ⟨n2, hn2⟩ : ∃ n2, V.length = n2 := ⟨_, rfl⟩
        have hnn : n2 = b + f := by rw [← hn2, ← hV, List.length_append, hb, hf]
        have d1 : ∀ W : World, (Op.stringOp .add ((bs M).extract 0 b) ((bs M).extract (b + 1) n)).run Tryz.prog W = .ok (.string (bs V)) W := fun W => by
          rw [HX1.out, HX2.out, run_string_add_sum W (bs B) (bs F) (by rw [bs_size, bs_size]; omega), bs_append, hV]
        have HR2 : Hid (rfNum l = if V = [] ∨ V.all isHex = false then none else some (hexN V, x2)) := Lib.hid (by
          rw [HR.out]; unfold rfDig; rw [e3, e1, hV]
          have : (46 :: F).tail = F := rfl
          rw [this, hf, hx2])
        have hszV : (bs V).size = n2 := by rw [bs_size, hn2]
        have hn2l : n2 ≤ 4000 := by omega
        clear e1 e2 e3 e4 hb hf hn hV hnb hx2 hfar
        generalize bs M = v at *
        go_wp2_with fail
        go_quiet (fail)
        all_goals
          clear hnb2 hszM hni d1
          by_cases hM : V = []
          · have HR3 : Hid (rfNum l = none) := Lib.hid (by rw [HR2.out, if_pos (.inl hM)])
            have hb : (bs V).toList.isEmpty = true := by rw [bs_list, hM]; rfl
            clear hM
            go_wp2
            exact bodyPost_ret (v := .tuple #[.slice none 0 0, .int .i64 0, .bool false]) (by simp [results, Tryz.results22, go_sem]) rfl (.inr ⟨HR3.out, rfl, (below_dn HW2.out _)⟩)
          · have hb : (bs V).toList.isEmpty = false := by rw [bs_list]; cases V with | nil => exact absurd rfl hM | cons c t => rfl
            go_wp2_with fail
            refine (rword_walk 0 (by omega) _).mono ?_
            rintro e w4 ⟨v4, rfl, hd4, hb4⟩
            have HD4 := Lib.hid hd4
            have HW4 := Lib.hid (below_chain (below_dn HW2.out _) hb4)
            clear hd4 hb4
            go_wp2_with fail
            go_loopw [10, 11] (fun v i wr => ∃ k : Nat, k ≤ n2 ∧ i = .int .i64 (k : Int) ∧ Hid (DgAt wr v (hexN (V.take k))) ∧ Hid (∀ c ∈ V.take k, isHex c = true) ∧ Hid (RowKit.Below w1.heap.size w1 wr)) (fun _ i _ => n2 - (intOf i).toNat)
            case atStart => exact ⟨0, by omega, rfl, HD4, Lib.hid (fun c hc => by simp at hc), HW4⟩
            case round =>
              obtain ⟨k, hk, rfl, HD, HA, HW⟩ := hrel
              by_cases hkn : k < n2
              · have hkni : (k : Int) < (n2 : Int) := by omega
                have hix2 : ∀ w, (Instr.index 9 (.string (bs V)) (.int .i64 (k : Int))).run Tryz.prog w = .ok (.int .u8 ((V.getD k 0).toNat : Int)) w := fun w => bs_idx V k (by omega) (by omega) w
                obtain ⟨d, hd⟩ : ∃ d, V.getD k 0 = d := ⟨_, rfl⟩
                simp only [hd] at hix2
                have hkl : k < V.length := by rw [hn2]; exact hkn
                have hdM : d ∈ V ∧ V.take (k + 1) = V.take k ++ [d] := by
                  have h2 : d = V[k] := by rw [← hd, List.getD_eq_getElem?_getD, List.getElem?_eq_getElem hkl]; rfl
                  exact ⟨by rw [h2]; exact List.getElem_mem hkl, by rw [h2, List.take_add_one, List.getElem?_eq_getElem hkl]; rfl⟩
                have HDg := Lib.hid (rdigit_walk d wr)
                cases hxd : isHex d
                · have hall : V.all isHex = false := by
                    cases h : V.all isHex
                    · rfl
                    · rw [List.all_eq_true] at h; have := h d hdM.1; rw [hxd] at this; cases this
                  have HR3 : Hid (rfNum l = none) := Lib.hid (by rw [HR2.out, if_pos (.inr hall)])
                  clear hall
                  rw [hxd, if_neg (by decide)] at HDg
                  go_wp2_with fail
                  refine HDg.out.mono ?_
                  rintro e w5 ⟨rfl, rfl⟩
                  go_wp2
                  exact bodyPost_ret (v := .tuple #[.slice none 0 0, .int .i64 0, .bool false]) (by simp [results, Tryz.results22, go_sem]) rfl (.inr ⟨HR3.out, rfl, HW.out⟩)
                · rw [hxd, if_pos rfl] at HDg
                  go_wp2_with fail
                  refine HDg.out.mono ?_
                  rintro e w5 ⟨rfl, rfl⟩
                  have hv16 := hexV_lt d hxd
                  have HL := Lib.hid (hexN_toD (V.take k) HA.out (by rw [List.length_take]; omega))
                  have HA2 := Lib.hid (show ∀ c ∈ V.take (k + 1), isHex c = true from fun c hc => by
                    rw [hdM.2] at hc
                    rcases List.mem_append.1 hc with h | h
                    · exact HA.out c h
                    · rw [List.mem_singleton] at h; rw [h]; exact hxd)
                  have HN2 := Lib.hid (show hexN (V.take (k + 1)) = hexN (V.take k) * 16 + hexV d by rw [hdM.2, hexN_append, hexN_one]; simp)
                  obtain ⟨q, hq'⟩ : ∃ q, hexV d = q := ⟨_, rfl⟩
                  rw [hq'] at hv16 HN2 ⊢
                  have q1 : IntKind.u32.wrap (q : Int) = (q : Int) := by rw [IntKind.wrap_u32]; omega
                  have q2 : ¬ ((q : Int) < 0) := by omega
                  have HMu := Lib.hid (fun v w (h : DgAt w v (hexN (V.take k))) => rmul_walk v _ 16 q w h (by omega) (by omega) (Nat.le_trans HL.out (by omega)))
                  clear hv16 hxd hdM hkl hd
                  go_wp2_with fail
                  refine (HMu.out _ _ HD.out).mono ?_
                  rintro e w6 ⟨v6, rfl, hd6, hb6⟩
                  rw [← HN2.out] at hd6
                  have HD6 := Lib.hid hd6
                  have HW6 := Lib.hid (below_chain HW.out hb6)
                  clear hd6 hb6
                  go_wp2
                  go_round
                  case rel => exact ⟨k + 1, hkn, by go_num, HD6, HA2, HW6⟩
                  case measure => simp [intOf]; omega
              · have hkn2 : k = n2 := by omega
                subst hkn2
                have ht : V.take k = V := List.take_of_length_le (by omega)
                have hA := HA.out
                have hD := HD.out
                rw [ht] at hA hD
                have HR3 : Hid (rfNum l = some (hexN V, x2)) := Lib.hid (by rw [HR2.out, if_neg (by rw [List.all_eq_true.2 hA]; simp [hM])])
                have HD3 := Lib.hid hD
                clear ht hA hD
                go_wp2
                exact bodyPost_ret (v := .tuple #[_, .int .i64 x2, .bool true]) (by simp [results, Tryz.results22, go_sem]) rfl (.inl ⟨_, _, _, HR3.out, rfl, HD3.out, HW.out⟩)
end Go.Proofs.YtooehlneoboenaaGreatDoor

namespace Go.Proofs.YtooehlneoboenaaGreatDoor
open Go.RowKit

theorem rnumber_walk (l : List UInt8) (hl : l.length ≤ 4000) (w : World) : Calls Tryz.prog 22 #[.string (bs l)] w fun e w' => NumP w l e w' := by
  match l, hl with
  | [], hl => exact rnumber_short [] (by simp) w
  | [c], hl => exact rnumber_short [c] (by simp) w
  | c :: x :: t, hl =>
    have ht : t.length ≤ 4000 := by simp at hl; omega
    by_cases h : c = 48 ∧ (x = 120 ∨ x = 88)
    · obtain ⟨h1, h2⟩ := h
      subst h1
      rcases cut_or t with hn | ⟨M, ex, hc⟩
      · exact rnumber_nop x t ht h2 hn w
      · exact rnumber_main x t M ex ht h2 hc w
    · exact rnumber_front c x t ht h w
/-- The number read is no longer than its text. -/
theorem rf_len {l : List UInt8} {a : Nat} {x : Int} (hl : l.length ≤ 4000) (h : rfNum l = some (a, x)) : blen a ≤ 16000 ∧ -1099511644000 ≤ x ∧ x ≤ 1099511627776 := by
  match l, hl with
  | [], hl => cases h
  | [c], hl => cases h
  | c :: y :: t, hl =>
    have ht : t.length ≤ 4000 := by simp at hl; omega
    by_cases h1 : c = 48 ∧ (y = 120 ∨ y = 88)
    · obtain ⟨h1, h2⟩ := h1
      subst h1
      rcases cut_or t with hn | ⟨M, ex, hc⟩
      · rw [rf_nop hn] at h; cases h
      · rw [hc.rf h2] at h
        obtain ⟨p, hp⟩ := hc.eq
        have hM : M.length ≤ 4000 := by rw [hp] at ht; simp at ht; omega
        cases hpw : powN ex with
        | none => rw [hpw] at h; cases h
        | some e0 =>
          rw [hpw] at h
          simp only at h
          unfold rfDig at h
          split at h
          · cases h
          · rename_i hv
            have hv1 : (rfV M).all isHex = true := by
              cases hh : (rfV M).all isHex
              · exact absurd (.inr hh) hv
              · rfl
            have hv2 : (rfV M).length ≤ 4000 := by
              have h3 := dw_len not46 M
              have h4 : (M.takeWhile not46).length ≤ M.length := by
                have := congrArg List.length (List.takeWhile_append_dropWhile (p := not46) (l := M))
                rw [List.length_append] at this
                omega
              unfold rfV
              rw [List.length_append, List.length_tail]
              omega
            have hd : (M.dropWhile not46).tail.length ≤ 4000 := by
              have h3 := dw_len not46 M
              rw [List.length_tail]
              omega
            injection h with h
            injection h with ha hx
            have h1 := hexN_lt16 (rfV M) (List.all_eq_true.1 hv1)
            have h2 : blen (hexN (rfV M)) ≤ 4 * (rfV M).length := blen_le.2 (by rw [Nat.pow_mul]; exact h1)
            have hf := pow_far hpw
            rw [← ha]
            omega
    · rw [rf_bad1 h1] at h; cases h
end Go.Proofs.YtooehlneoboenaaGreatDoor
