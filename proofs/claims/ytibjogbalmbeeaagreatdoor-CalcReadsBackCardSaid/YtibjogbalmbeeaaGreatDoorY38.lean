/- Plain facts: what Print spells of a pattern, cut by calc; how it is read. · Walks of calc: an expression that spells a pattern. · Plain facts for calc: Print's text is one alone. -/
import Derived.Test.YtibjogbalmbeeaaGreatDoorY30
import Derived.Test.YtibjogbalmbeeaaGreatDoorY32
import Derived.Test.YtibjogbalmbeeaaGreatDoorY37
import Derived.Test.YtibjogbalmbeeaaGreatDoorY26
import Derived.Test.YtibjogbalmbeeaaGreatDoorY23

namespace Go.Proofs.YtibjogbalmbeeaaGreatDoor
open Go.RowKit

theorem not_blank {s : ByteArray} {i : Nat} (h : (cutK s i).1 ≠ 4) : ovr pBln s i = i := by
  refine ovr_stop fun hl => ?_
  rw [Bool.eq_false_iff]
  intro hb
  refine h ?_
  unfold pBln at hb
  rw [Bool.or_eq_true, beq_iff_eq, beq_iff_eq] at hb
  unfold cutK
  rw [if_neg (by omega)]
  rcases hb with e | e <;> rw [e] <;> rfl
/-- The unsigned text of a number: behind whatever it is one piece, to the text's end. -/
def NumU (dec : Bool) (U : List UInt8) : Prop := (∀ A, cutK (bs (A ++ U)) A.length = (2, (bs (A ++ U)).size)) ∧ Lib.hasPrefix U [48, 120] = !dec ∧ U ≠ []
theorem dec_ne_x {l : List UInt8} (h : l.all isDec = true) : ∀ c ∈ l, c ≠ 120 := fun c hc e => by
  have := isDec_range c (List.all_eq_true.1 h c hc)
  subst e
  exact absurd this (by decide)
theorem no_prefix {U : List UInt8} (h : ∀ c ∈ U, c ≠ 120) : Lib.hasPrefix U [48, 120] = false := by
  rw [Bool.eq_false_iff]
  intro hp
  unfold Lib.hasPrefix at hp
  obtain ⟨t, rfl⟩ := List.isPrefixOf_iff_prefix.1 hp
  exact h 120 (by simp) rfl
theorem num_u {U W : List UInt8} {pt : Option (List UInt8)} {ex : Option (UInt8 × List UInt8 × List UInt8)} (hT : U = W ++ (ptT pt ++ exT ex)) (hW : W.all isDec = true) (hW0 : W ≠ []) (hP : (ptD pt).all isDec = true) (hx : exLow ex) : NumU true U := by
  refine ⟨fun A => num_cut (T := A ++ U) (A := A) (by rw [hT]) hW hW0 hP hx, ?_, ?_⟩
  · refine no_prefix fun c hc => ?_
    rw [hT] at hc
    rcases List.mem_append.1 hc with h | h
    · exact dec_ne_x hW c h
    rcases List.mem_append.1 h with h | h
    · cases pt with
      | none => exact absurd h (by simp [ptT])
      | some P =>
        rcases List.mem_cons.1 h with h | h
        · subst h; decide
        · exact dec_ne_x hP c h
    · cases ex with
      | none => exact absurd h (by simp [exT])
      | some q =>
        obtain ⟨E, S, X⟩ := q
        obtain ⟨h1, h2, h3, _⟩ := hx
        rcases List.mem_cons.1 h with h | h
        · rw [h, h1]; decide
        · rcases List.mem_append.1 h with h | h
          · rcases h2 with e | e | e
            · rw [e] at h; cases h
            · rw [e, List.mem_singleton] at h; rw [h]; decide
            · rw [e, List.mem_singleton] at h; rw [h]; decide
          · exact dec_ne_x h3 c h
  · rw [hT]; simp [hW0]
theorem lay_u {D : List UInt8} {q : Int} (hD : D.all isDec = true) (hD0 : 1 ≤ D.length) : NumU true (layS D q) := by
  have hne : D ≠ [] := fun e => by rw [e] at hD0; simp at hD0
  unfold layS
  split
  · exact num_u (pt := none) (ex := none) (W := D ++ List.replicate q.toNat 48) (by simp [ptT, exT]) (by rw [List.all_append, hD, zeros_dec]; rfl) (by simp [hne]) rfl trivial
  · split
    · rename_i c0 c
      obtain ⟨n, hn⟩ : ∃ n, ((D.length : Int) + q).toNat = n := ⟨_, rfl⟩
      rw [hn]
      have hd := List.take_append_drop n D
      have hD' := hD
      rw [← hd] at hD'
      obtain ⟨a1, a2⟩ := all_left hD'
      exact num_u (pt := some (D.drop n)) (ex := none) (W := D.take n) (by simp [ptT, exT]) a1 (fun e => by
        have := congrArg List.length e
        rw [List.length_take, List.length_nil] at this
        omega) a2 trivial
    · split
      · rename_i c0 c1 c
        obtain ⟨n, hn⟩ : ∃ n, (-((D.length : Int) + q)).toNat = n := ⟨_, rfl⟩
        rw [hn]
        exact num_u (pt := some (List.replicate n 48 ++ D)) (ex := none) (W := [48]) (by simp [ptT, exT]) (by decide) (by simp) (by show (List.replicate n 48 ++ D).all isDec = true; rw [List.all_append, hD, zeros_dec]; rfl) trivial
      · rename_i c0 c1 c
        obtain ⟨Sx, X, e1, e2, e3, e4, _⟩ := itoa_form ((D.length : Int) + q - 1)
        rw [e1]
        unfold ptd
        split
        · exact num_u (pt := none) (ex := some (101, Sx, X)) (W := D) (by simp [ptT, exT]) hD hne rfl ⟨rfl, e2, e3, e4⟩
        · have hd := List.take_append_drop 1 D
          have hD' := hD
          rw [← hd] at hD'
          obtain ⟨a1, a2⟩ := all_left hD'
          exact num_u (pt := some (D.drop 1)) (ex := some (101, Sx, X)) (W := D.take 1) (by simp [ptT, exT]) a1 (fun e => by
            have := congrArg List.length e
            rw [List.length_take, List.length_nil] at this
            omega) a2 ⟨rfl, e2, e3, e4⟩
theorem hx_pHex : ∀ d : Fin 16, pHex (hxDig d.val) = true := by decide
theorem digs_pHex : ∀ (k r : Nat), r < 2 ^ 64 → ∀ c ∈ digs k r, pHex c = true
  | 0, r, _, c, h => by simp [digs] at h
  | k + 1, r, hr, c, h => by
    unfold digs at h
    split at h
    · cases h
    · rcases List.mem_cons.1 h with h | h
      · rw [h]; exact hx_pHex ⟨r / 2 ^ 60, by omega⟩
      · exact digs_pHex k _ (Nat.mod_lt _ (by decide)) c h
theorem hexn_u {ds : List UInt8} {t : Int} (hd : ∀ c ∈ ds, pHex c = true) : NumU false (prN false ds t) := by
  obtain ⟨y, hy⟩ : ∃ y : Nat, (if t < 0 then -t else t) = (y : Int) := ⟨t.natAbs, by split <;> omega⟩
  have e : prN false ds t = 48 :: 120 :: ((49 :: (if ds = [] then [] else 46 :: ds)) ++ (112 :: ([if t < 0 then 45 else 43] ++ Lib.decDigits y))) := by
    unfold prN; rw [hy, Lib.itoa_nonneg]; simp
  refine ⟨fun A => hex_cut (A := A) (D := 49 :: (if ds = [] then [] else 46 :: ds)) (S := [if t < 0 then 45 else 43]) (X := Lib.decDigits y) (by rw [e]) (fun c hc => ?_) ?_ (digs_dec y) (fun h => (dcV_digits y).2.2.2 (by rw [h]; rfl)), by rw [e]; rfl, by rw [e]; simp⟩
  · rcases List.mem_cons.1 hc with h | h
    · rw [h]; decide
    · split at h
      · cases h
      · rcases List.mem_cons.1 h with h | h
        · rw [h]; decide
        · exact hd c h
  · split
    · exact .inr (.inr rfl)
    · exact .inr (.inl rfl)
theorem hex0_u : NumU false (prR false 0) :=
  ⟨fun A => hex_cut (A := A) (D := [48]) (S := [43]) (X := [48]) rfl (fun c hc => by rw [List.mem_singleton] at hc; rw [hc]; decide) (.inr (.inl rfl)) (by decide) (by decide), by decide, by decide⟩

/-- U spells the pattern z, a size: inf, or a number that is read so. -/
def SpU (z : Nat) (U : List UInt8) : Prop := (z = 9218868437227405312 ∧ U = [105, 110, 102]) ∨ ∃ dec : Bool, NumU dec U ∧
  ∀ W, Tab64 W → Calls Tryz.prog (if dec then 201 else 202) #[.int .i64 64, .string (bs U)] W fun e w' => e = .returned (.tuple #[.int .u64 (z : Int), .int .i64 0]) ∧ Below W.heap.size W w'
/-- T spells the pattern b. -/
def SpT (b : Nat) (T : List UInt8) : Prop := T.length ≤ 300 ∧
  ((9218868437227405312 < b % 9223372036854775808 ∧ T = [110, 97, 110]) ∨ (b % 9223372036854775808 ≤ 9218868437227405312 ∧ ∃ U, T = (if 9223372036854775808 ≤ b then [45] else []) ++ U ∧ SpU (b % 9223372036854775808) U))
/-- The pattern that the text of a pattern is read as. -/
def wantD (b : Nat) : Nat := if 9218868437227405312 < b % 9223372036854775808 then 9221120237041090561 else b
theorem wantD_lt {b : Nat} (hb : b < 18446744073709551616) : wantD b < 18446744073709551616 := by unfold wantD; split <;> omega

theorem dec_sp {b : Nat} (hb : b < 18446744073709551616) {T : List UInt8} (hT : PrOk fmD b T) : SpT b T := by
  have hSS : (2 : Nat) ^ fmD.S = 9223372036854775808 := by decide
  obtain ⟨t1, t2, t3, t4⟩ := hT
  rw [hSS] at t1 t2 t3 t4
  rw [infD] at t1 t2 t4
  have hsl : (if 9223372036854775808 ≤ b then [45] else [] : List UInt8).length ≤ 1 := by split <;> simp
  by_cases c1 : 9218868437227405312 < b % 9223372036854775808
  · exact ⟨by rw [t1 c1]; decide, .inl ⟨c1, t1 c1⟩⟩
  by_cases c2 : b % 9223372036854775808 = 9218868437227405312
  · exact ⟨by rw [t2 c2, List.length_append]; simp only [List.length_cons, List.length_nil]; omega, .inr ⟨by omega, _, t2 c2, .inl ⟨c2, rfl⟩⟩⟩
  -- a number: what is read of its size
  have hread : ∀ U, PrOk fmD (b % 9223372036854775808) U → U.length ≤ 299 → ∀ W, Tab64 W → Calls Tryz.prog 201 #[.int .i64 64, .string (bs U)] W fun e w' => e = .returned (.tuple #[.int .u64 ((b % 9223372036854775808 : Nat) : Int), .int .i64 0]) ∧ Below W.heap.size W w' := fun U hU hl W ht => by
    refine (dparse_walk fmD (.inr rfl) (bs U) W (by rw [bs_size]; omega) ht).mono ?_
    rintro e w' ⟨v, k, rfl, hp, hb'⟩
    obtain ⟨k1, _, _, k4⟩ := back_plain (f := fmD) (b := b % 9223372036854775808) (by show _ < 2 ^ 64; omega) hU hp
    have hv := k4 (by rw [hSS, infD]; omega)
    rw [hv, k1]
    exact ⟨rfl, hb'⟩
  have hpr : ∀ U, (b % 9223372036854775808 = 0 → U = [48]) → (b % 9223372036854775808 ≠ 0 → b % 9223372036854775808 < 9218868437227405312 → ∃ (d : Nat) (q : Int), (ShOk fmD (b % 9223372036854775808) d q ∧ d < 10 ^ 18 ∧ -500 ≤ q ∧ q ≤ 500) ∧ U = layS (tl0 (Lib.decDigits d)) (q + ((Lib.decDigits d).length : Int) - ((tl0 (Lib.decDigits d)).length : Int))) → PrOk fmD (b % 9223372036854775808) U := fun U h0 h1 => by
    unfold PrOk
    rw [hSS, infD, Nat.mod_mod, if_neg (by omega)]
    exact ⟨fun h => by omega, fun h => by omega, h0, h1⟩
  by_cases c3 : b % 9223372036854775808 = 0
  · refine ⟨by rw [t3 c3, List.length_append]; simp only [List.length_cons, List.length_nil]; omega, .inr ⟨by omega, [48], t3 c3, .inr ⟨true, ?_, hread [48] (hpr _ (fun _ => rfl) (fun h => absurd c3 h)) (by decide)⟩⟩⟩
    exact num_u (pt := none) (ex := none) (W := [48]) rfl (by decide) (by decide) rfl trivial
  · obtain ⟨d, q, hd, e⟩ := t4 c3 (by omega)
    have hl := lay_size hd.2
    rw [bs_size] at hl
    have hz := tl0_zeros (Lib.decDigits d)
    have hDd := digs_dec d
    have htd : (tl0 (Lib.decDigits d)).all isDec = true := by rw [hz] at hDd; exact (all_left hDd).1
    refine ⟨by rw [e, List.length_append]; omega, .inr ⟨by omega, _, e, .inr ⟨true, lay_u htd (tl0_some (sh_pos hd.1)), hread _ (hpr _ (fun h => absurd h c3) (fun _ _ => ⟨d, q, hd, rfl⟩)) (by omega)⟩⟩⟩

theorem hex_sp (b : Nat) (hb : b < 18446744073709551616) : ∃ T : List UInt8, SpT b T ∧
    (∀ W, Tab64 W → Tab10 W → Calls Tryz.prog 9 #[.int .i64 64, .int .u64 (b : Int)] W fun e w' => e = .returned (.tuple #[.string (bs T), .int .i64 0]) ∧ Below W.heap.size W w') := by
  by_cases h0 : b % 9223372036854775808 = 0
  · have hc : clsN 4503599627370496 9218868437227405312 (b % 9223372036854775808) = 0 := by unfold clsN; rw [if_pos h0]
    refine ⟨prR (decide (9223372036854775808 ≤ b)) 0, ⟨by cases decide (9223372036854775808 ≤ b) <;> decide, .inr ⟨by omega, prR false 0, by by_cases h : 9223372036854775808 ≤ b; rw [if_pos h, decide_eq_true h]; rfl; rw [if_neg h, decide_eq_false h]; rfl, .inr ⟨false, hex0_u, fun W hW => ?_⟩⟩⟩, fun W h1 h2 => ?_⟩
    · rw [h0]; exact parse_bs 64 (.inr rfl) _ 0 (by decide) (rest_read fmD (.inr rfl) false).1 W hW
    · have := print_rest_D b hb (.inl hc) W
      rw [hc] at this
      exact this
  by_cases h3 : b % 9223372036854775808 = 9218868437227405312
  · have hc : clsN 4503599627370496 9218868437227405312 (b % 9223372036854775808) = 3 := by rw [h3]; decide
    refine ⟨prR (decide (9223372036854775808 ≤ b)) 3, ⟨by cases decide (9223372036854775808 ≤ b) <;> decide, .inr ⟨by omega, [105, 110, 102], by by_cases h : 9223372036854775808 ≤ b; rw [if_pos h, decide_eq_true h]; rfl; rw [if_neg h, decide_eq_false h]; rfl, .inl ⟨h3, rfl⟩⟩⟩, fun W h1 h2 => ?_⟩
    have := print_rest_D b hb (.inr (.inl hc)) W
    rw [hc] at this
    exact this
  by_cases h4 : 9218868437227405312 < b % 9223372036854775808
  · have hc : clsN 4503599627370496 9218868437227405312 (b % 9223372036854775808) = 4 := by
      unfold clsN
      rw [if_neg h0, if_neg (by omega), if_neg (by omega), if_neg h3]
    refine ⟨[110, 97, 110], ⟨by decide, .inl ⟨h4, rfl⟩⟩, fun W h1 h2 => ?_⟩
    have := print_rest_D b hb (.inr (.inr hc)) W
    rw [hc] at this
    exact this
  · have hfin : b % 9223372036854775808 < 9218868437227405312 := by omega
    have hm := ptM_facts fmD (by decide) (b % 9223372036854775808)
    rw [show 2 ^ (fmD.P - 1) = 4503599627370496 by decide, show 2 ^ fmD.P = 2 * 4503599627370496 by decide] at hm
    have hbl : blen (ptM 4503599627370496 (b % 9223372036854775808)) ≤ 53 := blen_le.2 hm.1
    have he : -2000 ≤ ptE 4503599627370496 (-1074) (b % 9223372036854775808) ∧ ptE 4503599627370496 (-1074) (b % 9223372036854775808) ≤ 5000 := by
      have hq : b % 9223372036854775808 / 4503599627370496 ≤ 2047 := by omega
      unfold ptE
      generalize b % 9223372036854775808 / 4503599627370496 = q at *
      split <;> omega
    have hv := back_val_D (b % 9223372036854775808) (by omega) (by rw [Nat.mod_mod]; omega)
    rw [Nat.mod_mod, if_neg h3, decide_eq_false (by omega)] at hv
    have hpm := print_means (f := fmD) (.inr rfl) false _ (ptE 4503599627370496 (-1074) (b % 9223372036854775808)) (hm.2 h0) (by omega) (by omega) (by omega)
    rw [hv] at hpm
    have hpl := prN_len false (fracOf (ptM 4503599627370496 (b % 9223372036854775808))) (ptE 4503599627370496 (-1074) (b % 9223372036854775808) + ((blen (ptM 4503599627370496 (b % 9223372036854775808)) - 1 : Nat) : Int)) (by omega) (by omega)
    refine ⟨prN (decide (9223372036854775808 ≤ b)) (digs 16 (fracOf (ptM 4503599627370496 (b % 9223372036854775808)))) (ptE 4503599627370496 (-1074) (b % 9223372036854775808) + ((blen (ptM 4503599627370496 (b % 9223372036854775808)) - 1 : Nat) : Int)), ⟨Nat.le_trans (prN_len _ _ _ (by omega) (by omega)) (by omega), .inr ⟨by omega, _, ?_, .inr ⟨false, hexn_u (digs_pHex 16 _ (Nat.mod_lt _ (by decide))), fun W hW => parse_bs 64 (.inr rfl) _ _ (by omega) hpm W hW⟩⟩⟩, fun W h1 h2 => print_num_D b hb h0 hfin W h1 h2⟩
    by_cases h : 9223372036854775808 ≤ b
    · rw [if_pos h, decide_eq_true h]; rfl
    · rw [if_neg h, decide_eq_false h]; rfl
end Go.Proofs.YtibjogbalmbeeaaGreatDoor

namespace Go.Proofs.YtibjogbalmbeeaaGreatDoor
open Go.RowKit

/-- The piece behind A, to the text's end. -/
theorem piece_end {A U : List UInt8} {k : Nat} (h : cutK (bs (A ++ U)) A.length = (k, (bs (A ++ U)).size)) (hk : k ≠ 4) (hU : U ≠ []) :
    plc (bs (A ++ U)) A.length = A.length ∧ knd (bs (A ++ U)) A.length = k ∧ txt (bs (A ++ U)) A.length = bs U ∧ nxt (bs (A ++ U)) A.length = (bs (A ++ U)).size := by
  have h0 : ovr pBln (bs (A ++ U)) A.length = A.length := not_blank (by rw [h]; exact hk)
  have hl : 1 ≤ U.length := by cases U with | nil => exact absurd rfl hU | cons => simp
  unfold plc knd txt nxt
  rw [h0, h]
  refine ⟨rfl, rfl, ?_, rfl⟩
  unfold cutT
  rw [if_neg (by rw [bs_size, List.length_append]; omega), h]
  show (bs (A ++ U)).extract A.length (bs (A ++ U)).size = bs U
  rw [bs_ext, List.drop_append, bs_size, List.length_append]
  simp
/-- A word to the text's end. -/
theorem word_cut {A U : List UInt8} {c : UInt8} {t : List UInt8} (hU : U = c :: t) (hc : pLet c = true) (ht : ∀ x ∈ U, pWrd x = true) : cutK (bs (A ++ U)) A.length = (1, (bs (A ++ U)).size) := by
  have h0 := by8_hd (T := A ++ U) (A := A) (R := t) (c := c) (by rw [hU])
  have hr := ovr_run (p := pWrd) (T := A ++ U) (A := A) (D := U) (R := []) (by simp) ht (fun c t h => by cases h)
  unfold cutK
  rw [if_neg (by rw [bs_size, hU]; simp), h0, hc, if_pos rfl, hr, bs_size, List.length_append]
theorem end_piece (s : ByteArray) : knd s s.size = 0 := by
  unfold knd
  rw [ovr_stop (fun h => absurd h (by omega))]
  unfold cutK
  rw [if_pos (Nat.le_refl _)]
theorem end_isM (s : ByteArray) (t m : ByteArray) : isM (knd s s.size) t m = false := by rw [end_piece]; rfl
/-- The tables are there in a state too. -/
theorem St.tab {w W : World} {g s n D L d h l} (H : St w W g s n D L d h l) (hg : w.heap.size = g) (ht : Tab64 w) : Tab64 W := ht.below (by rw [hg]; exact H.1)

theorem reads_U {w W : World} {g : Nat} {A U : List UInt8} {z : Nat} {D L d h l} (hU : SpU z U) (H : St w W g (bs (A ++ U)) A.length D L d h l) (hsz : (A ++ U).length ≤ 1000) (hl : l.length < 1000) (hg : w.heap.size = g) (ht : Tab64 w) :
    Calls Tryz.prog 164 #[.pointer (some ⟨g, 0, none⟩)] W fun e w' => e = .returned (.tuple #[]) ∧ St w w' g (bs (A ++ U)) (bs (A ++ U)).size D L d h (l ++ [z]) := by
  have hn : A.length ≤ (bs (A ++ U)).size := by rw [bs_size, List.length_append]; omega
  have hs : (bs (A ++ U)).size ≤ 100000 := by rw [bs_size]; omega
  rcases hU with ⟨rfl, rfl⟩ | ⟨dec, ⟨hc, hx, hne⟩, hP⟩
  · obtain ⟨p1, p2, p3, p4⟩ := piece_end (A := A) (U := [105, 110, 102]) (word_cut rfl (by decide) (by decide)) (by decide) (by decide)
    have := H.const p2 hn hs (by omega) 9218868437227405312 (by rw [p3]; exact fun U => constant_inf U)
    rw [p4] at this
    exact this
  · obtain ⟨p1, p2, p3, p4⟩ := piece_end (hc A) (by decide) hne
    have := H.number p2 hn hs (by omega) z dec (by rw [p3, bs_dl]; exact hx) (fun V hV => by rw [p3]; exact hP V ((H.tab hg ht).below hV))
    rw [p4] at this
    exact this
theorem minus_piece (U : List UInt8) : knd (bs (45 :: U)) 0 = 3 ∧ txt (bs (45 :: U)) 0 = ⟨#[45]⟩ ∧ nxt (bs (45 :: U)) 0 = 1 ∧ plc (bs (45 :: U)) 0 = 0 := by
  have h0 : by8 (bs (45 :: U)) 0 = 45 := rfl
  have h1 : cutK (bs (45 :: U)) 0 = (3, 1) := by
    unfold cutK
    rw [if_neg (by rw [bs_size]; simp), h0]
    rfl
  have h2 : ovr pBln (bs (45 :: U)) 0 = 0 := not_blank (by rw [h1]; decide)
  unfold knd txt nxt plc
  rw [h2, h1]
  refine ⟨rfl, ?_, rfl, rfl⟩
  unfold cutT
  rw [if_neg (by rw [bs_size]; simp), h1]
  show (bs (45 :: U)).extract 0 1 = _
  rw [bs_ext]
  rfl
theorem St.shut {w W : World} {g s D L d h l l2} (H : St w W g s 0 D L d h l)
    (hF : ∀ U, St w U g s 0 D L d h l → Calls Tryz.prog 164 #[.pointer (some ⟨g, 0, none⟩)] U fun e w' => e = .returned (.tuple #[]) ∧ St w w' g s s.size D L d h l2) :
    Calls Tryz.prog 104 #[.pointer (some ⟨g, 0, none⟩)] W fun e w' => e = .returned (.tuple #[]) ∧ St w w' g s s.size D L d h l2 :=
  H.expression_one (end_isM _ _ _) (end_isM _ _ _) fun _ hU => hU.term_one (end_isM _ _ _) (end_isM _ _ _) hF
/-- An expression that spells a pattern: what it is read as lies on the stack, the line is at its end. -/
theorem reads {w W : World} {g : Nat} {T : List UInt8} {b : Nat} {D L d h l} (hT : SpT b T) (hb : b < 18446744073709551616) (H : St w W g (bs T) 0 D L d h l) (hd : d < 50) (hl : l.length < 900) (hg : w.heap.size = g) (ht : Tab64 w) :
    Calls Tryz.prog 104 #[.pointer (some ⟨g, 0, none⟩)] W fun e w' => e = .returned (.tuple #[]) ∧ St w w' g (bs T) (bs T).size D L d h (l ++ [wantD b]) := by
  refine H.shut fun U hU => ?_
  obtain ⟨hlen, ⟨hn, rfl⟩ | ⟨hn, V, rfl, hV⟩⟩ := hT
  · have hpe := piece_end (A := []) (U := [110, 97, 110]) (word_cut rfl (by decide) (by decide)) (by decide) (by decide)
    simp only [List.nil_append, List.length_nil] at hpe
    obtain ⟨p1, p2, p3, p4⟩ := hpe
    have hw : wantD b = 9221120237041090561 := by unfold wantD; rw [if_pos hn]
    have := hU.const p2 (Nat.zero_le _) (by rw [bs_size]; decide) (by omega) 9221120237041090561 (by rw [p3]; exact fun U => constant_nan U)
    rw [p4] at this
    rw [hw]
    exact this
  · have hw : wantD b = b := by unfold wantD; rw [if_neg (by omega)]
    rw [hw]
    by_cases c : 9223372036854775808 ≤ b
    · rw [if_pos c] at hU hlen ⊢
      obtain ⟨m1, m2, m3, m4⟩ := minus_piece V
      have hlen' : ([45] ++ V).length ≤ 300 := hlen
      have hs : (bs (45 :: V)).size ≤ 100000 := by rw [bs_size]; simp at hlen' ⊢; omega
      have hb2 : b = 9223372036854775808 + b % 9223372036854775808 := by omega
      have hz : b % 9223372036854775808 ≤ 9218868437227405312 := by omega
      generalize b % 9223372036854775808 = z at *
      subst hb2
      refine St.minus (s := bs (45 :: V)) (x := z) (y := 9223372036854775808 + z) (z := 0) (n2 := (bs (45 :: V)).size) hU (by rw [m1, m2]; decide) (Nat.zero_le _) hs hd (by omega) (fun W1 h1 => ?_) (fun W1 h1 => neg_D z hz W1 (h1.tab hg ht))
      rw [m3] at h1
      exact reads_U (A := [45]) (U := V) hV h1 (by omega) (by omega) hg ht
    · rw [if_neg c] at hU hlen ⊢
      have hz : b % 9223372036854775808 = b := by omega
      rw [hz] at hV
      exact reads_U (A := []) (U := V) hV hU (by rw [List.nil_append] at hlen ⊢; omega) (by omega) hg ht
end Go.Proofs.YtibjogbalmbeeaaGreatDoor

namespace Go.Proofs.YtibjogbalmbeeaaGreatDoor
open Go.RowKit

theorem shD_unique {f : Fm} {z d d' : Nat} {q q' : Int} (h : ShOk f z d q) (h' : ShOk f z d' q') : d = d' ∧ q = q' := by
  obtain ⟨t, n, h1, hn1, _, hq, hd, hno⟩ := h
  obtain ⟨t', n', h1', hn1', _, hq', hd', hno'⟩ := h'
  have e := ten_unique h1 h1'
  subst e
  have hn : n = n' := by
    rcases Nat.lt_trichotomy n n' with c | c | c
    · have := hno' n hn1 c
      rw [← hq, hd] at this
      exact absurd this (by simp)
    · exact c
    · have := hno n' hn1' c
      rw [← hq', hd'] at this
      exact absurd this (by simp)
  subst hn
  have e : q = q' := by omega
  subst e
  rw [hd] at hd'
  injection hd' with hd'
  exact ⟨hd', rfl⟩
theorem prD_unique {f : Fm} {b : Nat} {T T' : List UInt8} (h : PrOk f b T) (h' : PrOk f b T') : T = T' := by
  obtain ⟨a1, a2, a3, a4⟩ := h
  obtain ⟨b1, b2, b3, b4⟩ := h'
  by_cases c1 : f.inf < b % 2 ^ f.S
  · rw [a1 c1, b1 c1]
  by_cases c2 : b % 2 ^ f.S = f.inf
  · rw [a2 c2, b2 c2]
  by_cases c3 : b % 2 ^ f.S = 0
  · rw [a3 c3, b3 c3]
  obtain ⟨d, q, ⟨h1, _⟩, e⟩ := a4 c3 (by omega)
  obtain ⟨d', q', ⟨h1', _⟩, e'⟩ := b4 c3 (by omega)
  obtain ⟨rfl, rfl⟩ := shD_unique h1 h1'
  rw [e, e']
/-- The decimal text of a pattern and of what it is read as is one. -/
theorem dec_want {b : Nat} {T T' : List UInt8} (h : PrOk fmD b T) (h' : PrOk fmD (wantD b) T') : T' = T := by
  unfold wantD at h'
  split at h'
  · rename_i c
    have h1 := h.1
    have h2 := h'.1
    rw [infD] at h1 h2
    rw [h1 c, h2 (by decide)]
  · exact prD_unique h' h
/-- The hexadecimal text of a pattern and of what it is read as is one. -/
theorem hex_want (b : Nat) (hb : b < 18446744073709551616) : ∃ T : List UInt8, SpT b T ∧
    (∀ W, Tab64 W → Tab10 W → Calls Tryz.prog 9 #[.int .i64 64, .int .u64 (b : Int)] W fun e w' => e = .returned (.tuple #[.string (bs T), .int .i64 0]) ∧ Below W.heap.size W w') ∧
    (∀ W, Tab64 W → Tab10 W → Calls Tryz.prog 9 #[.int .i64 64, .int .u64 ((wantD b : Nat) : Int)] W fun e w' => e = .returned (.tuple #[.string (bs T), .int .i64 0]) ∧ Below W.heap.size W w') := by
  obtain ⟨T, h1, h2⟩ := hex_sp b hb
  by_cases c : 9218868437227405312 < b % 9223372036854775808
  · have hw : wantD b = 9221120237041090561 := by unfold wantD; rw [if_pos c]
    obtain ⟨T', h1', h2'⟩ := hex_sp 9221120237041090561 (by decide)
    have e : T = [110, 97, 110] := by
      rcases h1.2 with ⟨_, e⟩ | ⟨h, _⟩
      · exact e
      · omega
    have e' : T' = [110, 97, 110] := by
      rcases h1'.2 with ⟨_, e⟩ | ⟨h, _⟩
      · exact e
      · exact absurd h (by decide)
    rw [hw]
    subst e
    subst e'
    exact ⟨_, h1, h2, h2'⟩
  · have hw : wantD b = b := by unfold wantD; rw [if_neg c]
    rw [hw]
    exact ⟨T, h1, h2, h2⟩
end Go.Proofs.YtibjogbalmbeeaaGreatDoor
