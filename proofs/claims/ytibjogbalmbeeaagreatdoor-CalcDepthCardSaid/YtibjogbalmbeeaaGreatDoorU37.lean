/- Walks of gnomonlaw27's helpers: times, is, fails. · Calc: the lines of CalcDepth: what each answers. · Plain facts: the texts of CalcDepth. -/
import Derived.Test.YtibjogbalmbeeaaGreatDoorU36

namespace Go.Proofs.YtibjogbalmbeeaaGreatDoor
open Go.RowKit

/-- A text n times. -/
def rep (s : List UInt8) : Nat → List UInt8
  | 0 => []
  | n + 1 => rep s n ++ s
theorem rep_len (s : List UInt8) (n : Nat) : (rep s n).length = n * s.length := by
  induction n with
  | zero => simp [rep]
  | succ n ih => rw [rep, List.length_append, ih, Nat.succ_mul]
set_option maxRecDepth 100000 in
theorem times_walk (s : List UInt8) (n : Nat) (hs : s.length ≤ 10) (hn : n ≤ 1000) (w : World) :
    Calls Tryz.prog 13 #[.string (bs s), .int .i64 (n : Int)] w fun e w' => e = .returned (.string (bs (rep s n))) ∧ w' = w := by
  have HS := Lib.hid hs
  have HN := Lib.hid hn
  clear hs hn
  go_enter Tryz.func13, Tryz.ntmps13
  go_wp2_with fail
  go_loop [5, 6] (fun tv iv => ∃ j : Nat, tv = .string (bs (rep s j)) ∧ iv = .int .i64 (j : Int) ∧ j ≤ n) (fun _ iv => n - (intOf iv).toNat)
  case atStart => exact ⟨0, rfl, rfl, Nat.zero_le _⟩
  case round =>
    obtain ⟨j, rfl, rfl, hj⟩ := hrel
    by_cases hlt : j < n
    · have hli : (j : Int) < (n : Int) := by omega
      have kw : IntKind.i64.wrap ((j : Int) + 1) = ((j + 1 : Nat) : Int) := by have := HN.out; rw [IntKind.wrap_i64]; omega
      have hlim : ¬ 9223372036854775807 < (bs (rep s j)).size + (bs s).size := by
        rw [bs_size, bs_size, rep_len]
        have h1 := HS.out
        have h2 := HN.out
        have h3 : j * s.length ≤ 1000 * 10 := Nat.mul_le_mul (by omega) h1
        omega
      have happ : bs (rep s j) ++ bs s = bs (rep s (j + 1)) := bs_append _ _
      have HL := Lib.hid hlt
      clear hlt hj
      go_wp2_with fail
      go_round
      case rel =>
        refine ⟨j + 1, ?_, ?_, HL.out⟩
        · rw [← happ]
        · first | rfl | simp
      case measure => have := HL.out; simp [intOf]; omega
    · have hje : j = n := by omega
      have hli : ¬ (j : Int) < (n : Int) := by omega
      subst hje
      clear hlt hj
      go_wp2_with fail
      exact bodyPost_ret (v := .string (bs (rep s j))) (by simp [results, Tryz.results13, go_sem]) rfl ⟨rfl, rfl⟩
set_option maxRecDepth 100000 in
theorem lawfails_walk (a e : Int) (W : World) : Calls Tryz.prog 14 #[.agg #[.string ⟨#[]⟩, .int .i64 a, .int .i64 e], .int .i64 e, .int .i64 a] W fun x w' => x = .returned (.bool true) ∧ Below W.heap.size W w' := by
  have hb := below_alloc' W (.cells #[.string ⟨#[]⟩, .int .i64 a, .int .i64 e] 31)
  go_enter Tryz.func14, Tryz.ntmps14
  go_wp2
  exact bodyPost_ret (v := .bool true) (by simp [results, Tryz.results14, go_sem]) rfl ⟨rfl, hb⟩
/-- A reply that is kept. -/
def Rg (W : World) (q g : Nat) (R : ByteArray) (a e : Int) : Prop := Box3 W g (.string R) (.int .i64 a) (.int .i64 e) ∧ g ≠ q
theorem Rg.grb {W W' : World} {q g : Nat} {R a e} (h : Rg W q g R a e) (k : W.grownBy W' (some q)) : Rg W' q g R a e := ⟨h.1.grb k h.2, h.2⟩
theorem Rg.below {W W' : World} {q g : Nat} {R a e} (h : Rg W q g R a e) (k : Below W.heap.size W W') : Rg W' q g R a e := ⟨h.1.below k, h.2⟩
theorem Rg.alloc {W : World} {q g : Nat} {R a e} (h : Rg W q g R a e) (o : Obj) : Rg (W.alloc o) q g R a e := h.below (below_alloc' W o)
theorem Rg.new {w W : World} {q : Nat} {m hx} (h : Dk w W q m hx) (R : ByteArray) (a e : Int) : Rg (W.alloc (.cells #[.string R, .int .i64 a, .int .i64 e] 31)) q W.heap.size R a e :=
  ⟨⟨by simp, by simp, by simp, by simp, by simp, by simp, by simp⟩, by have := h.dk.lt; omega⟩
end Go.Proofs.YtibjogbalmbeeaaGreatDoor

namespace Go.Proofs.YtibjogbalmbeeaaGreatDoor
open Go.RowKit

theorem line_st {w : World} {q : Nat} {m : Value} {T : List UInt8} {x : Nat} {R : ByteArray} (hD : DkB w q m false false) (ht : Tab64 w) (h10 : Tab10 w) (hsz : T.length ≤ 1000) (k0 : knd (bs T) 0 ≠ 0) (k1 : knd (bs T) 0 ≠ 1)
    (hF : ∀ (w1 W : World) (g : Nat) (L : Value), w1.heap.size = g → Tab64 w1 → St w1 W g (bs T) 0 (.pointer (some ⟨q, 0, none⟩)) L 0 (-1) [] → Calls Tryz.prog 164 #[.pointer (some ⟨g, 0, none⟩)] W fun e w' => e = .returned (.tuple #[]) ∧ St w1 w' g (bs T) (bs T).size (.pointer (some ⟨q, 0, none⟩)) L 0 (-1) [x])
    (hP : ∀ W, Tab64 W → Tab10 W → Calls Tryz.prog 8 #[.int .i64 64, .int .u64 (x : Int)] W fun e w' => e = .returned (.tuple #[.string R, .int .i64 0]) ∧ Below W.heap.size W w') :
    Calls Tryz.prog 11 #[.pointer (some ⟨q, 0, none⟩), .string (bs T)] w fun e w' => e = .returned (.agg #[.string R, .int .i64 0, .int .i64 0]) ∧ DkB w' q m false false ∧ w.grownBy w' (some q) := by
  have hs : (bs T).size ≤ 1000 := by rw [bs_size]; exact hsz
  refine LineE_walk (bs T) R hD hs fun w1 W g L hb1 hg hS => ?_
  have hq : q < g := by have := hD.lt; have := hb1.size; omega
  have hDW : DkB W q m false false := (hD.keep hb1 hD.lt).keep hS.1 hq
  have ht1 := ht.below hb1
  have h11 := h10.below hb1
  refine (desk_line_n hS.st hDW hq (by omega) k0 k1 (x := x) (T' := R) (fun U hU => hU.value (end_piece _) (by simp) fun V hV => hV.shut fun V2 hV2 => hF w1 V2 g L hg ht1 hV2)
    (fun U hU hK => print_walk hK x R (hP U (ht1.below (by rw [hg]; exact hU)) (h11.below (by rw [hg]; exact hU))))).mono ?_
  rintro e w' ⟨rfl, h1, h2⟩
  exact ⟨rfl, h2, grb_of q (by rw [hg]; exact h1)⟩
theorem line_st_no {w : World} {q : Nat} {m : Value} {T : List UInt8} {a e : Int} (hD : DkB w q m false false) (ht : Tab64 w) (hsz : T.length ≤ 1000) (k0 : knd (bs T) 0 ≠ 0) (k1 : knd (bs T) 0 ≠ 1)
    (hF : ∀ (w1 W : World) (g : Nat) (L : Value), w1.heap.size = g → Tab64 w1 → St w1 W g (bs T) 0 (.pointer (some ⟨q, 0, none⟩)) L 0 (-1) [] → Calls Tryz.prog 164 #[.pointer (some ⟨g, 0, none⟩)] W fun x w' => x = .panicked [cfault a e] ∧ Below g w1 w') :
    Calls Tryz.prog 11 #[.pointer (some ⟨q, 0, none⟩), .string (bs T)] w fun x w' => x = .returned (.agg #[.string ⟨#[]⟩, .int .i64 a, .int .i64 e]) ∧ DkB w' q m false false ∧ w.grownBy w' (some q) := by
  have hs : (bs T).size ≤ 1000 := by rw [bs_size]; exact hsz
  refine LineE_no (bs T) a e hD hs fun w1 W g L hb1 hg hS => ?_
  have hq : q < g := by have := hD.lt; have := hb1.size; omega
  have hDW : DkB W q m false false := (hD.keep hb1 hD.lt).keep hS.1 hq
  have ht1 := ht.below hb1
  refine (desk_line_n_no hS.st hDW hq (by omega) k0 k1 (ch := [cfault a e]) (fun U hU => value_no (Q := fun w' => Below g w1 w') (expression_no (Q := fun w' => Below g w1 w') (term_no (Q := fun w' => Below g w1 w') (hF w1 U g L hg ht1 hU))))).mono ?_
  rintro x w' ⟨rfl, h1, h2⟩
  exact ⟨rfl, h2, grb_of q (by rw [hg]; exact h1)⟩
theorem line_f {w : World} {q : Nat} {m : Value} {T : List UInt8} {x : Nat} {R : ByteArray} (hD : DkB w q m false false) (ht : Tab64 w) (h10 : Tab10 w) (hsz : T.length ≤ 1000) (k1 : knd (bs T) 0 = 1) (k2 : txt (bs T) 0 = absC)
    (hF : ∀ (w1 W : World) (g : Nat) (L : Value), w1.heap.size = g → Tab64 w1 → Below g w1 W → Em W g (bs T) 0 (.pointer (some ⟨q, 0, none⟩)) L 0 (-1) → Calls Tryz.prog 164 #[.pointer (some ⟨g, 0, none⟩)] W fun e w' => e = .returned (.tuple #[]) ∧ Fu W w' g (bs T) (bs T).size (.pointer (some ⟨q, 0, none⟩)) L 0 (-1) x)
    (hP : ∀ W, Tab64 W → Tab10 W → Calls Tryz.prog 8 #[.int .i64 64, .int .u64 (x : Int)] W fun e w' => e = .returned (.tuple #[.string R, .int .i64 0]) ∧ Below W.heap.size W w') :
    Calls Tryz.prog 11 #[.pointer (some ⟨q, 0, none⟩), .string (bs T)] w fun e w' => e = .returned (.agg #[.string R, .int .i64 0, .int .i64 0]) ∧ DkB w' q m false false ∧ w.grownBy w' (some q) := by
  have hs : (bs T).size ≤ 1000 := by rw [bs_size]; exact hsz
  refine LineE_walk (bs T) R hD hs fun w1 W g L hb1 hg hS => ?_
  have hq : q < g := by have := hD.lt; have := hb1.size; omega
  have hDW : DkB W q m false false := (hD.keep hb1 hD.lt).keep hS.1 hq
  have ht1 := ht.below hb1
  have h11 := h10.below hb1
  refine (desk_line_f hS hDW hq (by omega) k1 (by rw [k2]; exact ne_str (s := absC) (t := ⟨#[100, 114, 111, 112]⟩) (by decide)) (by rw [k2]; exact command_abs) (by rw [k2]; exact named_abs _) (x := x) (T' := R) (fun U hU => ?_)
    (fun U hU hK => print_walk hK x R (hP U (ht1.below (by rw [hg]; exact hU)) (h11.below (by rw [hg]; exact hU))))).mono ?_
  · refine (Em.value hU.2 (end_piece _) (Em.expression_one (end_isM _ _ _) (end_isM _ _ _) (Em.term_one (end_isM _ _ _) (end_isM _ _ _) (hF w1 U g L hg ht1 hU.1 hU.2)))).mono ?_
    rintro e w' ⟨rfl, h1⟩
    have hl := Em.lt hU.2
    exact ⟨rfl, hU.1.trans (grb_below h1 (Nat.le_of_lt hl)), Nat.lt_of_lt_of_le hl h1.size⟩
  · rintro e w' ⟨rfl, h1, h2⟩
    exact ⟨rfl, h2, grb_of q (by rw [hg]; exact h1)⟩
theorem line_f_no {w : World} {q : Nat} {m : Value} {T : List UInt8} {a e : Int} (hD : DkB w q m false false) (ht : Tab64 w) (hsz : T.length ≤ 1000) (k1 : knd (bs T) 0 = 1) (k2 : txt (bs T) 0 = absC)
    (hF : ∀ (w1 W : World) (g : Nat) (L : Value), w1.heap.size = g → Tab64 w1 → Below g w1 W → Em W g (bs T) 0 (.pointer (some ⟨q, 0, none⟩)) L 0 (-1) → Calls Tryz.prog 164 #[.pointer (some ⟨g, 0, none⟩)] W fun x w' => x = .panicked [cfault a e] ∧ Below g w1 w') :
    Calls Tryz.prog 11 #[.pointer (some ⟨q, 0, none⟩), .string (bs T)] w fun x w' => x = .returned (.agg #[.string ⟨#[]⟩, .int .i64 a, .int .i64 e]) ∧ DkB w' q m false false ∧ w.grownBy w' (some q) := by
  have hs : (bs T).size ≤ 1000 := by rw [bs_size]; exact hsz
  refine LineE_no (bs T) a e hD hs fun w1 W g L hb1 hg hS => ?_
  have hq : q < g := by have := hD.lt; have := hb1.size; omega
  have hDW : DkB W q m false false := (hD.keep hb1 hD.lt).keep hS.1 hq
  have ht1 := ht.below hb1
  refine (desk_line_f_no hS hDW hq (by omega) k1 (by rw [k2]; exact ne_str (s := absC) (t := ⟨#[100, 114, 111, 112]⟩) (by decide)) (by rw [k2]; exact command_abs) (by rw [k2]; exact named_abs _) (ch := [cfault a e]) (fun U hU => value_no (Q := fun w' => Below g w1 w') (expression_no (Q := fun w' => Below g w1 w') (term_no (Q := fun w' => Below g w1 w') (hF w1 U g L hg ht1 hU.1 hU.2))))).mono ?_
  rintro x w' ⟨rfl, h1, h2⟩
  exact ⟨rfl, h2, grb_of q (by rw [hg]; exact h1)⟩

theorem print_one (W : World) (ht : Tab64 W) (h10 : Tab10 W) : Calls Tryz.prog 8 #[.int .i64 64, .int .u64 (ONE : Int)] W fun e w' => e = .returned (.tuple #[.string (bs [49]), .int .i64 0]) ∧ Below W.heap.size W w' := by
  refine (dprint_any fmD (.inr rfl) ONE (by decide) W ht h10).mono ?_
  rintro e w' ⟨T, rfl, h, hb⟩
  rw [one_print h]
  exact ⟨rfl, hb⟩
theorem print_mone (W : World) (ht : Tab64 W) (h10 : Tab10 W) : Calls Tryz.prog 8 #[.int .i64 64, .int .u64 ((9223372036854775808 + ONE : Nat) : Int)] W fun e w' => e = .returned (.tuple #[.string (bs [45, 49]), .int .i64 0]) ∧ Below W.heap.size W w' := by
  refine (dprint_any fmD (.inr rfl) (9223372036854775808 + ONE) (by decide) W ht h10).mono ?_
  rintro e w' ⟨T, rfl, h, hb⟩
  rw [mone_print h]
  exact ⟨rfl, hb⟩
theorem print_sg (j : Nat) (W : World) (ht : Tab64 W) (h10 : Tab10 W) : Calls Tryz.prog 8 #[.int .i64 64, .int .u64 (sgV j : Int)] W fun e w' => e = .returned (.tuple #[.string (bs (if j % 2 = 0 then [49] else [45, 49])), .int .i64 0]) ∧ Below W.heap.size W w' := by
  unfold sgV
  by_cases c : j % 2 = 0
  · rw [if_pos c, if_pos c]; exact print_one W ht h10
  · rw [if_neg c, if_neg c]; exact print_mone W ht h10

theorem tA_kind (k : Nat) : knd (bs (tA k [])) 0 ≠ 0 ∧ knd (bs (tA k [])) 0 ≠ 1 := by
  cases k with
  | zero => rw [(one_piece (T := tA 0 []) (A := []) (R := []) (n := 0) rfl rfl (.inl rfl)).2.1]; exact ⟨by decide, by decide⟩
  | succ k => rw [(mk_piece (T := tA (k + 1) []) (A := []) (c := 40) (R := tA k [41]) (by have := tA_succ [] k []; simpa using this) (n := 0) rfl (by decide) (by decide) (by decide)).2.1]; exact ⟨by decide, by decide⟩
theorem tB_kind (k : Nat) : knd (bs (tB k)) 0 ≠ 0 ∧ knd (bs (tB k)) 0 ≠ 1 := by
  cases k with
  | zero => rw [(one_piece (T := tB 0) (A := []) (R := []) (n := 0) rfl rfl (.inl rfl)).2.1]; exact ⟨by decide, by decide⟩
  | succ k => rw [(mk_piece (T := tB (k + 1)) (A := []) (c := 45) (R := tB k) (n := 0) rfl rfl (by decide) (by decide) (by decide)).2.1]; exact ⟨by decide, by decide⟩
theorem tC_kind (k : Nat) : knd (bs (tC k [])) 0 ≠ 0 ∧ knd (bs (tC k [])) 0 ≠ 1 := by
  cases k with
  | zero => rw [(one_piece (T := tC 0 []) (A := []) (R := []) (n := 0) rfl rfl (.inl rfl)).2.1]; exact ⟨by decide, by decide⟩
  | succ k => rw [(mk_piece (T := tC (k + 1) []) (A := []) (c := 45) (R := 40 :: tC k [41]) (by have := tC_succ [] k []; simpa using this) (n := 0) rfl (by decide) (by decide) (by decide)).2.1]; exact ⟨by decide, by decide⟩
theorem tA_len (k : Nat) : (tA k []).length = 2 * k + 1 := by simp; omega
theorem tB_len (k : Nat) : (tB k).length = k + 1 := by simp
theorem tC_len (k : Nat) : (tC k []).length = 3 * k + 1 := by simp [rp_len]; omega
theorem tF_len (k : Nat) : (tF k []).length = 5 * k + 1 := by simp [rf_len]; omega

theorem depth_a {w : World} {q : Nat} {m : Value} (hD : DkB w q m false false) (ht : Tab64 w) (h10 : Tab10 w) {k : Nat} (hk : k ≤ 50) : Calls Tryz.prog 11 #[.pointer (some ⟨q, 0, none⟩), .string (bs (tA k []))] w fun e w' => e = .returned (.agg #[.string (bs [49]), .int .i64 0, .int .i64 0]) ∧ DkB w' q m false false ∧ w.grownBy w' (some q) := by
  have hl := tA_len k
  refine line_st (x := ONE) hD ht h10 (by omega) (tA_kind k).1 (tA_kind k).2 (fun w1 W g L hg ht1 hS => ?_) print_one
  have := nest_a hg ht1 (by simp) (T := tA k []) (by omega) k [] [] 0 0 W rfl rfl (.inl rfl) (by omega) hS
  rw [show 0 + 2 * k + 1 = (bs (tA k [])).size by rw [bs_size]; omega] at this
  exact this
theorem depth_a_no {w : World} {q : Nat} {m : Value} (hD : DkB w q m false false) (ht : Tab64 w) (_ : Tab10 w) {k : Nat} (hk : 50 < k) (hk2 : k ≤ 255) : Calls Tryz.prog 11 #[.pointer (some ⟨q, 0, none⟩), .string (bs (tA k []))] w fun e w' => e = .returned (.agg #[.string ⟨#[]⟩, .int .i64 50, .int .i64 11]) ∧ DkB w' q m false false ∧ w.grownBy w' (some q) := by
  have hl := tA_len k
  exact line_st_no hD ht (by omega) (tA_kind k).1 (tA_kind k).2 (fun w1 W g L hg ht1 hS => nest_a_no (T := tA k []) (by omega) k [] [] 0 0 W rfl rfl (by omega) (by omega) hS)
theorem depth_b {w : World} {q : Nat} {m : Value} (hD : DkB w q m false false) (ht : Tab64 w) (h10 : Tab10 w) {k : Nat} (hk : k ≤ 50) : Calls Tryz.prog 11 #[.pointer (some ⟨q, 0, none⟩), .string (bs (tB k))] w fun e w' => e = .returned (.agg #[.string (bs (if k % 2 = 0 then [49] else [45, 49])), .int .i64 0, .int .i64 0]) ∧ DkB w' q m false false ∧ w.grownBy w' (some q) := by
  have hl := tB_len k
  refine line_st (x := sgV k) hD ht h10 (by omega) (tB_kind k).1 (tB_kind k).2 (fun w1 W g L hg ht1 hS => ?_) (print_sg k)
  have := nest_b hg ht1 (by simp) (T := tB k) (by omega) k [] 0 0 W rfl rfl (by omega) hS
  rw [show 0 + k + 1 = (bs (tB k)).size by rw [bs_size]; omega] at this
  exact this
theorem depth_b_no {w : World} {q : Nat} {m : Value} (hD : DkB w q m false false) (ht : Tab64 w) (_ : Tab10 w) {k : Nat} (hk : 50 < k) (hk2 : k ≤ 255) : Calls Tryz.prog 11 #[.pointer (some ⟨q, 0, none⟩), .string (bs (tB k))] w fun e w' => e = .returned (.agg #[.string ⟨#[]⟩, .int .i64 50, .int .i64 11]) ∧ DkB w' q m false false ∧ w.grownBy w' (some q) := by
  have hl := tB_len k
  exact line_st_no hD ht (by omega) (tB_kind k).1 (tB_kind k).2 (fun w1 W g L hg ht1 hS => nest_b_no (T := tB k) (by omega) k [] 0 0 W rfl rfl (by omega) (by omega) hS)
theorem depth_c {w : World} {q : Nat} {m : Value} (hD : DkB w q m false false) (ht : Tab64 w) (h10 : Tab10 w) {k : Nat} (hk : k ≤ 25) : Calls Tryz.prog 11 #[.pointer (some ⟨q, 0, none⟩), .string (bs (tC k []))] w fun e w' => e = .returned (.agg #[.string (bs (if k % 2 = 0 then [49] else [45, 49])), .int .i64 0, .int .i64 0]) ∧ DkB w' q m false false ∧ w.grownBy w' (some q) := by
  have hl := tC_len k
  refine line_st (x := sgV k) hD ht h10 (by omega) (tC_kind k).1 (tC_kind k).2 (fun w1 W g L hg ht1 hS => ?_) (print_sg k)
  have := nest_c hg ht1 (by simp) (T := tC k []) (by omega) k [] [] 0 0 W rfl rfl (.inl rfl) (by omega) hS
  rw [show 0 + 3 * k + 1 = (bs (tC k [])).size by rw [bs_size]; omega] at this
  exact this
theorem depth_c_no {w : World} {q : Nat} {m : Value} (hD : DkB w q m false false) (ht : Tab64 w) (_ : Tab10 w) {k : Nat} (hk : 25 < k) (hk2 : k ≤ 255) : Calls Tryz.prog 11 #[.pointer (some ⟨q, 0, none⟩), .string (bs (tC k []))] w fun e w' => e = .returned (.agg #[.string ⟨#[]⟩, .int .i64 50, .int .i64 11]) ∧ DkB w' q m false false ∧ w.grownBy w' (some q) := by
  have hl := tC_len k
  exact line_st_no hD ht (by omega) (tC_kind k).1 (tC_kind k).2 (fun w1 W g L hg ht1 hS => nest_c_no (T := tC k []) (by omega) k [] [] 0 0 W rfl rfl (by omega) (by omega) (by omega) hS)
theorem depth_f {w : World} {q : Nat} {m : Value} (hD : DkB w q m false false) (ht : Tab64 w) (h10 : Tab10 w) {k : Nat} (hk : k ≤ 50) : Calls Tryz.prog 11 #[.pointer (some ⟨q, 0, none⟩), .string (bs (tF k []))] w fun e w' => e = .returned (.agg #[.string (bs [49]), .int .i64 0, .int .i64 0]) ∧ DkB w' q m false false ∧ w.grownBy w' (some q) := by
  have hl := tF_len k
  cases k with
  | zero => exact depth_a hD ht h10 (k := 0) (by omega)
  | succ k =>
    obtain ⟨_, p2, p3, _⟩ := abs_piece (T := tF (k + 1) []) (A := []) (R := tF k [41]) (by have := tF_succ [] k []; simpa using this) (show 0 = _ from rfl)
    refine line_f (x := ONE) hD ht h10 (by omega) p2 p3 (fun w1 W g L hg ht1 hb hS => ?_) print_one
    have := nest_f hg ht1 (T := tF (k + 1) []) (by omega) (k + 1) [] [] 0 0 W rfl rfl (.inl rfl) (by omega) hb hS
    rw [show 0 + 5 * (k + 1) + 1 = (bs (tF (k + 1) [])).size by rw [bs_size]; omega] at this
    exact this
theorem depth_f_no {w : World} {q : Nat} {m : Value} (hD : DkB w q m false false) (ht : Tab64 w) (_ : Tab10 w) {k : Nat} (hk : 50 < k) (hk2 : k ≤ 189) : Calls Tryz.prog 11 #[.pointer (some ⟨q, 0, none⟩), .string (bs (tF k []))] w fun e w' => e = .returned (.agg #[.string ⟨#[]⟩, .int .i64 203, .int .i64 11]) ∧ DkB w' q m false false ∧ w.grownBy w' (some q) := by
  have hl := tF_len k
  obtain ⟨k, rfl⟩ : ∃ j, k = j + 1 := ⟨k - 1, by omega⟩
  obtain ⟨_, p2, p3, _⟩ := abs_piece (T := tF (k + 1) []) (A := []) (R := tF k [41]) (by have := tF_succ [] k []; simpa using this) (show 0 = _ from rfl)
  exact line_f_no hD ht (by omega) p2 p3 (fun w1 W g L hg ht1 hb hS => nest_f_no (T := tF (k + 1) []) (by omega) (k + 1) [] [] 0 0 W rfl rfl (by omega) (by omega) hb hS)
end Go.Proofs.YtibjogbalmbeeaaGreatDoor

namespace Go.Proofs.YtibjogbalmbeeaaGreatDoor
open Go.RowKit

theorem rep_one (c : UInt8) (k : Nat) : rep [c] k = List.replicate k c := by
  induction k with
  | zero => rfl
  | succ k ih => rw [rep, ih, List.replicate_succ']
theorem rp_succ (k : Nat) : rp (k + 1) = rp k ++ [45, 40] := by
  induction k with
  | zero => rfl
  | succ k ih => show 45 :: 40 :: rp (k + 1) = (45 :: 40 :: rp k) ++ [45, 40]; rw [ih]; rfl
theorem rep_C (k : Nat) : rep [45, 40] k = rp k := by
  induction k with
  | zero => rfl
  | succ k ih => rw [rep, ih, rp_succ]
theorem rf_succ (k : Nat) : rf (k + 1) = rf k ++ [97, 98, 115, 40] := by
  induction k with
  | zero => rfl
  | succ k ih => show 97 :: 98 :: 115 :: 40 :: rf (k + 1) = (97 :: 98 :: 115 :: 40 :: rf k) ++ [97, 98, 115, 40]; rw [ih]; rfl
theorem rep_F (k : Nat) : rep [97, 98, 115, 40] k = rf k := by
  induction k with
  | zero => rfl
  | succ k ih => rw [rep, ih, rf_succ]
theorem text_A (k : Nat) : (bs (rep [40] k) ++ ⟨#[49]⟩) ++ bs (rep [41] k) = bs (tA k []) := by
  rw [rep_one, rep_one, show (⟨#[49]⟩ : ByteArray) = bs [49] from rfl, bs_append, bs_append]
  congr 1; simp
theorem text_B (k : Nat) : bs (rep [45] k) ++ ⟨#[49]⟩ = bs (tB k) := by
  rw [rep_one, show (⟨#[49]⟩ : ByteArray) = bs [49] from rfl, bs_append]
theorem text_C (k : Nat) : (bs (rep [45, 40] k) ++ ⟨#[49]⟩) ++ bs (rep [41] k) = bs (tC k []) := by
  rw [rep_one, rep_C, show (⟨#[49]⟩ : ByteArray) = bs [49] from rfl, bs_append, bs_append]
  congr 1; simp
theorem text_F (k : Nat) : (bs (rep [97, 98, 115, 40] k) ++ ⟨#[49]⟩) ++ bs (rep [41] k) = bs (tF k []) := by
  rw [rep_one, rep_F, show (⟨#[49]⟩ : ByteArray) = bs [49] from rfl, bs_append, bs_append]
  congr 1; simp
theorem rep_size (s : List UInt8) (hs : s.length ≤ 4) (k : Nat) (hk : k ≤ 255) : (bs (rep s k)).size ≤ 1020 := by
  rw [bs_size, rep_len]
  exact Nat.le_trans (Nat.mul_le_mul hk hs) (by omega)

end Go.Proofs.YtibjogbalmbeeaaGreatDoor
