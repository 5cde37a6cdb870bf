/- The walk of CalcReadsBack. · The walk of the law CalcReadsBack. -/
import Derived.Test.YtibjogbalmbeeaaGreatDoorY25
import Derived.Test.YtibjogbalmbeeaaGreatDoorY38

namespace Go.Proofs.YtibjogbalmbeeaaGreatDoor
open Go.RowKit

theorem first_piece {T : List UInt8} {b : Nat} (h : SpT b T) : (knd (bs T) 0 ≠ 0 ∧ knd (bs T) 0 ≠ 1) ∨ (knd (bs T) 0 = 1 ∧ (txt (bs T) 0 = infC ∨ txt (bs T) 0 = nanC)) := by
  obtain ⟨_, ⟨_, rfl⟩ | ⟨_, V, rfl, hV⟩⟩ := h
  · have hpe := piece_end (A := []) (U := [110, 97, 110]) (word_cut rfl (by decide) (by decide)) (by decide) (by decide)
    simp only [List.nil_append, List.length_nil] at hpe
    exact .inr ⟨hpe.2.1, .inr hpe.2.2.1⟩
  · by_cases c : 9223372036854775808 ≤ b
    · rw [if_pos c]
      have hm : knd (bs ([45] ++ V)) 0 = 3 := (minus_piece V).1
      rw [hm]
      exact .inl ⟨by decide, by decide⟩
    · rw [if_neg c, List.nil_append]
      rcases hV with ⟨_, rfl⟩ | ⟨dec, ⟨hc, _, hne⟩, _⟩
      · have hpe := piece_end (A := []) (U := [105, 110, 102]) (word_cut rfl (by decide) (by decide)) (by decide) (by decide)
        simp only [List.nil_append, List.length_nil] at hpe
        exact .inr ⟨hpe.2.1, .inl hpe.2.2.1⟩
      · have hpe := piece_end (hc []) (by decide) hne
        simp only [List.nil_append, List.length_nil] at hpe
        rw [hpe.2.1]
        exact .inl ⟨by decide, by decide⟩
theorem SpT.some {T : List UInt8} {b : Nat} (h : SpT b T) : T ≠ [] := by
  obtain ⟨_, ⟨_, rfl⟩ | ⟨_, V, rfl, hV⟩⟩ := h
  · decide
  · have hv : V ≠ [] := by
      rcases hV with ⟨_, rfl⟩ | ⟨dec, ⟨_, _, hne⟩, _⟩
      · decide
      · exact hne
    intro e
    exact hv (List.append_eq_nil_iff.1 e).2

/-- A line that spells a pattern: what is told is the print of what it is read as. -/
theorem line_number {w : World} {q : Nat} {m : Value} {hx : Bool} {T : List UInt8} {b : Nat} {R : ByteArray} (hT : SpT b T) (hb : b < 18446744073709551616) (hD : DkB w q m hx false) (ht : Tab64 w) (h10 : Tab10 w)
    (hP : ∀ W, Tab64 W → Tab10 W → Calls Tryz.prog (if hx then 9 else 8) #[.int .i64 64, .int .u64 ((wantD b : Nat) : Int)] W fun e w' => e = .returned (.tuple #[.string R, .int .i64 0]) ∧ Below W.heap.size W w') :
    Calls Tryz.prog 11 #[.pointer (some ⟨q, 0, none⟩), .string (bs T)] w fun e w' => e = .returned (.agg #[.string R, .int .i64 0, .int .i64 0]) ∧ DkB w' q m hx false ∧ w.grownBy w' (some q) := by
  have hsz : (bs T).size ≤ 1000 := by rw [bs_size]; have := hT.1; omega
  refine Line_walk (bs T) R hD hsz fun w1 W g L hb1 hg hS => ?_
  have hq : q < g := by have := hD.lt; have := hb1.size; omega
  have hDW : DkB W q m hx false := (hD.keep hb1 hD.lt).keep hS.1 hq
  have ht1 := ht.below hb1
  have h11 := h10.below hb1
  have hV : ∀ U, St w1 U g (bs T) 0 (.pointer (some ⟨q, 0, none⟩)) L 0 (-1) [] → Calls Tryz.prog 58 #[.pointer (some ⟨g, 0, none⟩)] U fun e w' => e = .returned (.int .u64 ((wantD b : Nat) : Int)) ∧ St w1 w' g (bs T) (bs T).size (.pointer (some ⟨q, 0, none⟩)) L 0 (-1) [] :=
    fun U hU => hU.value (end_piece _) (by simp) (fun V hV => reads hT hb hV (by decide) (by simp) hg ht1)
  have hPr : ∀ U, Below g w1 U → DkB U q m hx false → Calls Tryz.prog 59 #[.pointer (some ⟨q, 0, none⟩), .int .u64 ((wantD b : Nat) : Int)] U fun e w' => e = .returned (.string R) ∧ Below U.heap.size U w' :=
    fun U hU hK => print_walk hK (wantD b) R (hP U (ht1.below (by rw [hg]; exact hU)) (h11.below (by rw [hg]; exact hU)))
  have hpost : ∀ e w', (e = Ending.returned (.string R) ∧ Below g w1 w' ∧ DkB w' q m hx false) → (e = .returned (.string R) ∧ DkB w' q m hx false ∧ w1.grownBy w' (some q)) := fun e w' h => ⟨h.1, h.2.2, grb_of q (by rw [hg]; exact h.2.1)⟩
  rcases first_piece hT with ⟨k0, k1⟩ | ⟨k1, hk | hk⟩
  · exact (desk_line_n hS hDW hq (by omega) k0 k1 hV hPr).mono hpost
  · exact (desk_line_c hS hDW hq (by omega) k1 (by rw [hk]; exact ne_str (s := infC) (t := ⟨#[100, 114, 111, 112]⟩) (by decide)) (by rw [hk]; exact command_inf) (by rw [hk]; exact fun U => named_const infC _ 9218868437227405312 (by decide) constant_inf U) hV hPr).mono hpost
  · exact (desk_line_c hS hDW hq (by omega) k1 (by rw [hk]; exact ne_str (s := nanC) (t := ⟨#[100, 114, 111, 112]⟩) (by decide)) (by rw [hk]; exact command_nan) (by rw [hk]; exact fun U => named_const nanC _ 9221120237041090561 (by decide) constant_nan U) hV hPr).mono hpost
theorem word_piece {U : List UInt8} {c : UInt8} {t : List UInt8} (hU : U = c :: t) (hc : pLet c = true) (ht : ∀ x ∈ U, pWrd x = true) : knd (bs U) 0 = 1 ∧ txt (bs U) 0 = bs U ∧ knd (bs U) (nxt (bs U) 0) = 0 := by
  have hpe := piece_end (A := []) (U := U) (word_cut hU hc ht) (by decide) (by rw [hU]; simp)
  simp only [List.nil_append, List.length_nil] at hpe
  exact ⟨hpe.2.1, hpe.2.2.1, by rw [hpe.2.2.2]; exact end_piece _⟩
theorem line_hex {w : World} {q : Nat} {m : Value} {hx : Bool} (hD : DkB w q m hx false) :
    Calls Tryz.prog 11 #[.pointer (some ⟨q, 0, none⟩), .string hexC] w fun e w' => e = .returned (.agg #[.string ⟨#[]⟩, .int .i64 0, .int .i64 0]) ∧ DkB w' q m true false ∧ w.grownBy w' (some q) := by
  refine Line_walk hexC ⟨#[]⟩ hD (by decide) fun w1 W g L hb1 hg hS => ?_
  have hq : q < g := by have := hD.lt; have := hb1.size; omega
  obtain ⟨k1, k2, k3⟩ : knd hexC 0 = 1 ∧ txt hexC 0 = hexC ∧ knd hexC (nxt hexC 0) = 0 := word_piece (U := [104, 101, 120]) rfl (by decide) (by decide)
  refine (desk_line_cmd (hx' := true) hS ((hD.keep hb1 hD.lt).keep hS.1 hq) hq hg (by decide) k1 (by rw [k2]; exact ne_str (s := hexC) (t := ⟨#[100, 114, 111, 112]⟩) (by decide)) (by rw [k2]; exact command_hex) k3 (by rw [k2]; exact fun U hU => desk_hex hU)).mono ?_
  rintro e w' ⟨rfl, h1, h2⟩
  exact ⟨rfl, h2, h1⟩
theorem line_dec {w : World} {q : Nat} {m : Value} {hx : Bool} (hD : DkB w q m hx false) :
    Calls Tryz.prog 11 #[.pointer (some ⟨q, 0, none⟩), .string decC] w fun e w' => e = .returned (.agg #[.string ⟨#[]⟩, .int .i64 0, .int .i64 0]) ∧ DkB w' q m false false ∧ w.grownBy w' (some q) := by
  refine Line_walk decC ⟨#[]⟩ hD (by decide) fun w1 W g L hb1 hg hS => ?_
  have hq : q < g := by have := hD.lt; have := hb1.size; omega
  obtain ⟨k1, k2, k3⟩ : knd decC 0 = 1 ∧ txt decC 0 = decC ∧ knd decC (nxt decC 0) = 0 := word_piece (U := [100, 101, 99]) rfl (by decide) (by decide)
  refine (desk_line_cmd (hx' := false) hS ((hD.keep hb1 hD.lt).keep hS.1 hq) hq hg (by decide) k1 (by rw [k2]; exact ne_str (s := decC) (t := ⟨#[100, 114, 111, 112]⟩) (by decide)) (by rw [k2]; exact command_dec) k3 (by rw [k2]; exact fun U hU => desk_dec hU)).mono ?_
  rintro e w' ⟨rfl, h1, h2⟩
  exact ⟨rfl, h2, h1⟩

set_option maxRecDepth 100000 in
theorem lawis_walk (R : ByteArray) (W : World) : Calls Tryz.prog 12 #[.agg #[.string R, .int .i64 0, .int .i64 0], .string R] W fun e w' => e = .returned (.bool true) ∧ Below W.heap.size W w' := by
  have hb := below_alloc' W (.cells #[.string R, .int .i64 0, .int .i64 0] 31)
  go_enter Tryz.func12, Tryz.ntmps12
  go_wp2
  exact bodyPost_ret (v := .bool true) (by simp [results, Tryz.results12, go_sem]) rfl ⟨rfl, hb⟩

/-- A desk that the law has made. -/
structure Dk (w W : World) (q : Nat) (m : Value) (hx : Bool) : Prop where
  bl : Below w.heap.size w W
  dk : DkB W q m hx false
  ge : w.heap.size ≤ q
theorem Dk.line {w W W' : World} {q m hx hx'} (h : Dk w W q m hx) (hk : DkB W' q m hx' false) (g : W.grownBy W' (some q)) : Dk w W' q m hx' :=
  ⟨below_grownV h.bl h.bl.size g (fun k hk => by injection hk with hk; have := h.ge; omega), hk, h.ge⟩
theorem Dk.below {w W W' : World} {q m hx} (h : Dk w W q m hx) (hb : Below W.heap.size W W') : Dk w W' q m hx := ⟨below_chain h.bl hb, h.dk.keep hb h.dk.lt, h.ge⟩
theorem Dk.alloc {w W : World} {q m hx} (h : Dk w W q m hx) (o : Obj) : Dk w (W.alloc o) q m hx := h.below (below_alloc' W o)
theorem dec_again {b : Nat} (hb : b < 18446744073709551616) {T : List UInt8} (hT : PrOk fmD b T) (W : World) (ht : Tab64 W) (h10 : Tab10 W) :
    Calls Tryz.prog 8 #[.int .i64 64, .int .u64 ((wantD b : Nat) : Int)] W fun e w' => e = .returned (.tuple #[.string (bs T), .int .i64 0]) ∧ Below W.heap.size W w' := by
  refine (dprint_any fmD (.inr rfl) (wantD b) (wantD_lt hb) W ht h10).mono ?_
  rintro e w' ⟨T', rfl, h', hb'⟩
  rw [dec_want hT h']
  exact ⟨rfl, hb'⟩
end Go.Proofs.YtibjogbalmbeeaaGreatDoor

namespace Go.Proofs.YtibjogbalmbeeaaGreatDoor
open Go.RowKit

/-- A reply that is kept. -/
def Rp (W : World) (q g : Nat) (R : ByteArray) : Prop := Box3 W g (.string R) (.int .i64 0) (.int .i64 0) ∧ g ≠ q
theorem Rp.grb {W W' : World} {q g : Nat} {R : ByteArray} (h : Rp W q g R) (k : W.grownBy W' (some q)) : Rp W' q g R := ⟨h.1.grb k h.2, h.2⟩
theorem Rp.below {W W' : World} {q g : Nat} {R : ByteArray} (h : Rp W q g R) (k : Below W.heap.size W W') : Rp W' q g R := ⟨h.1.below k, h.2⟩
theorem Rp.alloc {W : World} {q g : Nat} {R : ByteArray} (h : Rp W q g R) (o : Obj) : Rp (W.alloc o) q g R := h.below (below_alloc' W o)
theorem Rp.new {w W : World} {q : Nat} {m hx} (h : Dk w W q m hx) (R : ByteArray) : Rp (W.alloc (.cells #[.string R, .int .i64 0, .int .i64 0] 31)) q W.heap.size R :=
  ⟨⟨by simp, by simp, by simp, by simp, by simp, by simp, by simp⟩, by have := h.dk.lt; omega⟩

set_option maxRecDepth 100000 in
set_option maxHeartbeats 4000000 in
theorem backs_walk (b : Nat) (hb : b < 18446744073709551616) (w : World) (ht : Tab64 w) (h10 : Tab10 w) :
    Calls Tryz.prog 4 #[.int .u64 (b : Int)] w fun e w' => e = .returned (.bool true) ∧ Below w.heap.size w w' := by
  obtain ⟨TH, sH, pH, pH'⟩ := hex_want b hb
  have HDp := Lib.hid (show Calls Tryz.prog 8 #[.int .i64 64, .int .u64 (b : Int)] w fun e w' => ∃ T, e = .returned (.tuple #[.string (bs T), .int .i64 0]) ∧ PrOk fmD b T ∧ Below w.heap.size w w' from dprint_any fmD (.inr rfl) b hb w ht h10)
  have HPh := Lib.hid pH
  have HT := Lib.hid ht
  have H10 := Lib.hid h10
  have HNw := Lib.hid (fun W => new_walk W)
  have HXh := Lib.hid (fun W q m hx (h : DkB W q m hx false) => line_hex h)
  have HXd := Lib.hid (fun W q m hx (h : DkB W q m hx false) => line_dec h)
  have HIs := Lib.hid (fun R W => lawis_walk R W)
  have HB := Lib.hid hb
  have HSH := Lib.hid sH
  have HPw := Lib.hid pH'
  have hneH : ((bs TH).toList == []) = false := ne_str (s := bs TH) (t := ⟨#[]⟩) (fun e => sH.some (by have := congrArg ByteArray.size e; rw [bs_size] at this; exact List.length_eq_zero_iff.1 this))
  clear hb ht h10 pH pH' sH
  go_enter Tryz.func4, Tryz.ntmps4
  go_wp2_with fail
  refine HDp.out.mono ?_
  rintro e w1 ⟨T, rfl, hT, hb1⟩
  have hsT := dec_sp HB.out hT
  have hneT : ((bs T).toList == []) = false := ne_str (s := bs T) (t := ⟨#[]⟩) (fun e => hsT.some (by have := congrArg ByteArray.size e; rw [bs_size] at this; exact List.length_eq_zero_iff.1 this))
  -- the lines
  have L1 := Lib.hid (fun (W : World) q m (h : DkB W q m false false) (t : Tab64 W) (t10 : Tab10 W) => line_number (R := bs T) hsT HB.out h t t10 (fun W => dec_again HB.out hT W))
  have L2 := Lib.hid (fun (W : World) q m (h : DkB W q m false false) (t : Tab64 W) (t10 : Tab10 W) => line_number (R := bs T) HSH.out HB.out h t t10 (fun W => dec_again HB.out hT W))
  have L3 := Lib.hid (fun (W : World) q m (h : DkB W q m true false) (t : Tab64 W) (t10 : Tab10 W) => line_number (R := bs TH) HSH.out HB.out h t t10 HPw.out)
  have L4 := Lib.hid (fun (W : World) q m (h : DkB W q m true false) (t : Tab64 W) (t10 : Tab10 W) => line_number (R := bs TH) hsT HB.out h t t10 HPw.out)
  have HP1 := Lib.hid (HPh.out w1 (HT.out.below hb1) (H10.out.below hb1))
  have HB1 := Lib.hid hb1
  clear hT hsT hb1 HDp HPh HB HSH HPw
  generalize bs T = sT at *
  generalize bs TH = sH at *
  go_wp2_with fail
  refine HP1.out.mono ?_
  rintro e w2 ⟨rfl, hb2⟩
  have HB2 := Lib.hid (below_chain HB1.out hb2)
  clear hb2 HP1 HB1
  go_wp2_with fail
  refine (HNw.out w2).mono ?_
  rintro e w3 ⟨rfl, ⟨m, hm⟩, hb3⟩
  have K3 := Lib.hid (show Dk w w3 w2.heap.size m false from ⟨below_chain HB2.out hb3, hm, HB2.out.size⟩)
  generalize w2.heap.size = q at *
  have A3 := Lib.hid (L1.out w3 q m K3.out.dk (HT.out.below K3.out.bl) (H10.out.below K3.out.bl))
  clear hm hb3 HB2 HNw
  go_wp2_with fail
  refine A3.out.mono ?_
  rintro e w4 ⟨rfl, hd, hg⟩
  have K4 := Lib.hid (K3.out.line hd hg)
  clear hd hg A3 K3 L1
  have K5 := Lib.hid (K4.out.alloc (.cells #[.string sT, .int .i64 0, .int .i64 0] 31))
  have R1 := Lib.hid (Rp.new K4.out sT)
  have A5 := Lib.hid (L2.out _ q m K5.out.dk (HT.out.below K5.out.bl) (H10.out.below K5.out.bl))
  clear K4
  go_wp2_with fail
  refine A5.out.mono ?_
  rintro e w6 ⟨rfl, hd, hg⟩
  have K6 := Lib.hid (K5.out.line hd hg)
  have R1 := Lib.hid (R1.out.grb hg)
  clear hd hg A5 K5
  have K7 := Lib.hid (K6.out.alloc (.cells #[.string sT, .int .i64 0, .int .i64 0] 31))
  have R1 := Lib.hid (R1.out.alloc (.cells #[.string sT, .int .i64 0, .int .i64 0] 31))
  have R2 := Lib.hid (Rp.new K6.out sT)
  have A7 := Lib.hid (HXh.out _ q m false K7.out.dk)
  clear K6
  go_wp2_with fail
  refine A7.out.mono ?_
  rintro e w8 ⟨rfl, hd, hg⟩
  have K8 := Lib.hid (K7.out.line hd hg)
  have R1 := Lib.hid (R1.out.grb hg)
  have R2 := Lib.hid (R2.out.grb hg)
  clear hd hg A7 K7
  have A8 := Lib.hid (L3.out _ q m K8.out.dk (HT.out.below K8.out.bl) (H10.out.below K8.out.bl))
  go_wp2_with fail
  refine A8.out.mono ?_
  rintro e w9 ⟨rfl, hd, hg⟩
  have K9 := Lib.hid (K8.out.line hd hg)
  have R1 := Lib.hid (R1.out.grb hg)
  have R2 := Lib.hid (R2.out.grb hg)
  clear hd hg A8 K8
  have K10 := Lib.hid (K9.out.alloc (.cells #[.string sH, .int .i64 0, .int .i64 0] 31))
  have R1 := Lib.hid (R1.out.alloc (.cells #[.string sH, .int .i64 0, .int .i64 0] 31))
  have R2 := Lib.hid (R2.out.alloc (.cells #[.string sH, .int .i64 0, .int .i64 0] 31))
  have R3 := Lib.hid (Rp.new K9.out sH)
  have A10 := Lib.hid (L4.out _ q m K10.out.dk (HT.out.below K10.out.bl) (H10.out.below K10.out.bl))
  clear K9
  go_wp2_with fail
  refine A10.out.mono ?_
  rintro e w11 ⟨rfl, hd, hg⟩
  have K11 := Lib.hid (K10.out.line hd hg)
  have R1 := Lib.hid (R1.out.grb hg)
  have R2 := Lib.hid (R2.out.grb hg)
  have R3 := Lib.hid (R3.out.grb hg)
  clear hd hg A10 K10
  have K12 := Lib.hid (K11.out.alloc (.cells #[.string sH, .int .i64 0, .int .i64 0] 31))
  have R1 := Lib.hid (R1.out.alloc (.cells #[.string sH, .int .i64 0, .int .i64 0] 31))
  have R2 := Lib.hid (R2.out.alloc (.cells #[.string sH, .int .i64 0, .int .i64 0] 31))
  have R3 := Lib.hid (R3.out.alloc (.cells #[.string sH, .int .i64 0, .int .i64 0] 31))
  have R4 := Lib.hid (Rp.new K11.out sH)
  have A12 := Lib.hid (HXd.out _ q m true K12.out.dk)
  clear K11
  go_wp2_with fail
  refine A12.out.mono ?_
  rintro e w13 ⟨rfl, hd, hg⟩
  have K13 := Lib.hid (K12.out.line hd hg)
  have R1 := Lib.hid (R1.out.grb hg)
  have R2 := Lib.hid (R2.out.grb hg)
  have R3 := Lib.hid (R3.out.grb hg)
  have R4 := Lib.hid (R4.out.grb hg)
  clear hd hg A12 K12
  have A13 := Lib.hid (L2.out _ q m K13.out.dk (HT.out.below K13.out.bl) (H10.out.below K13.out.bl))
  go_wp2_with fail
  refine A13.out.mono ?_
  rintro e w14 ⟨rfl, hd, hg⟩
  have K14 := Lib.hid (K13.out.line hd hg)
  have R1 := Lib.hid (R1.out.grb hg)
  have R2 := Lib.hid (R2.out.grb hg)
  have R3 := Lib.hid (R3.out.grb hg)
  have R4 := Lib.hid (R4.out.grb hg)
  clear hd hg A13 K13
  have K15 := Lib.hid (K14.out.alloc (.cells #[.string sT, .int .i64 0, .int .i64 0] 31))
  have R1 := Lib.hid (R1.out.alloc (.cells #[.string sT, .int .i64 0, .int .i64 0] 31))
  have R2 := Lib.hid (R2.out.alloc (.cells #[.string sT, .int .i64 0, .int .i64 0] 31))
  have R3 := Lib.hid (R3.out.alloc (.cells #[.string sT, .int .i64 0, .int .i64 0] 31))
  have R4 := Lib.hid (R4.out.alloc (.cells #[.string sT, .int .i64 0, .int .i64 0] 31))
  have R5 := Lib.hid (Rp.new K14.out sT)
  obtain ⟨r10, r11, r12, _⟩ := R1.out.1
  clear K14 L2 L3 L4 HXh HXd
  go_wp2_with fail
  refine (HIs.out sT _).mono ?_
  rintro e v0 ⟨rfl, hb⟩
  have Q0 := Lib.hid (K15.out.below hb)
  have R2 := Lib.hid (R2.out.below hb)
  have R3 := Lib.hid (R3.out.below hb)
  have R4 := Lib.hid (R4.out.below hb)
  have R5 := Lib.hid (R5.out.below hb)
  obtain ⟨x00, x01, x02, _⟩ := R2.out.1
  clear hb
  go_wp2_with fail
  refine (HIs.out sT _).mono ?_
  rintro e v1 ⟨rfl, hb⟩
  have Q1 := Lib.hid (Q0.out.below hb)
  have R3 := Lib.hid (R3.out.below hb)
  have R4 := Lib.hid (R4.out.below hb)
  have R5 := Lib.hid (R5.out.below hb)
  obtain ⟨x10, x11, x12, _⟩ := R3.out.1
  clear hb
  go_wp2_with fail
  refine (HIs.out sH _).mono ?_
  rintro e v2 ⟨rfl, hb⟩
  have Q2 := Lib.hid (Q1.out.below hb)
  have R4 := Lib.hid (R4.out.below hb)
  have R5 := Lib.hid (R5.out.below hb)
  obtain ⟨x20, x21, x22, _⟩ := R4.out.1
  clear hb
  go_wp2_with fail
  refine (HIs.out sH _).mono ?_
  rintro e v3 ⟨rfl, hb⟩
  have Q3 := Lib.hid (Q2.out.below hb)
  have R5 := Lib.hid (R5.out.below hb)
  obtain ⟨x30, x31, x32, _⟩ := R5.out.1
  clear hb
  go_wp2_with fail
  refine (HIs.out sT _).mono ?_
  rintro e v4 ⟨rfl, hb⟩
  have Q4 := Lib.hid (Q3.out.below hb)
  clear hb
  go_wp2_with fail
  exact bodyPost_ret (v := .bool true) (by simp [results, Tryz.results4, go_sem]) rfl ⟨rfl, Q4.out.bl⟩
end Go.Proofs.YtibjogbalmbeeaaGreatDoor
