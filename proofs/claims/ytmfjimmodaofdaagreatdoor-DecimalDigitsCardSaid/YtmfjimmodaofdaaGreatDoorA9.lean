/- Walk of gnomonref11: DocPrint. -/
import Derived.Test.YtmfjimmodaofdaaGreatDoorA8
namespace Go.Proofs.YtmfjimmodaofdaaGreatDoor
open Go.RowKit

/-- A format's box. -/
structure BxS (w W : World) (g : Nat) (sg P L G I Q : Int) : Prop where
  x0 : W.cell? ⟨g, 0, none⟩ = some (.int .u64 sg)
  x1 : W.cell? ⟨g, 1, none⟩ = some (.int .i64 P)
  x2 : W.cell? ⟨g, 2, none⟩ = some (.int .i64 L)
  x3 : W.cell? ⟨g, 3, none⟩ = some (.int .i64 G)
  x4 : W.cell? ⟨g, 4, none⟩ = some (.int .u64 I)
  x5 : W.cell? ⟨g, 5, none⟩ = some (.int .u64 Q)
  bl : Below w.heap.size w W
theorem BxS.below {w W W2 : World} {g : Nat} {sg P L G I Q : Int} (k : BxS w W g sg P L G I Q) (hb : Below W.heap.size W W2) : BxS w W2 g sg P L G I Q :=
  ⟨cell_kept hb k.x0, cell_kept hb k.x1, cell_kept hb k.x2, cell_kept hb k.x3, cell_kept hb k.x4, cell_kept hb k.x5, below_chain k.bl hb⟩
theorem BxS.new {w W : World} (h : Below w.heap.size w W) (sg P L G I Q : Int) : BxS w (W.alloc (.cells #[.int .u64 sg, .int .i64 P, .int .i64 L, .int .i64 G, .int .u64 I, .int .u64 Q] 122)) W.heap.size sg P L G I Q :=
  ⟨by simp, by simp, by simp, by simp, by simp, by simp, below_chain h (below_alloc' _ _)⟩

set_option maxRecDepth 100000 in
set_option maxHeartbeats 4000000 in
theorem rdocprint_gen (f : Fm) (FF sg P L G Q : Int) (iv : Nat) (hI : f.inf = iv) (hiv0 : 0 < iv) (b : Nat)
    (hCk : ∀ W, Calls Tryz.prog 78 #[.int .i64 FF, .int .u64 (b : Int)] W fun e w' => e = .returned (.int .i64 0) ∧ Below W.heap.size W w')
    (hOf : ∀ W, Calls Tryz.prog 79 #[.int .i64 FF] W fun e w' => e = .returned (.tuple #[.agg #[.int .u64 sg, .int .i64 P, .int .i64 L, .int .i64 G, .int .u64 (iv : Int), .int .u64 Q], .bool true]) ∧ Below W.heap.size W w')
    (hCut : ∀ W, Calls Tryz.prog 80 #[.agg #[.int .u64 sg, .int .i64 P, .int .i64 L, .int .i64 G, .int .u64 (iv : Int), .int .u64 Q], .int .u64 (b : Int)] W fun e w' => e = .returned (.tuple #[.bool (decide (2 ^ f.S ≤ b)), .int .u64 ((b % 2 ^ f.S : Nat) : Int)]) ∧ Below W.heap.size W w')
    (hSh : ∀ z W, z ≠ 0 → z < f.inf → Calls Tryz.prog 149 #[.agg #[.int .u64 sg, .int .i64 P, .int .i64 L, .int .i64 G, .int .u64 (iv : Int), .int .u64 Q], .int .u64 (z : Int)] W fun e w' => ∃ (v : Value) (d : Nat) (q : Int), e = .returned (.tuple #[v, .int .i64 q]) ∧ DgAt w' v d ∧ (ShOk f z d q ∧ d < 10 ^ 18 ∧ -500 ≤ q ∧ q ≤ 500) ∧ Below W.heap.size W w')
    (w : World) :
    Calls Tryz.prog 114 #[.int .i64 FF, .int .u64 (b : Int)] w fun e w' => ∃ T, e = .returned (.tuple #[.string (bs T), .int .i64 0]) ∧ PrOk f b T ∧ Below w.heap.size w w' := by
  have HCk := Lib.hid hCk
  have HOf := Lib.hid hOf
  have HSh := Lib.hid (fun (h0 : b % 2 ^ f.S ≠ 0) (hz : b % 2 ^ f.S < iv) W => hSh (b % 2 ^ f.S) W h0 (by rw [hI]; exact hz))
  obtain ⟨sl, hsl⟩ : ∃ sl : List UInt8, (if 2 ^ f.S ≤ b then [45] else []) = sl := ⟨_, rfl⟩
  have HPr : Hid (∀ T, PrOk f b T ↔ ((iv < b % 2 ^ f.S → T = [110, 97, 110]) ∧ (b % 2 ^ f.S = iv → T = sl ++ [105, 110, 102]) ∧ (b % 2 ^ f.S = 0 → T = sl ++ [48]) ∧ (b % 2 ^ f.S ≠ 0 → b % 2 ^ f.S < iv → ∃ (d : Nat) (q : Int), (ShOk f (b % 2 ^ f.S) d q ∧ d < 10 ^ 18 ∧ -500 ≤ q ∧ q ≤ 500) ∧ T = sl ++ layS (tl0 (Lib.decDigits d)) (q + ((Lib.decDigits d).length : Int) - ((tl0 (Lib.decDigits d)).length : Int))))) := Lib.hid fun T => by
    unfold PrOk; rw [hsl, hI]
  have hcut := hCut
  obtain ⟨ng, hng⟩ : ∃ ng, decide (2 ^ f.S ≤ b) = ng := ⟨_, rfl⟩
  have HSl : Hid ((ng = true → (⟨#[45]⟩ : ByteArray) = bs sl) ∧ (ng = false → (⟨#[]⟩ : ByteArray) = bs sl)) := Lib.hid ⟨fun e => by
      rw [e] at hng; rw [← hsl, if_pos (of_decide_eq_true hng)]; rfl, fun e => by
      rw [e] at hng; rw [← hsl, if_neg (of_decide_eq_false hng)]; rfl⟩
  have hsz : (bs sl).size ≤ 1 := by rw [← hsl, bs_size]; split <;> simp
  obtain ⟨z, hz⟩ : ∃ z, b % 2 ^ f.S = z := ⟨_, rfl⟩
  simp only [hng, hz] at hcut HPr HSh
  have HCut := Lib.hid hcut
  have hzb : z ≤ b := by rw [← hz]; exact Nat.mod_le _ _
  clear hCk hOf hSh hCut hcut hng hz hsl hI hzb
  go_enter Tryz.func114, Tryz.ntmps114
  go_wp2_with fail
  refine (HCk.out _).mono ?_
  rintro e w1 ⟨rfl, hb1⟩
  have HW1 := Lib.hid hb1
  clear hb1
  go_wp2_with fail
  refine (HOf.out _).mono ?_
  rintro e w2 ⟨rfl, hb2⟩
  have HB := Lib.hid (BxS.new (below_chain HW1.out hb2) sg P L G (iv : Int) Q)
  clear hb2 HW1
  go_wp2_with fail
  refine (HCut.out _).mono ?_
  rintro e w3 ⟨rfl, hb3⟩
  have HB3 := Lib.hid (HB.out.below hb3)
  have x0 := HB3.out.x0
  have x1 := HB3.out.x1
  have x2 := HB3.out.x2
  have x3 := HB3.out.x3
  have x4 := HB3.out.x4
  have x5 := HB3.out.x5
  obtain ⟨g, hg⟩ : ∃ g, w2.heap.size = g := ⟨_, rfl⟩
  rw [hg] at HB3 x0 x1 x2 x3 x4 x5 ⊢
  clear hb3 hg HB HCk HOf HCut
  obtain ⟨M, hM⟩ : ∃ M, bs sl = M := ⟨_, rfl⟩
  rw [hM] at HSl hsz
  have HM := Lib.hid hM
  clear hM
  have hk3 : (⟨#[105, 110, 102]⟩ : ByteArray).size = 3 := rfl
  have hk1 : (⟨#[48]⟩ : ByteArray).size = 1 := rfl
  by_cases c1 : iv < z
  · have g1 : (iv : Int) < (z : Int) := by omega
    have HE := Lib.hid ((HPr.out [110, 97, 110]).2 ⟨fun _ => rfl, fun h => by omega, fun h => by omega, fun _ h => by omega⟩)
    clear c1
    cases ng
    all_goals
      go_wp2
      go_ret2
      exact ⟨[110, 97, 110], rfl, HE.out, HB3.out.bl⟩
  have g1 : ¬ (iv : Int) < (z : Int) := by omega
  by_cases c2 : z = iv
  · have g2 : ((z : Int) == (iv : Int)) = true := by rw [beq_iff_eq]; omega
    have HE := Lib.hid ((HPr.out (sl ++ [105, 110, 102])).2 ⟨fun h => by omega, fun _ => rfl, fun h => by omega, fun _ h => by omega⟩)
    have HT := Lib.hid (show M ++ (⟨#[105, 110, 102]⟩ : ByteArray) = bs (sl ++ [105, 110, 102]) by rw [← HM.out]; exact bs_append _ _)
    clear c1 c2 hiv0 HSh HPr
    cases ng
    · have hm := HSl.out.2 rfl
      go_wp2_with fail
      rw [hm]
      clear hm
      go_wp2
      go_ret2
      exact ⟨_, by rw [← HT.out]; rfl, HE.out, HB3.out.bl⟩
    · have hm := HSl.out.1 rfl
      go_wp2_with fail
      rw [hm]
      clear hm
      go_wp2
      go_ret2
      exact ⟨_, by rw [← HT.out]; rfl, HE.out, HB3.out.bl⟩
  have g2 : ((z : Int) == (iv : Int)) = false := by rw [beq_eq_false_iff_ne]; omega
  by_cases c3 : z = 0
  · subst c3
    have HE := Lib.hid ((HPr.out (sl ++ [48])).2 ⟨fun h => by omega, fun h => by omega, fun _ => rfl, fun h _ => absurd rfl h⟩)
    have HT := Lib.hid (show M ++ (⟨#[48]⟩ : ByteArray) = bs (sl ++ [48]) by rw [← HM.out]; exact bs_append _ _)
    clear c1 c2 hiv0 HSh HPr
    cases ng
    · have hm := HSl.out.2 rfl
      go_wp2_with fail
      rw [hm]
      clear hm
      go_wp2
      go_ret2
      exact ⟨_, by rw [← HT.out]; rfl, HE.out, HB3.out.bl⟩
    · have hm := HSl.out.1 rfl
      go_wp2_with fail
      rw [hm]
      clear hm
      go_wp2
      go_ret2
      exact ⟨_, by rw [← HT.out]; rfl, HE.out, HB3.out.bl⟩
  have g3 : ((z : Int) == 0) = false := by rw [beq_eq_false_iff_ne]; omega
  have HS := Lib.hid (HSh.out c3 (by omega))
  have HEd := Lib.hid (fun d q (h : ShOk f z d q ∧ d < 10 ^ 18 ∧ -500 ≤ q ∧ q ≤ 500) => (HPr.out (sl ++ layS (tl0 (Lib.decDigits d)) (q + ((Lib.decDigits d).length : Int) - ((tl0 (Lib.decDigits d)).length : Int)))).2 ⟨fun h => by omega, fun h => by omega, fun h => by omega, fun _ _ => ⟨d, q, h, rfl⟩⟩)
  clear c1 c2 c3 hiv0 HSh HPr
  cases ng
  · have hm := HSl.out.2 rfl
    go_wp2_with fail
    rw [hm]
    clear hm
    refine (HS.out _).mono ?_
    rintro e w4 ⟨v, d, q, rfl, hv, hok, hb4⟩
    have HV := Lib.hid hv
    have HOk := Lib.hid hok
    have HW4 := Lib.hid (below_chain HB3.out.bl hb4)
    have hd18 : blen d ≤ 3 * 20 := blen_le.2 (Nat.lt_trans hok.2.1 (by decide))
    have HTo := Lib.hid (fun W (g : DgAt W v d) => rtold_walk v d 20 W g hd18 (by omega) (by omega))
    have hsome := (dcV_digits d).2.2.1 (sh_pos hok.1)
    have hdl := decDigits_len hok.2.1 (by omega)
    have HLa := Lib.hid (fun W => rlaid_walk (Lib.decDigits d) q hsome (by omega) (by omega) (by omega) W)
    have hls := lay_size hok.2
    clear hv hok hb4 hd18 hsome hdl x0 x1 x2 x3 x4 x5
    go_wp2_with fail
    refine (HTo.out _ HV.out).mono ?_
    rintro e w5 ⟨rfl, hb5⟩
    have HW5 := Lib.hid (below_chain HW4.out hb5)
    clear hb5
    go_wp2_with fail
    refine (HLa.out _).mono ?_
    rintro e w6 ⟨rfl, hb6⟩
    have HW6 := Lib.hid (below_chain HW5.out hb6)
    have HTx := Lib.hid (show M ++ bs (layS (tl0 (Lib.decDigits d)) (q + ((Lib.decDigits d).length : Int) - ((tl0 (Lib.decDigits d)).length : Int))) = bs (sl ++ layS (tl0 (Lib.decDigits d)) (q + ((Lib.decDigits d).length : Int) - ((tl0 (Lib.decDigits d)).length : Int))) by rw [← HM.out]; exact bs_append _ _)
    have HEx := Lib.hid (HEd.out d q HOk.out)
    obtain ⟨Y, hY⟩ : ∃ Y, bs (layS (tl0 (Lib.decDigits d)) (q + ((Lib.decDigits d).length : Int) - ((tl0 (Lib.decDigits d)).length : Int))) = Y := ⟨_, rfl⟩
    rw [hY] at hls HTx ⊢
    clear hb6 hY
    go_wp2
    go_ret2
    exact ⟨_, by rw [← HTx.out]; rfl, HEx.out, HW6.out⟩
  · have hm := HSl.out.1 rfl
    go_wp2_with fail
    rw [hm]
    clear hm
    refine (HS.out _).mono ?_
    rintro e w4 ⟨v, d, q, rfl, hv, hok, hb4⟩
    have HV := Lib.hid hv
    have HOk := Lib.hid hok
    have HW4 := Lib.hid (below_chain HB3.out.bl hb4)
    have hd18 : blen d ≤ 3 * 20 := blen_le.2 (Nat.lt_trans hok.2.1 (by decide))
    have HTo := Lib.hid (fun W (g : DgAt W v d) => rtold_walk v d 20 W g hd18 (by omega) (by omega))
    have hsome := (dcV_digits d).2.2.1 (sh_pos hok.1)
    have hdl := decDigits_len hok.2.1 (by omega)
    have HLa := Lib.hid (fun W => rlaid_walk (Lib.decDigits d) q hsome (by omega) (by omega) (by omega) W)
    have hls := lay_size hok.2
    clear hv hok hb4 hd18 hsome hdl x0 x1 x2 x3 x4 x5
    go_wp2_with fail
    refine (HTo.out _ HV.out).mono ?_
    rintro e w5 ⟨rfl, hb5⟩
    have HW5 := Lib.hid (below_chain HW4.out hb5)
    clear hb5
    go_wp2_with fail
    refine (HLa.out _).mono ?_
    rintro e w6 ⟨rfl, hb6⟩
    have HW6 := Lib.hid (below_chain HW5.out hb6)
    have HTx := Lib.hid (show M ++ bs (layS (tl0 (Lib.decDigits d)) (q + ((Lib.decDigits d).length : Int) - ((tl0 (Lib.decDigits d)).length : Int))) = bs (sl ++ layS (tl0 (Lib.decDigits d)) (q + ((Lib.decDigits d).length : Int) - ((tl0 (Lib.decDigits d)).length : Int))) by rw [← HM.out]; exact bs_append _ _)
    have HEx := Lib.hid (HEd.out d q HOk.out)
    obtain ⟨Y, hY⟩ : ∃ Y, bs (layS (tl0 (Lib.decDigits d)) (q + ((Lib.decDigits d).length : Int) - ((tl0 (Lib.decDigits d)).length : Int))) = Y := ⟨_, rfl⟩
    rw [hY] at hls HTx ⊢
    clear hb6 hY
    go_wp2
    go_ret2
    exact ⟨_, by rw [← HTx.out]; rfl, HEx.out, HW6.out⟩
end Go.Proofs.YtmfjimmodaofdaaGreatDoor
