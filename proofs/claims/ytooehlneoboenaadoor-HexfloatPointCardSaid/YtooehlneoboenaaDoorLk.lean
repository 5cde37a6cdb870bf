/- Walk of the law Point. -/
import Derived.Test.YtooehlneoboenaaDoorLj
namespace Go.Proofs.YtooehlneoboenaaDoor
open Go.RowKit Go.Sort

theorem zeros_hexN (k : Nat) (l : List UInt8) : hexN (List.replicate k 48 ++ l) = hexN l := by
  induction k with
  | zero => rfl
  | succ k ih => rw [List.replicate_succ, List.cons_append, hexN_cons, ih]; simp [hexV]
/-- What the three readings come to. -/
theorem point_cases (f : Int) (hf : f = 32 ∨ f = 64) (a b : List UInt8) (e : Int) (ha : a.all isHex = true) (hb : b.all isHex = true) (hne : a ++ b ≠ []) (hl : a.length + b.length ≤ 3970) (e1 : -32768 ≤ e) (e2 : e ≤ 32767) :
    ∃ x : Nat,
      (∀ W, Tab64 W → Calls Tryd.prog 13 #[.int .i64 f, .string (bs ([48, 120] ++ a ++ [46] ++ b ++ [112] ++ Lib.itoa e))] W fun e w' => e = .returned (.tuple #[.int .u64 (x : Int), .int .i64 0]) ∧ Below W.heap.size W w') ∧
      (∀ W, Tab64 W → Calls Tryd.prog 13 #[.int .i64 f, .string (bs ([43, 48, 88, 48, 48] ++ a ++ b ++ [46, 48, 48, 48, 80] ++ Lib.itoa (e - 4 * (b.length : Int))))] W fun e w' => e = .returned (.tuple #[.int .u64 (x : Int), .int .i64 0]) ∧ Below W.heap.size W w') ∧
      (∀ W, Tab64 W → Calls Tryd.prog 13 #[.int .i64 f, .string (bs ([48, 120] ++ (a ++ b).map upC ++ [48, 48, 112] ++ Lib.itoa (e - 4 * (b.length : Int) - 8)))] W fun e w' => e = .returned (.tuple #[.int .u64 (x : Int), .int .i64 0]) ∧ Below W.heap.size W w') := by
  have hok := fmOf_ok hf
  have hA : ∀ c ∈ a, isHex c = true := fun c hc => List.all_eq_true.1 ha c hc
  have hB : ∀ c ∈ b, isHex c = true := fun c hc => List.all_eq_true.1 hb c hc
  have hAB : ∀ c ∈ a ++ b, isHex c = true := fun c hc => (List.mem_append.1 hc).elim (hA c) (hB c)
  have h48 : isHex 48 = true := by decide
  have i1 := itoa_len e (by omega) (by omega)
  have i2 := itoa_len (e - 4 * (b.length : Int)) (by omega) (by omega)
  have i3 := itoa_len (e - 4 * (b.length : Int) - 8) (by omega) (by omega)
  have t1 := text_point (fmOf f) [] a b 120 112 e (.inl rfl) (.inl rfl) (.inl rfl) hA hB hne (by omega) (by omega)
  have t2 := text_point (fmOf f) [43] ([48, 48] ++ (a ++ b)) [48, 48, 48] 88 80 (e - 4 * (b.length : Int)) (.inr (.inr rfl)) (.inr rfl) (.inr rfl)
    (fun c hc => (List.mem_append.1 hc).elim (fun h => by simp at h; rw [h]; exact h48) (hAB c)) (fun c hc => by simp at hc; rw [hc]; exact h48) (by simp) (by omega) (by omega)
  obtain ⟨u1, u2⟩ := up_hexN (a ++ b) hAB
  have t3 := text_plain (fmOf f) [] ((a ++ b).map upC ++ [48, 48]) 120 112 (e - 4 * (b.length : Int) - 8) (.inl rfl) (.inl rfl) (.inl rfl)
    (fun c hc => (List.mem_append.1 hc).elim (u2 c) (fun h => by simp at h; rw [h]; exact h48)) (by simp) (by omega) (by omega)
  have v2 : hexN ([48, 48] ++ (a ++ b) ++ [48, 48, 48]) = hexN (a ++ b) * 16 ^ 3 := by
    rw [hexN_append, show ([48, 48] : List UInt8) = List.replicate 2 48 from rfl, zeros_hexN]; simp [hexN, hexV]
  have v3 : hexN ((a ++ b).map upC ++ [48, 48]) = hexN (a ++ b) * 16 ^ 2 := by
    rw [hexN_append, u1]; simp [hexN, hexV]
  rw [v2] at t2
  rw [v3] at t3
  have m2 := hx_moved hok (hexN (a ++ b)) 3 (e - 4 * (b.length : Int))
  have m3 := hx_moved hok (hexN (a ++ b)) 2 (e - 4 * (b.length : Int))
  refine ⟨hxPat (fmOf f) (hexN (a ++ b)) (e - 4 * (b.length : Int)), fun W hW => ?_, fun W hW => ?_, fun W hW => ?_⟩
  · refine parse_bs f hf _ _ (by simp; omega) ?_ W hW
    rw [show [48, 120] ++ a ++ [46] ++ b ++ [112] ++ Lib.itoa e = [] ++ ([48, 120] ++ (a ++ 46 :: b) ++ (112 :: Lib.itoa e)) by simp, t1]; rfl
  · refine parse_bs f hf _ _ (by simp; omega) ?_ W hW
    rw [show [43, 48, 88, 48, 48] ++ a ++ b ++ [46, 48, 48, 48, 80] ++ Lib.itoa (e - 4 * (b.length : Int)) = [43] ++ ([48, 88] ++ (([48, 48] ++ (a ++ b)) ++ 46 :: [48, 48, 48]) ++ (80 :: Lib.itoa (e - 4 * (b.length : Int)))) by simp, t2]
    simp only [List.length_cons, List.length_nil]
    rw [← m2]; rfl
  · refine parse_bs f hf _ _ (by simp; omega) ?_ W hW
    rw [show [48, 120] ++ (a ++ b).map upC ++ [48, 48, 112] ++ Lib.itoa (e - 4 * (b.length : Int) - 8) = [] ++ ([48, 120] ++ ((a ++ b).map upC ++ [48, 48]) ++ (112 :: Lib.itoa (e - 4 * (b.length : Int) - 8))) by simp, t3]
    rw [← m3]; rfl

set_option maxRecDepth 100000 in
set_option maxHeartbeats 4000000 in
theorem point_main (f : Int) (hf : f = 32 ∨ f = 64) (a b : List UInt8) (e : Int) (ha : a.all isHex = true) (hb : b.all isHex = true) (hne : a ++ b ≠ []) (hl : a.length + b.length ≤ 3970) (e1 : -32768 ≤ e) (e2 : e ≤ 32767) (w : World) (ht : Tab64 w) (h10 : Tab10 w) :
    Calls Tryd.prog 4 #[.int .i64 f, .string (bs a), .string (bs b), .int .i16 e] w fun e w' => e = .returned (.bool true) ∧ Below w.heap.size w w' := by
  obtain ⟨x, hP1, hP2, hP3⟩ := point_cases f hf a b e ha hb hne hl e1 e2
  have P1 := Lib.hid hP1
  have P2 := Lib.hid hP2
  have P3 := Lib.hid hP3
  have HT := Lib.hid ht
  have H10 := Lib.hid h10
  have HFm := Lib.hid hf
  have i1 := itoa_len e (by omega) (by omega)
  have i2 := itoa_len (e - 4 * (b.length : Int)) (by omega) (by omega)
  have i3 := itoa_len (e - 4 * (b.length : Int) - 8) (by omega) (by omega)
  have HI1 := Lib.hid (fun w h => itoa_walk e (by omega) (by omega) w h)
  have HI2 := Lib.hid (fun w h => itoa_walk (e - 4 * (b.length : Int)) (by omega) (by omega) w h)
  have HI3 := Lib.hid (fun w h => itoa_walk (e - 4 * (b.length : Int) - 8) (by omega) (by omega) w h)
  have HA := Lib.hid (show ∀ w, Calls Tryd.prog 16 #[.string (bs a)] w (fun e w' => e = .returned (.bool true) ∧ w' = w) from fun w => by have := hexes_walk a (by omega) w; rw [ha] at this; exact this)
  have HB := Lib.hid (show ∀ w, Calls Tryd.prog 16 #[.string (bs b)] w (fun e w' => e = .returned (.bool true) ∧ w' = w) from fun w => by have := hexes_walk b (by omega) w; rw [hb] at this; exact this)
  have HU := Lib.hid (fun w => upper_walk (a ++ b) (by simp; omega) w)
  have hem : ((bs a).toList.isEmpty && (bs b).toList.isEmpty) = false := by
    rw [bs_list, bs_list]
    cases a with
    | nil => cases b with
      | nil => exact absurd rfl hne
      | cons c t => rfl
    | cons c t => rfl
  have za : (bs a).size = a.length := bs_size a
  have zb : (bs b).size = b.length := bs_size b
  have d1 : ∀ W : World, (Op.stringOp .add ⟨#[48, 120]⟩ (bs a)).run Tryd.prog W = .ok (.string (bs ([48, 120] ++ a))) W := fun W => add_bs [48, 120] _ (by simp; omega) W
  have d2 : ∀ W : World, (Op.stringOp .add (bs ([48, 120] ++ a)) ⟨#[46]⟩).run Tryd.prog W = .ok (.string (bs ([48, 120] ++ a ++ [46]))) W := fun W => add_bs _ [46] (by simp; omega) W
  have d3 : ∀ W : World, (Op.stringOp .add (bs ([48, 120] ++ a ++ [46])) (bs b)).run Tryd.prog W = .ok (.string (bs ([48, 120] ++ a ++ [46] ++ b))) W := fun W => add_bs _ _ (by simp; omega) W
  have d4 : ∀ W : World, (Op.stringOp .add (bs ([48, 120] ++ a ++ [46] ++ b)) ⟨#[112]⟩).run Tryd.prog W = .ok (.string (bs ([48, 120] ++ a ++ [46] ++ b ++ [112]))) W := fun W => add_bs _ [112] (by simp; omega) W
  have d5 : ∀ W : World, (Op.stringOp .add (bs ([48, 120] ++ a ++ [46] ++ b ++ [112])) (bs (Lib.itoa e))).run Tryd.prog W = .ok (.string (bs ([48, 120] ++ a ++ [46] ++ b ++ [112] ++ Lib.itoa e))) W := fun W => add_bs _ _ (by simp; omega) W
  have d6 : ∀ W : World, (Op.stringOp .add ⟨#[43, 48, 88, 48, 48]⟩ (bs a)).run Tryd.prog W = .ok (.string (bs ([43, 48, 88, 48, 48] ++ a))) W := fun W => add_bs [43, 48, 88, 48, 48] _ (by simp; omega) W
  have d7 : ∀ W : World, (Op.stringOp .add (bs ([43, 48, 88, 48, 48] ++ a)) (bs b)).run Tryd.prog W = .ok (.string (bs ([43, 48, 88, 48, 48] ++ a ++ b))) W := fun W => add_bs _ _ (by simp; omega) W
  have d8 : ∀ W : World, (Op.stringOp .add (bs ([43, 48, 88, 48, 48] ++ a ++ b)) ⟨#[46, 48, 48, 48, 80]⟩).run Tryd.prog W = .ok (.string (bs ([43, 48, 88, 48, 48] ++ a ++ b ++ [46, 48, 48, 48, 80]))) W := fun W => add_bs _ [46, 48, 48, 48, 80] (by simp; omega) W
  have d9 : ∀ W : World, (Op.stringOp .add (bs ([43, 48, 88, 48, 48] ++ a ++ b ++ [46, 48, 48, 48, 80])) (bs (Lib.itoa (e - 4 * (b.length : Int))))).run Tryd.prog W = .ok (.string (bs ([43, 48, 88, 48, 48] ++ a ++ b ++ [46, 48, 48, 48, 80] ++ Lib.itoa (e - 4 * (b.length : Int))))) W := fun W => add_bs _ _ (by simp; omega) W
  have d10 : ∀ W : World, (Op.stringOp .add (bs a) (bs b)).run Tryd.prog W = .ok (.string (bs (a ++ b))) W := fun W => add_bs _ _ (by omega) W
  have d11 : ∀ W : World, (Op.stringOp .add ⟨#[48, 120]⟩ (bs ((a ++ b).map upC))).run Tryd.prog W = .ok (.string (bs ([48, 120] ++ (a ++ b).map upC))) W := fun W => add_bs [48, 120] _ (by simp; omega) W
  have d12 : ∀ W : World, (Op.stringOp .add (bs ([48, 120] ++ (a ++ b).map upC)) ⟨#[48, 48, 112]⟩).run Tryd.prog W = .ok (.string (bs ([48, 120] ++ (a ++ b).map upC ++ [48, 48, 112]))) W := fun W => add_bs _ [48, 48, 112] (by simp; omega) W
  have d13 : ∀ W : World, (Op.stringOp .add (bs ([48, 120] ++ (a ++ b).map upC ++ [48, 48, 112])) (bs (Lib.itoa (e - 4 * (b.length : Int) - 8)))).run Tryd.prog W = .ok (.string (bs ([48, 120] ++ (a ++ b).map upC ++ [48, 48, 112] ++ Lib.itoa (e - 4 * (b.length : Int) - 8)))) W := fun W => add_bs _ _ (by simp; omega) W
  generalize bs ([48, 120] ++ (a ++ b).map upC ++ [48, 48, 112] ++ Lib.itoa (e - 4 * (b.length : Int) - 8)) = T1 at *
  generalize bs ([48, 120] ++ (a ++ b).map upC ++ [48, 48, 112]) = T2 at *
  generalize bs ([48, 120] ++ (a ++ b).map upC) = T3 at *
  generalize bs ((a ++ b).map upC) = T4 at *
  generalize bs (a ++ b) = T5 at *
  generalize bs ([43, 48, 88, 48, 48] ++ a ++ b ++ [46, 48, 48, 48, 80] ++ Lib.itoa (e - 4 * (b.length : Int))) = T6 at *
  generalize bs ([43, 48, 88, 48, 48] ++ a ++ b ++ [46, 48, 48, 48, 80]) = T7 at *
  generalize bs ([43, 48, 88, 48, 48] ++ a ++ b) = T8 at *
  generalize bs ([43, 48, 88, 48, 48] ++ a) = T9 at *
  generalize bs ([48, 120] ++ a ++ [46] ++ b ++ [112] ++ Lib.itoa e) = T10 at *
  generalize bs ([48, 120] ++ a ++ [46] ++ b ++ [112]) = T11 at *
  generalize bs ([48, 120] ++ a ++ [46] ++ b) = T12 at *
  generalize bs ([48, 120] ++ a ++ [46]) = T13 at *
  generalize bs ([48, 120] ++ a) = T14 at *
  generalize bs (Lib.itoa (e - 4 * (b.length : Int) - 8)) = T15 at *
  generalize bs (Lib.itoa (e - 4 * (b.length : Int))) = T16 at *
  generalize bs (Lib.itoa e) = T17 at *
  generalize bs a = TA at *
  generalize bs b = TB at *
  have hl2 : (a.length : Int) + (b.length : Int) ≤ 3970 := by omega
  obtain ⟨ea, hea⟩ : ∃ ea, TA.toList.isEmpty = ea := ⟨_, rfl⟩
  obtain ⟨eb, heb⟩ : ∃ eb, TB.toList.isEmpty = eb := ⟨_, rfl⟩
  rw [hea, heb] at hem
  clear ht h10 hf hP1 hP2 hP3 i1 i2 i3 ha hb hne hl
  cases ea <;> cases eb
  case true.true => cases hem
  all_goals
    clear hem
    go_enter Tryd.func4, Tryd.ntmps4
    go_wp2_with fail
    refine (awake_walk w HT.out H10.out).mono ?_
    rintro e w1 ⟨rfl, hb1⟩
    have HW1 := Lib.hid hb1
    clear hb1
    go_wp2_with fail
    refine (formats_yes f HFm.out _).mono ?_
    rintro e w2 ⟨rfl, rfl⟩
    go_wp2_with fail
    refine (HA.out _).mono ?_
    rintro e w2 ⟨rfl, rfl⟩
    go_wp2_with fail
    refine (HB.out _).mono ?_
    rintro e w2 ⟨rfl, rfl⟩
    go_wp2_with fail
    refine (HI1.out _ (H10.out.below HW1.out)).mono ?_
    rintro e w2 ⟨rfl, hb2⟩
    have HW2 := Lib.hid (below_chain HW1.out hb2)
    clear hb2
    go_wp2_with fail
    refine (P1.out _ (HT.out.below HW2.out)).mono ?_
    rintro e w3 ⟨rfl, hb3⟩
    have HW3 := Lib.hid (below_chain HW2.out hb3)
    clear hb3
    go_wp2_with fail
    refine (HI2.out _ (H10.out.below HW3.out)).mono ?_
    rintro e w4 ⟨rfl, hb4⟩
    have HW4 := Lib.hid (below_chain HW3.out hb4)
    clear hb4
    go_wp2_with fail
    refine (P2.out _ (HT.out.below HW4.out)).mono ?_
    rintro e w5 ⟨rfl, hb5⟩
    have HW5 := Lib.hid (below_chain HW4.out hb5)
    clear hb5
    go_wp2_with fail
    refine (HU.out _).mono ?_
    rintro e w6 ⟨rfl, hb6⟩
    have HW6 := Lib.hid (below_chain HW5.out hb6)
    clear hb6
    go_wp2_with fail
    refine (HI3.out _ (H10.out.below HW6.out)).mono ?_
    rintro e w7 ⟨rfl, hb7⟩
    have HW7 := Lib.hid (below_chain HW6.out hb7)
    clear hb7
    go_wp2_with fail
    refine (P3.out _ (HT.out.below HW7.out)).mono ?_
    rintro e w8 ⟨rfl, hb8⟩
    have HW8 := Lib.hid (below_chain HW7.out hb8)
    clear hb8
    go_wp2
    go_ret
    exact ⟨rfl, HW8.out⟩

set_option maxRecDepth 100000 in
set_option maxHeartbeats 1000000 in
/-- The law's walk: whatever the arguments, it answers true. -/
theorem point_walk (f : Int) (a b : ByteArray) (e : Int) (ca : a.size ≤ 140737488355328) (cb : b.size ≤ 140737488355328) (e1 : -32768 ≤ e) (e2 : e ≤ 32767) (w : World) (ht : Tab64 w) (h10 : Tab10 w) :
    Calls Tryd.prog 4 #[.int .i64 f, .string a, .string b, .int .i16 e] w fun e w' => e = .returned (.bool true) ∧ Below w.heap.size w w' := by
  obtain ⟨la, rfl⟩ : ∃ l, a = bs l := ⟨a.toList, (bs_of a).symm⟩
  obtain ⟨lb, rfl⟩ : ∃ l, b = bs l := ⟨b.toList, (bs_of b).symm⟩
  have za := bs_size la
  have zb := bs_size lb
  rw [za] at ca
  rw [zb] at cb
  by_cases hf : f = 32 ∨ f = 64
  case neg =>
    have HT := Lib.hid ht
    have H10 := Lib.hid h10
    have HN := Lib.hid (show f ≠ 32 ∧ f ≠ 64 from ⟨fun e => hf (.inl e), fun e => hf (.inr e)⟩)
    clear hf ht h10
    generalize bs la = TA at *
    generalize bs lb = TB at *
    clear za zb ca cb
    go_enter Tryd.func4, Tryd.ntmps4
    go_wp2_with fail
    refine (awake_walk w HT.out H10.out).mono ?_
    rintro e w1 ⟨rfl, hb1⟩
    go_wp2_with fail
    refine (formats_no f HN.out.1 HN.out.2 _).mono ?_
    rintro e w2 ⟨rfl, rfl⟩
    go_wp2
    go_ret
    exact ⟨rfl, hb1⟩
  by_cases hall : la.all isHex = true ∧ lb.all isHex = true ∧ la ++ lb ≠ [] ∧ la.length + lb.length ≤ 3970
  · exact point_main f hf la lb e hall.1 hall.2.1 hall.2.2.1 hall.2.2.2 e1 e2 w ht h10
  · -- one of the guards lets the law end
    have HT := Lib.hid ht
    have H10 := Lib.hid h10
    have HFm := Lib.hid hf
    have HA := Lib.hid (fun w => hexes_walk la (by omega) w)
    have HB := Lib.hid (fun w => hexes_walk lb (by omega) w)
    have hAll := Lib.hid hall
    obtain ⟨pa, hpa⟩ : ∃ pa, la.all isHex = pa := ⟨_, rfl⟩
    obtain ⟨pb, hpb⟩ : ∃ pb, lb.all isHex = pb := ⟨_, rfl⟩
    rw [hpa] at HA
    rw [hpb] at HB
    obtain ⟨ea, hea⟩ : ∃ ea, (bs la).toList.isEmpty = ea := ⟨_, rfl⟩
    obtain ⟨eb, heb⟩ : ∃ eb, (bs lb).toList.isEmpty = eb := ⟨_, rfl⟩
    have hcase : pa = false ∨ (pa = true ∧ pb = false) ∨ (pa = true ∧ pb = true ∧ ea = true ∧ eb = true) ∨ (pa = true ∧ pb = true ∧ (ea && eb) = false ∧ (3970 : Int) < (la.length : Int) + (lb.length : Int)) := by
      cases pa with
      | false => exact .inl rfl
      | true =>
        right
        cases pb with
        | false => exact .inl ⟨rfl, rfl⟩
        | true =>
          right
          rw [bs_list] at hea heb
          by_cases hem : ea = true ∧ eb = true
          · exact .inl ⟨rfl, rfl, hem.1, hem.2⟩
          · right
            refine ⟨rfl, rfl, ?_, ?_⟩
            · cases ea <;> cases eb <;> simp_all
            · apply Classical.byContradiction
              intro hlen
              refine hall ⟨hpa, hpb, ?_, by omega⟩
              intro hnil
              rw [List.append_eq_nil_iff] at hnil
              rw [hnil.1] at hea
              rw [hnil.2] at heb
              exact hem ⟨hea.symm, heb.symm⟩
    have hsum : (la.length : Int) + (lb.length : Int) ≤ 9223372036854775807 := by omega
    have hsumw : IntKind.i64.wrap ((la.length : Int) + (lb.length : Int)) = (la.length : Int) + (lb.length : Int) := by rw [IntKind.wrap_i64]; omega
    clear ht h10 hf hall hpa hpb ca cb hsum
    generalize bs la = TA at *
    generalize bs lb = TB at *
    rcases hcase with rfl | ⟨rfl, rfl⟩ | ⟨rfl, rfl, rfl, rfl⟩ | ⟨rfl, rfl, hee, hlen⟩
    · go_enter Tryd.func4, Tryd.ntmps4
      go_wp2_with fail
      refine (awake_walk w HT.out H10.out).mono ?_
      rintro e w1 ⟨rfl, hb1⟩
      go_wp2_with fail
      refine (formats_yes f HFm.out _).mono ?_
      rintro e w2 ⟨rfl, rfl⟩
      go_wp2_with fail
      refine (HA.out _).mono ?_
      rintro e w2 ⟨rfl, rfl⟩
      go_wp2
      go_ret
      exact ⟨rfl, hb1⟩
    · go_enter Tryd.func4, Tryd.ntmps4
      go_wp2_with fail
      refine (awake_walk w HT.out H10.out).mono ?_
      rintro e w1 ⟨rfl, hb1⟩
      go_wp2_with fail
      refine (formats_yes f HFm.out _).mono ?_
      rintro e w2 ⟨rfl, rfl⟩
      go_wp2_with fail
      refine (HA.out _).mono ?_
      rintro e w2 ⟨rfl, rfl⟩
      go_wp2_with fail
      refine (HB.out _).mono ?_
      rintro e w2 ⟨rfl, rfl⟩
      go_wp2
      go_ret
      exact ⟨rfl, hb1⟩
    · go_enter Tryd.func4, Tryd.ntmps4
      go_wp2_with fail
      refine (awake_walk w HT.out H10.out).mono ?_
      rintro e w1 ⟨rfl, hb1⟩
      go_wp2_with fail
      refine (formats_yes f HFm.out _).mono ?_
      rintro e w2 ⟨rfl, rfl⟩
      go_wp2_with fail
      refine (HA.out _).mono ?_
      rintro e w2 ⟨rfl, rfl⟩
      go_wp2_with fail
      refine (HB.out _).mono ?_
      rintro e w2 ⟨rfl, rfl⟩
      go_wp2
      go_ret
      exact ⟨rfl, hb1⟩
    · cases ea <;> cases eb
      case true.true => cases hee
      all_goals
        clear hee
        go_enter Tryd.func4, Tryd.ntmps4
        go_wp2_with fail
        refine (awake_walk w HT.out H10.out).mono ?_
        rintro e w1 ⟨rfl, hb1⟩
        go_wp2_with fail
        refine (formats_yes f HFm.out _).mono ?_
        rintro e w2 ⟨rfl, rfl⟩
        go_wp2_with fail
        refine (HA.out _).mono ?_
        rintro e w2 ⟨rfl, rfl⟩
        go_wp2_with fail
        refine (HB.out _).mono ?_
        rintro e w2 ⟨rfl, rfl⟩
        go_wp2
        go_ret
        exact ⟨rfl, hb1⟩
end Go.Proofs.YtooehlneoboenaaDoor
