/- Walks of calc: the other sets of bytes, power, numberEnd, cut. · Walks of calc: numberEnd, cut. · Walk of calc: cut. -/
import Derived.Test.YtibjogbalmbeeaaGreatDoorU06

namespace Go.Proofs.YtibjogbalmbeeaaGreatDoor
open Go.RowKit

set_option maxRecDepth 100000 in
theorem set_num (c : UInt8) (w : World) : Calls Tryz.prog 140 #[.int .u8 (c.toNat : Int)] w fun e w' => e = .returned (.bool (pNum c)) ∧ w' = w := by
  have HD := Lib.hid (fun W => cdigit_walk c W)
  have e1 : (((c.toNat : Nat) : Int) == 46) = (c == 46) := u8_beq c 46
  unfold pNum
  obtain ⟨a, ha⟩ : ∃ a, pDig c = a := ⟨_, rfl⟩
  obtain ⟨b, hb⟩ : ∃ b, (c == 46) = b := ⟨_, rfl⟩
  rw [ha] at HD ⊢
  rw [hb] at e1 ⊢
  clear ha hb
  generalize c.toNat = n at *
  cases a
  all_goals
    go_enter Tryz.func140, Tryz.ntmps140
    go_wp2_with fail
    refine (HD.out _).mono ?_
    rintro e w' ⟨rfl, hw⟩
    (have h := hw.symm); subst h
    clear hw
    go_wp2_with fail
    go_ret
    exact ⟨by simp, rfl⟩
set_option maxRecDepth 100000 in
theorem set_hex (c : UInt8) (w : World) : Calls Tryz.prog 138 #[.int .u8 (c.toNat : Int)] w fun e w' => e = .returned (.bool (pHex c)) ∧ w' = w := by
  have HD := Lib.hid (fun W => cdigit_walk c W)
  have e1 : (((c.toNat : Nat) : Int) == 46) = (c == 46) := u8_beq c 46
  unfold pHex
  obtain ⟨a, ha⟩ : ∃ a, pDig c = a := ⟨_, rfl⟩
  obtain ⟨b, hb⟩ : ∃ b, (c == 46) = b := ⟨_, rfl⟩
  rw [ha] at HD ⊢
  rw [hb] at e1 ⊢
  clear ha hb
  generalize c.toNat = n at *
  cases a
  · by_cases h1 : 97 ≤ n
    · have g1 : (97 : Int) ≤ (n : Int) := by omega
      have g1' : decide ((97 : Int) ≤ (n : Int)) = true := decide_eq_true g1
      rw [decide_eq_true h1]
      by_cases h2 : n ≤ 102
      · have g2 : (n : Int) ≤ 102 := by omega
        have g2' : decide ((n : Int) ≤ 102) = true := decide_eq_true g2
        rw [decide_eq_true h2]
        clear h1 h2
        go_enter Tryz.func138, Tryz.ntmps138
        go_wp2_with fail
        refine (HD.out _).mono ?_
        rintro e w' ⟨rfl, hw⟩
        (have h := hw.symm); subst h
        clear hw
        go_wp2_with fail
        go_ret
        exact ⟨by simp, rfl⟩
      · have g2 : ¬ (n : Int) ≤ 102 := by omega
        have g2' : decide ((n : Int) ≤ 102) = false := decide_eq_false g2
        rw [decide_eq_false h2]
        clear h1 h2
        go_enter Tryz.func138, Tryz.ntmps138
        go_wp2_with fail
        refine (HD.out _).mono ?_
        rintro e w' ⟨rfl, hw⟩
        (have h := hw.symm); subst h
        clear hw
        go_wp2_with fail
        go_ret
        exact ⟨by simp, rfl⟩
    · have g1 : ¬ (97 : Int) ≤ (n : Int) := by omega
      have g1' : decide ((97 : Int) ≤ (n : Int)) = false := decide_eq_false g1
      rw [decide_eq_false h1]
      clear h1
      go_enter Tryz.func138, Tryz.ntmps138
      go_wp2_with fail
      refine (HD.out _).mono ?_
      rintro e w' ⟨rfl, hw⟩
      (have h := hw.symm); subst h
      clear hw
      go_wp2_with fail
      go_ret
      exact ⟨by simp, rfl⟩
  · go_enter Tryz.func138, Tryz.ntmps138
    go_wp2_with fail
    refine (HD.out _).mono ?_
    rintro e w' ⟨rfl, hw⟩
    (have h := hw.symm); subst h
    clear hw
    go_wp2_with fail
    go_ret
    exact ⟨by simp, rfl⟩
theorem over_dig (s : ByteArray) (i : Nat) (hi : i ≤ s.size) (hs : s.size ≤ 100000) (w : World) : Calls Tryz.prog 94 #[.string s, .int .i64 (i : Int), .func (.func 98) #[] #[]] w fun e w' => e = .returned (.int .i64 ((ovr pDig s i : Nat) : Int)) ∧ w' = w := over_walk pDig _ cdigit_walk ent_dig s i hi hs w

set_option maxRecDepth 100000 in
set_option maxHeartbeats 1000000 in
theorem cpower_walk (s : ByteArray) (i : Nat) (c : UInt8) (hi : i ≤ s.size) (hs : s.size ≤ 100000) (w : World) :
    Calls Tryz.prog 139 #[.string s, .int .i64 (i : Int), .int .u8 (c.toNat : Int)] w fun e w' => e = .returned (.int .i64 ((pwr s i c : Nat) : Int)) ∧ w' = w := by
  unfold pwr
  by_cases hlt : i < s.size
  · have hli : ¬ (s.size : Int) ≤ (i : Int) := by omega
    have hli2 : decide ((s.size : Int) ≤ (i : Int)) = false := decide_eq_false hli
    have hli3 : (i : Int) < (s.size : Int) := by omega
    have hix := fun w1 => run_byte s i hlt (by omega) w1
    have hb := u8_beq (by8 s i) c
    by_cases hc : by8 s i = c
    · rw [if_pos ⟨hlt, hc⟩]
      have hne : ((((by8 s i).toNat : Nat) : Int) != ((c.toNat : Nat) : Int)) = false := by rw [hc]; simp
      have kw : IntKind.i64.wrap ((i : Int) + 1) = ((i + 1 : Nat) : Int) := by rw [IntKind.wrap_i64]; omega
      by_cases h1 : i + 1 < s.size
      · have hix1 := fun w1 => run_byte s (i + 1) h1 (by omega) w1
        have g1 : ((i + 1 : Nat) : Int) < (s.size : Int) := by omega
        have b3 : ((((by8 s (i + 1)).toNat : Nat) : Int) == 43) = (by8 s (i + 1) == 43) := u8_beq (by8 s (i + 1)) 43
        have b5 : ((((by8 s (i + 1)).toNat : Nat) : Int) == 45) = (by8 s (i + 1) == 45) := u8_beq (by8 s (i + 1)) 45
        have kw2 : IntKind.i64.wrap (((i + 1 : Nat) : Int) + 1) = ((i + 2 : Nat) : Int) := by rw [IntKind.wrap_i64]; omega
        by_cases hsg : by8 s (i + 1) = 43 ∨ by8 s (i + 1) = 45
        · rw [if_pos ⟨h1, hsg⟩]
          have HO := Lib.hid (over_dig s (i + 2) (by omega) hs w)
          obtain ⟨j, hj⟩ : ∃ j, i + 1 = j := ⟨_, rfl⟩
          obtain ⟨k, hk⟩ : ∃ k, i + 2 = k := ⟨_, rfl⟩
          rw [hj] at hix1 g1 b3 b5 kw2 kw
          rw [hk] at HO kw2 ⊢
          have hsg2 : (by8 s (i + 1) == 43) = true ∨ ((by8 s (i + 1) == 43) = false ∧ (by8 s (i + 1) == 45) = true) := by
            by_cases h43 : by8 s (i + 1) = 43
            · exact .inl (by rw [h43]; rfl)
            · exact .inr ⟨beq_eq_false_iff_ne.2 h43, by rw [hsg.resolve_left h43]; rfl⟩
          rw [hj] at hsg2
          rcases hsg2 with h43 | ⟨h43, h45⟩
          · rw [h43] at b3
            generalize (by8 s i).toNat = n0 at *
            generalize (by8 s j).toNat = n1 at *
            generalize c.toNat = m at *
            clear hc hb hsg h1 hlt hi hs hj hk b5 h43
            go_enter Tryz.func139, Tryz.ntmps139
            go_wp2_with fail
            refine HO.out.mono ?_
            rintro e w' ⟨rfl, hw⟩
            (have h := hw.symm); subst h
            clear hw
            go_wp2_with fail
            go_ret
            exact ⟨rfl, rfl⟩
          · rw [h43] at b3
            rw [h45] at b5
            generalize (by8 s i).toNat = n0 at *
            generalize (by8 s j).toNat = n1 at *
            generalize c.toNat = m at *
            clear hc hb hsg h1 hlt hi hs hj hk h43 h45
            go_enter Tryz.func139, Tryz.ntmps139
            go_wp2_with fail
            refine HO.out.mono ?_
            rintro e w' ⟨rfl, hw⟩
            (have h := hw.symm); subst h
            clear hw
            go_wp2_with fail
            go_ret
            exact ⟨rfl, rfl⟩
        · rw [if_neg (fun h => hsg h.2)]
          have HO := Lib.hid (over_dig s (i + 1) (by omega) hs w)
          have h43 : (by8 s (i + 1) == 43) = false := beq_eq_false_iff_ne.2 (fun h => hsg (.inl h))
          have h45 : (by8 s (i + 1) == 45) = false := beq_eq_false_iff_ne.2 (fun h => hsg (.inr h))
          rw [h43] at b3
          rw [h45] at b5
          obtain ⟨j, hj⟩ : ∃ j, i + 1 = j := ⟨_, rfl⟩
          rw [hj] at hix1 g1 b3 b5 kw HO ⊢
          generalize (by8 s i).toNat = n0 at *
          generalize (by8 s j).toNat = n1 at *
          generalize c.toNat = m at *
          clear hc hb hsg h1 hlt hi hs hj h43 h45 kw2
          go_enter Tryz.func139, Tryz.ntmps139
          go_wp2_with fail
          refine HO.out.mono ?_
          rintro e w' ⟨rfl, hw⟩
          (have h := hw.symm); subst h
          clear hw
          go_wp2_with fail
          go_ret
          exact ⟨rfl, rfl⟩
      · rw [if_neg (fun h => h1 h.1)]
        have HO := Lib.hid (over_dig s (i + 1) (by omega) hs w)
        have g1 : ¬ ((i + 1 : Nat) : Int) < (s.size : Int) := by omega
        have g1' : decide (((i + 1 : Nat) : Int) < (s.size : Int)) = false := decide_eq_false g1
        obtain ⟨j, hj⟩ : ∃ j, i + 1 = j := ⟨_, rfl⟩
        rw [hj] at g1 g1' kw HO ⊢
        generalize (by8 s i).toNat = n0 at *
        generalize c.toNat = m at *
        clear hc hb h1 hlt hi hs hj
        go_enter Tryz.func139, Tryz.ntmps139
        go_wp2_with fail
        refine HO.out.mono ?_
        rintro e w' ⟨rfl, hw⟩
        (have h := hw.symm); subst h
        clear hw
        go_wp2_with fail
        go_ret
        exact ⟨rfl, rfl⟩
    · rw [if_neg (fun h => hc h.2)]
      have hne : ((((by8 s i).toNat : Nat) : Int) != ((c.toNat : Nat) : Int)) = true := by
        rw [bne, hb, beq_eq_false_iff_ne.2 hc]; rfl
      generalize (by8 s i).toNat = n0 at *
      generalize c.toNat = m at *
      clear hc hb hlt hi hs
      go_enter Tryz.func139, Tryz.ntmps139
      go_wp2_with fail
      go_ret
      exact ⟨rfl, rfl⟩
  · rw [if_neg (fun h => hlt h.1)]
    have hli : (s.size : Int) ≤ (i : Int) := by omega
    have hli2 : decide ((s.size : Int) ≤ (i : Int)) = true := decide_eq_true hli
    clear hlt hi hs
    go_enter Tryz.func139, Tryz.ntmps139
    go_wp2_with fail
    go_ret
    exact ⟨rfl, rfl⟩
end Go.Proofs.YtibjogbalmbeeaaGreatDoor

namespace Go.Proofs.YtibjogbalmbeeaaGreatDoor
open Go.RowKit

set_option maxRecDepth 100000 in
set_option maxHeartbeats 1000000 in
theorem numberEnd_walk (s : ByteArray) (i : Nat) (hi : i ≤ s.size) (hs : s.size ≤ 100000) (w : World) (hlt : i < s.size) :
    Calls Tryz.prog 99 #[.string s, .int .i64 (i : Int)] w fun e w' => e = .returned (.int .i64 ((numE s i : Nat) : Int)) ∧ w' = w := by
  unfold numE
  have hix := fun w1 => run_byte s i hlt (by omega) w1
  have kw : IntKind.i64.wrap ((i : Int) + 1) = ((i + 1 : Nat) : Int) := by rw [IntKind.wrap_i64]; omega
  have b48 : ((((by8 s i).toNat : Nat) : Int) == 48) = (by8 s i == 48) := u8_beq (by8 s i) 48
  by_cases hx : i + 1 < s.size ∧ by8 s i = 48 ∧ by8 s (i + 1) = 120
  · rw [if_pos hx]
    obtain ⟨h1, h2, h3⟩ := hx
    have HO := Lib.hid (over_walk pHex _ set_hex ent_hex s (i + 2) (by omega) hs w)
    have hle := ovr_le pHex s (i := i + 2) (by omega)
    have HP := Lib.hid (cpower_walk s (ovr pHex s (i + 2)) 112 hle.2 hs w)
    rw [show (((112 : UInt8).toNat : Nat) : Int) = 112 from rfl] at HP
    have hix1 := fun w1 => run_byte s (i + 1) h1 (by omega) w1
    have b120 : ((((by8 s (i + 1)).toNat : Nat) : Int) == 120) = (by8 s (i + 1) == 120) := u8_beq (by8 s (i + 1)) 120
    have g1 : ((i + 1 : Nat) : Int) < (s.size : Int) := by omega
    have kw2 : IntKind.i64.wrap ((i : Int) + 2) = ((i + 2 : Nat) : Int) := by rw [IntKind.wrap_i64]; omega
    rw [h2] at b48
    rw [h3] at b120
    rw [show ((48 : UInt8) == 48) = true from rfl] at b48
    rw [show ((120 : UInt8) == 120) = true from rfl] at b120
    rw [h2] at hix
    rw [h3] at hix1
    obtain ⟨j, hj⟩ : ∃ j, i + 1 = j := ⟨_, rfl⟩
    obtain ⟨k, hk⟩ : ∃ k, i + 2 = k := ⟨_, rfl⟩
    obtain ⟨o, ho⟩ : ∃ o, ovr pHex s (i + 2) = o := ⟨_, rfl⟩
    rw [ho] at HO HP ⊢
    rw [hj] at hix1 g1 kw
    rw [hk] at kw2 HO
    obtain ⟨x48, hx48⟩ : ∃ x, (48 : UInt8).toNat = x := ⟨_, rfl⟩
    obtain ⟨x120, hx120⟩ : ∃ x, (120 : UInt8).toNat = x := ⟨_, rfl⟩
    rw [hx48] at hix b48
    rw [hx120] at hix1 b120
    clear h1 h2 h3 hlt hi hs hj hk ho hle hx48 hx120
    go_enter Tryz.func99, Tryz.ntmps99
    go_wp2_with fail
    refine HO.out.mono ?_
    rintro e w' ⟨rfl, hw⟩
    (have h := hw.symm); subst h
    clear hw
    go_wp2_with fail
    refine HP.out.mono ?_
    rintro e w' ⟨rfl, hw⟩
    (have h := hw.symm); subst h
    clear hw
    go_wp2_with fail
    go_ret
    exact ⟨rfl, rfl⟩
  · rw [if_neg hx]
    have HO := Lib.hid (over_walk pNum _ set_num ent_num s i hi hs w)
    have hle := ovr_le pNum s hi
    have HP := Lib.hid (cpower_walk s (ovr pNum s i) 101 hle.2 hs w)
    rw [show (((101 : UInt8).toNat : Nat) : Int) = 101 from rfl] at HP
    obtain ⟨o, ho⟩ : ∃ o, ovr pNum s i = o := ⟨_, rfl⟩
    rw [ho] at HO HP ⊢
    by_cases h1 : i + 1 < s.size
    · have hix1 := fun w1 => run_byte s (i + 1) h1 (by omega) w1
      have b120 : ((((by8 s (i + 1)).toNat : Nat) : Int) == 120) = (by8 s (i + 1) == 120) := u8_beq (by8 s (i + 1)) 120
      have g1 : ((i + 1 : Nat) : Int) < (s.size : Int) := by omega
      obtain ⟨j, hj⟩ : ∃ j, i + 1 = j := ⟨_, rfl⟩
      rw [hj] at hix1 g1 kw b120
      by_cases h2 : by8 s i = 48
      · have h3 : (by8 s j == 120) = false := beq_eq_false_iff_ne.2 (fun h => hx ⟨h1, h2, by rw [hj]; exact h⟩)
        rw [h3] at b120
        rw [show (by8 s i == 48) = true by rw [h2]; rfl] at b48
        generalize (by8 s i).toNat = n0 at *
        generalize (by8 s j).toNat = n1 at *
        clear h1 h2 h3 hlt hi hs hj ho hle hx
        go_enter Tryz.func99, Tryz.ntmps99
        go_wp2_with fail
        refine HO.out.mono ?_
        rintro e w' ⟨rfl, hw⟩
        (have h := hw.symm); subst h
        clear hw
        go_wp2_with fail
        refine HP.out.mono ?_
        rintro e w' ⟨rfl, hw⟩
        (have h := hw.symm); subst h
        clear hw
        go_wp2_with fail
        go_ret
        exact ⟨rfl, rfl⟩
      · rw [show (by8 s i == 48) = false from beq_eq_false_iff_ne.2 h2] at b48
        generalize (by8 s i).toNat = n0 at *
        clear h1 h2 hlt hi hs hj ho hle hx hix1 b120
        go_enter Tryz.func99, Tryz.ntmps99
        go_wp2_with fail
        refine HO.out.mono ?_
        rintro e w' ⟨rfl, hw⟩
        (have h := hw.symm); subst h
        clear hw
        go_wp2_with fail
        refine HP.out.mono ?_
        rintro e w' ⟨rfl, hw⟩
        (have h := hw.symm); subst h
        clear hw
        go_wp2_with fail
        go_ret
        exact ⟨rfl, rfl⟩
    · have g1 : ¬ ((i + 1 : Nat) : Int) < (s.size : Int) := by omega
      have g1' : decide (((i + 1 : Nat) : Int) < (s.size : Int)) = false := decide_eq_false g1
      obtain ⟨j, hj⟩ : ∃ j, i + 1 = j := ⟨_, rfl⟩
      rw [hj] at g1 g1' kw
      clear h1 hlt hi hs hj ho hle hx b48 hix
      go_enter Tryz.func99, Tryz.ntmps99
      go_wp2_with fail
      refine HO.out.mono ?_
      rintro e w' ⟨rfl, hw⟩
      (have h := hw.symm); subst h
      clear hw
      go_wp2_with fail
      refine HP.out.mono ?_
      rintro e w' ⟨rfl, hw⟩
      (have h := hw.symm); subst h
      clear hw
      go_wp2_with fail
      go_ret
      exact ⟨rfl, rfl⟩
end Go.Proofs.YtibjogbalmbeeaaGreatDoor

namespace Go.Proofs.YtibjogbalmbeeaaGreatDoor
open Go.RowKit

/-- The text of the piece at a. -/
def cutT (s : ByteArray) (a : Nat) : ByteArray := if s.size ≤ a then ⟨#[]⟩ else s.extract a (cutK s a).2
theorem mrk_cases {c : UInt8} (h : pMrk c = true) : c = 43 ∨ c = 45 ∨ c = 42 ∨ c = 47 ∨ c = 40 ∨ c = 41 ∨ c = 44 ∨ c = 61 := by
  unfold pMrk at h
  simpa only [Bool.or_eq_true, beq_iff_eq, or_assoc] using h
theorem mrk_none {c : UInt8} (h : pMrk c = false) : (c == 43) = false ∧ (c == 45) = false ∧ (c == 42) = false ∧ (c == 47) = false ∧ (c == 40) = false ∧ (c == 41) = false ∧ (c == 44) = false ∧ (c == 61) = false := by
  unfold pMrk at h
  simpa only [Bool.or_eq_false_iff, and_assoc] using h

set_option maxRecDepth 100000 in
set_option maxHeartbeats 4000000 in
theorem ccut_walk (s : ByteArray) (i : Nat) (hi : i ≤ s.size) (hs : s.size ≤ 100000) (w : World) :
    Calls Tryz.prog 50 #[.string s, .int .i64 (i : Int)] w fun e w' => e = .returned (.tuple #[.agg #[.int .i64 (((cutK s (ovr pBln s i)).1 : Nat) : Int), .string (cutT s (ovr pBln s i)), .int .i64 ((ovr pBln s i : Nat) : Int)], .int .i64 (((cutK s (ovr pBln s i)).2 : Nat) : Int)]) ∧ Below w.heap.size w w' := by
  have HO := Lib.hid (fun W => over_walk pBln _ set_blank ent_blank s i hi hs W)
  have hle := (ovr_le pBln s hi).2
  obtain ⟨a, ha⟩ : ∃ a, ovr pBln s i = a := ⟨_, rfl⟩
  rw [ha] at HO hle ⊢
  have hw0 := below_alloc' w (.cells #[.int .i64 0, .string ⟨#[]⟩, .int .i64 0] 66)
  have HW0 := Lib.hid hw0
  clear ha hi hw0
  by_cases hend : a = s.size
  · have e1 : cutK s a = (0, a) := by unfold cutK; rw [if_pos (by omega)]
    have e2 : cutT s a = ⟨#[]⟩ := by unfold cutT; rw [if_pos (by omega)]
    rw [e1, e2]
    have g1 : ((a : Int) == (s.size : Int)) = true := by rw [beq_iff_eq]; omega
    clear e1 e2 hle hend hs
    go_enter Tryz.func50, Tryz.ntmps50
    go_wp2_with fail
    refine (HO.out _).mono ?_
    rintro e w' ⟨rfl, hw⟩
    (have h := hw.symm); subst h
    clear hw
    go_wp2_with fail
    refine bodyPost_ret (v := .tuple #[.agg #[.int .i64 0, .string ⟨#[]⟩, .int .i64 (a : Int)], .int .i64 (a : Int)]) (by simp [results, Tryz.results50, go_sem]) rfl ⟨rfl, below_alloc' w _⟩
  · have hlt : a < s.size := by omega
    have e2 : cutT s a = s.extract a (cutK s a).2 := by unfold cutT; rw [if_neg (by omega)]
    rw [e2]
    clear e2
    have hjle := cutK_le (s := s) (i := a) hle
    have g1 : ((a : Int) == (s.size : Int)) = false := by rw [beq_eq_false_iff_ne]; omega
    have g2 : (a : Int) < (s.size : Int) := by omega
    have kw : IntKind.i64.wrap ((a : Int) + 1) = ((a + 1 : Nat) : Int) := by rw [IntKind.wrap_i64]; omega
    have hix := fun w1 => run_byte s a hlt (by omega) w1
    have HL := Lib.hid (fun W => letter_walk (by8 s a) W)
    have HD := Lib.hid (fun W => cdigit_walk (by8 s a) W)
    have b46 : ((((by8 s a).toNat : Nat) : Int) == 46) = (by8 s a == 46) := u8_beq (by8 s a) 46
    have hK : cutK s a = if pLet (by8 s a) then (1, ovr pWrd s a) else if pDig (by8 s a) || by8 s a == 46 then (2, numE s a) else if pMrk (by8 s a) then (3, a + 1) else (4, a + 1) := by unfold cutK; rw [if_neg (by omega)]
    obtain ⟨a1, ha1⟩ : ∃ a1, a + 1 = a1 := ⟨_, rfl⟩
    rw [ha1] at kw hK
    cases hlet : pLet (by8 s a)
    · rw [hlet, if_neg (by decide)] at hK
      rw [hlet] at HL
      cases hdig : pDig (by8 s a) || by8 s a == 46
      · rw [hdig, if_neg (by decide)] at hK
        obtain ⟨hd1, hd2⟩ := Bool.or_eq_false_iff.1 hdig
        rw [hd1] at HD
        rw [hd2] at b46
        cases hmk : pMrk (by8 s a)
        · rw [hmk, if_neg (by decide)] at hK
          rw [hK] at hjle ⊢
          obtain ⟨m1, m2, m3, m4, m5, m6, m7, m8⟩ := mrk_none hmk
          have c1 := u8_beq (by8 s a) 43
          have c2 := u8_beq (by8 s a) 45
          have c3 := u8_beq (by8 s a) 42
          have c4 := u8_beq (by8 s a) 47
          have c5 := u8_beq (by8 s a) 40
          have c6 := u8_beq (by8 s a) 41
          have c7 := u8_beq (by8 s a) 44
          have c8 := u8_beq (by8 s a) 61
          rw [m1, show (((43 : UInt8).toNat : Nat) : Int) = 43 from rfl] at c1
          rw [m2, show (((45 : UInt8).toNat : Nat) : Int) = 45 from rfl] at c2
          rw [m3, show (((42 : UInt8).toNat : Nat) : Int) = 42 from rfl] at c3
          rw [m4, show (((47 : UInt8).toNat : Nat) : Int) = 47 from rfl] at c4
          rw [m5, show (((40 : UInt8).toNat : Nat) : Int) = 40 from rfl] at c5
          rw [m6, show (((41 : UInt8).toNat : Nat) : Int) = 41 from rfl] at c6
          rw [m7, show (((44 : UInt8).toNat : Nat) : Int) = 44 from rfl] at c7
          rw [m8, show (((61 : UInt8).toNat : Nat) : Int) = 61 from rfl] at c8
          obtain ⟨j, hj⟩ : ∃ j, a1 = j := ⟨_, rfl⟩
          subst hj
          have q1 : (a : Int) ≤ (a1 : Int) := by omega
          have q2 : (a1 : Int) ≤ (s.size : Int) := by omega
          generalize (by8 s a).toNat = n at *
          clear hK hjle hlet hdig hmk hd1 hd2 m1 m2 m3 m4 m5 m6 m7 m8 hlt hend hle hs ha1
          go_enter Tryz.func50, Tryz.ntmps50
          go_wp2_with fail
          refine (HO.out _).mono ?_
          rintro e w' ⟨rfl, hw⟩
          (have h := hw.symm); subst h
          clear hw
          go_wp2_with fail
          refine (HL.out _).mono ?_
          rintro e w' ⟨rfl, hw⟩
          (have h := hw.symm); subst h
          clear hw
          go_wp2_with fail
          refine (HD.out _).mono ?_
          rintro e w' ⟨rfl, hw⟩
          (have h := hw.symm); subst h
          clear hw
          go_wp2_with fail
          refine bodyPost_ret (v := .tuple #[.agg #[.int .i64 4, .string (s.extract a a1), .int .i64 (a : Int)], .int .i64 (a1 : Int)]) (by simp [results, Tryz.results50, go_sem]) rfl ⟨rfl, below_alloc' w _⟩
        · rw [hmk, if_pos rfl] at hK
          rw [hK] at hjle ⊢
          have q1 : (a : Int) ≤ (a1 : Int) := by omega
          have q2 : (a1 : Int) ≤ (s.size : Int) := by omega
          rcases mrk_cases hmk with h | h | h | h | h | h | h | h
          all_goals
            rw [h] at hix HL HD b46
            simp only [show (((43 : UInt8).toNat : Nat) : Int) = 43 from rfl, show (((45 : UInt8).toNat : Nat) : Int) = 45 from rfl, show (((42 : UInt8).toNat : Nat) : Int) = 42 from rfl, show (((47 : UInt8).toNat : Nat) : Int) = 47 from rfl, show (((40 : UInt8).toNat : Nat) : Int) = 40 from rfl, show (((41 : UInt8).toNat : Nat) : Int) = 41 from rfl, show (((44 : UInt8).toNat : Nat) : Int) = 44 from rfl, show (((61 : UInt8).toNat : Nat) : Int) = 61 from rfl] at hix HL HD
            clear hK hjle hlet hdig hmk hd1 hd2 h hlt hend hle hs ha1 b46
            go_enter Tryz.func50, Tryz.ntmps50
            go_wp2_with fail
            refine (HO.out _).mono ?_
            rintro e w' ⟨rfl, hw⟩
            (have h := hw.symm); subst h
            clear hw
            go_wp2_with fail
            refine (HL.out _).mono ?_
            rintro e w' ⟨rfl, hw⟩
            (have h := hw.symm); subst h
            clear hw
            go_wp2_with fail
            refine (HD.out _).mono ?_
            rintro e w' ⟨rfl, hw⟩
            (have h := hw.symm); subst h
            clear hw
            go_wp2_with fail
            refine bodyPost_ret (v := .tuple #[.agg #[.int .i64 3, .string (s.extract a a1), .int .i64 (a : Int)], .int .i64 (a1 : Int)]) (by simp [results, Tryz.results50, go_sem]) rfl ⟨rfl, below_alloc' w _⟩
      · rw [hdig, if_pos rfl] at hK
        rw [hK] at hjle ⊢
        have HX := Lib.hid (fun W => numberEnd_walk s a hle hs W hlt)
        obtain ⟨j, hj⟩ : ∃ j, numE s a = j := ⟨_, rfl⟩
        rw [hj] at HX hjle ⊢
        have q1 : (a : Int) ≤ (j : Int) := by have := hjle.1; omega
        have q2 : (j : Int) ≤ (s.size : Int) := by have := hjle.2; omega
        have hd : pDig (by8 s a) = true ∨ (pDig (by8 s a) = false ∧ (by8 s a == 46) = true) := by
          cases h : pDig (by8 s a)
          · rw [h, Bool.false_or] at hdig; exact .inr ⟨rfl, hdig⟩
          · exact .inl rfl
        rcases hd with h | ⟨h, h46⟩
        · rw [h] at HD
          generalize (by8 s a).toNat = n at *
          clear hK hjle hlet hdig h hlt hend hle hs ha1 b46 hj
          go_enter Tryz.func50, Tryz.ntmps50
          go_wp2_with fail
          refine (HO.out _).mono ?_
          rintro e w' ⟨rfl, hw⟩
          (have h := hw.symm); subst h
          clear hw
          go_wp2_with fail
          refine (HL.out _).mono ?_
          rintro e w' ⟨rfl, hw⟩
          (have h := hw.symm); subst h
          clear hw
          go_wp2_with fail
          refine (HD.out _).mono ?_
          rintro e w' ⟨rfl, hw⟩
          (have h := hw.symm); subst h
          clear hw
          go_wp2_with fail
          refine (HX.out _).mono ?_
          rintro e w' ⟨rfl, hw⟩
          (have h := hw.symm); subst h
          clear hw
          go_wp2_with fail
          refine bodyPost_ret (v := .tuple #[.agg #[.int .i64 2, .string (s.extract a j), .int .i64 (a : Int)], .int .i64 (j : Int)]) (by simp [results, Tryz.results50, go_sem]) rfl ⟨rfl, below_alloc' w _⟩
        · rw [h] at HD
          rw [h46] at b46
          generalize (by8 s a).toNat = n at *
          clear hK hjle hlet hdig h h46 hlt hend hle hs ha1 hj
          go_enter Tryz.func50, Tryz.ntmps50
          go_wp2_with fail
          refine (HO.out _).mono ?_
          rintro e w' ⟨rfl, hw⟩
          (have h := hw.symm); subst h
          clear hw
          go_wp2_with fail
          refine (HL.out _).mono ?_
          rintro e w' ⟨rfl, hw⟩
          (have h := hw.symm); subst h
          clear hw
          go_wp2_with fail
          refine (HD.out _).mono ?_
          rintro e w' ⟨rfl, hw⟩
          (have h := hw.symm); subst h
          clear hw
          go_wp2_with fail
          refine (HX.out _).mono ?_
          rintro e w' ⟨rfl, hw⟩
          (have h := hw.symm); subst h
          clear hw
          go_wp2_with fail
          refine bodyPost_ret (v := .tuple #[.agg #[.int .i64 2, .string (s.extract a j), .int .i64 (a : Int)], .int .i64 (j : Int)]) (by simp [results, Tryz.results50, go_sem]) rfl ⟨rfl, below_alloc' w _⟩
    · rw [hlet, if_pos rfl] at hK
      rw [hlet] at HL
      rw [hK] at hjle ⊢
      have HX := Lib.hid (fun W => over_walk pWrd _ set_word ent_word s a hle hs W)
      obtain ⟨j, hj⟩ : ∃ j, ovr pWrd s a = j := ⟨_, rfl⟩
      rw [hj] at HX hjle ⊢
      have q1 : (a : Int) ≤ (j : Int) := by have := hjle.1; omega
      have q2 : (j : Int) ≤ (s.size : Int) := by have := hjle.2; omega
      generalize (by8 s a).toNat = n at *
      clear hK hjle hlet hlt hend hle hs ha1 b46 hj HD
      go_enter Tryz.func50, Tryz.ntmps50
      go_wp2_with fail
      refine (HO.out _).mono ?_
      rintro e w' ⟨rfl, hw⟩
      (have h := hw.symm); subst h
      clear hw
      go_wp2_with fail
      refine (HL.out _).mono ?_
      rintro e w' ⟨rfl, hw⟩
      (have h := hw.symm); subst h
      clear hw
      go_wp2_with fail
      refine (HX.out _).mono ?_
      rintro e w' ⟨rfl, hw⟩
      (have h := hw.symm); subst h
      clear hw
      go_wp2_with fail
      refine bodyPost_ret (v := .tuple #[.agg #[.int .i64 1, .string (s.extract a j), .int .i64 (a : Int)], .int .i64 (j : Int)]) (by simp [results, Tryz.results50, go_sem]) rfl ⟨rfl, below_alloc' w _⟩
end Go.Proofs.YtibjogbalmbeeaaGreatDoor
