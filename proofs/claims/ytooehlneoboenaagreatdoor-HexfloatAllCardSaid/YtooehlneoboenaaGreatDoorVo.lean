/- Walks of gnomonref04: Add, Sub, Cmp (printed by gen_zadd2.py). · Walks of gnomonref04: Sub, Cmp. · Walk of gnomonref04: Cmp. -/
import Derived.Test.YtooehlneoboenaaGreatDoorVl
namespace Go.Proofs.YtooehlneoboenaaGreatDoor
open Go.RowKit

/-- The sum of a number from nought on and one of any sign. -/
def zsN (nb : Bool) (a b : Nat) : Bool := nb && decide (a < b)
def zsA (nb : Bool) (a b : Nat) : Nat := if nb then (if a < b then b - a else a - b) else a + b

set_option maxRecDepth 100000 in
set_option maxHeartbeats 4000000 in
theorem rzadd_walk (v u : Value) (a b : Nat) (nb : Bool) (w : World) (h : ZAt w v false a) (g : ZAt w u nb b) (hnb : nb = true → b ≠ 0) (hs : (toD a).length ≤ 40000) (hs2 : (toD b).length ≤ 40000) :
    Calls Tryz.prog 48 #[v, u] w fun e w' => ∃ v', e = .returned v' ∧ ZAt w' v' (zsN nb a b) (zsA nb a b) ∧ Below w.heap.size w w' := by
  obtain ⟨s, rfl, hd⟩ := h
  obtain ⟨s', rfl, hd'⟩ := g
  have HAdd := Lib.hid (show ∀ W, Hid (Below w.heap.size w W) → Calls Tryz.prog 71 #[s, s'] W fun e w' => ∃ v', e = .returned v' ∧ DgAt w' v' (a + b) ∧ Below W.heap.size W w' from
    fun W hW => radd_walk s s' a b W (hd.below hW.out) (hd'.below hW.out) (by omega) (by omega))
  have HSubA := Lib.hid (show ∀ W, Hid (Below w.heap.size w W) → Calls Tryz.prog 73 #[s, s'] W fun e w' => ∃ v', e = .returned v' ∧ DgAt w' v' (a - b) ∧ Below W.heap.size W w' from
    fun W hW => rsub_walk s s' a b W (hd.below hW.out) (hd'.below hW.out) (by omega))
  have HSubB := Lib.hid (show ∀ W, Hid (Below w.heap.size w W) → Calls Tryz.prog 73 #[s', s] W fun e w' => ∃ v', e = .returned v' ∧ DgAt w' v' (b - a) ∧ Below W.heap.size W w' from
    fun W hW => rsub_walk s' s b a W (hd'.below hW.out) (hd.below hW.out) (by omega))
  have HCmp := Lib.hid (show ∀ W, Below w.heap.size w W → Calls Tryz.prog 72 #[s, s'] W fun e w' => e = .returned (.int .i64 (cmpI a b)) ∧ Below W.heap.size W w' from
    fun W hW => rcmp_walk s s' a b W (hd.below hW) (hd'.below hW) (by omega))
  have hl1 := len_add hs hs2
  have hl2 := len_sub (b := b) hs
  have hl3 := len_sub (b := a) hs2
  have HMk1 := Lib.hid (fun W x hx => rmk_open false (a + b) (fun h => by cases h) (by omega) W x hx)
  have HMk2 := Lib.hid (fun W x hx => rmk_open false (a - b) (fun h => by cases h) (by omega) W x hx)
  have HMk3 : a < b → Hid (∀ W x, Hid (DgAt W x (b - a)) → Calls Tryz.prog 51 #[.bool true, x] W fun e w' => ∃ x', e = .returned (.agg #[.bool true, x']) ∧ DgAt w' x' (b - a) ∧ Below W.heap.size W w') := fun hlt =>
    Lib.hid (fun W x hx => rmk_open true (b - a) (fun _ => by omega) (by omega) W x hx)
  obtain ⟨A, c, rfl, hc, hz, hr⟩ := hd
  obtain ⟨A', c', rfl, hc', hz', hr'⟩ := hd'
  have hw1 := below_alloc' w (.cells #[.bool false, .slice A (toD a).length c] 94)
  have hw2 := below_chain hw1 (below_alloc' (w.alloc (.cells #[.bool false, .slice A (toD a).length c] 94)) (.cells #[.bool nb, .slice A' (toD b).length c'] 94))
  have hw3 := below_chain hw2 (below_alloc' ((w.alloc (.cells #[.bool false, .slice A (toD a).length c] 94)).alloc (.cells #[.bool nb, .slice A' (toD b).length c'] 94)) (.cells #[.bool false, .slice none 0 0] 94))
  have hB2 := ((box2_new w (.bool false) (.slice A (toD a).length c) 94).below (below_alloc' _ (.cells #[.bool nb, .slice A' (toD b).length c'] 94))).below (below_alloc' _ (.cells #[.bool false, .slice none 0 0] 94))
  have hB3 := (box2_new (w.alloc (.cells #[.bool false, .slice A (toD a).length c] 94)) (.bool nb) (.slice A' (toD b).length c') 94).below (below_alloc' _ (.cells #[.bool false, .slice none 0 0] 94))
  have hB4 := box2_new ((w.alloc (.cells #[.bool false, .slice A (toD a).length c] 94)).alloc (.cells #[.bool nb, .slice A' (toD b).length c'] 94)) (.bool false) (.slice none 0 0) 94
  have hz1 : (w.alloc (.cells #[.bool false, .slice A (toD a).length c] 94)).heap.size = w.heap.size + 1 := by simp
  have hz2 : ((w.alloc (.cells #[.bool false, .slice A (toD a).length c] 94)).alloc (.cells #[.bool nb, .slice A' (toD b).length c'] 94)).heap.size = w.heap.size + 1 + 1 := by simp
  rw [hz1] at hB3
  rw [hz2] at hB4
  have HW3 := Lib.hid hw3
  clear hr hz hc hr' hz' hc' hs hs2 hl1 hl2 hl3 hw1 hw2 hw3 hz1 hz2
  generalize hla : toD a = l at *
  generalize hlb : toD b = m at *
  have HLA := Lib.hid hla
  clear hla hlb
  cases nb
  · have HWd := Lib.hid HW3.out.drew
    have HB2 := Lib.hid (hB2.below (below_dn (Below.refl _ _) 1))
    have HB3 := Lib.hid (hB3.below (below_dn (Below.refl _ _) 1))
    have HB4 := Lib.hid (hB4.below (below_dn (Below.refl _ _) 1))
    rw [show zsN false a b = false from rfl, show zsA false a b = a + b from rfl]
    clear hB2 hB3 hB4
    go_enter Tryz.func48, Tryz.ntmps48
    go_wp2_with fail
    go_region_with (first
      | (go_at_call 71; refine (HAdd.out _ (by first | exact HWd | assumption)).mono ?_; rintro e w5 ⟨v5, rfl, hd5, hb5⟩; have HD5 := Lib.hid hd5; have HW5 := Lib.hid (below_chain HWd.out hb5); have HB5 := Lib.hid (HB4.out.below hb5); obtain ⟨y0, y1, y2, y3, y4⟩ := (HB2.out.below hb5); obtain ⟨z0, z1, z2, z3, z4⟩ := (HB3.out.below hb5); clear hd5 hb5)
      | (go_at_call 51; refine (HMk1.out _ _ (by assumption)).mono ?_; rintro e w6 ⟨s6, rfl, hd6, hb6⟩; have HD6 := Lib.hid hd6; have HW6 := Lib.hid (below_chain HW5.out hb6); have HB6 := Lib.hid (HB5.out.below hb6); obtain ⟨g0, g1, f0, f1, f2⟩ := HB6.out; obtain ⟨A6, c6, rfl, hx1, hx2, hx3⟩ := hd6; clear hb6 hx1 hx2 hx3))
    all_goals
      go_wp2
      obtain ⟨r0, r1⟩ := two_set HB6.out (.bool false) (.slice A6 (toD (a + b)).length c6)
      refine bodyPost_ret (v := .agg #[.bool false, .slice A6 (toD (a + b)).length c6]) (by simp [results, Tryz.results48, go_sem, r0, r1]) rfl ⟨_, rfl, ⟨_, rfl, HD6.out.two HB6.out _ _⟩, ?_⟩
      exact below_two HW6.out (by omega) _ _
  · by_cases hlt : a < b
    case neg =>
      have hci : (0 : Int) ≤ cmpI a b := by unfold cmpI; rw [if_neg hlt]; split <;> omega
      rw [show zsN true a b = false by unfold zsN; simp [hlt], show zsA true a b = a - b by unfold zsA; rw [if_pos rfl, if_neg hlt]]
      obtain ⟨ci, hcc⟩ : ∃ ci, cmpI a b = ci := ⟨_, rfl⟩
      rw [hcc] at hci HCmp
      clear hcc hlt hnb
      go_enter Tryz.func48, Tryz.ntmps48
      go_wp2_with fail
      refine (HCmp.out _ HW3.out).mono ?_
      rintro e w4 ⟨rfl, hb4⟩
      have HWd := Lib.hid (below_chain HW3.out hb4).drew
      have HB2 := Lib.hid ((hB2.below hb4).below (below_dn (Below.refl _ _) 1))
      have HB3 := Lib.hid ((hB3.below hb4).below (below_dn (Below.refl _ _) 1))
      have HB4 := Lib.hid ((hB4.below hb4).below (below_dn (Below.refl _ _) 1))
      obtain ⟨p0, p1, p2, p3, p4⟩ := hB2.below hb4
      obtain ⟨q0, q1, q2, q3, q4⟩ := hB3.below hb4
      obtain ⟨t0, t1, t2, t3, t4⟩ := hB4.below hb4
      clear hB2 hB3 hB4 hb4
      go_wp2_with fail
      go_region_with (first
        | (go_at_call 73; refine (HSubA.out _ (by first | exact HWd | assumption)).mono ?_; rintro e w5 ⟨v5, rfl, hd5, hb5⟩; have HD5 := Lib.hid hd5; have HW5 := Lib.hid (below_chain HWd.out hb5); have HB5 := Lib.hid (HB4.out.below hb5); obtain ⟨y0, y1, y2, y3, y4⟩ := (HB2.out.below hb5); obtain ⟨z0, z1, z2, z3, z4⟩ := (HB3.out.below hb5); clear hd5 hb5)
        | (go_at_call 51; refine (HMk2.out _ _ (by assumption)).mono ?_; rintro e w6 ⟨s6, rfl, hd6, hb6⟩; have HD6 := Lib.hid hd6; have HW6 := Lib.hid (below_chain HW5.out hb6); have HB6 := Lib.hid (HB5.out.below hb6); obtain ⟨g0, g1, f0, f1, f2⟩ := HB6.out; obtain ⟨A6, c6, rfl, hx1, hx2, hx3⟩ := hd6; clear hb6 hx1 hx2 hx3))
      all_goals
        go_wp2
        obtain ⟨r0, r1⟩ := two_set HB6.out (.bool false) (.slice A6 (toD (a - b)).length c6)
        refine bodyPost_ret (v := .agg #[.bool false, .slice A6 (toD (a - b)).length c6]) (by simp [results, Tryz.results48, go_sem, r0, r1]) rfl ⟨_, rfl, ⟨_, rfl, HD6.out.two HB6.out _ _⟩, ?_⟩
        exact below_two HW6.out (by omega) _ _
    case pos =>
      have HMk := HMk3 hlt
      have hci : ¬ (0 : Int) ≤ cmpI a b := by unfold cmpI; rw [if_pos hlt]; omega
      rw [show zsN true a b = true by unfold zsN; simp [hlt], show zsA true a b = b - a by unfold zsA; rw [if_pos rfl, if_pos hlt]]
      obtain ⟨ci, hcc⟩ : ∃ ci, cmpI a b = ci := ⟨_, rfl⟩
      rw [hcc] at hci HCmp
      clear hcc hlt hnb
      go_enter Tryz.func48, Tryz.ntmps48
      go_wp2_with fail
      refine (HCmp.out _ HW3.out).mono ?_
      rintro e w4 ⟨rfl, hb4⟩
      have HWd := Lib.hid (below_chain HW3.out hb4).drew
      have HB2 := Lib.hid ((hB2.below hb4).below (below_dn (Below.refl _ _) 1))
      have HB3 := Lib.hid ((hB3.below hb4).below (below_dn (Below.refl _ _) 1))
      have HB4 := Lib.hid ((hB4.below hb4).below (below_dn (Below.refl _ _) 1))
      obtain ⟨p0, p1, p2, p3, p4⟩ := hB2.below hb4
      obtain ⟨q0, q1, q2, q3, q4⟩ := hB3.below hb4
      obtain ⟨t0, t1, t2, t3, t4⟩ := hB4.below hb4
      clear hB2 hB3 hB4 hb4
      go_wp2_with fail
      go_region_with (first
        | (go_at_call 73; refine (HSubB.out _ (by first | exact HWd | assumption)).mono ?_; rintro e w5 ⟨v5, rfl, hd5, hb5⟩; have HD5 := Lib.hid hd5; have HW5 := Lib.hid (below_chain HWd.out hb5); have HB5 := Lib.hid (HB4.out.below hb5); obtain ⟨y0, y1, y2, y3, y4⟩ := (HB2.out.below hb5); obtain ⟨z0, z1, z2, z3, z4⟩ := (HB3.out.below hb5); clear hd5 hb5)
        | (go_at_call 51; refine (HMk.out _ _ (by assumption)).mono ?_; rintro e w6 ⟨s6, rfl, hd6, hb6⟩; have HD6 := Lib.hid hd6; have HW6 := Lib.hid (below_chain HW5.out hb6); have HB6 := Lib.hid (HB5.out.below hb6); obtain ⟨g0, g1, f0, f1, f2⟩ := HB6.out; obtain ⟨A6, c6, rfl, hx1, hx2, hx3⟩ := hd6; clear hb6 hx1 hx2 hx3))
      all_goals
        go_wp2
        obtain ⟨r0, r1⟩ := two_set HB6.out (.bool true) (.slice A6 (toD (b - a)).length c6)
        refine bodyPost_ret (v := .agg #[.bool true, .slice A6 (toD (b - a)).length c6]) (by simp [results, Tryz.results48, go_sem, r0, r1]) rfl ⟨_, rfl, ⟨_, rfl, HD6.out.two HB6.out _ _⟩, ?_⟩
        exact below_two HW6.out (by omega) _ _
end Go.Proofs.YtooehlneoboenaaGreatDoor

namespace Go.Proofs.YtooehlneoboenaaGreatDoor
open Go.RowKit

set_option maxRecDepth 100000 in
set_option maxHeartbeats 4000000 in
theorem rzsub_walk (v u : Value) (a b : Nat) (w : World) (h : ZAt w v false a) (g : ZAt w u false b) (hs : (toD a).length ≤ 40000) (hs2 : (toD b).length ≤ 40000) :
    Calls Tryz.prog 94 #[v, u] w fun e w' => ∃ v', e = .returned v' ∧ ZAt w' v' (zsN (decide (b ≠ 0)) a b) (zsA (decide (b ≠ 0)) a b) ∧ Below w.heap.size w w' := by
  obtain ⟨s, rfl, hd⟩ := h
  obtain ⟨s', rfl, hd'⟩ := g
  have hzl : (toD (zsA (decide (b ≠ 0)) a b)).length ≤ 50000 := by
    have h1 := len_add hs hs2
    have h2 := len_sub (b := b) hs
    have h3 := len_sub (b := a) hs2
    unfold zsA
    split
    · split <;> omega
    · omega
  obtain ⟨nb, hnb⟩ : ∃ nb, decide (b ≠ 0) = nb := ⟨_, rfl⟩
  have hnb2 : nb = true → b ≠ 0 := fun e => by rw [← hnb] at e; simpa using e
  have HFl := Lib.hid (show ∀ W, Hid (Below w.heap.size w W) → Calls Tryz.prog 104 #[.agg #[.bool false, s']] W fun e w' => ∃ x', e = .returned (.agg #[.bool nb, x']) ∧ DgAt w' x' b ∧ Below W.heap.size W w' from fun W hW => by
    refine (rflip_walk (.agg #[.bool false, s']) b W ⟨_, rfl, hd'.below hW.out⟩ (by omega)).mono ?_
    rintro e w' ⟨v', rfl, ⟨x, rfl, hx⟩, hb'⟩
    exact ⟨x, by rw [hnb], hx, hb'⟩)
  have HAd := Lib.hid (show ∀ W x, Hid (Below w.heap.size w W) → Hid (DgAt W x b) → Calls Tryz.prog 48 #[.agg #[.bool false, s], .agg #[.bool nb, x]] W fun e w' => ∃ x', e = .returned (.agg #[.bool (zsN nb a b), x']) ∧ DgAt w' x' (zsA nb a b) ∧ Below W.heap.size W w' from fun W x hW hx => by
    refine (rzadd_walk _ _ a b nb W ⟨_, rfl, hd.below hW.out⟩ ⟨_, rfl, hx.out⟩ hnb2 hs hs2).mono ?_
    rintro e w' ⟨v', rfl, ⟨y, rfl, hy⟩, hb'⟩
    exact ⟨y, rfl, hy, hb'⟩)
  rw [hnb] at hzl ⊢
  obtain ⟨N, hN⟩ : ∃ N, zsN nb a b = N := ⟨_, rfl⟩
  obtain ⟨P, hP⟩ : ∃ P, zsA nb a b = P := ⟨_, rfl⟩
  rw [hN, hP] at HAd ⊢
  obtain ⟨A, c, rfl, hc, hz, hr⟩ := hd
  obtain ⟨A', c', rfl, hc', hz', hr'⟩ := hd'
  have hw1 := below_alloc' w (.cells #[.bool false, .slice A (toD a).length c] 94)
  have hw2 := below_chain hw1 (below_alloc' (w.alloc (.cells #[.bool false, .slice A (toD a).length c] 94)) (.cells #[.bool false, .slice A' (toD b).length c'] 94))
  have hw3 := below_chain hw2 (below_alloc' ((w.alloc (.cells #[.bool false, .slice A (toD a).length c] 94)).alloc (.cells #[.bool false, .slice A' (toD b).length c'] 94)) (.cells #[.bool false, .slice none 0 0] 94))
  have hB2 := ((box2_new w (.bool false) (.slice A (toD a).length c) 94).below (below_alloc' _ (.cells #[.bool false, .slice A' (toD b).length c'] 94))).below (below_alloc' _ (.cells #[.bool false, .slice none 0 0] 94))
  have hB3 := (box2_new (w.alloc (.cells #[.bool false, .slice A (toD a).length c] 94)) (.bool false) (.slice A' (toD b).length c') 94).below (below_alloc' _ (.cells #[.bool false, .slice none 0 0] 94))
  have hB4 := box2_new ((w.alloc (.cells #[.bool false, .slice A (toD a).length c] 94)).alloc (.cells #[.bool false, .slice A' (toD b).length c'] 94)) (.bool false) (.slice none 0 0) 94
  have hz1 : (w.alloc (.cells #[.bool false, .slice A (toD a).length c] 94)).heap.size = w.heap.size + 1 := by simp
  have hz2 : ((w.alloc (.cells #[.bool false, .slice A (toD a).length c] 94)).alloc (.cells #[.bool false, .slice A' (toD b).length c'] 94)).heap.size = w.heap.size + 1 + 1 := by simp
  rw [hz1] at hB3
  rw [hz2] at hB4
  have HWd := Lib.hid hw3.drew
  have HB2 := Lib.hid (hB2.below (below_dn (Below.refl _ _) 1))
  have HB3 := Lib.hid (hB3.below (below_dn (Below.refl _ _) 1))
  have HB4 := Lib.hid (hB4.below (below_dn (Below.refl _ _) 1))
  clear hr hz hc hr' hz' hc' hs hs2 hw1 hw2 hw3 hz1 hz2 hB2 hB3 hB4 hzl hN hP hnb hnb2
  generalize hla : toD a = l at *
  generalize hlb : toD b = m at *
  have HLA := Lib.hid hla
  clear hla hlb
  go_enter Tryz.func94, Tryz.ntmps94
  go_wp2_with fail
  go_region_with (first
    | (go_at_call 104; refine (HFl.out _ (by first | exact HWd | assumption)).mono ?_; rintro e w5 ⟨v5, rfl, hd5, hb5⟩; have HD5 := Lib.hid hd5; have HW5 := Lib.hid (below_chain HWd.out hb5); have HB5 := Lib.hid (HB4.out.below hb5); obtain ⟨y0, y1, y2, y3, y4⟩ := (HB2.out.below hb5); clear hd5 hb5)
    | (go_at_call 48; refine (HAd.out _ _ HW5 HD5).mono ?_; rintro e w6 ⟨s6, rfl, hd6, hb6⟩; have HD6 := Lib.hid hd6; have HW6 := Lib.hid (below_chain HW5.out hb6); have HB6 := Lib.hid (HB5.out.below hb6); obtain ⟨g0, g1, f0, f1, f2⟩ := HB6.out; obtain ⟨A6, c6, rfl, hx1, hx2, hx3⟩ := hd6; clear hb6 hx1 hx2 hx3))
  all_goals
    go_wp2
    obtain ⟨r0, r1⟩ := two_set HB6.out (.bool N) (.slice A6 (toD P).length c6)
    refine bodyPost_ret (v := .agg #[.bool N, .slice A6 (toD P).length c6]) (by simp [results, Tryz.results94, go_sem, r0, r1]) rfl ⟨_, rfl, ⟨_, rfl, HD6.out.two HB6.out _ _⟩, ?_⟩
    exact below_two HW6.out (by omega) _ _

end Go.Proofs.YtooehlneoboenaaGreatDoor

namespace Go.Proofs.YtooehlneoboenaaGreatDoor
open Go.RowKit

theorem zs_sign (a b : Nat) : sgI04 (zsN (decide (b ≠ 0)) a b) (zsA (decide (b ≠ 0)) a b) = cmpI a b := by
  unfold sgI04 zsN zsA cmpI
  by_cases hb : b = 0
  · subst hb
    simp
  · have : decide (b ≠ 0) = true := by simp [hb]
    rw [this]
    by_cases h1 : a < b
    · simp [h1]; omega
    · simp [h1]
      by_cases h2 : a = b
      · simp [h2]
      · rw [if_neg (by omega), if_neg h2]

set_option maxRecDepth 100000 in
set_option maxHeartbeats 1000000 in
theorem rzcmp_walk (v u : Value) (a b : Nat) (w : World) (h : ZAt w v false a) (g : ZAt w u false b) (hs : (toD a).length ≤ 40000) (hs2 : (toD b).length ≤ 40000) :
    Calls Tryz.prog 76 #[v, u] w fun e w' => e = .returned (.int .i64 (cmpI a b)) ∧ Below w.heap.size w w' := by
  have hsub := fun W (hW : Below w.heap.size w W) => rzsub_walk v u a b W (h.below hW) (g.below hW) hs hs2
  have hsg : ∀ W x, ZAt W x (zsN (decide (b ≠ 0)) a b) (zsA (decide (b ≠ 0)) a b) → Calls Tryz.prog 74 #[x] W fun e w' => e = .returned (.int .i64 (cmpI a b)) ∧ Below W.heap.size W w' := fun W x hx => by
    have := rsign_walk x _ _ W hx
    rw [zs_sign] at this
    exact this
  obtain ⟨N, hN⟩ : ∃ N, zsN (decide (b ≠ 0)) a b = N := ⟨_, rfl⟩
  obtain ⟨P, hP⟩ : ∃ P, zsA (decide (b ≠ 0)) a b = P := ⟨_, rfl⟩
  obtain ⟨ci, hci⟩ : ∃ ci, cmpI a b = ci := ⟨_, rfl⟩
  rw [hN, hP] at hsub hsg
  rw [hci] at hsg ⊢
  have HSub := Lib.hid hsub
  have HSg := Lib.hid hsg
  obtain ⟨s, rfl, A, c, rfl, hc, hz, hr⟩ := h
  obtain ⟨s', rfl, A', c', rfl, hc', hz', hr'⟩ := g
  have hw2 := below_chain (below_alloc' w (.cells #[.bool false, .slice A (toD a).length c] 94)) (below_alloc' (w.alloc (.cells #[.bool false, .slice A (toD a).length c] 94)) (.cells #[.bool false, .slice A' (toD b).length c'] 94))
  have HW2 := Lib.hid hw2
  clear hr hz hc hr' hz' hc' hs hs2 hsub hsg hw2 hN hP hci
  generalize toD a = l at *
  generalize toD b = m at *
  go_enter Tryz.func76, Tryz.ntmps76
  go_wp2_with fail
  refine (HSub.out _ HW2.out).mono ?_
  rintro e w5 ⟨v5, rfl, hd5, hb5⟩
  have HD5 := Lib.hid hd5
  have HW5 := Lib.hid (below_chain HW2.out hb5)
  obtain ⟨s5, rfl, A5, c5, rfl, hx1, hx2, hx3⟩ := hd5
  clear hb5 hx1 hx2 hx3
  go_wp2_with fail
  refine (HSg.out _ _ HD5.out).mono ?_
  rintro e w6 ⟨rfl, hb6⟩
  go_wp2
  go_ret
  exact ⟨rfl, below_chain HW5.out hb6⟩
end Go.Proofs.YtooehlneoboenaaGreatDoor
