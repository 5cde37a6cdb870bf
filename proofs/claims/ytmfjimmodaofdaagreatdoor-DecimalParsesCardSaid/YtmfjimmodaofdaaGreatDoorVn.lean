/- Walk of gnomonref11: size. -/
import Derived.Test.YtmfjimmodaofdaaGreatDoorVk
import Derived.Test.YtmfjimmodaofdaaGreatDoorEd
namespace Go.Proofs.YtmfjimmodaofdaaGreatDoor
open Go.RowKit

/-- What size keeps: the format's box, the digits. -/
structure SiS (w W : World) (sg P L G I Q : Int) (v : Value) (d : Nat) : Prop where
  x0 : W.cell? ⟨w.heap.size, 0, none⟩ = some (.int .u64 sg)
  x1 : W.cell? ⟨w.heap.size, 1, none⟩ = some (.int .i64 P)
  x2 : W.cell? ⟨w.heap.size, 2, none⟩ = some (.int .i64 L)
  x3 : W.cell? ⟨w.heap.size, 3, none⟩ = some (.int .i64 G)
  x4 : W.cell? ⟨w.heap.size, 4, none⟩ = some (.int .u64 I)
  x5 : W.cell? ⟨w.heap.size, 5, none⟩ = some (.int .u64 Q)
  dd : DgAt W v d
  bl : Below w.heap.size w W
theorem SiS.below {w W W2 : World} {sg P L G I Q : Int} {v : Value} {d : Nat} (h : SiS w W sg P L G I Q v d) (hb : Below W.heap.size W W2) : SiS w W2 sg P L G I Q v d :=
  ⟨cell_kept hb h.x0, cell_kept hb h.x1, cell_kept hb h.x2, cell_kept hb h.x3, cell_kept hb h.x4, cell_kept hb h.x5, h.dd.below hb, below_chain h.bl hb⟩
theorem SiS.belowH {w W W2 : World} {sg P L G I Q : Int} {v : Value} {d : Nat} (h : Hid (SiS w W sg P L G I Q v d)) (hb : Below W.heap.size W W2) : SiS w W2 sg P L G I Q v d := h.out.below hb
theorem SiS.conj {w W : World} {sg P L G I Q : Int} {v : Value} {d : Nat} (h : SiS w W sg P L G I Q v d) : W.cell? ⟨w.heap.size, 0, none⟩ = some (.int .u64 sg) ∧ W.cell? ⟨w.heap.size, 1, none⟩ = some (.int .i64 P) ∧ W.cell? ⟨w.heap.size, 2, none⟩ = some (.int .i64 L) ∧ W.cell? ⟨w.heap.size, 3, none⟩ = some (.int .i64 G) ∧ W.cell? ⟨w.heap.size, 4, none⟩ = some (.int .u64 I) ∧ W.cell? ⟨w.heap.size, 5, none⟩ = some (.int .u64 Q) ∧ Hid (SiS w W sg P L G I Q v d) := ⟨h.x0, h.x1, h.x2, h.x3, h.x4, h.x5, Lib.hid h⟩
theorem digs_hi (d : Nat) : d < 10 ^ (Lib.decDigits d).length := by
  obtain ⟨d1, d2, _, _⟩ := dcV_digits d
  have := dcV_lt d2
  rwa [d1] at this
theorem digs_lo {d : Nat} (h : d ≠ 0) : 10 ^ ((Lib.decDigits d).length - 1) ≤ d := by
  obtain ⟨d1, d2, d3, _⟩ := dcV_digits d
  obtain ⟨c, t, e, hc⟩ := d3 h
  rw [e] at d1 d2 ⊢
  rw [List.all_cons, Bool.and_eq_true] at d2
  have := dcV_ge (t := t) d2.1 hc
  rw [d1] at this
  simpa using this

set_option maxRecDepth 100000 in
set_option maxHeartbeats 2000000 in
theorem rsz_gen (f : Fm) (hf : f.ok) (sg P L G I Q : Int) (hI : (f.inf : Int) = I)
    (hSz : ∀ nv dv N D W, DgAt W nv N → DgAt W dv D → N ≠ 0 → D ≠ 0 → blen N ≤ 59000 → blen D ≤ 59000 → Calls Tryz.prog 176 #[.agg #[.int .u64 sg, .int .i64 P, .int .i64 L, .int .i64 G, .int .u64 I, .int .u64 Q], .agg #[nv, dv, .int .i64 0, .bool false]] W fun r w' => ∃ p : Nat, r = .returned (.int .u64 (p : Int)) ∧ IsPat f N D p ∧ p ≤ f.inf ∧ Below W.heap.size W w')
    (v : Value) (d : Nat) (e : Int) (w : World) (h : DgAt w v d) (hb : blen d ≤ 13500) (h1 : -1100000000 ≤ e) (h2 : e ≤ 1100000000) :
    Calls Tryz.prog 148 #[.agg #[.int .u64 sg, .int .i64 P, .int .i64 L, .int .i64 G, .int .u64 I, .int .u64 Q], v, .int .i64 e] w fun r w' => ∃ p : Nat, r = .returned (.int .u64 (p : Int)) ∧ IsPat f (tn d e) (td e) p ∧ p ≤ f.inf ∧ Below w.heap.size w w' := by
  have hw0 := below_alloc' w (.cells #[.int .u64 sg, .int .i64 P, .int .i64 L, .int .i64 G, .int .u64 I, .int .u64 Q] 122)
  have HS0 := Lib.hid (show SiS w (w.alloc (.cells #[.int .u64 sg, .int .i64 P, .int .i64 L, .int .i64 G, .int .u64 I, .int .u64 Q] 122)) sg P L G I Q v d from ⟨by simp, by simp, by simp, by simp, by simp, by simp, h.below hw0, hw0⟩)
  have HTo := Lib.hid (fun W (g : DgAt W v d) => rtold_walk v d 4500 W g hb (by omega) (by omega))
  have hlen := digs_bound (n := 4500) hb (by omega)
  have hz := toD_length_zero d
  obtain ⟨A, c, rfl, _, _, _⟩ := id h
  obtain ⟨k, hk⟩ : ∃ k, (toD d).length = k := ⟨_, rfl⟩
  rw [hk] at HS0 HTo hz
  rw [hk]
  by_cases h0 : d = 0
  · have hk0 : k = 0 := hz.2 h0
    subst hk0
    have HP := Lib.hid (show IsPat f (tn d e) (td e) 0 by rw [h0]; unfold tn; rw [Nat.zero_mul]; exact pat_nought f (td_pos e))
    obtain ⟨T, hT⟩ : ∃ T, bs (Lib.decDigits d) = T := ⟨_, rfl⟩
    simp only [hT] at HTo
    clear hf hSz h hb h1 h2 hw0 hlen hz h0 hT hk hI
    go_enter Tryz.func148, Tryz.ntmps148
    go_wp2_with fail
    refine (HTo.out _ HS0.out.dd).mono ?_
    rintro r w1 ⟨rfl, hb1⟩
    have HS1 := Lib.hid (HS0.out.below hb1)
    clear hb1
    go_wp2
    go_ret
    exact ⟨0, rfl, HP.out, Nat.zero_le _, HS1.out.bl⟩
  have hk0 : ((k : Int) == 0) = false := by have : k ≠ 0 := fun e => h0 (hz.1 e); rw [beq_eq_false_iff_ne]; omega
  have hlo := dec_low hf (x := e) (digs_hi d)
  have hn1 : 1 ≤ (Lib.decDigits d).length := by have := (dcV_digits d).2.2.2; omega
  have hhi := dec_high hf (x := e) hn1 (digs_lo h0)
  have hTs : (bs (Lib.decDigits d)).size = (Lib.decDigits d).length := bs_size _
  obtain ⟨T, hT⟩ : ∃ T, bs (Lib.decDigits d) = T := ⟨_, rfl⟩
  simp only [hT] at HTo
  rw [hT] at hTs
  obtain ⟨n, hn⟩ : ∃ n, (Lib.decDigits d).length = n := ⟨_, rfl⟩
  rw [hn] at hlo hhi hTs hlen hn1
  obtain ⟨t, ht⟩ : ∃ t : Int, (n : Int) + e = t := ⟨_, rfl⟩
  rw [ht] at hlo hhi
  have p1 : IntKind.i64.wrap ((n : Int) + e) = t := by rw [IntKind.wrap_i64]; omega
  by_cases c1 : t < -400
  · have HP := Lib.hid (hlo c1)
    clear hf hSz h hb h1 h2 hw0 hlen hz h0 hT hk hI hlo hhi hn hn1 ht
    go_enter Tryz.func148, Tryz.ntmps148
    go_wp2_with fail
    refine (HTo.out _ HS0.out.dd).mono ?_
    rintro r w1 ⟨rfl, hb1⟩
    have HS1 := Lib.hid (HS0.out.below hb1)
    clear hb1
    go_wp2
    go_ret
    exact ⟨0, rfl, HP.out, Nat.zero_le _, HS1.out.bl⟩
  by_cases c2 : 400 < t
  · have HP := Lib.hid (hhi c2)
    have HI := Lib.hid hI
    clear hf hSz h hb h1 h2 hw0 hlen hz h0 hT hk hI hlo hhi hn hn1 ht
    go_enter Tryz.func148, Tryz.ntmps148
    go_wp2_with fail
    refine (HTo.out _ HS0.out.dd).mono ?_
    rintro r w1 ⟨rfl, hb1⟩
    have HS1 := Lib.hid (HS0.out.below hb1)
    have x4 := HS1.out.x4
    clear hb1
    go_wp2
    go_ret
    exact ⟨f.inf, by rw [HI.out]; rfl, HP.out, Nat.le_refl _, HS1.out.bl⟩
  · have hb2 := blen_mul d (10 ^ e.toNat)
    have hb3 := blen_pow_ten e.toNat
    have hb4 := blen_pow_ten (-e).toNat
    have htn : tn d e ≠ 0 := Nat.mul_ne_zero h0 (Nat.ne_of_gt (Nat.pow_pos (by omega)))
    have HDe := Lib.hid (fun W (g : DgAt W (.slice A k c) d) => rdecimal_walk (.slice A k c) d e W g (by omega) (by omega) (by omega))
    have HSz := Lib.hid (fun nv dv W (g : DgAt W nv (tn d e)) (g2 : DgAt W dv (td e)) => hSz nv dv (tn d e) (td e) W g g2 htn (Nat.ne_of_gt (td_pos e)) (by unfold tn; omega) (by unfold td; omega))
    clear hf hSz h hb h1 h2 hw0 hlen hz h0 hT hk hI hlo hhi hn hn1 ht hb2 hb3 hb4 htn
    go_enter Tryz.func148, Tryz.ntmps148
    go_wp2_with fail
    refine (HTo.out _ HS0.out.dd).mono ?_
    rintro r w1 ⟨rfl, hb1⟩
    have HS1 := Lib.hid (HS0.out.below hb1)
    have HSd := Lib.hid (HS1.out.below (below_draw' w1))
    clear hb1 HS0
    go_wp2_with fail
    go_region_held3 (fun w' => w'.cell? ⟨w.heap.size, 0, none⟩ = some (.int .u64 sg) ∧ w'.cell? ⟨w.heap.size, 1, none⟩ = some (.int .i64 P) ∧ w'.cell? ⟨w.heap.size, 2, none⟩ = some (.int .i64 L) ∧ w'.cell? ⟨w.heap.size, 3, none⟩ = some (.int .i64 G) ∧ w'.cell? ⟨w.heap.size, 4, none⟩ = some (.int .u64 I) ∧ w'.cell? ⟨w.heap.size, 5, none⟩ = some (.int .u64 Q) ∧ Hid (SiS w w' sg P L G I Q (.slice A k c) d))
      (first | exact HSd.out.conj | (go_split_ands; exact (SiS.belowH (by assumption) hb7).conj) | (go_split_ands; exact (SiS.belowH (by assumption) hb6).conj))
      (first
        | (go_split_ands; go_at_call 177; refine (HDe.out _ (SiS.dd (Hid.out (by assumption)))).mono ?_; rintro e w6 ⟨nv, dv, rfl, hx6, hy6, hb6⟩; have HX6 := Lib.hid hx6; have HY6 := Lib.hid hy6; clear hx6 hy6)
        | (go_split_ands; go_at_call 176; refine (HSz.out _ _ _ HX6.out HY6.out).mono ?_; rintro e w7 ⟨p7, rfl, hp7, hq7, hb7⟩; have HP7 := Lib.hid (And.intro hp7 hq7); clear hp7 hq7))
    all_goals
      have HS7 : Hid (SiS w w7 sg P L G I Q (.slice A k c) d) := Lib.hid (by go_split_ands; exact SiS.belowH (by assumption) hb7)
      go_wp2
      go_ret
      exact ⟨p7, rfl, HP7.out.1, HP7.out.2, HS7.out.bl⟩
theorem rsz_S (v : Value) (d : Nat) (e : Int) (w : World) (h : DgAt w v d) (hb : blen d ≤ 13500) (h1 : -1100000000 ≤ e) (h2 : e ≤ 1100000000) :
    Calls Tryz.prog 148 #[.agg #[.int .u64 2147483648, .int .i64 24, .int .i64 (-149), .int .i64 104, .int .u64 2139095040, .int .u64 2143289345], v, .int .i64 e] w fun r w' => ∃ p : Nat, r = .returned (.int .u64 (p : Int)) ∧ IsPat fmS (tn d e) (td e) p ∧ p ≤ fmS.inf ∧ Below w.heap.size w w' :=
  rsz_gen fmS (.inl rfl) _ _ _ _ _ _ (by decide) (fun nv dv N D W a b c d e f => rsize8_S nv dv N D W a b c d e f) v d e w h hb h1 h2
theorem rsz_D (v : Value) (d : Nat) (e : Int) (w : World) (h : DgAt w v d) (hb : blen d ≤ 13500) (h1 : -1100000000 ≤ e) (h2 : e ≤ 1100000000) :
    Calls Tryz.prog 148 #[.agg #[.int .u64 9223372036854775808, .int .i64 53, .int .i64 (-1074), .int .i64 971, .int .u64 9218868437227405312, .int .u64 9221120237041090561], v, .int .i64 e] w fun r w' => ∃ p : Nat, r = .returned (.int .u64 (p : Int)) ∧ IsPat fmD (tn d e) (td e) p ∧ p ≤ fmD.inf ∧ Below w.heap.size w w' :=
  rsz_gen fmD (.inr rfl) _ _ _ _ _ _ (by decide) (fun nv dv N D W a b c d e f => rsize8_D nv dv N D W a b c d e f) v d e w h hb h1 h2
end Go.Proofs.YtmfjimmodaofdaaGreatDoor
