/- Walks of the laws' helpers: whole, exponent, sum. -/
import Derived.Test.YtmfjimmodaofdaaGreatDoorQt
namespace Go.Proofs.YtmfjimmodaofdaaGreatDoor
open Go.RowKit

/-- A digit's byte. -/
def dgC (u : Nat) : UInt8 := UInt8.ofNat (48 + u)
theorem dgC_val (x : Nat) : (((dgC (x % 10)).toNat : Nat) : Int) = 48 + (x : Int) % 10 := by
  have hd := (digit_byte (u := x % 10) (Nat.mod_lt _ (by omega))).2.2
  unfold dgC
  rw [hd]; omega
theorem digs_step {x : Nat} (h : ¬ x < 10) : Lib.decDigits x = Lib.decDigits (x / 10) ++ [dgC (x % 10)] := by rw [Lib.decDigits, dif_neg h]; rfl
theorem digs_last {x : Nat} (h : x < 10) : Lib.decDigits x = [dgC (x % 10)] := by rw [Lib.decDigits_one h, Nat.mod_eq_of_lt h]; rfl
/-- What is still to be told of n, and what is told: L. -/
def telling (n x : Nat) (L : List UInt8) : Prop := (if x = 0 then L else Lib.decDigits x ++ L) = Lib.decDigits n
theorem telling_start (n : Nat) : telling n (n / 10) [dgC (n % 10)] := by
  unfold telling
  by_cases h : n < 10
  · rw [if_pos (by omega), digs_last h]
  · rw [if_neg (by omega), digs_step h]
theorem telling_next {n x : Nat} {L : List UInt8} (h : telling n x L) (hx : x ≠ 0) : telling n (x / 10) ([dgC (x % 10)] ++ L) := by
  unfold telling at h ⊢
  rw [if_neg hx] at h
  by_cases h1 : x < 10
  · rw [if_pos (by omega), ← h, digs_last h1]
  · rw [if_neg (by omega), ← h, digs_step h1, List.append_assoc]
theorem digs_20 {n : Nat} (h : n < 18446744073709551616) : (Lib.decDigits n).length ≤ 20 := decDigits_len (m := 20) (Nat.lt_of_lt_of_le h (by decide)) (by omega)
theorem telling_len {n x : Nat} {L : List UInt8} (h : telling n x L) (hn : n < 18446744073709551616) : L.length ≤ 20 := by
  have h1 := digs_20 hn
  have h2 := congrArg List.length h
  split at h2
  · omega
  · rw [List.length_append] at h2; omega

set_option maxRecDepth 100000 in
set_option maxHeartbeats 1000000 in
theorem lwhole_walk (n : Nat) (hn : n < 18446744073709551616) (w : World) :
    Calls Tryz.prog 18 #[.int .u64 (n : Int)] w fun e w' => e = .returned (.string (bs (Lib.decDigits n))) ∧ Below w.heap.size w w' := by
  have hcv : ∀ (x : Nat) (W : World) (b : Nat), W.cell? ⟨b, 0, none⟩ = some (.int .u8 (48 + (x : Int) % 10)) → (convert 89 9 (.slice (some ⟨b, 0, none⟩) 1 1)).run Tryz.prog W = .ok (.string (bs [dgC (x % 10)])) W := fun x W b h =>
    run_convert_bytes_back (P := Tryz.prog) W 89 9 5 ⟨b, 0, none⟩ 1 [dgC (x % 10)] Tryz.underlying89 Tryz.underlying5 Tryz.underlying9 (fun j hj => by
      have e : j = 0 := by simpa using hj
      subst e
      have e2 := dgC_val x
      simpa [Addr.add, e2] using h)
  have HN := Lib.hid hn
  have hT0 := Lib.hid (telling_start n)
  have hs0 := Lib.hid (below_alloc' w (.cells #[.int .u8 (48 + (n : Int) % 10)] 5))
  have c0 := hcv n
  go_enter Tryz.func18, Tryz.ntmps18
  go_wp2_with fail
  clear c0
  go_loopw [0, 3] (fun xv sv wr => ∃ (x : Nat) (L : List UInt8), xv = .int .u64 (x : Int) ∧ sv = .string (bs L) ∧ x < 18446744073709551616 ∧ Hid (telling n x L) ∧ Hid (Below w.heap.size w wr)) (fun xv _ _ => (intOf xv).toNat)
  case atStart => exact ⟨n / 10, _, by simp, rfl, by omega, hT0, hs0⟩
  case round =>
    obtain ⟨x, L, rfl, rfl, hx, HT, HW⟩ := hrel
    by_cases h0 : x = 0
    · have HE := Lib.hid (show L = Lib.decDigits n by have := HT.out; unfold telling at this; rwa [if_pos h0] at this)
      obtain ⟨y, hy⟩ : ∃ y : Int, (x : Int) = y := ⟨_, rfl⟩
      have hxp : ¬ (0 : Int) < y := by omega
      rw [hy]
      clear h0 hy hx hcv hn
      go_wp2
      go_ret
      exact ⟨by rw [HE.out]; rfl, HW.out⟩
    · obtain ⟨y, hy⟩ : ∃ y : Int, (x : Int) = y := ⟨_, rfl⟩
      have hxp : (0 : Int) < y := by omega
      have hxl : y < 18446744073709551616 := by omega
      have hl := telling_len HT.out HN.out
      have hl1 : (bs L).size ≤ 20 := by rw [bs_size]; exact hl
      have hl2 : (bs [dgC (x % 10)]).size = 1 := by rw [bs_size]; rfl
      have HT2 := Lib.hid (telling_next HT.out h0)
      have HA := Lib.hid (show bs [dgC (x % 10)] ++ bs L = bs ([dgC (x % 10)] ++ L) from bs_append _ _)
      have HW2 := Lib.hid (below_chain HW.out (below_alloc' wr (.cells #[.int .u8 (48 + (x : Int) % 10)] 5)))
      have c0 := hcv x
      clear hl h0 hcv hn
      obtain ⟨C, hC⟩ : ∃ C, bs [dgC (x % 10)] = C := ⟨_, rfl⟩
      rw [hC] at c0 hl2 HA
      rw [hy] at c0 HW2 ⊢
      have HX := Lib.hid (And.intro hy hx)
      clear hC hy hx
      go_wp2_with fail
      go_roundw
      case rel => exact ⟨x / 10, _, by rw [← HX.out.1]; simp, congrArg Value.string HA.out, by have := HX.out.2; omega, HT2, HW2⟩
      case measure => simp [intOf]; omega

/-- The exponent's text. -/
def exS (e : Int) : List UInt8 := 101 :: Lib.itoa e
/-- .. with its sign written out and a nought in front. -/
def smS (e : Int) : List UInt8 := (if e < 0 then [45] else [43]) ++ (48 :: Lib.decDigits e.natAbs)
theorem itoa_abs (e : Int) : Lib.itoa e = (if e < 0 then [45] else []) ++ Lib.decDigits e.natAbs := by
  by_cases hy : e < 0
  · obtain ⟨u, hu⟩ : ∃ u : Nat, e = -(u : Int) := ⟨e.natAbs, by omega⟩
    rw [if_pos hy, hu, Lib.itoa_neg u (by omega), show (-(u : Int)).natAbs = u by omega]; rfl
  · obtain ⟨u, hu⟩ : ∃ u : Nat, e = (u : Int) := ⟨e.natAbs, by omega⟩
    rw [if_neg hy, hu, Lib.itoa_nonneg, show ((u : Int)).natAbs = u by omega]; rfl

set_option maxRecDepth 100000 in
theorem lexp_walk (e : Int) (h1 : -10000000 ≤ e) (h2 : e ≤ 10000000) (w : World) :
    Calls Tryz.prog 19 #[.int .i64 e] w fun r w' => r = .returned (.string (bs (exS e))) ∧ Below w.heap.size w w' := by
  have HI := Lib.hid (itoa_abs e)
  by_cases hy : e < 0
  · obtain ⟨u, hu⟩ : ∃ u : Nat, -e = (u : Int) := ⟨e.natAbs, by omega⟩
    have hW := Lib.hid (fun W => lwhole_walk u (by omega) W)
    have hl : (bs (Lib.decDigits u)).size ≤ 20 := by rw [bs_size]; exact digs_20 (by omega)
    have HE := Lib.hid (show (⟨#[101, 45]⟩ : ByteArray) ++ bs (Lib.decDigits u) = bs (exS e) by
      have := HI.out
      rw [if_pos hy, show e.natAbs = u by omega] at this
      unfold exS
      rw [this]; exact bs_append [101, 45] _)
    have hs2 : (⟨#[101, 45]⟩ : ByteArray).size = 2 := rfl
    have k1 : IntKind.i64.wrap (-e) = (u : Int) := by rw [IntKind.wrap_i64]; omega
    have k2 : IntKind.u64.wrap (u : Int) = (u : Int) := by rw [IntKind.wrap_u64]; omega
    obtain ⟨S, hS⟩ : ∃ S, bs (Lib.decDigits u) = S := ⟨_, rfl⟩
    rw [hS] at hW hl HE
    clear hS
    go_enter Tryz.func19, Tryz.ntmps19
    go_wp2_with fail
    refine (hW.out _).mono ?_
    rintro r w1 ⟨rfl, hb1⟩
    go_wp2
    go_ret
    exact ⟨by rw [← HE.out]; rfl, hb1⟩
  · obtain ⟨u, hu⟩ : ∃ u : Nat, e = (u : Int) := ⟨e.natAbs, by omega⟩
    have hW := Lib.hid (fun W => lwhole_walk u (by omega) W)
    have hl : (bs (Lib.decDigits u)).size ≤ 20 := by rw [bs_size]; exact digs_20 (by omega)
    have HE := Lib.hid (show (⟨#[101]⟩ : ByteArray) ++ bs (Lib.decDigits u) = bs (exS e) by
      have := HI.out
      rw [if_neg hy, show e.natAbs = u by omega] at this
      unfold exS
      rw [this]; exact bs_append [101] _)
    have hs2 : (⟨#[101]⟩ : ByteArray).size = 1 := rfl
    have k2 : IntKind.u64.wrap (u : Int) = (u : Int) := by rw [IntKind.wrap_u64]; omega
    obtain ⟨S, hS⟩ : ∃ S, bs (Lib.decDigits u) = S := ⟨_, rfl⟩
    rw [hS] at hW hl HE
    clear hS HI
    subst hu
    go_enter Tryz.func19, Tryz.ntmps19
    go_wp2_with fail
    refine (hW.out _).mono ?_
    rintro r w1 ⟨rfl, hb1⟩
    go_wp2
    go_ret
    exact ⟨by rw [← HE.out]; rfl, hb1⟩

set_option maxRecDepth 100000 in
theorem lsum_walk (e : Int) (h1 : -10000000 ≤ e) (h2 : e ≤ 10000000) (w : World) :
    Calls Tryz.prog 21 #[.int .i64 e] w fun r w' => r = .returned (.string (bs (smS e))) ∧ Below w.heap.size w w' := by
  by_cases hy : e < 0
  · obtain ⟨u, hu⟩ : ∃ u : Nat, -e = (u : Int) := ⟨e.natAbs, by omega⟩
    have hW := Lib.hid (fun W => lwhole_walk u (by omega) W)
    have hl : (bs (Lib.decDigits u)).size ≤ 20 := by rw [bs_size]; exact digs_20 (by omega)
    have HE := Lib.hid (show (⟨#[45, 48]⟩ : ByteArray) ++ bs (Lib.decDigits u) = bs (smS e) by
      unfold smS
      rw [if_pos hy, show e.natAbs = u by omega]; exact bs_append [45, 48] _)
    have hs2 : (⟨#[45, 48]⟩ : ByteArray).size = 2 := rfl
    have k1 : IntKind.i64.wrap (-e) = (u : Int) := by rw [IntKind.wrap_i64]; omega
    have k2 : IntKind.u64.wrap (u : Int) = (u : Int) := by rw [IntKind.wrap_u64]; omega
    obtain ⟨S, hS⟩ : ∃ S, bs (Lib.decDigits u) = S := ⟨_, rfl⟩
    rw [hS] at hW hl HE
    clear hS
    go_enter Tryz.func21, Tryz.ntmps21
    go_wp2_with fail
    refine (hW.out _).mono ?_
    rintro r w1 ⟨rfl, hb1⟩
    go_wp2
    go_ret
    exact ⟨by rw [← HE.out]; rfl, hb1⟩
  · obtain ⟨u, hu⟩ : ∃ u : Nat, e = (u : Int) := ⟨e.natAbs, by omega⟩
    have hW := Lib.hid (fun W => lwhole_walk u (by omega) W)
    have hl : (bs (Lib.decDigits u)).size ≤ 20 := by rw [bs_size]; exact digs_20 (by omega)
    have HE := Lib.hid (show (⟨#[43, 48]⟩ : ByteArray) ++ bs (Lib.decDigits u) = bs (smS e) by
      unfold smS
      rw [if_neg hy, show e.natAbs = u by omega]; exact bs_append [43, 48] _)
    have hs2 : (⟨#[43, 48]⟩ : ByteArray).size = 2 := rfl
    have k2 : IntKind.u64.wrap (u : Int) = (u : Int) := by rw [IntKind.wrap_u64]; omega
    obtain ⟨S, hS⟩ : ∃ S, bs (Lib.decDigits u) = S := ⟨_, rfl⟩
    rw [hS] at hW hl HE
    clear hS
    subst hu
    go_enter Tryz.func21, Tryz.ntmps21
    go_wp2_with fail
    refine (hW.out _).mono ?_
    rintro r w1 ⟨rfl, hb1⟩
    go_wp2
    go_ret
    exact ⟨by rw [← HE.out]; rfl, hb1⟩
end Go.Proofs.YtmfjimmodaofdaaGreatDoor
