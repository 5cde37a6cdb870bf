/- The row of DecimalDigits and its tied card. -/
import Derived.Test.YtmfjimmodaofdaaGreatDoorOn
import Derived.Test.YtmfjimmodaofdaaGreatDoorAD
import Derived.Test.YtmfjimmodaofdaaGreatDoorCards
import Derived.Test.YtmfjimmodaofdaaGreatDoorTie
import Derived.SevenTiedAt
import Derived.ChangeMaps5
import Derived.SizedLaws
import Derived.Deep.Slices
import Derived.Deep.Fields
import Derived.ChangeSame
import Derived.Carry
namespace Go.Proofs.YtmfjimmodaofdaaGreatDoor
open Go.ChangeShapes Go.WideShapes Go.ChangeAt Go.RowKit Go.ChangeMaps Go.Deep

section
variable {H : Type} {enc : TypeId × Value → H} {P : Program} {w : World} {base : Nat} {spare : Nat → Bool} {held : Bool}
/-- A slice of structs of one-cell fields, opened (after the guide's block on structs). -/
theorem open_slice_fields {t e : TypeId} {fs : Array Field} {fuel : Nat} {cs : List Value} {x : DataW H × List MemPlace} (ht : P.underlying t = some (.slice e)) (he : P.underlying e = some (.struct fs))
    (hone : oneCellFields P fs = true) (hC : P.cellsOf e = fs.size) (h : DataW.trod enc P w base spare held fuel t cs = some x) :
    (cs = [.slice none 0 0] ∧ x = (.nil, [])) ∨
    ∃ (a : Addr) (len cap : Nat), cs = [.slice (some a) len cap] ∧ len ≤ cap ∧ (∃ (elems rest : List (DataW H)) (pl : List MemPlace), x = (.slice elems rest, pl) ∧ elems.length = len) ∧
      ∀ i, i < len → ∀ (j : Nat) (f : Field), fs[j]? = some f → ∃ (n : Nat) (v : Value) (y : DataW H × List MemPlace), w.cell? (a.add (i * fs.size + j)) = some v ∧ DataW.trod enc P w base spare held n f.type [v] = some y := by
  rcases open_slice ht h with h0 | ⟨a, len, cap, m, n, D, Pl, hcs, hb, hl, hm, hmm, hx, hi⟩
  · exact .inl h0
  · refine .inr ⟨a, len, cap, hcs, hl, ⟨_, _, _, hx, by simp⟩, fun i hil j f hj => ?_⟩
    have him : i < m := by rw [hmm]; split <;> omega
    obtain ⟨cs', hc, ht'⟩ := hi i him
    rw [hC] at hc
    obtain ⟨ys, n', _, _, _, hyl, hf⟩ := DataW.trod_struct he ht'
    obtain ⟨_, hcl, hat⟩ := World.cells?_some hc
    obtain ⟨ho, hk⟩ := hone_of hone j f hj
    have hjl : j < fs.size := (Array.getElem?_eq_some_iff.1 hj).1
    have hcell := hat j hjl
    have h1 := hf j f hj
    rw [ho, hk] at h1
    have h2 : (cs'.drop j).take 1 = [cs'[j]'(by omega)] := by
      rw [List.drop_eq_getElem_cons (by omega)]
      rfl
    rw [h2] at h1
    have hv : cs'[j]? = some (cs'[j]'(by omega)) := List.getElem?_eq_getElem (by omega)
    rw [← Go.Deep.add_add]
    have hys : ys[j]? = some (ys[j]'(by omega)) := List.getElem?_eq_getElem (by omega)
    exact ⟨n', _, _, hcell.trans hv, h1.trans hys⟩
end
theorem laidOut_all : laidOutB Tryz.prog = true := by kernel_rfl

set_option maxRecDepth 100000 in
theorem digits_lifted (os : Os) (started : os.Started) (H : Type) (enc : TypeId × Value → H) :
    ReturnsInHanded {} Tryz.checked os 9 .any (fun w args => (Rows.decimalDigitsSpec.pre enc Tryz.prog Tryz.f9 [] false w args ∧ laidMetH Tryz.prog laid3 w) ∧ sizedMet enc Tryz.prog Tryz.f9 (OpenSpec.ofChange Rows.decimalDigitsSpec) false w args)
      (Rows.decimalDigitsSpec.post enc Tryz.prog Tryz.f9 false true false false) := by
  refine returnsInHanded_of_change_and (C := Tryz.checked) (X := fun w _ => laidMetH Tryz.prog laid3 w) (fun _ _ _ hh h => h.of_heap hh) own_knob started (by kernel_rfl) Tryz.func9
    (ChangeSpec.witness_shaped (enc := enc) (C := Tryz.checked) (os := os) (X := fun w _ => laidMetH Tryz.prog laid3 w) false (World.laidAll Tryz.prog os laid3) #[.slice none 0 0] 8 (World.laidAll_os _ _ _) (World.shaped_of_ZipB (by kernel_rfl) (by kernel_rfl)) (by kernel_rfl) (by kernel_rfl) (by kernel_rfl) (by rw [MakeChecks.laidMetH_plain _ _ _ (by kernel_rfl)]; exact laidMet_laidAll _ (by kernel_rfl) (by kernel_rfl))) ?_
  intro W base args ds gs before hval0 hW _ hsz hL _
  have hval : ∀ (j : Nat) t v, Tryz.f9.params[j]? = some t → args[j]? = some v → Value.okWide Tryz.prog W .any base t v := hval0
  have hW' := hW
  obtain ⟨p, q, hA0, hV, rfl, hfz, hnd⟩ := hW
  have hA : DataW.TrodAll enc Tryz.prog W 0 (fun _ => true) true Tryz.f9.params.toList args.toList ds p := hA0
  rw [Tryz.params9] at hA hval
  obtain ⟨v0, d0, rfl, rfl, h0⟩ := trodAll_one hA
  obtain ⟨rfl, rfl⟩ := trodVars_none hV
  have h0k := h0
  obtain ⟨fuel, hf⟩ := h0
  clear hA0 hval0
  simp only [List.append_nil] at hW'
  obtain ⟨ht, h10⟩ := tabs_of_laid hL
  have hlt : ∀ x ∈ p, x.block < W.heap.size := fun x hx => hW'.lt x (by simp [hx])
  obtain ⟨a0, len, cap, rfl⟩ := okWide_slice Tryz.underlying55 (hval 0 55 v0 rfl rfl)
  obtain ⟨hn, ho⟩ : len ≤ 1152921504606846976 ∧ ∀ i, i < len → OpAt5 W a0 i := by
    rcases open_slice_fields Tryz.underlying55 Tryz.underlying105 (by kernel_rfl) (by kernel_rfl) hf with ⟨hcs, _⟩ | ⟨a, len', cap', hcs, hl, ⟨elems, rest, pl, hx, hlen⟩, hel⟩
    · simp [Value.cells] at hcs
      obtain ⟨rfl, rfl, rfl⟩ := hcs
      exact ⟨by omega, fun i hi => by omega⟩
    · simp [Value.cells] at hcs
      obtain ⟨rfl, rfl, rfl⟩ := hcs
      injection hx with hd _
      subst hd
      have h1 : (elems.length + rest.length) * Tryz.prog.bytesOf 105 ≤ reachBytes := sized_slice (j := 0) hsz rfl rfl Tryz.underlying55
      have h2 := reachBytes_lt
      have hB : 1 ≤ Tryz.prog.bytesOf 105 := of_decide_eq_true (by kernel_rfl)
      have h3 : (elems.length + rest.length) * 1 ≤ (elems.length + rest.length) * Tryz.prog.bytesOf 105 := Nat.mul_le_mul_left _ hB
      refine ⟨by omega, fun i hi => ?_⟩
      obtain ⟨_, _, _, cz, _⟩ := hel 0 (by omega) 0 _ rfl
      obtain ⟨n0, x0, y0, c0, t0⟩ := hel i hi 0 _ rfl
      obtain ⟨n1, x1, y1, c1, t1⟩ := hel i hi 1 _ rfl
      obtain ⟨n2, x2, y2, c2, t2⟩ := hel i hi 2 _ rfl
      obtain ⟨n3, x3, y3, c3, t3⟩ := hel i hi 3 _ rfl
      obtain ⟨n4, x4, y4, c4, t4⟩ := hel i hi 4 _ rfl
      obtain ⟨k, e0, _, _⟩ := DataW.trod_int Tryz.underlying3 t0
      obtain ⟨f, e1, _, _⟩ := DataW.trod_int Tryz.underlying3 t1
      obtain ⟨s, e2, _, hs⟩ := DataW.trod_string Tryz.underlying9 t2
      obtain ⟨b, e3, _, wb⟩ := DataW.trod_int Tryz.underlying22 t3
      obtain ⟨m, e4, _, _⟩ := DataW.trod_int Tryz.underlying3 t4
      injection e0 with e0; injection e1 with e1; injection e2 with e2; injection e3 with e3; injection e4 with e4
      subst e0; subst e1; subst e2; subst e3; subst e4
      obtain ⟨bk, off, spot⟩ := a
      have hspot : spot = none := by simpa [Addr.add] using World.cell?_spot cz
      subst hspot
      obtain ⟨bN, rfl⟩ : ∃ n : Nat, b = (n : Int) := by
        simp [Lit.wf, IntKind.min, IntKind.max, IntKind.signed, IntKind.bits] at wb
        exact ⟨b.toNat, by omega⟩
      have hb : bN < 18446744073709551616 := by
        have h := wb
        simp [Lit.wf, IntKind.min, IntKind.max, IntKind.signed, IntKind.bits] at h
        omega
      have hs2 : s.size ≤ 9223372036854775807 := Nat.le_trans hs (by decide)
      refine ⟨bk, off, k, f, s, bN, m, rfl, ?_, ?_, ?_, ?_, ?_, hs2, hb⟩
      · by_cases h0 : i = 0
        · subst h0; simpa [Addr.add] using c0
        · have h4 : i * 5 ≠ 0 := by omega
          simpa [Addr.add, h4] using c0
      · simpa [Addr.add, Nat.add_assoc] using c1
      · simpa [Addr.add, Nat.add_assoc] using c2
      · simpa [Addr.add, Nat.add_assoc] using c3
      · simpa [Addr.add, Nat.add_assoc] using c4
  refine (digits_walk a0 len cap hn W ho ht h10).mono fun e W' ⟨he, hb⟩ => ?_
  subst he
  refine ⟨_, rfl, _, _, _, [], p, [], hW', ?_, ?_, ?_, hb.frame _, fun h => by cases h⟩
  · exact trodAll_mk1 (shut_bool Tryz.underlying4 true)
  · exact trodAll_mk1 (Below.trod laidOut_all (by kernel_rfl) (of_decide_eq_true (by kernel_rfl)) h0k hb hlt)
  · rfl

theorem digits_holds : Rows.DecimalDigitsSaid :=
  OpenClaim.holds_of_wide 9 Tryz.f9 rfl rfl rfl rfl rfl rfl rfl ⟨rfl, rfl, rfl, rfl, rfl⟩ rfl rfl rfl rfl rfl (by kernel_rfl) Tryz.func9 (by kernel_rfl)
    (of_decide_eq_true (by kernel_rfl)) (by unfold Func.isWrapper; first | (rw [if_pos (by decide +kernel)]; kernel_rfl) | (rw [if_neg (by decide +kernel)]; exact ⟨rfl, rfl⟩))
    (fun os started H enc _ => digits_lifted os started H enc)

theorem digits_card : Rows.DecimalDigitsCardSaid :=
  Claim7.holds_tied_plain_at .later [] [.data, .data, .data, .data, .pinned] true Rows.decimalDigitsCard.stood.harness true
    digits_holds (fun _ h => by cases h) (by kernel_rfl) (fun _ h => by cases h) decimalDigits_row_tie rfl ⟨rfl, rfl⟩ (by kernel_rfl) rfl
    (fun f fn hf hfn => by
      obtain rfl : f = 9 := Option.some.inj ((show Tryz.prog.funcNamed "gnomon/gnomonlaw11.DecimalDigits" = some 9 by kernel_rfl).symm.trans hf) |>.symm
      obtain rfl : fn = Tryz.f9 := (Option.some.inj (Tryz.func9.symm.trans hfn)).symm
      exact ⟨by kernel_rfl, fun j t ht => by
        rw [Tryz.params9] at ht
        have hm : t ∈ [55] := by simpa using Array.mem_of_getElem? ht
        have hall : ([55].all fun u => !Tryz.prog.wantsStandIn u) = true := by kernel_rfl
        exact (show Tryz.prog.wantsStandIn t = false by simpa using List.all_eq_true.1 hall t hm)⟩)
    (by kernel_rfl)
#print axioms digits_card
end Go.Proofs.YtmfjimmodaofdaaGreatDoor
