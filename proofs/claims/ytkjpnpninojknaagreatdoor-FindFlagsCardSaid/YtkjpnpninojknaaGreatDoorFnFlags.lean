/- letterboxlaw18.FindFlags: for every input the law returns true (the closed runs of YtkjpnpninojknaaGreatDoorFnFlagsRun.lean, by the abstract interpreter's soundness): the row and its tied card. -/
import Derived.Test.YtkjpnpninojknaaGreatDoorFnLaid
import Derived.Test.YtkjpnpninojknaaGreatDoorFnFlagsRun
import Derived.Test.YtkjpnpninojknaaGreatDoorCards
import Derived.Test.YtkjpnpninojknaaGreatDoorTie
namespace Go.Proofs.YtkjpnpninojknaaGreatDoor
open Go.ChangeShapes Go.WideShapes Go.ChangeAt Go.RowKit
open Ab

/-- The law returns true, and writes nothing that was there. -/
theorem flags_walk (a b : Int) (w : World) (ha : (Lit.int .i64 a).wf = true) (hb : (Lit.int .i64 b).wf = true) (hw : 8 ≤ w.heap.size) :
    Calls Tryz.prog 4 #[.int .i64 a, .int .i64 b] w fun e w' => e = .returned (.bool true) ∧ Below w.heap.size w w' := by
  obtain ⟨a1, a2⟩ := wf_i64 ha
  obtain ⟨b1, b2⟩ := wf_i64 hb
  have run : ∀ (x y : AV), isTrue (evF Tryz.prog (knownS 12) 3000 4 [x, y] (h0 8)) = true → VR (jG Tryz.prog.globals.size) x (.int .i64 a) → VR (jG Tryz.prog.globals.size) y (.int .i64 b) →
      Calls Tryz.prog 4 #[.int .i64 a, .int .i64 b] w fun e w' => e = .returned (.bool true) ∧ Below w.heap.size w w' := by
    intro x y h hx hy
    exact closed_true mix fit known_sums h flags_enters (by rw [gsize]; exact Nat.le_refl _) (by rw [gsize]; exact hw) (by simp only [VRs]; exact ⟨_, _, rfl, hx, _, _, rfl, hy, rfl⟩)
  by_cases h1 : a < 0
  · exact run _ _ flags_lo (by simp only [VR]; exact ⟨a, rfl, by omega, by omega⟩) (by simp only [VR]; exact ⟨b, rfl, by omega, by omega⟩)
  by_cases h2 : 31 < a
  · exact run _ _ flags_hi (by simp only [VR]; exact ⟨a, rfl, by omega, by omega⟩) (by simp only [VR]; exact ⟨b, rfl, by omega, by omega⟩)
  by_cases h3 : b < 0
  · exact run _ _ flags_below (by simp only [VR]; exact ⟨a, rfl, by omega, by omega⟩) (by simp only [VR]; exact ⟨b, rfl, by omega, by omega⟩)
  by_cases h4 : 4 < b
  · exact run _ _ flags_above (by simp only [VR]; exact ⟨a, rfl, by omega, by omega⟩) (by simp only [VR]; exact ⟨b, rfl, by omega, by omega⟩)
  obtain ⟨n, rfl⟩ := Int.eq_ofNat_of_zero_le (show 0 ≤ a by omega)
  obtain ⟨m, rfl⟩ := Int.eq_ofNat_of_zero_le (show 0 ≤ b by omega)
  exact run _ _ (flags_run (n := n) (k := m) (by omega) (by omega)) (by simp [VR]) (by simp [VR])

theorem own18 : ownKnob Tryz.prog.godebug = none := by kernel_rfl

set_option maxRecDepth 100000 in
theorem flags_lifted (os : Os) (started : os.Started) (H : Type) (enc : TypeId × Value → H) :
    ReturnsInHanded {} Tryz.checked os 4 .any (fun w args => (Rows.findFlagsSpec.pre enc Tryz.prog Tryz.f4 [] false w args ∧ laidMetH Tryz.prog Rows.findFlagsRow.laid w) ∧ sizedMet enc Tryz.prog Tryz.f4 (OpenSpec.ofChange Rows.findFlagsSpec) false w args)
      (Rows.findFlagsSpec.post enc Tryz.prog Tryz.f4 false true false false) := by
  refine returnsInHanded_of_change_and (C := Tryz.checked) (X := fun w _ => laidMetH Tryz.prog Rows.findFlagsRow.laid w) (fun _ _ _ hh h => h.of_heap hh) own18 started (by kernel_rfl) Tryz.func4
    (ChangeSpec.witness_at (enc := enc) (C := Tryz.checked) (os := os) (X := fun w _ => laidMetH Tryz.prog Rows.findFlagsRow.laid w) false (laidWorld os) #[.int .i64 0, .int .i64 0] 8 rfl (by kernel_rfl) (by kernel_rfl) (by kernel_rfl) (by kernel_rfl) (by kernel_rfl) (laidWorld_met os _)) ?_
  intro W base args ds gs before hval0 hW _ _ hL _
  have hval : ∀ (j : Nat) t v, Tryz.f4.params[j]? = some t → args[j]? = some v → Value.okWide Tryz.prog W .any base t v := hval0
  have hW' := hW
  obtain ⟨p, q, hA0, hV0, rfl, hfz, hnd⟩ := hW
  have hA : DataW.TrodAll enc Tryz.prog W 0 (fun _ => true) true Tryz.f4.params.toList args.toList ds p := hA0
  have hV : DataW.TrodVars enc Tryz.prog W (fun _ => true) [] gs q := hV0
  rw [Tryz.params4] at hA hval
  obtain ⟨v0, v1, d0, d1, p0, p1, rfl, rfl, rfl, h0, h1⟩ := trodAll_two hA
  obtain ⟨a, rfl, rfl, rfl, wa⟩ := open_int Tryz.underlying3 (hval 0 3 v0 rfl rfl) h0
  obtain ⟨b, rfl, rfl, rfl, wb⟩ := open_int Tryz.underlying3 (hval 1 3 v1 rfl rfl) h1
  obtain ⟨rfl, rfl⟩ := trodVars_none hV
  have hsz : 8 ≤ W.heap.size := size_of_laid hL
  refine (flags_walk a b W wa wb hsz).mono fun e W' ⟨he, bel⟩ => ?_
  subst he
  exact ⟨_, rfl, _, _, _, [], _, [], hW', trodAll_mk1 (shut_bool Tryz.underlying4 _), trodAll_mk2 (shut_int Tryz.underlying3 wa) (shut_int Tryz.underlying3 wb), rfl, bel.frame _, fun h => by cases h⟩

theorem flags_holds : Rows.FindFlagsSaid :=
  OpenClaim.holds_of_wide 4 Tryz.f4 rfl rfl rfl rfl rfl rfl rfl ⟨rfl, rfl, rfl, rfl, rfl⟩ rfl rfl rfl rfl rfl (by kernel_rfl) Tryz.func4 (by kernel_rfl)
    (of_decide_eq_true (by kernel_rfl)) (by unfold Func.isWrapper; rw [if_neg (of_decide_eq_false (by kernel_rfl))]; exact ⟨rfl, rfl⟩)
    (fun os started H enc _ => flags_lifted os started H enc)

theorem flags_card : Rows.FindFlagsCardSaid :=
  Claim7.holds_tied_plain_at .later [] [.data, .data, .data, .data, .sentinel, .sentinel, .pinned] true (true, "434b770075fa2e4cd3f28f7a7b07f3fa97b002315fd4ee1e853ac1ec5933de24") true
    flags_holds (fun _ h => by cases h) (by kernel_rfl) (fun _ h => by cases h) findFlags_row_tie rfl ⟨rfl, rfl⟩ (by kernel_rfl) rfl
    (fun f fn hf hfn => by
      obtain rfl : f = 4 := Option.some.inj ((show Tryz.prog.funcNamed "letterbox/letterboxlaw18.FindFlags" = some 4 by kernel_rfl).symm.trans hf) |>.symm
      obtain rfl : fn = Tryz.f4 := (Option.some.inj (Tryz.func4.symm.trans hfn)).symm
      exact ⟨by kernel_rfl, fun j t ht => by
        rw [Tryz.params4] at ht
        have h3 : t = 3 := by
          rcases j with _ | _ | j
          · simpa using ht.symm
          · simpa using ht.symm
          · simp at ht
        subst h3
        exact (show Tryz.prog.wantsStandIn 3 = false by kernel_rfl)⟩)
    (by kernel_rfl)
#print axioms flags_card
end Go.Proofs.YtkjpnpninojknaaGreatDoor
