/- letterboxlaw18.FindDeep: for every input the law returns true (the closed runs of YtkjpnpninojknaaGreatDoorFnDeepRun.lean, by the abstract interpreter's soundness): the row and its tied card. -/
import Derived.Test.YtkjpnpninojknaaGreatDoorFnLaid
import Derived.Test.YtkjpnpninojknaaGreatDoorFnDeepRun
import Derived.Test.YtkjpnpninojknaaGreatDoorCards
import Derived.Test.YtkjpnpninojknaaGreatDoorTie
namespace Go.Proofs.YtkjpnpninojknaaGreatDoor
open Go.ChangeShapes Go.WideShapes Go.ChangeAt Go.RowKit
open Ab

theorem deep_in (b : Bool) (i : Nat) (hi : i < 9) : isTrue (evF Tryz.prog sums18 3000 6 [.i .i64 i, .b b] (h0 8)) = true := by
  cases b
  · exact List.all_eq_true.1 deep_false i (List.mem_range.2 hi)
  · exact List.all_eq_true.1 deep_true i (List.mem_range.2 hi)

/-- The law returns true, and writes nothing that was there. -/
theorem deep_walk (a : Int) (b : Bool) (w : World) (ha : (Lit.int .i64 a).wf = true) (hw : 8 ≤ w.heap.size) :
    Calls Tryz.prog 6 #[.int .i64 a, .bool b] w fun e w' => e = .returned (.bool true) ∧ Below w.heap.size w w' := by
  obtain ⟨a1, a2⟩ := wf_i64 ha
  have run : ∀ (x : AV), isTrue (evF Tryz.prog sums18 3000 6 [x, .b b] (h0 8)) = true → VR (jG Tryz.prog.globals.size) x (.int .i64 a) →
      Calls Tryz.prog 6 #[.int .i64 a, .bool b] w fun e w' => e = .returned (.bool true) ∧ Below w.heap.size w w' := by
    intro x h hx
    exact closed_true mix fit sums18_ok h deep_enters (by rw [gsize]; exact Nat.le_refl _) (by rw [gsize]; exact hw) (by simp only [VRs]; exact ⟨_, _, rfl, hx, _, _, rfl, by simp [VR], rfl⟩)
  by_cases h1 : a < 0
  · exact run _ (deep_lo b) (by simp only [VR]; exact ⟨a, rfl, by omega, by omega⟩)
  by_cases h2 : 8 < a
  · exact run _ (deep_hi b) (by simp only [VR]; exact ⟨a, rfl, by omega, by omega⟩)
  obtain ⟨n, rfl⟩ := Int.eq_ofNat_of_zero_le (show 0 ≤ a by omega)
  exact run _ (deep_in b n (by omega)) (by simp [VR])

theorem own18 : ownKnob Tryz.prog.godebug = none := by kernel_rfl

set_option maxRecDepth 100000 in
theorem deep_lifted (os : Os) (started : os.Started) (H : Type) (enc : TypeId × Value → H) :
    ReturnsInHanded {} Tryz.checked os 6 .any (fun w args => (Rows.findDeepSpec.pre enc Tryz.prog Tryz.f6 [] false w args ∧ laidMetH Tryz.prog Rows.findDeepRow.laid w) ∧ sizedMet enc Tryz.prog Tryz.f6 (OpenSpec.ofChange Rows.findDeepSpec) false w args)
      (Rows.findDeepSpec.post enc Tryz.prog Tryz.f6 false true false false) := by
  refine returnsInHanded_of_change_and (C := Tryz.checked) (X := fun w _ => laidMetH Tryz.prog Rows.findDeepRow.laid w) (fun _ _ _ hh h => h.of_heap hh) own18 started (by kernel_rfl) Tryz.func6
    (ChangeSpec.witness_at (enc := enc) (C := Tryz.checked) (os := os) (X := fun w _ => laidMetH Tryz.prog Rows.findDeepRow.laid w) false (laidWorld os) #[.int .i64 0, .bool false] 8 rfl (by kernel_rfl) (by kernel_rfl) (by kernel_rfl) (by kernel_rfl) (by kernel_rfl) (laidWorld_met os _)) ?_
  intro W base args ds gs before hval0 hW _ _ hL _
  have hval : ∀ (j : Nat) t v, Tryz.f6.params[j]? = some t → args[j]? = some v → Value.okWide Tryz.prog W .any base t v := hval0
  have hW' := hW
  obtain ⟨p, q, hA0, hV0, rfl, hfz, hnd⟩ := hW
  have hA : DataW.TrodAll enc Tryz.prog W 0 (fun _ => true) true Tryz.f6.params.toList args.toList ds p := hA0
  have hV : DataW.TrodVars enc Tryz.prog W (fun _ => true) [] gs q := hV0
  rw [Tryz.params6] at hA hval
  obtain ⟨v0, v1, d0, d1, p0, p1, rfl, rfl, rfl, h0, h1⟩ := trodAll_two hA
  obtain ⟨a, rfl, rfl, rfl, wa⟩ := open_int Tryz.underlying3 (hval 0 3 v0 rfl rfl) h0
  obtain ⟨b, rfl, rfl, rfl⟩ := open_bool Tryz.underlying4 (hval 1 4 v1 rfl rfl) h1
  obtain ⟨rfl, rfl⟩ := trodVars_none hV
  have hsz : 8 ≤ W.heap.size := size_of_laid hL
  refine (deep_walk a b W wa hsz).mono fun e W' ⟨he, bel⟩ => ?_
  subst he
  exact ⟨_, rfl, _, _, _, [], _, [], hW', trodAll_mk1 (shut_bool Tryz.underlying4 _), trodAll_mk2 (shut_int Tryz.underlying3 wa) (shut_bool Tryz.underlying4 _), rfl, bel.frame _, fun h => by cases h⟩

theorem deep_holds : Rows.FindDeepSaid :=
  OpenClaim.holds_of_wide 6 Tryz.f6 rfl rfl rfl rfl rfl rfl rfl ⟨rfl, rfl, rfl, rfl, rfl⟩ rfl rfl rfl rfl rfl (by kernel_rfl) Tryz.func6 (by kernel_rfl)
    (of_decide_eq_true (by kernel_rfl)) (by unfold Func.isWrapper; rw [if_neg (of_decide_eq_false (by kernel_rfl))]; exact ⟨rfl, rfl⟩)
    (fun os started H enc _ => deep_lifted os started H enc)

theorem deep_card : Rows.FindDeepCardSaid :=
  Claim7.holds_tied_plain_at .later [] [.data, .data, .data, .data, .sentinel, .sentinel, .pinned] true (true, "434b770075fa2e4cd3f28f7a7b07f3fa97b002315fd4ee1e853ac1ec5933de24") true
    deep_holds (fun _ h => by cases h) (by kernel_rfl) (fun _ h => by cases h) findDeep_row_tie rfl ⟨rfl, rfl⟩ (by kernel_rfl) rfl
    (fun f fn hf hfn => by
      obtain rfl : f = 6 := Option.some.inj ((show Tryz.prog.funcNamed "letterbox/letterboxlaw18.FindDeep" = some 6 by kernel_rfl).symm.trans hf) |>.symm
      obtain rfl : fn = Tryz.f6 := (Option.some.inj (Tryz.func6.symm.trans hfn)).symm
      exact ⟨by kernel_rfl, fun j t ht => by
        rw [Tryz.params6] at ht
        have h3 : t = 3 ∨ t = 4 := by
          rcases j with _ | _ | j
          · exact .inl (by simpa using ht.symm)
          · exact .inr (by simpa using ht.symm)
          · simp at ht
        rcases h3 with rfl | rfl
        · exact (show Tryz.prog.wantsStandIn 3 = false by kernel_rfl)
        · exact (show Tryz.prog.wantsStandIn 4 = false by kernel_rfl)⟩)
    (by kernel_rfl)
#print axioms deep_card
end Go.Proofs.YtkjpnpninojknaaGreatDoor
