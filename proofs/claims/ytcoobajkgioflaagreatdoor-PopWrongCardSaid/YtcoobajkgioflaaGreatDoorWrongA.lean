/- letterboxlaw16.PopWrong: the law's walk, and what it means in every world (the runs of YtcoobajkgioflaaGreatDoorWrongRun.lean, by the abstract interpreter's soundness). -/
import Derived.Test.YtcoobajkgioflaaGreatDoorPLaid
import Derived.Test.YtcoobajkgioflaaGreatDoorWrongRun
import Derived.Test.YtcoobajkgioflaaGreatDoorCards
namespace Go.Proofs.YtcoobajkgioflaaGreatDoor
open Go.ChangeShapes Go.WideShapes Go.ChangeAt Go.RowKit
open Go.ChangeMaps (open_string shut_string)
open Ab

/-- The law returns true, and writes nothing that was there. -/
theorem wrong_walk (s : ByteArray) (w : World) (hw : 8 ≤ w.heap.size) :
    Calls Tryz.prog 8 #[.string s] w fun e w' => e = .returned (.bool true) ∧ Below w.heap.size w w' := by
  obtain ⟨⟨word⟩⟩ := s
  have run : ∀ {S : Sums} {x : AV}, OpsOk Tryz.prog S → SumsOk Tryz.prog S → ∀ hwf : S.tok.wf, isTrue (evK Tryz.prog S 3000 8 [x] (h0 8)) = true → VR (jG Tryz.prog.globals.size S hwf) x (.string ⟨⟨word⟩⟩) →
      Calls Tryz.prog 8 #[.string ⟨⟨word⟩⟩] w fun e w' => e = .returned (.bool true) ∧ Below w.heap.size w w' := by
    intro S x hO hS hwf h hx
    rw [evK_eq] at h
    exact closed_true mix fit hO hS h wrong_enters (by rw [gsize]; exact Nat.le_refl _) (by rw [gsize]; exact hw) (by simp only [VRs]; exact ⟨_, _, rfl, hx, rfl⟩)
  have tok : ∀ (t : BTab) (l : List (FuncId × Nat1)) (hwf : (blobS Tryz.prog l t (valWrong word) (wdsWrong word)).tok.wf), VR (jG Tryz.prog.globals.size (blobS Tryz.prog l t (valWrong word) (wdsWrong word)) hwf) (.x 1) (.string ⟨⟨word⟩⟩) := fun t l hwf => by
    simp only [VR]
    exact ⟨_, rfl, rfl⟩
  by_cases hl : word.length ≤ 60
  · by_cases hp : word = [112]
    · subst hp
      exact run sums16_ops sums16_ok sums16_ops.wf right_runK (by simp only [VR])
    · have hO : OpsOk Tryz.prog (blobS Tryz.prog natsWrong bWrong (valWrong word) (wdsWrong word)) := blob_ops (wrong_ok hl hp) (wrong_dis word)
      exact run hO (sums_of rfl (natsWrong_ok hl)) hO.wf (wrong_runK _ _) (tok _ _ _)
  · have hO : OpsOk Tryz.prog (blobS Tryz.prog natsLong bLong (valWrong word) (wdsWrong word)) := blob_ops (long_ok hl) (wrong_dis word)
    exact run hO (sums_of rfl (fun x hx => by cases hx)) hO.wf (long_runK _ _) (tok _ _ _)

set_option maxRecDepth 100000 in
theorem wrong_lifted (os : Os) (started : os.Started) (H : Type) (enc : TypeId × Value → H) :
    ReturnsInHanded {} Tryz.checked os 8 .any (fun w args => (Rows.popWrongSpec.pre enc Tryz.prog Tryz.f8 [] false w args ∧ laidMetH Tryz.prog Rows.popWrongRow.laid w) ∧ sizedMet enc Tryz.prog Tryz.f8 (OpenSpec.ofChange Rows.popWrongSpec) false w args)
      (Rows.popWrongSpec.post enc Tryz.prog Tryz.f8 false true false false) := by
  refine returnsInHanded_of_change_and (C := Tryz.checked) (X := fun w _ => laidMetH Tryz.prog Rows.popWrongRow.laid w) (fun _ _ _ hh h => h.of_heap hh) own16 started (by kernel_rfl) Tryz.func8
    (ChangeSpec.witness_at (enc := enc) (C := Tryz.checked) (os := os) (X := fun w _ => laidMetH Tryz.prog Rows.popWrongRow.laid w) false (laidWorld os) #[.string ⟨#[]⟩] 8 rfl (by kernel_rfl) (by kernel_rfl) (by kernel_rfl) (by kernel_rfl) (by kernel_rfl) (laidWorld_met os _)) ?_
  intro W base args ds gs before hval0 hW _ _ hL _
  have hval : ∀ (j : Nat) t v, Tryz.f8.params[j]? = some t → args[j]? = some v → Value.okWide Tryz.prog W .any base t v := hval0
  have hW' := hW
  obtain ⟨p, q, hA0, hV0, rfl, hfz, hnd⟩ := hW
  have hA : DataW.TrodAll enc Tryz.prog W 0 (fun _ => true) true Tryz.f8.params.toList args.toList ds p := hA0
  have hV : DataW.TrodVars enc Tryz.prog W (fun _ => true) [] gs q := hV0
  rw [Tryz.params8] at hA hval
  obtain ⟨v0, d0, rfl, rfl, h0⟩ := trodAll_one hA
  obtain ⟨s, rfl, rfl, rfl, hs⟩ := open_string Tryz.underlying9 (hval 0 9 v0 rfl rfl) h0
  obtain ⟨rfl, rfl⟩ := trodVars_none hV
  have hsz : 8 ≤ W.heap.size := size_of_laid hL
  refine (wrong_walk s W hsz).mono fun e W' ⟨he, bel⟩ => ?_
  subst he
  exact ⟨_, rfl, _, _, _, [], _, [], hW', trodAll_mk1 (shut_bool Tryz.underlying4 _), trodAll_mk1 (shut_string Tryz.underlying9 hs), rfl, bel.frame _, fun h => by cases h⟩

end Go.Proofs.YtcoobajkgioflaaGreatDoor
