/- letterboxlaw16.PopOfNothing: the law's walk, and what it means in every world (the runs of YtcoobajkgioflaaGreatDoorPNoneRun.lean, by the abstract interpreter's soundness): the row and its tied card. -/
import Derived.Test.YtcoobajkgioflaaGreatDoorPLaid
import Derived.Test.YtcoobajkgioflaaGreatDoorPNoneRun
import Derived.Test.YtcoobajkgioflaaGreatDoorCards
import Derived.Test.YtcoobajkgioflaaGreatDoorTie
import Derived.Test.YtcoobajkgioflaaGreatDoorAbArg
namespace Go.Proofs.YtcoobajkgioflaaGreatDoor
open Go.ChangeShapes Go.WideShapes Go.ChangeAt Go.RowKit
open Ab

/-- The law returns true, and writes nothing that was there. -/
theorem none_walk (a : Option Addr) (len cap : Nat) (w : World) (hl : len ≤ 9223372036854775807) (hw : 8 ≤ w.heap.size) :
    Calls Tryz.prog 7 #[.slice a len cap] w fun e w' => e = .returned (.bool true) ∧ Below w.heap.size w w' := by
  have run : ∀ (x : AV), isTrue (evF Tryz.prog sums16 3000 7 [x] (h0 8)) = true → VR (jG Tryz.prog.globals.size sums16 sums16_ops.wf) x (.slice a len cap) →
      Calls Tryz.prog 7 #[.slice a len cap] w fun e w' => e = .returned (.bool true) ∧ Below w.heap.size w w' := by
    intro x h hx
    exact closed_true mix fit sums16_ops sums16_ok h none_enters (by rw [gsize]; exact Nat.le_refl _) (by rw [gsize]; exact hw) (by simp only [VRs]; exact ⟨_, _, rfl, hx, rfl⟩)
  by_cases h1 : len ≤ 500
  · exact run _ none_short (by simp only [VR]; exact ⟨a, len, cap, rfl, by omega, h1⟩)
  · exact run _ none_long (by simp only [VR]; exact ⟨a, len, cap, rfl, by omega, hl⟩)

set_option maxRecDepth 100000 in
theorem none_lifted (os : Os) (started : os.Started) (H : Type) (enc : TypeId × Value → H) :
    ReturnsInHanded {} Tryz.checked os 7 .any (fun w args => (Rows.popOfNothingSpec.pre enc Tryz.prog Tryz.f7 [] false w args ∧ laidMetH Tryz.prog Rows.popOfNothingRow.laid w) ∧ sizedMet enc Tryz.prog Tryz.f7 (OpenSpec.ofChange Rows.popOfNothingSpec) false w args)
      (Rows.popOfNothingSpec.post enc Tryz.prog Tryz.f7 false true false false) := by
  refine returnsInHanded_of_change_and (C := Tryz.checked) (X := fun w _ => laidMetH Tryz.prog Rows.popOfNothingRow.laid w) (fun _ _ _ hh h => h.of_heap hh) own16 started (by kernel_rfl) Tryz.func7
    (ChangeSpec.witness_at (enc := enc) (C := Tryz.checked) (os := os) (X := fun w _ => laidMetH Tryz.prog Rows.popOfNothingRow.laid w) false (laidWorld os) #[.slice none 0 0] 8 rfl (by kernel_rfl) (by kernel_rfl) (by kernel_rfl) (by kernel_rfl) (by kernel_rfl) (laidWorld_met os _)) ?_
  intro W base args ds gs before hval0 hW _ _ hL _
  have hval : ∀ (j : Nat) t v, Tryz.f7.params[j]? = some t → args[j]? = some v → Value.okWide Tryz.prog W .any base t v := hval0
  have hW' := hW
  obtain ⟨p, q, hA0, hV0, rfl, hfz, hnd⟩ := hW
  have hA : DataW.TrodAll enc Tryz.prog W 0 (fun _ => true) true Tryz.f7.params.toList args.toList ds p := hA0
  have hV : DataW.TrodVars enc Tryz.prog W (fun _ => true) [] gs q := hV0
  rw [Tryz.params7] at hA hval
  obtain ⟨v0, d0, rfl, rfl, h0⟩ := trodAll_one hA
  obtain ⟨a, len, cap, rfl, hlen⟩ := slice_arg Tryz.underlying34 (hval 0 34 v0 rfl rfl)
  obtain ⟨rfl, rfl⟩ := trodVars_none hV
  have hsz : 8 ≤ W.heap.size := size_of_laid hL
  clear hA0 hval0
  simp only [List.append_nil] at hW'
  have hlt : ∀ x ∈ p, x.block < W.heap.size := fun x hx => by simpa using hW'.lt x hx
  refine (none_walk a len cap W hlen hsz).mono fun e W' ⟨he, bel⟩ => ?_
  subst he
  exact ⟨_, rfl, _, _, _, [], p, [], hW', trodAll_mk1 (shut_bool Tryz.underlying4 _), trodAll_mk1 (Below.trod laidOut (by kernel_rfl) (of_decide_eq_true (by kernel_rfl)) h0 bel hlt), rfl, bel.frame _, fun h => by cases h⟩

end Go.Proofs.YtcoobajkgioflaaGreatDoor
