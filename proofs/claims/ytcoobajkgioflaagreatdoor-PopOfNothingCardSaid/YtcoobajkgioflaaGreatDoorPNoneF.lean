/- The closed facts of the row popOfNothing. Written by facts.py. -/
import Derived.Test.YtcoobajkgioflaaGreatDoorPBase
import Derived.Test.YtcoobajkgioflaaGreatDoorCards
import Derived.KernelRfl
import Derived.ProofKit
import Derived.JoinedOf
namespace Go.Proofs.YtcoobajkgioflaaGreatDoor
open Go.ChangeShapes Go.WideShapes Go.ChangeAt Go.RowKit
theorem none_and {a b : Bool} (h : a = true) (g : b = true) : (a && b) = true := by rw [h, g]; rfl
theorem none_q0 : (Rows.popOfNothingRow.wf (OpenSpec.ofChange Rows.popOfNothingSpec)) = true := by kernel_rfl
theorem none_q1 : (laidOutB Tryz.prog) = true := by kernel_rfl
theorem none_q2 : (mapsRowed Tryz.prog) = true := by kernel_rfl
theorem none_q3 : (Tryz.f7.params.all (Tryz.prog.readableRec ·)) = true := by kernel_rfl
theorem none_q4 : (namedTie Tryz.prog Rows.popOfNothingRow.named Rows.popOfNothingSpec.vars) = true := by kernel_rfl
theorem none_q5 : (Rows.popOfNothingRow.stops == []) = true := by kernel_rfl
theorem none_q6 : (Tryz.prog.stops == []) = true := by kernel_rfl
theorem none_q7 : (Rows.popOfNothingRow.knobs == []) = true := by kernel_rfl
theorem none_q8 : (Tryz.prog.stopKnobs == []) = true := by kernel_rfl
theorem none_q9 : (Rows.popOfNothingRow.inPlace == Tryz.prog.inPlace 7) = true := by kernel_rfl
theorem none_q10 : (Rows.popOfNothingRow.unfollowed == Tryz.prog.unfollowed 7) = true := by kernel_rfl
theorem none_q11 : (Rows.popOfNothingRow.recurses == Tryz.prog.recurses 7) = true := by kernel_rfl
theorem none_q12 : (Rows.popOfNothingRow.named == Tryz.prog.varsNamed 7) = true := by kernel_rfl
theorem none_q13 : (Rows.popOfNothingRow.maps == (Tryz.f7.params.toList ++ Rows.popOfNothingSpec.plain.varTypes Tryz.prog).any (Tryz.prog.mapsRec ·)) = true := by kernel_rfl
theorem none_q14 : (Rows.popOfNothingRow.ifaces == (Tryz.f7.params.toList ++ Rows.popOfNothingSpec.plain.varTypes Tryz.prog).any (Tryz.prog.ifacesRec ·)) = true := by kernel_rfl
theorem none_q15 : (Rows.popOfNothingRow.mapsOut == Tryz.prog.mapsAmong Tryz.f7.resultTypes.toList) = true := by kernel_rfl
theorem none_q16 : (Rows.popOfNothingRow.loops == (Tryz.f7.params.toList ++ Rows.popOfNothingSpec.plain.varTypes Tryz.prog).any (Tryz.prog.loopsFrom ·)) = true := by kernel_rfl
theorem none_q17 : (Rows.popOfNothingRow.wideKeys == (Tryz.f7.params.toList ++ Rows.popOfNothingSpec.plain.varTypes Tryz.prog ++ Tryz.f7.resultTypes.toList).any (Tryz.prog.wideKeysFrom ·)) = true := by kernel_rfl
theorem none_q18 : (Rows.popOfNothingSpec.vars.all (Tryz.prog.varReadable ·)) = true := by kernel_rfl
theorem none_q19 : (Tryz.f7.resultTypes.all (fun t => Tryz.prog.readableRec t && decide (t < Tryz.prog.types.size))) = true := by kernel_rfl
theorem none_q20 : (Rows.popOfNothingRow.ifacesOut == Tryz.f7.resultTypes.toList.any (Tryz.prog.ifacesRec ·)) = true := by kernel_rfl
theorem none_q21 : (Rows.popOfNothingRow.loopsOut == Tryz.f7.resultTypes.toList.any (Tryz.prog.loopsFrom ·)) = true := by kernel_rfl
theorem none_q22 : (Rows.popOfNothingRow.plainKeys == Tryz.prog.plainKeys) = true := by kernel_rfl
theorem none_q23 : (Rows.popOfNothingRow.shortTexts.isNone) = true := by kernel_rfl
theorem none_q24 : (Tryz.prog.stopsHeard) = true := by kernel_rfl
theorem none_q25 : (Tryz.prog.mayEnter) = true := by kernel_rfl
theorem none_q26 : (Rows.popOfNothingRow.lifted == Tryz.prog.liftsFinal) = true := by kernel_rfl
theorem none_q27 : (Tryz.prog.make == some Rows.popOfNothingRow.make) = true := by kernel_rfl
theorem none_q28 : (Rows.popOfNothingRow.kinds == (if Rows.popOfNothingRow.domain.isEmpty then [] else Tryz.f7.params.toList.map fun t => match Tryz.prog.underlying t with | some (.int k) => some k | _ => none)) = true := by kernel_rfl
theorem none_q29 : (Rows.popOfNothingRow.pinned == Rows.popOfNothingRow.pinnedBy) = true := by kernel_rfl
theorem none_q30 : (Rows.popOfNothingRow.veiled == (Tryz.f7.params.toList ++ Rows.popOfNothingSpec.plain.varTypes Tryz.prog ++ Tryz.f7.resultTypes.toList).any (Tryz.prog.veiledRec ·)) = true := by kernel_rfl
theorem none_q31 : (Rows.popOfNothingRow.veiledFits Tryz.prog Tryz.f7.params.toList (Tryz.f7.params.toList ++ Rows.popOfNothingSpec.plain.varTypes Tryz.prog ++ Tryz.f7.resultTypes.toList)) = true := by kernel_rfl
set_option maxRecDepth 100000 in
theorem none_facts : joinedFacts Tryz.prog 7 Tryz.f7 Rows.popOfNothingSpec Rows.popOfNothingRow = true := by
  unfold joinedFacts
  exact (none_and (none_and (none_and (none_and (none_and (none_and (none_and (none_and (none_and (none_and (none_and (none_and (none_and (none_and (none_and (none_and (none_and (none_and (none_and (none_and (none_and (none_and (none_and (none_and (none_and (none_and (none_and (none_and (none_and (none_and (none_and none_q0 none_q1) none_q2) none_q3) none_q4) none_q5) none_q6) none_q7) none_q8) none_q9) none_q10) none_q11) none_q12) none_q13) none_q14) none_q15) none_q16) none_q17) none_q18) none_q19) none_q20) none_q21) none_q22) none_q23) none_q24) none_q25) none_q26) none_q27) none_q28) none_q29) none_q30) none_q31)
end Go.Proofs.YtcoobajkgioflaaGreatDoor
