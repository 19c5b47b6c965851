/- The closed facts of the row popWrong. Written by facts.py. -/
import Derived.Test.YtcoobajkgioflaaGreatDoorPBase
import Derived.Test.YtcoobajkgioflaaGreatDoorCards
import Derived.KernelRfl
import Derived.ProofKit
import Derived.JoinedOf
namespace Go.Proofs.YtcoobajkgioflaaGreatDoor
open Go.ChangeShapes Go.WideShapes Go.ChangeAt Go.RowKit
theorem wrong_and {a b : Bool} (h : a = true) (g : b = true) : (a && b) = true := by rw [h, g]; rfl
theorem wrong_q0 : (Rows.popWrongRow.wf (OpenSpec.ofChange Rows.popWrongSpec)) = true := by kernel_rfl
theorem wrong_q1 : (laidOutB Tryz.prog) = true := by kernel_rfl
theorem wrong_q2 : (mapsRowed Tryz.prog) = true := by kernel_rfl
theorem wrong_q3 : (Tryz.f8.params.all (Tryz.prog.readableRec ·)) = true := by kernel_rfl
theorem wrong_q4 : (namedTie Tryz.prog Rows.popWrongRow.named Rows.popWrongSpec.vars) = true := by kernel_rfl
theorem wrong_q5 : (Rows.popWrongRow.stops == []) = true := by kernel_rfl
theorem wrong_q6 : (Tryz.prog.stops == []) = true := by kernel_rfl
theorem wrong_q7 : (Rows.popWrongRow.knobs == []) = true := by kernel_rfl
theorem wrong_q8 : (Tryz.prog.stopKnobs == []) = true := by kernel_rfl
theorem wrong_q9 : (Rows.popWrongRow.inPlace == Tryz.prog.inPlace 8) = true := by kernel_rfl
theorem wrong_q10 : (Rows.popWrongRow.unfollowed == Tryz.prog.unfollowed 8) = true := by kernel_rfl
theorem wrong_q11 : (Rows.popWrongRow.recurses == Tryz.prog.recurses 8) = true := by kernel_rfl
theorem wrong_q12 : (Rows.popWrongRow.named == Tryz.prog.varsNamed 8) = true := by kernel_rfl
theorem wrong_q13 : (Rows.popWrongRow.maps == (Tryz.f8.params.toList ++ Rows.popWrongSpec.plain.varTypes Tryz.prog).any (Tryz.prog.mapsRec ·)) = true := by kernel_rfl
theorem wrong_q14 : (Rows.popWrongRow.ifaces == (Tryz.f8.params.toList ++ Rows.popWrongSpec.plain.varTypes Tryz.prog).any (Tryz.prog.ifacesRec ·)) = true := by kernel_rfl
theorem wrong_q15 : (Rows.popWrongRow.mapsOut == Tryz.prog.mapsAmong Tryz.f8.resultTypes.toList) = true := by kernel_rfl
theorem wrong_q16 : (Rows.popWrongRow.loops == (Tryz.f8.params.toList ++ Rows.popWrongSpec.plain.varTypes Tryz.prog).any (Tryz.prog.loopsFrom ·)) = true := by kernel_rfl
theorem wrong_q17 : (Rows.popWrongRow.wideKeys == (Tryz.f8.params.toList ++ Rows.popWrongSpec.plain.varTypes Tryz.prog ++ Tryz.f8.resultTypes.toList).any (Tryz.prog.wideKeysFrom ·)) = true := by kernel_rfl
theorem wrong_q18 : (Rows.popWrongSpec.vars.all (Tryz.prog.varReadable ·)) = true := by kernel_rfl
theorem wrong_q19 : (Tryz.f8.resultTypes.all (fun t => Tryz.prog.readableRec t && decide (t < Tryz.prog.types.size))) = true := by kernel_rfl
theorem wrong_q20 : (Rows.popWrongRow.ifacesOut == Tryz.f8.resultTypes.toList.any (Tryz.prog.ifacesRec ·)) = true := by kernel_rfl
theorem wrong_q21 : (Rows.popWrongRow.loopsOut == Tryz.f8.resultTypes.toList.any (Tryz.prog.loopsFrom ·)) = true := by kernel_rfl
theorem wrong_q22 : (Rows.popWrongRow.plainKeys == Tryz.prog.plainKeys) = true := by kernel_rfl
theorem wrong_q23 : (Rows.popWrongRow.shortTexts.isNone) = true := by kernel_rfl
theorem wrong_q24 : (Tryz.prog.stopsHeard) = true := by kernel_rfl
theorem wrong_q25 : (Tryz.prog.mayEnter) = true := by kernel_rfl
theorem wrong_q26 : (Rows.popWrongRow.lifted == Tryz.prog.liftsFinal) = true := by kernel_rfl
theorem wrong_q27 : (Tryz.prog.make == some Rows.popWrongRow.make) = true := by kernel_rfl
theorem wrong_q28 : (Rows.popWrongRow.kinds == (if Rows.popWrongRow.domain.isEmpty then [] else Tryz.f8.params.toList.map fun t => match Tryz.prog.underlying t with | some (.int k) => some k | _ => none)) = true := by kernel_rfl
theorem wrong_q29 : (Rows.popWrongRow.pinned == Rows.popWrongRow.pinnedBy) = true := by kernel_rfl
theorem wrong_q30 : (Rows.popWrongRow.veiled == (Tryz.f8.params.toList ++ Rows.popWrongSpec.plain.varTypes Tryz.prog ++ Tryz.f8.resultTypes.toList).any (Tryz.prog.veiledRec ·)) = true := by kernel_rfl
theorem wrong_q31 : (Rows.popWrongRow.veiledFits Tryz.prog Tryz.f8.params.toList (Tryz.f8.params.toList ++ Rows.popWrongSpec.plain.varTypes Tryz.prog ++ Tryz.f8.resultTypes.toList)) = true := by kernel_rfl
set_option maxRecDepth 100000 in
theorem wrong_facts : joinedFacts Tryz.prog 8 Tryz.f8 Rows.popWrongSpec Rows.popWrongRow = true := by
  unfold joinedFacts
  exact (wrong_and (wrong_and (wrong_and (wrong_and (wrong_and (wrong_and (wrong_and (wrong_and (wrong_and (wrong_and (wrong_and (wrong_and (wrong_and (wrong_and (wrong_and (wrong_and (wrong_and (wrong_and (wrong_and (wrong_and (wrong_and (wrong_and (wrong_and (wrong_and (wrong_and (wrong_and (wrong_and (wrong_and (wrong_and (wrong_and (wrong_and wrong_q0 wrong_q1) wrong_q2) wrong_q3) wrong_q4) wrong_q5) wrong_q6) wrong_q7) wrong_q8) wrong_q9) wrong_q10) wrong_q11) wrong_q12) wrong_q13) wrong_q14) wrong_q15) wrong_q16) wrong_q17) wrong_q18) wrong_q19) wrong_q20) wrong_q21) wrong_q22) wrong_q23) wrong_q24) wrong_q25) wrong_q26) wrong_q27) wrong_q28) wrong_q29) wrong_q30) wrong_q31)
end Go.Proofs.YtcoobajkgioflaaGreatDoor
