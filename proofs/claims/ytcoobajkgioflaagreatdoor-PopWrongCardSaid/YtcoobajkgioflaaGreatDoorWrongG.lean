/- letterboxlaw16: closed facts of the row popWrong, each by itself. -/
import Derived.Test.YtcoobajkgioflaaGreatDoorCards
import Derived.KernelRfl
import Derived.ProofKit
namespace Go.Proofs.YtcoobajkgioflaaGreatDoor
open Go.ChangeShapes Go.WideShapes Go.ChangeAt Go.RowKit
theorem wrong_text : Rows.popWrongRow.wfByText (OpenSpec.ofChange Rows.popWrongSpec) = true := by kernel_rfl
theorem wrong_goes : false = Rows.popWrongRow.goesBy Tryz.pinned.checked.prog := by kernel_rfl
end Go.Proofs.YtcoobajkgioflaaGreatDoor
