/- letterboxlaw16: closed facts of the row popOfNothing, each by itself. -/
import Derived.Test.YtcoobajkgioflaaGreatDoorCards
import Derived.KernelRfl
import Derived.ProofKit
namespace Go.Proofs.YtcoobajkgioflaaGreatDoor
open Go.ChangeShapes Go.WideShapes Go.ChangeAt Go.RowKit
theorem none_text : Rows.popOfNothingRow.wfByText (OpenSpec.ofChange Rows.popOfNothingSpec) = true := by kernel_rfl
theorem none_goes : false = Rows.popOfNothingRow.goesBy Tryz.pinned.checked.prog := by kernel_rfl
end Go.Proofs.YtcoobajkgioflaaGreatDoor
