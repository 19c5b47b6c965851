/- letterboxlaw16.PopWrong: the runs: a pass that is looked at; one that is too long; the right one. -/
import Derived.Test.YtcoobajkgioflaaGreatDoorWrongNat
namespace Go.Proofs.YtcoobajkgioflaaGreatDoor
open Ab
theorem wrong_runK (val : Vals) (wds : Wds) : isTrue (evK Tryz.prog (blobS Tryz.prog natsWrong bWrong val wds) 3000 8 [.x 1] (h0 8)) = true := by kernel_rfl
theorem long_runK (val : Vals) (wds : Wds) : isTrue (evK Tryz.prog (blobS Tryz.prog natsLong bLong val wds) 3000 8 [.x 1] (h0 8)) = true := by kernel_rfl
theorem right_runK : isTrue (evK Tryz.prog sums16 3000 8 [.s [112]] (h0 8)) = true := by kernel_rfl
theorem wrong_enters : entersB Tryz.prog 8 = true := by kernel_rfl
end Go.Proofs.YtcoobajkgioflaaGreatDoor
