/- letterboxlaw16.PopOfNothing: the runs: a line of a length that is looked at, and one of a greater. -/
import Derived.Test.YtcoobajkgioflaaGreatDoorPBase
namespace Go.Proofs.YtcoobajkgioflaaGreatDoor
open Ab
theorem none_shortK : isTrue (evK Tryz.prog sums16 3000 7 [.u 0 500] (h0 8)) = true := by kernel_rfl
theorem none_longK : isTrue (evK Tryz.prog sums16 3000 7 [.u 501 9223372036854775807] (h0 8)) = true := by kernel_rfl
theorem none_short : isTrue (evF Tryz.prog sums16 3000 7 [.u 0 500] (h0 8)) = true := by rw [← evK_eq]; exact none_shortK
theorem none_long : isTrue (evF Tryz.prog sums16 3000 7 [.u 501 9223372036854775807] (h0 8)) = true := by rw [← evK_eq]; exact none_longK
theorem none_enters : entersB Tryz.prog 7 = true := by kernel_rfl
end Go.Proofs.YtcoobajkgioflaaGreatDoor
