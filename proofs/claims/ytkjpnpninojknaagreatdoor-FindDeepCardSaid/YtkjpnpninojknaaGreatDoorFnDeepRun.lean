/- letterboxlaw18.FindDeep: the closed runs: each depth, with brackets and without; and what comes of arguments out of bounds. -/
import Derived.Test.YtkjpnpninojknaaGreatDoorFnExt
namespace Go.Proofs.YtkjpnpninojknaaGreatDoor
open Ab
/-- The run over all depths. -/
noncomputable def deepAt (b : Bool) : Bool := (List.range 9).all fun i => isTrue (evF Tryz.prog sums18 3000 6 [.i .i64 i, .b b] (h0 8))
theorem deep_true : deepAt true = true := by kernel_rfl
theorem deep_false : deepAt false = true := by kernel_rfl
theorem deep_lo (b : Bool) : isTrue (evF Tryz.prog sums18 3000 6 [.r .i64 (-9223372036854775808) (-1), .b b] (h0 8)) = true := by cases b <;> kernel_rfl
theorem deep_hi (b : Bool) : isTrue (evF Tryz.prog sums18 3000 6 [.r .i64 9 9223372036854775807, .b b] (h0 8)) = true := by cases b <;> kernel_rfl
theorem deep_enters : entersB Tryz.prog 6 = true := by kernel_rfl
end Go.Proofs.YtkjpnpninojknaaGreatDoor
