/- letterboxlaw16: closed facts of the program that every card leans on, each by itself. -/
import Derived.Test.YtcoobajkgioflaaGreatDoorCards
import Derived.KernelRfl
import Derived.ProofKit
namespace Go.Proofs.YtcoobajkgioflaaGreatDoor
open Go.ChangeShapes Go.WideShapes Go.ChangeAt Go.RowKit
theorem com_main : Tryz.pinned.checked.prog.mainIs = some (true, "72eec47be9786b762d369c9e09f3c491a6e4afa7ec6ceeb96251264e01232477".toList) := by kernel_rfl
theorem com_looks : true = Tryz.pinned.checked.prog.looks [] := by kernel_rfl
theorem com_stand9 : Tryz.prog.wantsStandIn 9 = false := by kernel_rfl
theorem com_stand34 : Tryz.prog.wantsStandIn 34 = false := by kernel_rfl
theorem none_named : Tryz.prog.funcNamed "letterbox/letterboxlaw16.PopOfNothing" = some 7 := by kernel_rfl
theorem wrong_named : Tryz.prog.funcNamed "letterbox/letterboxlaw16.PopWrong" = some 8 := by kernel_rfl
end Go.Proofs.YtcoobajkgioflaaGreatDoor
