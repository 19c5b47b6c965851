/- letterboxlaw18: what every law of the six leans on: the known run answers true. -/
import Derived.Test.YtkjpnpninojknaaGreatDoorProg
import Derived.KernelRfl
import Derived.Test.YtkjpnpninojknaaGreatDoorAbLaw
namespace Go.Proofs.YtkjpnpninojknaaGreatDoor
open Ab
theorem mix : Tryz.prog.follows .mixedOrders = true := by kernel_rfl
theorem fit : fitsP Tryz.prog = true := by kernel_rfl
theorem gsize : Tryz.prog.globals.size = 8 := by kernel_rfl
theorem known_run : isTrue (evF Tryz.prog (fun _ => none) 3000 12 [] (h0 Tryz.prog.globals.size)) = true := by kernel_rfl
theorem known_enters : entersB Tryz.prog 12 = true := by kernel_rfl
/-- 'known' as a summary. -/
theorem known_sums : SumsOk Tryz.prog (knownS 12) := sums_known mix fit known_run known_enters
theorem known_calls (w : World) (hw : 8 ≤ w.heap.size) : Calls Tryz.prog 12 #[] w fun e w' => e = .returned (.bool true) ∧ RowKit.Below w.heap.size w w' :=
  closed_true mix fit sums_none known_run known_enters (Nat.le_refl _) (by rw [gsize]; exact hw) (by simp [VRs])
end Go.Proofs.YtkjpnpninojknaaGreatDoor
