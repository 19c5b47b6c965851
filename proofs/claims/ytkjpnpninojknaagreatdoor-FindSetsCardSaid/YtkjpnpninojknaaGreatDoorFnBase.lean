/- letterboxlaw18: what every law of the six leans on: the known run answers true. -/
import Derived.Test.YtkjpnpninojknaaGreatDoorProg
import Derived.KernelRfl
import Derived.Test.YtkjpnpninojknaaGreatDoorAbTok
import Derived.Test.YtkjpnpninojknaaGreatDoorAbExt
namespace Go.Proofs.YtkjpnpninojknaaGreatDoor
open Ab
theorem mix : Tryz.prog.follows .mixedOrders = true := by kernel_rfl
theorem fit : fitsP Tryz.prog = true := by kernel_rfl
theorem gsize : Tryz.prog.globals.size = 8 := by kernel_rfl
theorem natS_none : SumsOk Tryz.prog (natS []) := fun f g ag m v m' j B w xs h => by cases h
theorem known_run : isTrue (evF Tryz.prog (natS []) 3000 12 [] (h0 Tryz.prog.globals.size)) = true := by kernel_rfl
theorem known_enters : entersB Tryz.prog 12 = true := by kernel_rfl
/-- 'known' ag a summary. -/
theorem known_nat (T : Toks) : NatOk Tryz.prog T 12 knownG := nat_known mix fit (natS_ops []) natS_none known_run known_enters T
theorem find119 : ∀ fn, Tryz.prog.funcs[119]? = some fn → Extern.find fn = some Extern.BytealgIndexByte.indexByte := fun fn hf => by
  obtain rfl : Tryz.f119 = fn := Option.some.inj (Tryz.func119.symm.trans hf)
  kernel_rfl
theorem index_nat (T : Toks) : NatOk Tryz.prog T 119 indexByteG := nat_indexByte (by kernel_rfl) find119 T
end Go.Proofs.YtkjpnpninojknaaGreatDoor
