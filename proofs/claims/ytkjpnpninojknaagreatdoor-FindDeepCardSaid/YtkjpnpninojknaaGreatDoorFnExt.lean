/- letterboxlaw18: the functions that the model does in place, as summaries; with the known run. -/
import Derived.Test.YtkjpnpninojknaaGreatDoorFnBase
import Derived.Test.YtkjpnpninojknaaGreatDoorAbExt
namespace Go.Proofs.YtkjpnpninojknaaGreatDoor
open Ab
theorem find119 : ∀ fn, Tryz.prog.funcs[119]? = some fn → Extern.find fn = some Extern.BytealgIndexByte.indexByte := fun fn hf => by
  obtain rfl : Tryz.f119 = fn := Option.some.inj (Tryz.func119.symm.trans hf)
  kernel_rfl
theorem index_sums : SumsOk Tryz.prog (indexByteS 119) := sums_indexByte (by kernel_rfl) find119
def sums18 : Sums := orS (knownS 12) (indexByteS 119)
theorem sums18_ok : SumsOk Tryz.prog sums18 := known_sums.or index_sums
end Go.Proofs.YtkjpnpninojknaaGreatDoor
