/- letterboxlaw16: what every law of the seven leans on: the functions told ahead; the known run answers true. -/
import Derived.Test.YtcoobajkgioflaaGreatDoorProg
import Derived.KernelRfl
import Derived.Test.YtcoobajkgioflaaGreatDoorAbTok
import Derived.Test.YtcoobajkgioflaaGreatDoorAbExt
import Derived.Test.YtcoobajkgioflaaGreatDoorAbMnz
import Derived.Test.YtcoobajkgioflaaGreatDoorAbSorted
import Derived.Test.YtcoobajkgioflaaGreatDoorAbBld
import Derived.Test.YtcoobajkgioflaaGreatDoorIter
import Derived.Test.YtcoobajkgioflaaGreatDoorSumNat
import Derived.Test.YtcoobajkgioflaaGreatDoorAbFast
namespace Go.Proofs.YtcoobajkgioflaaGreatDoor
open Ab
theorem mix : Tryz.prog.follows .mixedOrders = true := by kernel_rfl
theorem fit : fitsP Tryz.prog = true := by kernel_rfl
theorem gsize : Tryz.prog.globals.size = 8 := by kernel_rfl
theorem find321 : ∀ fn, Tryz.prog.funcs[321]? = some fn → Extern.find fn = some Extern.BytealgIndexByte.indexByte := fun fn hf => by
  obtain rfl : Tryz.f321 = fn := Option.some.inj (Tryz.func321.symm.trans hf)
  kernel_rfl
theorem find283 : ∀ fn, Tryz.prog.funcs[283]? = some fn → Extern.find fn = some (Extern.BytealgMakeNoZero.makeNoZero #[3] #[34]) := fun fn hf => by
  obtain rfl : Tryz.f283 = fn := Option.some.inj (Tryz.func283.symm.trans hf)
  kernel_rfl
theorem find285 : ∀ fn, Tryz.prog.funcs[285]? = some fn → Extern.find fn = some Extern.AbiNoEscape.same := fun fn hf => by
  obtain rfl : Tryz.f285 = fn := Option.some.inj (Tryz.func285.symm.trans hf)
  kernel_rfl
theorem index_nat (T : Toks) : NatOk Tryz.prog T 321 indexByteG := nat_indexByte (by kernel_rfl) find321 T
theorem mnz_nat (T : Toks) : NatOk Tryz.prog T 283 (mnzG 5) := nat_mnz (t := 34) (e := 5) (by kernel_rfl) Tryz.underlying34 find283 T
theorem self_nat (T : Toks) : NatOk Tryz.prog T 285 selfG := nat_noEscape (by kernel_rfl) find285 T
theorem sorts (m : Nat) : AnyZ.SortsIn Tryz.prog Tryz.sorted266_ren Fence.wide m :=
  ⟨fun blk off cap ss W hH hblk hsz => callsIn_wide.2 (AnyM.slices_Sort_string Tryz.sort247 blk off cap ss W hH hblk hsz),
   fun p cap W => callsIn_wide.2 (AnyM.slices_Sort_string_none Tryz.sort247 p cap W)⟩
theorem enters_at {f : FuncId} (h : entersB Tryz.prog f = true) (args : Array Value) (w : World) : (callFunc f args).run Tryz.prog w = .ok (.enter f args) w := by
  unfold entersB at h
  split at h
  · rename_i fn hf
    simp only [Bool.and_eq_true, Bool.not_eq_true'] at h
    obtain ⟨c, hc⟩ := Option.isSome_iff_exists.1 h.1
    exact callFunc_enter hf hc h.2
  · cases h
theorem sorted_nat (T : Toks) : NatOk Tryz.prog T 266 (sortedG 305) :=
  nat_sorted (ρ := Tryz.sorted266_ren) (σ := Tryz.keys267_ren) { Tryz.keys267 with } Tryz.sorted266 sorts (enters_at (f := 247) (by kernel_rfl)) (enters_at (f := 305) (by kernel_rfl)) (enters_at (f := 266) (by kernel_rfl)) Tryz.underlying9 T
/-- The functions that are told ahead. -/
def nats16 : List (FuncId × Nat1) := [(199, octSumG), (211, refSumG), (321, indexByteG), (283, mnzG 5), (266, sortedG 305), (285, selfG)]
theorem nats16_ok (T : Toks) : ∀ x ∈ nats16, NatOk Tryz.prog T x.1 x.2 := fun x hx => by
  simp only [nats16, List.mem_cons, List.not_mem_nil, or_false] at hx
  rcases hx with rfl | rfl | rfl | rfl | rfl | rfl
  · exact oct_sum_nat (enters_at (f := 199) (by kernel_rfl)) T
  · exact ref_sum_nat (enters_at (f := 211) (by kernel_rfl)) T
  · exact index_nat T
  · exact mnz_nat T
  · exact sorted_nat T
  · exact self_nat T
noncomputable def sums16 : Sums := natU Tryz.prog nats16
theorem sums16_ops : OpsOk Tryz.prog sums16 := natU_ops nats16
theorem sums16_ok : SumsOk Tryz.prog sums16 := sums_of rfl (nats16_ok _)
theorem known_runK : isTrue (evK Tryz.prog sums16 3000 16 [] (h0 Tryz.prog.globals.size)) = true := by kernel_rfl
theorem known_run : isTrue (evF Tryz.prog sums16 3000 16 [] (h0 Tryz.prog.globals.size)) = true := by
  rw [← evK_eq]; exact known_runK
theorem known_enters : entersB Tryz.prog 16 = true := by kernel_rfl
/-- 'known' as a summary. -/
theorem known_nat (T : Toks) : NatOk Tryz.prog T 16 knownG := nat_known mix fit sums16_ops sums16_ok known_run known_enters T
end Go.Proofs.YtcoobajkgioflaaGreatDoor
