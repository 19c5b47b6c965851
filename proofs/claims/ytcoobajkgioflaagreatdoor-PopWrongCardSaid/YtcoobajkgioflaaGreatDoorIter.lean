/-
  DERIVED: THE SHELF's CONTRACTS AT THIS DUMP, IN PLAIN WORDS (tools/lay-plain.mjs out of 'YtcoobajkgioflaaGreatDoorIter.lean', which tools/lay-shelf.mjs wrote): THE SAME DECLARATIONS UNDER THE SAME YtcoobajkgioflaaGreatDoorS: 'import', 'namespace', 'open', 'def', 'theorem' AND NOTHING ELSE: no command of the shelf's: FOR A HAND-IN. Each laying: the table of numbers ('.._ren') and one theorem, a field a fact of the dump's own or the kernel's comparison; each contract: ONE APPLICATION.
-/
import Derived.Shelf.SlGeneric
import Derived.Shelf.SlIter.Nil
import Derived.Shelf.SortM.Plain
import Derived.Shelf.SortM.SortNone
import Derived.Ground.GgzProg
import Derived.Ground.SlgmProg
import Derived.Test.YtcoobajkgioflaaGreatDoorProg
namespace Go.Proofs
open Go.Shelf
def Tryz.keys267_ren : Go.Shelf.Ren := ⟨fun | 7 => 267 | 10 => 305 | n => n, fun | 23 => 105 | 26 => 9 | 3 => 254 | 28 => 313 | 0 => 0 | 27 => 312 | 33 => 59 | 4 => 4 | n => n, fun | n => n⟩
theorem Tryz.keys267 : Go.Proofs.SlLaysZ.n7 Tryz.prog Tryz.keys267_ren := {
  mixed := by kernel_rfl
  f7 := ⟨Tryz.f267.name, by decide, Tryz.func267.trans (congrArg some (by kernel_rfl))⟩
  f10 := ⟨Tryz.f305.name, by decide, Tryz.func305.trans (congrArg some (by kernel_rfl))⟩
  t0 := Tryz.underlying0
  a0 := Tryz.isAgg0
  z0 := Tryz.sizeOf0
  v0 := Tryz.zeroValue0
  t4 := Tryz.underlying4
  a4 := Tryz.isAgg4
  z4 := Tryz.sizeOf4
  v4 := Tryz.zeroValue4
  t23 := Tryz.underlying105
  a23 := Tryz.isAgg105
  z23 := Tryz.sizeOf105
  v23 := Tryz.zeroValue105
  t26 := Tryz.underlying9
  a26 := Tryz.isAgg9
  z26 := Tryz.sizeOf9
  v26 := Tryz.zeroValue9
  t27 := Tryz.underlying312
  a27 := Tryz.isAgg312
  z27 := Tryz.sizeOf312
  v27 := Tryz.zeroValue312
  t28 := Tryz.underlying313
  a28 := Tryz.isAgg313
  z28 := Tryz.sizeOf313
  v28 := Tryz.zeroValue313
  t33 := Tryz.underlying59
  a33 := Tryz.isAgg59
  z33 := Tryz.sizeOf59
  v33 := Tryz.zeroValue59 }
def Tryz.sorted266_ren : Go.Shelf.Ren := ⟨fun | 6 => 266 | 8 => 304 | 9 => 247 | 11 => 336 | 13 => 243 | 12 => 284 | 23 => 281 | 24 => 282 | 14 => 312 | 15 => 313 | 16 => 314 | 17 => 315 | 18 => 316 | 19 => 317 | 20 => 318 | 21 => 319 | 22 => 320 | 25 => 338 | 26 => 307 | 27 => 308 | 28 => 339 | 29 => 340 | 30 => 341 | 31 => 352 | n => n, fun | 26 => 9 | 28 => 313 | 24 => 43 | 0 => 0 | 3 => 3 | 37 => 240 | 48 => 252 | 50 => 239 | 4 => 4 | 40 => 319 | 39 => 318 | 45 => 57 | 5 => 5 | 9 => 9 | 51 => 343 | 55 => 233 | 57 => 371 | 58 => 77 | 33 => 59 | n => n, fun | n => n⟩
theorem Tryz.sorted266 : Go.Proofs.SlLaysZ.n6 Tryz.prog Tryz.sorted266_ren := {
  mixed := by kernel_rfl
  f6 := ⟨Tryz.f266.name, by decide, Tryz.func266.trans (congrArg some (by kernel_rfl))⟩
  f8 := ⟨Tryz.f304.name, by decide, Tryz.func304.trans (congrArg some (by kernel_rfl))⟩
  f11 := ⟨Tryz.f336.name, by decide, Tryz.func336.trans (congrArg some (by kernel_rfl))⟩
  t0 := Tryz.underlying0
  a0 := Tryz.isAgg0
  z0 := Tryz.sizeOf0
  v0 := Tryz.zeroValue0
  t24 := Tryz.underlying43
  a24 := Tryz.isAgg43
  z24 := Tryz.sizeOf43
  v24 := Tryz.zeroValue43
  t26 := Tryz.underlying9
  a26 := Tryz.isAgg9
  z26 := Tryz.sizeOf9
  v26 := Tryz.zeroValue9
  t28 := Tryz.underlying313
  a28 := Tryz.isAgg313
  z28 := Tryz.sizeOf313
  v28 := Tryz.zeroValue313
  i26 := by kernel_rfl }
def Tryz.sort247_ren : Go.Shelf.Ren := ⟨fun | 6 => 247 | 8 => 243 | 9 => 284 | 19 => 281 | 20 => 282 | 21 => 312 | 22 => 313 | 23 => 314 | 24 => 315 | 25 => 316 | 26 => 317 | 27 => 318 | 28 => 319 | 29 => 320 | 36 => 338 | 31 => 307 | 32 => 308 | 37 => 339 | 38 => 340 | 39 => 341 | 41 => 352 | n => n, fun | 27 => 43 | 29 => 9 | 3 => 3 | 32 => 240 | 26 => 43 | 0 => 0 | 44 => 252 | 46 => 239 | 4 => 4 | 36 => 319 | 35 => 318 | 41 => 57 | 5 => 5 | 9 => 9 | 53 => 343 | 57 => 233 | 63 => 371 | 64 => 77 | n => n, fun | n => n⟩
theorem Tryz.sort247 : Go.Proofs.SlLaysM.n6 Tryz.prog Tryz.sort247_ren := {
  mixed := by kernel_rfl
  f6 := ⟨Tryz.f247.name, by decide, Tryz.func247.trans (congrArg some (by kernel_rfl))⟩
  f8 := Tryz.func243.trans (congrArg some (by kernel_rfl))
  f9 := ⟨Tryz.f284.name, by decide, Tryz.func284.trans (congrArg some (by kernel_rfl))⟩
  f19 := Tryz.func281.trans (congrArg some (by kernel_rfl))
  f20 := Tryz.func282.trans (congrArg some (by kernel_rfl))
  f21 := ⟨Tryz.f312.name, by decide, Tryz.func312.trans (congrArg some (by kernel_rfl))⟩
  f22 := ⟨Tryz.f313.name, by decide, Tryz.func313.trans (congrArg some (by kernel_rfl))⟩
  f23 := ⟨Tryz.f314.name, by decide, Tryz.func314.trans (congrArg some (by kernel_rfl))⟩
  f24 := ⟨Tryz.f315.name, by decide, Tryz.func315.trans (congrArg some (by kernel_rfl))⟩
  f25 := ⟨Tryz.f316.name, by decide, Tryz.func316.trans (congrArg some (by kernel_rfl))⟩
  f26 := ⟨Tryz.f317.name, by decide, Tryz.func317.trans (congrArg some (by kernel_rfl))⟩
  f27 := ⟨Tryz.f318.name, by decide, Tryz.func318.trans (congrArg some (by kernel_rfl))⟩
  f28 := ⟨Tryz.f319.name, by decide, Tryz.func319.trans (congrArg some (by kernel_rfl))⟩
  f29 := ⟨Tryz.f320.name, by decide, Tryz.func320.trans (congrArg some (by kernel_rfl))⟩
  f31 := Tryz.func307.trans (congrArg some (by kernel_rfl))
  f32 := Tryz.func308.trans (congrArg some (by kernel_rfl))
  f36 := ⟨Tryz.f338.name, by decide, Tryz.func338.trans (congrArg some (by kernel_rfl))⟩
  f37 := ⟨Tryz.f339.name, by decide, Tryz.func339.trans (congrArg some (by kernel_rfl))⟩
  f38 := ⟨Tryz.f340.name, by decide, Tryz.func340.trans (congrArg some (by kernel_rfl))⟩
  f39 := ⟨Tryz.f341.name, by decide, Tryz.func341.trans (congrArg some (by kernel_rfl))⟩
  f41 := ⟨Tryz.f352.name, by decide, Tryz.func352.trans (congrArg some (by kernel_rfl))⟩
  t0 := Tryz.underlying0
  a0 := Tryz.isAgg0
  z0 := Tryz.sizeOf0
  v0 := Tryz.zeroValue0
  t3 := Tryz.underlying3
  a3 := Tryz.isAgg3
  z3 := Tryz.sizeOf3
  v3 := Tryz.zeroValue3
  t4 := Tryz.underlying4
  a4 := Tryz.isAgg4
  z4 := Tryz.sizeOf4
  v4 := Tryz.zeroValue4
  t5 := Tryz.underlying5
  a5 := Tryz.isAgg5
  z5 := Tryz.sizeOf5
  v5 := Tryz.zeroValue5
  t9 := Tryz.underlying9
  a9 := Tryz.isAgg9
  z9 := Tryz.sizeOf9
  v9 := Tryz.zeroValue9
  t26 := Tryz.underlying43
  a26 := Tryz.isAgg43
  z26 := Tryz.sizeOf43
  v26 := Tryz.zeroValue43
  t27 := Tryz.underlying43
  a27 := Tryz.isAgg43
  z27 := Tryz.sizeOf43
  v27 := Tryz.zeroValue43
  t29 := Tryz.underlying9
  a29 := Tryz.isAgg9
  z29 := Tryz.sizeOf9
  v29 := Tryz.zeroValue9
  t32 := Tryz.underlying240
  a32 := Tryz.isAgg240
  z32 := Tryz.sizeOf240
  v32 := Tryz.zeroValue240
  t35 := Tryz.underlying318
  a35 := Tryz.isAgg318
  z35 := Tryz.sizeOf318
  v35 := Tryz.zeroValue318
  t36 := Tryz.underlying319
  a36 := Tryz.isAgg319
  z36 := Tryz.sizeOf319
  v36 := Tryz.zeroValue319
  t41 := Tryz.underlying57
  a41 := Tryz.isAgg57
  z41 := Tryz.sizeOf57
  v41 := Tryz.zeroValue57
  t44 := Tryz.underlying252
  a44 := Tryz.isAgg252
  z44 := Tryz.sizeOf252
  v44 := Tryz.zeroValue252
  t46 := Tryz.underlying239
  a46 := Tryz.isAgg239
  z46 := Tryz.sizeOf239
  v46 := Tryz.zeroValue239
  t53 := Tryz.underlying343
  a53 := Tryz.isAgg343
  z53 := Tryz.sizeOf343
  v53 := Tryz.zeroValue343
  t57 := Tryz.underlying233
  a57 := Tryz.isAgg233
  z57 := Tryz.sizeOf233
  v57 := Tryz.zeroValue233
  t63 := Tryz.underlying371
  a63 := Tryz.isAgg371
  z63 := Tryz.sizeOf371
  v63 := Tryz.zeroValue371
  t64 := Tryz.underlying77
  a64 := Tryz.isAgg77
  z64 := Tryz.sizeOf77
  v64 := Tryz.zeroValue77 }
end Go.Proofs
