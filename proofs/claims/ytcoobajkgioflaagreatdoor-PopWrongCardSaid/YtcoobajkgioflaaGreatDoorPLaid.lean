/- letterboxlaw16: a world in which the listed variables lie as listed; what the condition gives. -/
import Derived.Test.YtcoobajkgioflaaGreatDoorRows
import Derived.Test.YtcoobajkgioflaaGreatDoorPBase
import Derived.Deep.DeepLaidRun
import Derived.LaidHandle
import Derived.ProofKit
namespace Go.Proofs.YtcoobajkgioflaaGreatDoor
open Go.RowKit
theorem laidMet_of_H {P : Program} {l : List (String × DataW Unit)} {w : World} (h : laidMetH P l w) (hn : (l.filter fun x => x.2.handleName?.isSome).isEmpty = true) : laidMet P l w := by
  unfold laidMetH at h
  split at h
  · exact h
  · rename_i heq
    rw [heq] at hn; cases hn
theorem laidVars_mem {P : Program} {w : World} : ∀ {l : List (String × DataW Unit)} {ps : List MemPlace}, DataW.LaidVars P w l ps → ∀ x ∈ l, ∃ g cs, P.globalNamed x.1 = some g ∧ w.var? P x.1 = some cs
  | [], _, _, x, hx => by cases hx
  | (n, d) :: r, ps, h, x, hx => by
    obtain ⟨g, t, cs, fuel, p, q, h1, h2, h3, h4, h5, h6⟩ := h
    rcases List.mem_cons.1 hx with rfl | hx
    · exact ⟨g, cs, h1, h3⟩
    · exact laidVars_mem h5 x hx
theorem size_of_var {P : Program} {w : World} {n : String} {g : Nat} {cs : Array Value} (hg : P.globalNamed n = some g) (h : w.var? P n = some cs) : g < w.heap.size := by
  simp only [World.var?, hg, Option.bind_some] at h
  split at h
  · rename_i hh; exact (Array.getElem?_eq_some_iff.1 hh).1
  · cases h

/-- The list that the seven rows share. -/
noncomputable def laid16 : List (String × DataW Unit) := Rows.popOfNothingRow.laid
theorem last_global : Tryz.prog.globalNamed "math/bits.deBruijn64tab" = some 7 := by kernel_rfl
theorem size_of_laid {W : World} (h : laidMetH Tryz.prog laid16 W) : 8 ≤ W.heap.size := by
  obtain ⟨ps, hl, _⟩ := laidMet_of_H h (by kernel_rfl)
  obtain ⟨g, cs, h1, h2⟩ := laidVars_mem hl ("math/bits.deBruijn64tab", Rows.laid_math_bits_deBruijn64tab) (by unfold laid16 Rows.popOfNothingRow; simp)
  exact size_of_var last_global h2

/-- The cells of plain numbers. -/
noncomputable def cellsIn : Nat → DataW Unit → List Value
  | _, .lit (.int k n) => [.int k n]
  | fuel + 1, .agg ps => ps.flatMap (cellsIn fuel)
  | _, _ => []
noncomputable def low : Nat := (World.holding Tryz.prog default ⟨#[], #[], []⟩).heap.size
noncomputable def layAt (g : Nat) (cs : List Value) (h : Array Obj) : Array Obj := h.modify g fun
  | .cells _ t frozen => .cells ⟨cs⟩ t frozen
  | o => o
/-- A world in which the listed variables lie as listed. -/
noncomputable def laidWorld (os : Os) : World :=
  let w0 := World.holding Tryz.prog os ⟨#[.cells #[.string ⟨⟨[105, 110, 118, 97, 108, 105, 100, 32, 115, 121, 110, 116, 97, 120]⟩⟩] 378, .cells #[.string ⟨⟨[118, 97, 108, 117, 101, 32, 111, 117, 116, 32, 111, 102, 32, 114, 97, 110, 103, 101]⟩⟩] 378], #[], []⟩
  { w0 with heap := layAt 4 [.iface 376 (.pointer (some ⟨low, 0, none⟩))] (layAt 5 [.iface 376 (.pointer (some ⟨low + 1, 0, none⟩))] (layAt 1 (cellsIn 3 Rows.laid_unicode_utf8_first) (layAt 2 (cellsIn 3 Rows.laid_unicode_utf8_acceptRanges)
      (layAt 3 (cellsIn 3 Rows.laid_internal_strconv_uint64pow10) (layAt 6 (cellsIn 3 Rows.laid_math_bits_deBruijn32tab) (layAt 7 (cellsIn 3 Rows.laid_math_bits_deBruijn64tab) w0.heap)))))) }
theorem laidWorld_met (os : Os) (args : Array Value) : laidMetH Tryz.prog laid16 ((laidWorld os).forCall (fun _ _ => 0) ⟨#[], args, []⟩).memory :=
  laidMetH_of_parts (laidMet_of_run3 8 (by kernel_rfl) (by kernel_rfl) (by kernel_rfl)) (by kernel_rfl)
theorem laidOut : laidOutB Tryz.prog = true := by kernel_rfl
theorem own16 : ownKnob Tryz.prog.godebug = none := by kernel_rfl
end Go.Proofs.YtcoobajkgioflaaGreatDoor
