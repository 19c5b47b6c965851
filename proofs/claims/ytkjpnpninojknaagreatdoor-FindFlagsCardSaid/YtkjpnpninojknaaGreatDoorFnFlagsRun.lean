/- letterboxlaw18.FindFlags: the closed runs: each flag's word at each set of flags; and what comes of arguments out of bounds. -/
import Derived.Test.YtkjpnpninojknaaGreatDoorFnBase
namespace Go.Proofs.YtkjpnpninojknaaGreatDoor
open Ab
/-- The runs at one word, over eight sets of flags. -/
noncomputable def flagsAt (k q : Nat) : Bool := (List.range 8).all fun i => isTrue (evF Tryz.prog (knownS 12) 3000 4 [.i .i64 (Int.ofNat (i + 8 * q)), .i .i64 (Int.ofNat k)] (h0 8))
theorem flags00 : flagsAt 0 0 = true := by kernel_rfl
theorem flags01 : flagsAt 0 1 = true := by kernel_rfl
theorem flags02 : flagsAt 0 2 = true := by kernel_rfl
theorem flags03 : flagsAt 0 3 = true := by kernel_rfl
theorem flags10 : flagsAt 1 0 = true := by kernel_rfl
theorem flags11 : flagsAt 1 1 = true := by kernel_rfl
theorem flags12 : flagsAt 1 2 = true := by kernel_rfl
theorem flags13 : flagsAt 1 3 = true := by kernel_rfl
theorem flags20 : flagsAt 2 0 = true := by kernel_rfl
theorem flags21 : flagsAt 2 1 = true := by kernel_rfl
theorem flags22 : flagsAt 2 2 = true := by kernel_rfl
theorem flags23 : flagsAt 2 3 = true := by kernel_rfl
theorem flags30 : flagsAt 3 0 = true := by kernel_rfl
theorem flags31 : flagsAt 3 1 = true := by kernel_rfl
theorem flags32 : flagsAt 3 2 = true := by kernel_rfl
theorem flags33 : flagsAt 3 3 = true := by kernel_rfl
theorem flags40 : flagsAt 4 0 = true := by kernel_rfl
theorem flags41 : flagsAt 4 1 = true := by kernel_rfl
theorem flags42 : flagsAt 4 2 = true := by kernel_rfl
theorem flags43 : flagsAt 4 3 = true := by kernel_rfl
/-- The run at one word and one set of flags. -/
theorem flags_run {n k : Nat} (hn : n < 32) (hk : k < 5) : isTrue (evF Tryz.prog (knownS 12) 3000 4 [.i .i64 (Int.ofNat n), .i .i64 (Int.ofNat k)] (h0 8)) = true := by
  have key : ∀ {k q : Nat}, flagsAt k q = true → n / 8 = q → isTrue (evF Tryz.prog (knownS 12) 3000 4 [.i .i64 (Int.ofNat n), .i .i64 (Int.ofNat k)] (h0 8)) = true := by
    intro k q h hq
    have := List.all_eq_true.1 h (n % 8) (List.mem_range.2 (by omega))
    rw [show n % 8 + 8 * q = n from by omega] at this
    exact this
  have hq : n / 8 = 0 ∨ n / 8 = 1 ∨ n / 8 = 2 ∨ n / 8 = 3 := by omega
  have hk' : k = 0 ∨ k = 1 ∨ k = 2 ∨ k = 3 ∨ k = 4 := by omega
  rcases hk' with rfl | rfl | rfl | rfl | rfl <;> rcases hq with hq | hq | hq | hq
  · exact key flags00 hq
  · exact key flags01 hq
  · exact key flags02 hq
  · exact key flags03 hq
  · exact key flags10 hq
  · exact key flags11 hq
  · exact key flags12 hq
  · exact key flags13 hq
  · exact key flags20 hq
  · exact key flags21 hq
  · exact key flags22 hq
  · exact key flags23 hq
  · exact key flags30 hq
  · exact key flags31 hq
  · exact key flags32 hq
  · exact key flags33 hq
  · exact key flags40 hq
  · exact key flags41 hq
  · exact key flags42 hq
  · exact key flags43 hq
theorem flags_lo : isTrue (evF Tryz.prog (knownS 12) 3000 4 [.r .i64 (-9223372036854775808) (-1), .r .i64 (-9223372036854775808) 9223372036854775807] (h0 8)) = true := by kernel_rfl
theorem flags_hi : isTrue (evF Tryz.prog (knownS 12) 3000 4 [.r .i64 32 9223372036854775807, .r .i64 (-9223372036854775808) 9223372036854775807] (h0 8)) = true := by kernel_rfl
theorem flags_below : isTrue (evF Tryz.prog (knownS 12) 3000 4 [.r .i64 0 31, .r .i64 (-9223372036854775808) (-1)] (h0 8)) = true := by kernel_rfl
theorem flags_above : isTrue (evF Tryz.prog (knownS 12) 3000 4 [.r .i64 0 31, .r .i64 5 9223372036854775807] (h0 8)) = true := by kernel_rfl
theorem flags_enters : entersB Tryz.prog 4 = true := by kernel_rfl
end Go.Proofs.YtkjpnpninojknaaGreatDoor
