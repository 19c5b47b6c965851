/- letterboxlaw18.FindSets: the runs: at a set's two numbers ag tokens; each number below 100 in digits, and back; and what comes of arguments out of bounds. -/
import Derived.Test.YtkjpnpninojknaaGreatDoorFnBase
import Derived.Test.YtkjpnpninojknaaGreatDoorSetsTab
namespace Go.Proofs.YtkjpnpninojknaaGreatDoor
open Ab
/-- Each number in digits. -/
noncomputable def numAt (k : Nat) : Bool := (List.range 33).all fun i => answers (.s (dig (i + 33 * k + 1))) (evF Tryz.prog (natS []) 1000 15 [.i .i64 (Int.ofNat (i + 33 * k + 1))] (h0 Tryz.prog.globals.size))
theorem num0 : numAt 0 = true := by kernel_rfl
theorem num1 : numAt 1 = true := by kernel_rfl
theorem num2 : numAt 2 = true := by kernel_rfl
/-- Each number out of its digits. -/
noncomputable def numberAt (k : Nat) : Bool := (List.range 11).all fun i => answers (.i .i64 (Int.ofNat (i + 11 * k + 1))) (evF Tryz.prog (natS []) 1000 101 [.s (dig (i + 11 * k + 1))] (h0 Tryz.prog.globals.size))
theorem number0 : numberAt 0 = true := by kernel_rfl
theorem number1 : numberAt 1 = true := by kernel_rfl
theorem number2 : numberAt 2 = true := by kernel_rfl
theorem number3 : numberAt 3 = true := by kernel_rfl
theorem number4 : numberAt 4 = true := by kernel_rfl
theorem number5 : numberAt 5 = true := by kernel_rfl
theorem number6 : numberAt 6 = true := by kernel_rfl
theorem number7 : numberAt 7 = true := by kernel_rfl
theorem number8 : numberAt 8 = true := by kernel_rfl
theorem sets_11_tt_tt (val : Vals) : isTrue (evF Tryz.prog (setsS val 1 1 true true true true) 3000 7 [.x 1, .x 2, .x 20, .x 21] (h0 8)) = true := by kernel_rfl
theorem sets_11_tt_tf (val : Vals) : isTrue (evF Tryz.prog (setsS val 1 1 true true true false) 3000 7 [.x 1, .x 2, .x 20, .x 21] (h0 8)) = true := by kernel_rfl
theorem sets_11_tt_ft (val : Vals) : isTrue (evF Tryz.prog (setsS val 1 1 true true false true) 3000 7 [.x 1, .x 2, .x 20, .x 21] (h0 8)) = true := by kernel_rfl
theorem sets_11_tf_tt (val : Vals) : isTrue (evF Tryz.prog (setsS val 1 1 true false true true) 3000 7 [.x 1, .x 2, .x 20, .x 21] (h0 8)) = true := by kernel_rfl
theorem sets_11_tf_tf (val : Vals) : isTrue (evF Tryz.prog (setsS val 1 1 true false true false) 3000 7 [.x 1, .x 2, .x 20, .x 21] (h0 8)) = true := by kernel_rfl
theorem sets_11_tf_ft (val : Vals) : isTrue (evF Tryz.prog (setsS val 1 1 true false false true) 3000 7 [.x 1, .x 2, .x 20, .x 21] (h0 8)) = true := by kernel_rfl
theorem sets_11_ft_tt (val : Vals) : isTrue (evF Tryz.prog (setsS val 1 1 false true true true) 3000 7 [.x 1, .x 2, .x 20, .x 21] (h0 8)) = true := by kernel_rfl
theorem sets_11_ft_tf (val : Vals) : isTrue (evF Tryz.prog (setsS val 1 1 false true true false) 3000 7 [.x 1, .x 2, .x 20, .x 21] (h0 8)) = true := by kernel_rfl
theorem sets_11_ft_ft (val : Vals) : isTrue (evF Tryz.prog (setsS val 1 1 false true false true) 3000 7 [.x 1, .x 2, .x 20, .x 21] (h0 8)) = true := by kernel_rfl
theorem sets_12_tt_tt (val : Vals) : isTrue (evF Tryz.prog (setsS val 1 2 true true true true) 3000 7 [.x 1, .x 2, .x 20, .x 21] (h0 8)) = true := by kernel_rfl
theorem sets_12_tt_tf (val : Vals) : isTrue (evF Tryz.prog (setsS val 1 2 true true true false) 3000 7 [.x 1, .x 2, .x 20, .x 21] (h0 8)) = true := by kernel_rfl
theorem sets_12_tt_ft (val : Vals) : isTrue (evF Tryz.prog (setsS val 1 2 true true false true) 3000 7 [.x 1, .x 2, .x 20, .x 21] (h0 8)) = true := by kernel_rfl
theorem sets_12_tf_tt (val : Vals) : isTrue (evF Tryz.prog (setsS val 1 2 true false true true) 3000 7 [.x 1, .x 2, .x 20, .x 21] (h0 8)) = true := by kernel_rfl
theorem sets_12_tf_tf (val : Vals) : isTrue (evF Tryz.prog (setsS val 1 2 true false true false) 3000 7 [.x 1, .x 2, .x 20, .x 21] (h0 8)) = true := by kernel_rfl
theorem sets_12_tf_ft (val : Vals) : isTrue (evF Tryz.prog (setsS val 1 2 true false false true) 3000 7 [.x 1, .x 2, .x 20, .x 21] (h0 8)) = true := by kernel_rfl
theorem sets_12_ft_tt (val : Vals) : isTrue (evF Tryz.prog (setsS val 1 2 false true true true) 3000 7 [.x 1, .x 2, .x 20, .x 21] (h0 8)) = true := by kernel_rfl
theorem sets_12_ft_tf (val : Vals) : isTrue (evF Tryz.prog (setsS val 1 2 false true true false) 3000 7 [.x 1, .x 2, .x 20, .x 21] (h0 8)) = true := by kernel_rfl
theorem sets_12_ft_ft (val : Vals) : isTrue (evF Tryz.prog (setsS val 1 2 false true false true) 3000 7 [.x 1, .x 2, .x 20, .x 21] (h0 8)) = true := by kernel_rfl
theorem sets_21_tt_tt (val : Vals) : isTrue (evF Tryz.prog (setsS val 2 1 true true true true) 3000 7 [.x 1, .x 2, .x 20, .x 21] (h0 8)) = true := by kernel_rfl
theorem sets_21_tt_tf (val : Vals) : isTrue (evF Tryz.prog (setsS val 2 1 true true true false) 3000 7 [.x 1, .x 2, .x 20, .x 21] (h0 8)) = true := by kernel_rfl
theorem sets_21_tt_ft (val : Vals) : isTrue (evF Tryz.prog (setsS val 2 1 true true false true) 3000 7 [.x 1, .x 2, .x 20, .x 21] (h0 8)) = true := by kernel_rfl
theorem sets_21_tf_tt (val : Vals) : isTrue (evF Tryz.prog (setsS val 2 1 true false true true) 3000 7 [.x 1, .x 2, .x 20, .x 21] (h0 8)) = true := by kernel_rfl
theorem sets_21_tf_tf (val : Vals) : isTrue (evF Tryz.prog (setsS val 2 1 true false true false) 3000 7 [.x 1, .x 2, .x 20, .x 21] (h0 8)) = true := by kernel_rfl
theorem sets_21_tf_ft (val : Vals) : isTrue (evF Tryz.prog (setsS val 2 1 true false false true) 3000 7 [.x 1, .x 2, .x 20, .x 21] (h0 8)) = true := by kernel_rfl
theorem sets_21_ft_tt (val : Vals) : isTrue (evF Tryz.prog (setsS val 2 1 false true true true) 3000 7 [.x 1, .x 2, .x 20, .x 21] (h0 8)) = true := by kernel_rfl
theorem sets_21_ft_tf (val : Vals) : isTrue (evF Tryz.prog (setsS val 2 1 false true true false) 3000 7 [.x 1, .x 2, .x 20, .x 21] (h0 8)) = true := by kernel_rfl
theorem sets_21_ft_ft (val : Vals) : isTrue (evF Tryz.prog (setsS val 2 1 false true false true) 3000 7 [.x 1, .x 2, .x 20, .x 21] (h0 8)) = true := by kernel_rfl
theorem sets_22_tt_tt (val : Vals) : isTrue (evF Tryz.prog (setsS val 2 2 true true true true) 3000 7 [.x 1, .x 2, .x 20, .x 21] (h0 8)) = true := by kernel_rfl
theorem sets_22_tt_tf (val : Vals) : isTrue (evF Tryz.prog (setsS val 2 2 true true true false) 3000 7 [.x 1, .x 2, .x 20, .x 21] (h0 8)) = true := by kernel_rfl
theorem sets_22_tt_ft (val : Vals) : isTrue (evF Tryz.prog (setsS val 2 2 true true false true) 3000 7 [.x 1, .x 2, .x 20, .x 21] (h0 8)) = true := by kernel_rfl
theorem sets_22_tf_tt (val : Vals) : isTrue (evF Tryz.prog (setsS val 2 2 true false true true) 3000 7 [.x 1, .x 2, .x 20, .x 21] (h0 8)) = true := by kernel_rfl
theorem sets_22_tf_tf (val : Vals) : isTrue (evF Tryz.prog (setsS val 2 2 true false true false) 3000 7 [.x 1, .x 2, .x 20, .x 21] (h0 8)) = true := by kernel_rfl
theorem sets_22_tf_ft (val : Vals) : isTrue (evF Tryz.prog (setsS val 2 2 true false false true) 3000 7 [.x 1, .x 2, .x 20, .x 21] (h0 8)) = true := by kernel_rfl
theorem sets_22_ft_tt (val : Vals) : isTrue (evF Tryz.prog (setsS val 2 2 false true true true) 3000 7 [.x 1, .x 2, .x 20, .x 21] (h0 8)) = true := by kernel_rfl
theorem sets_22_ft_tf (val : Vals) : isTrue (evF Tryz.prog (setsS val 2 2 false true true false) 3000 7 [.x 1, .x 2, .x 20, .x 21] (h0 8)) = true := by kernel_rfl
theorem sets_22_ft_ft (val : Vals) : isTrue (evF Tryz.prog (setsS val 2 2 false true false true) 3000 7 [.x 1, .x 2, .x 20, .x 21] (h0 8)) = true := by kernel_rfl
theorem sets_p_lo : isTrue (evF Tryz.prog (natS []) 3000 7 [.r .i64 (-9223372036854775808) 0, .r .i64 (-9223372036854775808) 9223372036854775807, .r .i64 (-9223372036854775808) 9223372036854775807, .r .i64 (-9223372036854775808) 9223372036854775807] (h0 8)) = true := by kernel_rfl
theorem sets_p_hi : isTrue (evF Tryz.prog (natS []) 3000 7 [.r .i64 100 9223372036854775807, .r .i64 (-9223372036854775808) 9223372036854775807, .r .i64 (-9223372036854775808) 9223372036854775807, .r .i64 (-9223372036854775808) 9223372036854775807] (h0 8)) = true := by kernel_rfl
theorem sets_u_lo : isTrue (evF Tryz.prog (natS []) 3000 7 [.r .i64 1 99, .r .i64 (-9223372036854775808) 0, .r .i64 (-9223372036854775808) 9223372036854775807, .r .i64 (-9223372036854775808) 9223372036854775807] (h0 8)) = true := by kernel_rfl
theorem sets_u_hi : isTrue (evF Tryz.prog (natS []) 3000 7 [.r .i64 1 99, .r .i64 100 9223372036854775807, .r .i64 (-9223372036854775808) 9223372036854775807, .r .i64 (-9223372036854775808) 9223372036854775807] (h0 8)) = true := by kernel_rfl
theorem sets_a_lo : isTrue (evF Tryz.prog (natS []) 3000 7 [.r .i64 1 99, .r .i64 1 99, .r .i64 (-9223372036854775808) 0, .r .i64 (-9223372036854775808) 9223372036854775807] (h0 8)) = true := by kernel_rfl
theorem sets_a_hi : isTrue (evF Tryz.prog (natS []) 3000 7 [.r .i64 1 99, .r .i64 1 99, .r .i64 100 9223372036854775807, .r .i64 (-9223372036854775808) 9223372036854775807] (h0 8)) = true := by kernel_rfl
theorem sets_b_lo : isTrue (evF Tryz.prog (natS []) 3000 7 [.r .i64 1 99, .r .i64 1 99, .r .i64 1 99, .r .i64 (-9223372036854775808) 0] (h0 8)) = true := by kernel_rfl
theorem sets_b_hi : isTrue (evF Tryz.prog (natS []) 3000 7 [.r .i64 1 99, .r .i64 1 99, .r .i64 1 99, .r .i64 100 9223372036854775807] (h0 8)) = true := by kernel_rfl
end Go.Proofs.YtkjpnpninojknaaGreatDoor
