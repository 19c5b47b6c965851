/- letterboxlaw16.PopWrong: for every input the law returns true: the row and its tied card. -/
import Derived.Test.YtcoobajkgioflaaGreatDoorWrongA
import Derived.Test.YtcoobajkgioflaaGreatDoorWrongF
import Derived.Test.YtcoobajkgioflaaGreatDoorTie
import Derived.Test.YtcoobajkgioflaaGreatDoorPCom
import Derived.Test.YtcoobajkgioflaaGreatDoorWrongG
namespace Go.Proofs.YtcoobajkgioflaaGreatDoor
open Go.ChangeShapes Go.WideShapes Go.ChangeAt Go.RowKit
open Ab

theorem wrong_holds : Rows.PopWrongSaid :=
  OpenClaim.holds_of_wide 8 Tryz.f8 rfl rfl rfl rfl rfl rfl rfl ⟨rfl, rfl, rfl, rfl, rfl⟩ rfl rfl rfl rfl rfl wrong_named Tryz.func8 wrong_facts
    (of_decide_eq_true (by kernel_rfl)) (by unfold Func.isWrapper; rw [if_neg (of_decide_eq_false (by kernel_rfl))]; exact ⟨rfl, rfl⟩)
    (fun os started H enc _ => wrong_lifted os started H enc)

theorem wrong_card : Rows.PopWrongCardSaid :=
  Claim7.holds_tied_plain_at .later [] [.data, .data, .data, .data, .sentinel, .sentinel, .pinned] true (true, "72eec47be9786b762d369c9e09f3c491a6e4afa7ec6ceeb96251264e01232477") true
    wrong_holds (fun _ h => by cases h) wrong_text (fun _ h => by cases h) popWrong_row_tie rfl ⟨rfl, rfl⟩ com_main rfl
    (fun f fn hf hfn => by
      obtain rfl : f = 8 := Option.some.inj (wrong_named.symm.trans hf) |>.symm
      obtain rfl : fn = Tryz.f8 := (Option.some.inj (Tryz.func8.symm.trans hfn)).symm
      exact ⟨com_looks, fun j t ht => by
        rw [Tryz.params8] at ht
        have h3 : t = 9 := by
          rcases j with _ | j
          · simpa using ht.symm
          · simp at ht
        subst h3
        exact com_stand9⟩)
    wrong_goes
#print axioms wrong_card
end Go.Proofs.YtcoobajkgioflaaGreatDoor
