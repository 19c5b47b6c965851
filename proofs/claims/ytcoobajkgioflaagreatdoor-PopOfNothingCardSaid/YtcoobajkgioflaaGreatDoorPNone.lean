/- letterboxlaw16.PopOfNothing: for every input the law returns true: the row and its tied card. -/
import Derived.Test.YtcoobajkgioflaaGreatDoorPNoneA
import Derived.Test.YtcoobajkgioflaaGreatDoorPNoneF
import Derived.Test.YtcoobajkgioflaaGreatDoorTie
import Derived.Test.YtcoobajkgioflaaGreatDoorPCom
import Derived.Test.YtcoobajkgioflaaGreatDoorPNoneG
namespace Go.Proofs.YtcoobajkgioflaaGreatDoor
open Go.ChangeShapes Go.WideShapes Go.ChangeAt Go.RowKit
open Ab

theorem none_holds : Rows.PopOfNothingSaid :=
  OpenClaim.holds_of_wide 7 Tryz.f7 rfl rfl rfl rfl rfl rfl rfl ⟨rfl, rfl, rfl, rfl, rfl⟩ rfl rfl rfl rfl rfl none_named Tryz.func7 none_facts
    (of_decide_eq_true (by kernel_rfl)) (by unfold Func.isWrapper; rw [if_neg (of_decide_eq_false (by kernel_rfl))]; exact ⟨rfl, rfl⟩)
    (fun os started H enc _ => none_lifted os started H enc)

theorem none_card : Rows.PopOfNothingCardSaid :=
  Claim7.holds_tied_plain_at .later [] [.data, .data, .data, .data, .sentinel, .sentinel, .pinned] true (true, "72eec47be9786b762d369c9e09f3c491a6e4afa7ec6ceeb96251264e01232477") true
    none_holds (fun _ h => by cases h) none_text (fun _ h => by cases h) popOfNothing_row_tie rfl ⟨rfl, rfl⟩ com_main rfl
    (fun f fn hf hfn => by
      obtain rfl : f = 7 := Option.some.inj (none_named.symm.trans hf) |>.symm
      obtain rfl : fn = Tryz.f7 := (Option.some.inj (Tryz.func7.symm.trans hfn)).symm
      exact ⟨com_looks, fun j t ht => by
        rw [Tryz.params7] at ht
        have h3 : t = 34 := by
          rcases j with _ | j
          · simpa using ht.symm
          · simp at ht
        subst h3
        exact com_stand34⟩)
    none_goes
#print axioms none_card
end Go.Proofs.YtcoobajkgioflaaGreatDoor
