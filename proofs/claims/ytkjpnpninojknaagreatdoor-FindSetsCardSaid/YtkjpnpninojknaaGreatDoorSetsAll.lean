/- letterboxlaw18.FindSets: the runs at tokens, all of them. -/
import Derived.Test.YtkjpnpninojknaaGreatDoorSetsNat
namespace Go.Proofs.YtkjpnpninojknaaGreatDoor
open Ab
theorem sets_run_11 (val : Vals) : ∀ (lo hi lo' hi' : Bool), (lo = true ∨ hi = true) → (lo' = true ∨ hi' = true) → isTrue (evF Tryz.prog (setsS val 1 1 lo hi lo' hi') 3000 7 [.x 1, .x 2, .x 20, .x 21] (h0 8)) = true
  | true, true, true, true, _, _ => sets_11_tt_tt val
  | true, true, true, false, _, _ => sets_11_tt_tf val
  | true, true, false, true, _, _ => sets_11_tt_ft val
  | true, false, true, true, _, _ => sets_11_tf_tt val
  | true, false, true, false, _, _ => sets_11_tf_tf val
  | true, false, false, true, _, _ => sets_11_tf_ft val
  | false, true, true, true, _, _ => sets_11_ft_tt val
  | false, true, true, false, _, _ => sets_11_ft_tf val
  | false, true, false, true, _, _ => sets_11_ft_ft val
  | true, true, false, false, _, h => by rcases h with h | h <;> cases h
  | true, false, false, false, _, h => by rcases h with h | h <;> cases h
  | false, true, false, false, _, h => by rcases h with h | h <;> cases h
  | false, false, _, _, h, _ => by rcases h with h | h <;> cases h
theorem sets_run_12 (val : Vals) : ∀ (lo hi lo' hi' : Bool), (lo = true ∨ hi = true) → (lo' = true ∨ hi' = true) → isTrue (evF Tryz.prog (setsS val 1 2 lo hi lo' hi') 3000 7 [.x 1, .x 2, .x 20, .x 21] (h0 8)) = true
  | true, true, true, true, _, _ => sets_12_tt_tt val
  | true, true, true, false, _, _ => sets_12_tt_tf val
  | true, true, false, true, _, _ => sets_12_tt_ft val
  | true, false, true, true, _, _ => sets_12_tf_tt val
  | true, false, true, false, _, _ => sets_12_tf_tf val
  | true, false, false, true, _, _ => sets_12_tf_ft val
  | false, true, true, true, _, _ => sets_12_ft_tt val
  | false, true, true, false, _, _ => sets_12_ft_tf val
  | false, true, false, true, _, _ => sets_12_ft_ft val
  | true, true, false, false, _, h => by rcases h with h | h <;> cases h
  | true, false, false, false, _, h => by rcases h with h | h <;> cases h
  | false, true, false, false, _, h => by rcases h with h | h <;> cases h
  | false, false, _, _, h, _ => by rcases h with h | h <;> cases h
theorem sets_run_21 (val : Vals) : ∀ (lo hi lo' hi' : Bool), (lo = true ∨ hi = true) → (lo' = true ∨ hi' = true) → isTrue (evF Tryz.prog (setsS val 2 1 lo hi lo' hi') 3000 7 [.x 1, .x 2, .x 20, .x 21] (h0 8)) = true
  | true, true, true, true, _, _ => sets_21_tt_tt val
  | true, true, true, false, _, _ => sets_21_tt_tf val
  | true, true, false, true, _, _ => sets_21_tt_ft val
  | true, false, true, true, _, _ => sets_21_tf_tt val
  | true, false, true, false, _, _ => sets_21_tf_tf val
  | true, false, false, true, _, _ => sets_21_tf_ft val
  | false, true, true, true, _, _ => sets_21_ft_tt val
  | false, true, true, false, _, _ => sets_21_ft_tf val
  | false, true, false, true, _, _ => sets_21_ft_ft val
  | true, true, false, false, _, h => by rcases h with h | h <;> cases h
  | true, false, false, false, _, h => by rcases h with h | h <;> cases h
  | false, true, false, false, _, h => by rcases h with h | h <;> cases h
  | false, false, _, _, h, _ => by rcases h with h | h <;> cases h
theorem sets_run_22 (val : Vals) : ∀ (lo hi lo' hi' : Bool), (lo = true ∨ hi = true) → (lo' = true ∨ hi' = true) → isTrue (evF Tryz.prog (setsS val 2 2 lo hi lo' hi') 3000 7 [.x 1, .x 2, .x 20, .x 21] (h0 8)) = true
  | true, true, true, true, _, _ => sets_22_tt_tt val
  | true, true, true, false, _, _ => sets_22_tt_tf val
  | true, true, false, true, _, _ => sets_22_tt_ft val
  | true, false, true, true, _, _ => sets_22_tf_tt val
  | true, false, true, false, _, _ => sets_22_tf_tf val
  | true, false, false, true, _, _ => sets_22_tf_ft val
  | false, true, true, true, _, _ => sets_22_ft_tt val
  | false, true, true, false, _, _ => sets_22_ft_tf val
  | false, true, false, true, _, _ => sets_22_ft_ft val
  | true, true, false, false, _, h => by rcases h with h | h <;> cases h
  | true, false, false, false, _, h => by rcases h with h | h <;> cases h
  | false, true, false, false, _, h => by rcases h with h | h <;> cases h
  | false, false, _, _, h, _ => by rcases h with h | h <;> cases h
/-- Whatever the two numbers' lengths, and wherever the place and the UID stand: true. -/
theorem sets_run {val : Vals} {da db : Nat} {lo hi lo' hi' : Bool} (hda : da = 1 ∨ da = 2) (hdb : db = 1 ∨ db = 2) (h : lo = true ∨ hi = true) (h' : lo' = true ∨ hi' = true) :
    isTrue (evF Tryz.prog (setsS val da db lo hi lo' hi') 3000 7 [.x 1, .x 2, .x 20, .x 21] (h0 8)) = true := by
  rcases hda with rfl | rfl
  · rcases hdb with rfl | rfl
    · exact sets_run_11 val _ _ _ _ h h'
    · exact sets_run_12 val _ _ _ _ h h'
  · rcases hdb with rfl | rfl
    · exact sets_run_21 val _ _ _ _ h h'
    · exact sets_run_22 val _ _ _ _ h h'
end Go.Proofs.YtkjpnpninojknaaGreatDoor
