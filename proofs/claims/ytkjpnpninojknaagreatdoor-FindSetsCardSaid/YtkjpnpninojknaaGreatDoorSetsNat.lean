/- letterboxlaw18.FindSets: the functions on a number's digits as summaries. -/
import Derived.Test.YtkjpnpninojknaaGreatDoorSetsRun
set_option linter.unusedVariables false
namespace Go.Proofs.YtkjpnpninojknaaGreatDoor
open Ab
theorem num_run {n : Nat} (h1 : 1 ≤ n) (h2 : n ≤ 99) : answers (.s (dig n)) (evF Tryz.prog (natS []) 1000 15 [.i .i64 (Int.ofNat n)] (h0 Tryz.prog.globals.size)) = true := by
  have key : ∀ {k : Nat}, numAt k = true → (n - 1) / 33 = k → answers (.s (dig n)) (evF Tryz.prog (natS []) 1000 15 [.i .i64 (Int.ofNat n)] (h0 Tryz.prog.globals.size)) = true := by
    intro k h hk
    have := List.all_eq_true.1 h ((n - 1) % 33) (List.mem_range.2 (Nat.mod_lt _ (by decide)))
    rwa [show (n - 1) % 33 + 33 * k + 1 = n by omega] at this
  have : (n - 1) / 33 = 0 ∨ (n - 1) / 33 = 1 ∨ (n - 1) / 33 = 2 := by omega
  rcases this with h | h | h
  · exact key num0 h
  · exact key num1 h
  · exact key num2 h
theorem number_run {n : Nat} (h1 : 1 ≤ n) (h2 : n ≤ 99) : answers (.i .i64 (Int.ofNat n)) (evF Tryz.prog (natS []) 1000 101 [.s (dig n)] (h0 Tryz.prog.globals.size)) = true := by
  have key : ∀ {k : Nat}, numberAt k = true → (n - 1) / 11 = k → answers (.i .i64 (Int.ofNat n)) (evF Tryz.prog (natS []) 1000 101 [.s (dig n)] (h0 Tryz.prog.globals.size)) = true := by
    intro k h hk
    have := List.all_eq_true.1 h ((n - 1) % 11) (List.mem_range.2 (Nat.mod_lt _ (by decide)))
    rwa [show (n - 1) % 11 + 11 * k + 1 = n by omega] at this
  have : (n - 1) / 11 = 0 ∨ (n - 1) / 11 = 1 ∨ (n - 1) / 11 = 2 ∨ (n - 1) / 11 = 3 ∨ (n - 1) / 11 = 4 ∨ (n - 1) / 11 = 5 ∨ (n - 1) / 11 = 6 ∨ (n - 1) / 11 = 7 ∨ (n - 1) / 11 = 8 := by omega
  rcases this with h | h | h | h | h | h | h | h | h
  · exact key number0 h
  · exact key number1 h
  · exact key number2 h
  · exact key number3 h
  · exact key number4 h
  · exact key number5 h
  · exact key number6 h
  · exact key number7 h
  · exact key number8 h
theorem num_enters : entersB Tryz.prog 15 = true := by kernel_rfl
theorem number_enters : entersB Tryz.prog 101 = true := by kernel_rfl
theorem sets_enters : entersB Tryz.prog 7 = true := by kernel_rfl
section
variable {p u a b : Nat} (ha : 1 ≤ a ∧ a ≤ 99) (hb : 1 ≤ b ∧ b ≤ 99)
include ha hb
theorem num_nat : NatOk Tryz.prog (tokT (valSets p u a b)) 15 numSets := by
  intro ag h v h' j B w xs hs hT hr hg hx
  have key : ∀ (t r n : Nat), 1 ≤ n → n ≤ 99 → conc (valSets p u a b) (.x t) = .i .i64 n → conc (valSets p u a b) (.x r) = .s (dig n) → ag = [.x t] → v = .x r → h' = h → Invokes Tryz.prog 15 ⟨xs⟩ w (Answers j h B w v h') := by
    intro t r n h1 h2 e1 e2 ea ev eh
    subst ea; subst ev; subst eh
    obtain ⟨h1', hev⟩ := answers_spec (num_run h1 h2)
    have hx' := (VRs_conc hT _ _).2 hx
    simp only [concs, e1] at hx'
    have := closed_any mix fit (natS_ops []) natS_none hev num_enters rfl rfl hr hg hx'
    have mono : ∀ e w', Answers j h' B w (.s (dig n)) h' e w' → Answers j h' B w (.x r) h' e w' := fun e w' ⟨x, j', e1', g1, g2, g3, g4, g5⟩ =>
      ⟨x, j', e1', (VR_conc (g3.tok.trans hT) _ _).1 (by rw [e2]; exact g1), g2, g3, g4, g5⟩
    rcases this with ⟨q1, q2⟩ | ⟨x, w', q1, q2⟩
    · exact .inl ⟨q1, q2.mono mono⟩
    · exact .inr ⟨x, w', q1, mono _ _ q2⟩
  unfold numSets at hs
  split at hs
  · cases hs; exact key 20 10 a ha.1 ha.2 rfl rfl rfl rfl rfl
  · cases hs; exact key 21 11 b hb.1 hb.2 rfl rfl rfl rfl rfl
  · cases hs
theorem number_nat : NatOk Tryz.prog (tokT (valSets p u a b)) 101 numberSets := by
  intro ag h v h' j B w xs hs hT hr hg hx
  have key : ∀ (t r n : Nat), 1 ≤ n → n ≤ 99 → conc (valSets p u a b) (.x t) = .s (dig n) → conc (valSets p u a b) (.x r) = .i .i64 n → ag = [.x t] → v = .x r → h' = h → Invokes Tryz.prog 101 ⟨xs⟩ w (Answers j h B w v h') := by
    intro t r n h1 h2 e1 e2 ea ev eh
    subst ea; subst ev; subst eh
    obtain ⟨h1', hev⟩ := answers_spec (number_run h1 h2)
    have hx' := (VRs_conc hT _ _).2 hx
    simp only [concs, e1] at hx'
    have := closed_any mix fit (natS_ops []) natS_none hev number_enters rfl rfl hr hg hx'
    have mono : ∀ e w', Answers j h' B w (.i .i64 (Int.ofNat n)) h' e w' → Answers j h' B w (.x r) h' e w' := fun e w' ⟨x, j', e1', g1, g2, g3, g4, g5⟩ =>
      ⟨x, j', e1', (VR_conc (g3.tok.trans hT) _ _).1 (by rw [e2]; exact g1), g2, g3, g4, g5⟩
    rcases this with ⟨q1, q2⟩ | ⟨x, w', q1, q2⟩
    · exact .inl ⟨q1, q2.mono mono⟩
    · exact .inr ⟨x, w', q1, mono _ _ q2⟩
  unfold numberSets at hs
  split at hs
  · cases hs; exact key 10 20 a ha.1 ha.2 rfl rfl rfl rfl rfl
  · cases hs; exact key 11 21 b hb.1 hb.2 rfl rfl rfl rfl rfl
  · cases hs
omit ha hb in
theorem dig_no {c : UInt8} (hc : c.toNat = 44 ∨ c.toNat = 58) (n : Nat) (hn : n ≤ 99) (r : List UInt8) (i : Nat) : idxB (dig n ++ r) c i = idxB r c (i + digits n) := by
  have ne : ∀ k : Nat, k < 10 → (UInt8.ofNat (48 + k) == c) = false := by
    intro k hk
    rw [beq_eq_false_iff_ne]
    intro e
    have := congrArg UInt8.toNat e
    simp [UInt8.toNat_ofNat'] at this
    omega
  unfold dig digits
  split
  · rename_i h
    simp only [List.cons_append, List.nil_append, idxB, ne n h, cond_false, Nat.succ_eq_add_one]
  · rename_i h
    simp only [List.cons_append, List.nil_append, idxB, ne (n / 10) (by omega), ne (n % 10) (by omega), cond_false, Nat.succ_eq_add_one]
theorem index_sets : NatOk Tryz.prog (tokT (valSets p u a b)) 119 (indexSets (digits a)) := by
  refine NatOk.tok (index_nat _) fun ag m v m' hs => ?_
  have h44 : idxB (setOf a b) 44 0 = -1 := by
    rw [setOf, dig_no (.inl rfl) a ha.2]
    have e : idxB (58 :: dig b) 44 (0 + digits a) = idxB (dig b ++ []) 44 (0 + digits a + 1) := by rw [List.append_nil]; rfl
    rw [e, dig_no (.inl rfl) b hb.2]; rfl
  have h58 : idxB (setOf a b) 58 0 = digits a := by
    rw [setOf, dig_no (.inr rfl) a ha.2]
    show Int.ofNat (0 + digits a) = _
    simp
  unfold indexSets at hs
  split at hs
  · cases hs
    show some (AV.i .i64 (idxB (setOf a b) 44 0), m) = _
    rw [h44]; rfl
  · cases hs
    show some (AV.i .i64 (idxB (setOf a b) 58 0), m) = _
    rw [h58]; rfl
  · unfold indexByteG at hs
    split at hs
    · cases hs; rfl
    · cases hs
end
end Go.Proofs.YtkjpnpninojknaaGreatDoor
