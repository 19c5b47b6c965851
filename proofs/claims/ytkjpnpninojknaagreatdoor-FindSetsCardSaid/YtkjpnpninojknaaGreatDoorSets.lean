/- letterboxlaw18.FindSets: for every input the law returns true (the runs of YtkjpnpninojknaaGreatDoorSetsRun.lean, by the abstract interpreter's soundness): the row and its tied card. -/
import Derived.Test.YtkjpnpninojknaaGreatDoorFnLaid
import Derived.Test.YtkjpnpninojknaaGreatDoorSetsAll
import Derived.Test.YtkjpnpninojknaaGreatDoorCards
import Derived.Test.YtkjpnpninojknaaGreatDoorTie
import Derived.Carry
namespace Go.Proofs.YtkjpnpninojknaaGreatDoor
open Go.ChangeShapes Go.WideShapes Go.ChangeAt Go.RowKit
open Ab

/-- The law returns true, and writes nothing that was there. -/
theorem sets_walk (p u a b : Int) (w : World) (hp : (Lit.int .i64 p).wf = true) (hu : (Lit.int .i64 u).wf = true) (ha : (Lit.int .i64 a).wf = true) (hb : (Lit.int .i64 b).wf = true) (hw : 8 ≤ w.heap.size) :
    Calls Tryz.prog 7 #[.int .i64 p, .int .i64 u, .int .i64 a, .int .i64 b] w fun e w' => e = .returned (.bool true) ∧ Below w.heap.size w w' := by
  obtain ⟨p1, p2⟩ := wf_i64 hp
  obtain ⟨u1, u2⟩ := wf_i64 hu
  obtain ⟨a1, a2⟩ := wf_i64 ha
  obtain ⟨b1, b2⟩ := wf_i64 hb
  have run : ∀ (x y z t : AV), isTrue (evF Tryz.prog (natS []) 3000 7 [x, y, z, t] (h0 8)) = true → VR (jG Tryz.prog.globals.size (natS []) noToks_wf) x (.int .i64 p) → VR (jG Tryz.prog.globals.size (natS []) noToks_wf) y (.int .i64 u) →
      VR (jG Tryz.prog.globals.size (natS []) noToks_wf) z (.int .i64 a) → VR (jG Tryz.prog.globals.size (natS []) noToks_wf) t (.int .i64 b) →
      Calls Tryz.prog 7 #[.int .i64 p, .int .i64 u, .int .i64 a, .int .i64 b] w fun e w' => e = .returned (.bool true) ∧ Below w.heap.size w w' := by
    intro x y z t h hx hy hz ht
    exact closed_true mix fit (natS_ops []) natS_none h sets_enters (by rw [gsize]; exact Nat.le_refl _) (by rw [gsize]; exact hw) (by simp only [VRs]; exact ⟨_, _, rfl, hx, _, _, rfl, hy, _, _, rfl, hz, _, _, rfl, ht, rfl⟩)
  by_cases q1 : p ≤ 0
  · exact run _ _ _ _ sets_p_lo (by simp only [VR]; exact ⟨p, rfl, by omega, by omega⟩) (by simp only [VR]; exact ⟨u, rfl, by omega, by omega⟩) (by simp only [VR]; exact ⟨a, rfl, by omega, by omega⟩) (by simp only [VR]; exact ⟨b, rfl, by omega, by omega⟩)
  by_cases q2 : 100 ≤ p
  · exact run _ _ _ _ sets_p_hi (by simp only [VR]; exact ⟨p, rfl, by omega, by omega⟩) (by simp only [VR]; exact ⟨u, rfl, by omega, by omega⟩) (by simp only [VR]; exact ⟨a, rfl, by omega, by omega⟩) (by simp only [VR]; exact ⟨b, rfl, by omega, by omega⟩)
  by_cases q3 : u ≤ 0
  · exact run _ _ _ _ sets_u_lo (by simp only [VR]; exact ⟨p, rfl, by omega, by omega⟩) (by simp only [VR]; exact ⟨u, rfl, by omega, by omega⟩) (by simp only [VR]; exact ⟨a, rfl, by omega, by omega⟩) (by simp only [VR]; exact ⟨b, rfl, by omega, by omega⟩)
  by_cases q4 : 100 ≤ u
  · exact run _ _ _ _ sets_u_hi (by simp only [VR]; exact ⟨p, rfl, by omega, by omega⟩) (by simp only [VR]; exact ⟨u, rfl, by omega, by omega⟩) (by simp only [VR]; exact ⟨a, rfl, by omega, by omega⟩) (by simp only [VR]; exact ⟨b, rfl, by omega, by omega⟩)
  by_cases q5 : a ≤ 0
  · exact run _ _ _ _ sets_a_lo (by simp only [VR]; exact ⟨p, rfl, by omega, by omega⟩) (by simp only [VR]; exact ⟨u, rfl, by omega, by omega⟩) (by simp only [VR]; exact ⟨a, rfl, by omega, by omega⟩) (by simp only [VR]; exact ⟨b, rfl, by omega, by omega⟩)
  by_cases q6 : 100 ≤ a
  · exact run _ _ _ _ sets_a_hi (by simp only [VR]; exact ⟨p, rfl, by omega, by omega⟩) (by simp only [VR]; exact ⟨u, rfl, by omega, by omega⟩) (by simp only [VR]; exact ⟨a, rfl, by omega, by omega⟩) (by simp only [VR]; exact ⟨b, rfl, by omega, by omega⟩)
  by_cases q7 : b ≤ 0
  · exact run _ _ _ _ sets_b_lo (by simp only [VR]; exact ⟨p, rfl, by omega, by omega⟩) (by simp only [VR]; exact ⟨u, rfl, by omega, by omega⟩) (by simp only [VR]; exact ⟨a, rfl, by omega, by omega⟩) (by simp only [VR]; exact ⟨b, rfl, by omega, by omega⟩)
  by_cases q8 : 100 ≤ b
  · exact run _ _ _ _ sets_b_hi (by simp only [VR]; exact ⟨p, rfl, by omega, by omega⟩) (by simp only [VR]; exact ⟨u, rfl, by omega, by omega⟩) (by simp only [VR]; exact ⟨a, rfl, by omega, by omega⟩) (by simp only [VR]; exact ⟨b, rfl, by omega, by omega⟩)
  obtain ⟨P, rfl⟩ := Int.eq_ofNat_of_zero_le (show 0 ≤ p by omega)
  obtain ⟨U, rfl⟩ := Int.eq_ofNat_of_zero_le (show 0 ≤ u by omega)
  obtain ⟨A, rfl⟩ := Int.eq_ofNat_of_zero_le (show 0 ≤ a by omega)
  obtain ⟨B, rfl⟩ := Int.eq_ofNat_of_zero_le (show 0 ≤ b by omega)
  have hA : 1 ≤ A ∧ A ≤ 99 := by omega
  have hB : 1 ≤ B ∧ B ≤ 99 := by omega
  have hO : OpsOk Tryz.prog (setsS (valSets P U A B) (digits A) (digits B) (decide (Nat.min A B ≤ P)) (decide (P ≤ Nat.max A B)) (decide (Nat.min A B ≤ U)) (decide (U ≤ Nat.max A B))) :=
    tab_ops (sets_tab (by omega) (by omega) hA hB) (fun q hq => by
      rw [List.mem_singleton] at hq; subst hq
      exact ⟨setOf A B, rfl, sets_row hA.2 hB.2⟩)
  have hS : SumsOk Tryz.prog (setsS (valSets P U A B) (digits A) (digits B) (decide (Nat.min A B ≤ P)) (decide (P ≤ Nat.max A B)) (decide (Nat.min A B ≤ U)) (decide (U ≤ Nat.max A B))) := by
    refine sums_of rfl fun x hx => ?_
    simp only [List.mem_cons, List.not_mem_nil, or_false] at hx
    rcases hx with rfl | rfl | rfl | rfl
    · exact known_nat _
    · exact index_sets hA hB
    · exact num_nat hA hB
    · exact number_nat hA hB
  have mm : Nat.min A B ≤ Nat.max A B := Nat.le_trans (Nat.min_le_left _ _) (Nat.le_max_left _ _)
  have two : ∀ n : Nat, decide (Nat.min A B ≤ n) = true ∨ decide (n ≤ Nat.max A B) = true := fun n => by
    rw [decide_eq_true_eq, decide_eq_true_eq]; omega
  have dd : ∀ n : Nat, digits n = 1 ∨ digits n = 2 := fun n => by rcases digits_cases (n := n) with h | h <;> omega
  refine closed_true mix fit hO hS (sets_run (dd A) (dd B) (two P) (two U)) sets_enters (by rw [gsize]; exact Nat.le_refl _) (by rw [gsize]; exact hw) ?_
  simp only [VRs]
  exact ⟨_, _, rfl, ⟨_, rfl, rfl⟩, _, _, rfl, ⟨_, rfl, rfl⟩, _, _, rfl, ⟨_, rfl, rfl⟩, _, _, rfl, ⟨_, rfl, rfl⟩, rfl⟩

theorem own18 : ownKnob Tryz.prog.godebug = none := by kernel_rfl

set_option maxRecDepth 100000 in
theorem sets_lifted (os : Os) (started : os.Started) (H : Type) (enc : TypeId × Value → H) :
    ReturnsInHanded {} Tryz.checked os 7 .any (fun w args => (Rows.findSetsSpec.pre enc Tryz.prog Tryz.f7 [] false w args ∧ laidMetH Tryz.prog Rows.findSetsRow.laid w) ∧ sizedMet enc Tryz.prog Tryz.f7 (OpenSpec.ofChange Rows.findSetsSpec) false w args)
      (Rows.findSetsSpec.post enc Tryz.prog Tryz.f7 false true false false) := by
  refine returnsInHanded_of_change_and (C := Tryz.checked) (X := fun w _ => laidMetH Tryz.prog Rows.findSetsRow.laid w) (fun _ _ _ hh h => h.of_heap hh) own18 started (by kernel_rfl) Tryz.func7
    (ChangeSpec.witness_at (enc := enc) (C := Tryz.checked) (os := os) (X := fun w _ => laidMetH Tryz.prog Rows.findSetsRow.laid w) false (laidWorld os) #[.int .i64 0, .int .i64 0, .int .i64 0, .int .i64 0] 8 rfl (by kernel_rfl) (by kernel_rfl) (by kernel_rfl) (by kernel_rfl) (by kernel_rfl) (laidWorld_met os _)) ?_
  intro W base args ds gs before hval0 hW _ _ hL _
  have hval : ∀ (j : Nat) t v, Tryz.f7.params[j]? = some t → args[j]? = some v → Value.okWide Tryz.prog W .any base t v := hval0
  have hW' := hW
  obtain ⟨p, q, hA0, hV0, rfl, hfz, hnd⟩ := hW
  have hA : DataW.TrodAll enc Tryz.prog W 0 (fun _ => true) true Tryz.f7.params.toList args.toList ds p := hA0
  have hV : DataW.TrodVars enc Tryz.prog W (fun _ => true) [] gs q := hV0
  rw [Tryz.params7] at hA hval
  obtain ⟨v0, v1, v2, v3, d0, d1, d2, d3, p0, p1, p2, p3, rfl, rfl, rfl, h0, h1, h2, h3⟩ := trodAll_four hA
  obtain ⟨p, rfl, rfl, rfl, wp⟩ := open_int Tryz.underlying3 (hval 0 3 v0 rfl rfl) h0
  obtain ⟨u, rfl, rfl, rfl, wu⟩ := open_int Tryz.underlying3 (hval 1 3 v1 rfl rfl) h1
  obtain ⟨a, rfl, rfl, rfl, wa⟩ := open_int Tryz.underlying3 (hval 2 3 v2 rfl rfl) h2
  obtain ⟨b, rfl, rfl, rfl, wb⟩ := open_int Tryz.underlying3 (hval 3 3 v3 rfl rfl) h3
  obtain ⟨rfl, rfl⟩ := trodVars_none hV
  have hsz : 8 ≤ W.heap.size := size_of_laid hL
  refine (sets_walk p u a b W wp wu wa wb hsz).mono fun e W' ⟨he, bel⟩ => ?_
  subst he
  exact ⟨_, rfl, _, _, _, [], _, [], hW', trodAll_mk1 (shut_bool Tryz.underlying4 _), trodAll_mk4 (shut_int Tryz.underlying3 wp) (shut_int Tryz.underlying3 wu) (shut_int Tryz.underlying3 wa) (shut_int Tryz.underlying3 wb), rfl, bel.frame _, fun h => by cases h⟩

theorem sets_holds : Rows.FindSetsSaid :=
  OpenClaim.holds_of_wide 7 Tryz.f7 rfl rfl rfl rfl rfl rfl rfl ⟨rfl, rfl, rfl, rfl, rfl⟩ rfl rfl rfl rfl rfl (by kernel_rfl) Tryz.func7 (by kernel_rfl)
    (of_decide_eq_true (by kernel_rfl)) (by unfold Func.isWrapper; rw [if_neg (of_decide_eq_false (by kernel_rfl))]; exact ⟨rfl, rfl⟩)
    (fun os started H enc _ => sets_lifted os started H enc)

theorem sets_card : Rows.FindSetsCardSaid :=
  Claim7.holds_tied_plain_at .later [] [.data, .data, .data, .data, .sentinel, .sentinel, .pinned] true (true, "434b770075fa2e4cd3f28f7a7b07f3fa97b002315fd4ee1e853ac1ec5933de24") true
    sets_holds (fun _ h => by cases h) (by kernel_rfl) (fun _ h => by cases h) findSets_row_tie rfl ⟨rfl, rfl⟩ (by kernel_rfl) rfl
    (fun f fn hf hfn => by
      obtain rfl : f = 7 := Option.some.inj ((show Tryz.prog.funcNamed "letterbox/letterboxlaw18.FindSets" = some 7 by kernel_rfl).symm.trans hf) |>.symm
      obtain rfl : fn = Tryz.f7 := (Option.some.inj (Tryz.func7.symm.trans hfn)).symm
      exact ⟨by kernel_rfl, fun j t ht => by
        rw [Tryz.params7] at ht
        have h3 : t = 3 := by
          rcases j with _ | _ | _ | _ | j
          · simpa using ht.symm
          · simpa using ht.symm
          · simpa using ht.symm
          · simpa using ht.symm
          · simp at ht
        subst h3
        exact (show Tryz.prog.wantsStandIn 3 = false by kernel_rfl)⟩)
    (by kernel_rfl)
#print axioms sets_card
end Go.Proofs.YtkjpnpninojknaaGreatDoor
