/- A buffer of whatever bytes, as a summary. -/
import Derived.Test.YtcoobajkgioflaaGreatDoorAbExt
import Derived.Lib.MakeNoZero
set_option linter.unusedSimpArgs false
set_option linter.unusedVariables false
namespace Go.Proofs.YtcoobajkgioflaaGreatDoor
namespace Ab
section
variable {P : Program}
open Go.Extern.BytealgMakeNoZero

theorem digits_int : ∀ (n t : Nat) (acc : Array Value), (∀ (i : Nat) (v : Value), acc[i]? = some v → ∃ m, v = .int .u8 m) → ∀ (i : Nat) (v : Value), (digits n t acc)[i]? = some v → ∃ m, v = .int .u8 m
  | 0, t, acc, h, i, v, hv => h i v hv
  | n + 1, t, acc, h, i, v, hv => by
    rw [digits] at hv
    refine digits_int n (t / 256) _ (fun k u hu => ?_) i v hv
    rw [Array.getElem?_push] at hu
    split at hu
    · cases hu; exact ⟨_, rfl⟩
    · exact h k u hu

theorem run_mnz (w : World) (ps : Array TypeId) (t e : TypeId) (ht : P.underlying t = some (.slice e)) (n : Nat) (hn : n ≤ 281474976710656) :
    ∃ (cs : Array Value) (w' : World), (makeNoZero ps #[t] #[.int .i64 n]).run P w = .ok (.slice (some ⟨w.heap.size, 0, none⟩) n cs.size) w' ∧ w'.heap = w.heap.push (.cells cs e) ∧ w'.os = w.os ∧ w'.tape = w.tape ∧ w'.output = w.output ∧ n ≤ cs.size ∧
      ∀ (i : Nat) (v : Value), cs[i]? = some v → ∃ m, v = .int .u8 m := by
  have hdef : makeNoZero ps #[t] #[.int .i64 n] =
      (do
        let .slice elem ← underlying t | stuck "bytealg.MakeNoZero: slice type expected"
        if (n : Int) < 0 || (n : Int) > 2 ^ 48 then runtimePanic (.error "makeslice: len out of range")
        let cap ← choose (.appendCap (n : Int).toNat 0 elem)
        askRoom cap
        let bytes ← choose (.extern "internal/bytealg.MakeNoZero.bytes" 0)
        let a ← newRow elem (digits cap bytes #[])
        pure (.slice (some a) (n : Int).toNat cap)) := rfl
  refine ⟨digits (grownCap w n 0 e) ((Question.extern "internal/bytealg.MakeNoZero.bytes" 0).cut (w.tape (w.drawn + 1) (.extern "internal/bytealg.MakeNoZero.bytes" 0))) #[], w.drew.drew.alloc (.cells (digits (grownCap w n 0 e) ((Question.extern "internal/bytealg.MakeNoZero.bytes" 0).cut (w.tape (w.drawn + 1) (.extern "internal/bytealg.MakeNoZero.bytes" 0))) #[]) e), ?_, rfl, rfl, rfl, rfl, ?_, ?_⟩
  · rw [hdef]
    have h1 : ¬ (n : Int) < 0 := by omega
    have h2 : ¬ (281474976710656 : Int) < (n : Int) := by omega
    simp [run_underlying ht, h1, h2, Question.forced, newRow, Lib.size_digits, grownCap]
  · rw [Lib.size_digits]
    simpa using grownCap_ge w n 0 e
  · exact digits_int _ _ _ (fun i v hv => by simp at hv)

def anys : Nat → List AV
  | 0 => []
  | n + 1 => .any :: anys n
theorem anys_length : ∀ n, (anys n).length = n
  | 0 => rfl
  | n + 1 => by simp [anys, anys_length n]
theorem anys_get : ∀ {n i : Nat} {v : AV}, (anys n)[i]? = some v → v = .any
  | 0, i, v, h => by simp [anys] at h
  | n + 1, 0, v, h => by simp [anys] at h; exact h.symm
  | n + 1, i + 1, v, h => anys_get (n := n) (i := i) (by simpa [anys] using h)
theorem anys_one (n : Nat) : allOne (anys n) = true := allOne_of fun i v hv => by rw [anys_get hv]; rfl

def mnzG (e : Nat) : List AV → AH → Option (AV × AH)
  | [.i .i64 n], h => bif Nat.ble n.toNat 1000000 then (if n < 0 then none else some (.sl (some (h.next, 0)) n.toNat none 1, h.add (.row false (anys n.toNat)) (some e))) else none
  | _, _ => none
theorem nat_mnz {f : FuncId} {ps : Array TypeId} {t e : TypeId} (h : externB P f "internal/bytealg.MakeNoZero" = true) (ht : P.underlying t = some (.slice e)) (he : ∀ fn, P.funcs[f]? = some fn → Extern.find fn = some (makeNoZero ps #[t])) (T : Toks) : NatOk P T f (mnzG e) := by
  intro xs m v m' j B w vs hs hT hr hg hx
  unfold mnzG at hs
  split at hs
  · rename_i n
    obtain ⟨hn, hs⟩ := bif_none hs
    rw [nat_ble] at hn
    have hn' := of_decide_eq_true hn
    obtain ⟨h0, hs⟩ := ite_none' hs
    cases hs
    obtain ⟨k, rfl⟩ := Int.eq_ofNat_of_zero_le (show 0 ≤ n by omega)
    simp only [VRs] at hx
    obtain ⟨v0, r0, rfl, h1, rfl⟩ := hx
    simp only [VR] at h1; subst h1
    simp only [Int.toNat_natCast] at hn' ⊢
    obtain ⟨cs, w', hrun, q1, q2, q3, q4, q5, q6⟩ := run_mnz (P := P) w ps t e ht k (by omega)
    refine .inr ⟨_, w', extern_run h he hrun, _, j.put m.next (w.heap.size, 0, cs.size), rfl, ?_, ?_, J.put_ext (Nat.le_refl _), Nat.le_succ _, ⟨q2, q3, q4, by rw [q1]; simp, fun q hq => by
      have := hr.base
      rw [q1, Array.getElem?_push, if_neg (by omega)]⟩⟩
    · simp only [VR]
      exact ⟨_, _, rfl, q5, fun c' hc' => (by cases hc'), .inr ⟨_, _, _, J.put_self _ _ _, rfl, fun _ => by omega⟩⟩
    · refine (hr.addDead _ (some e)).born (hr.fresh _ (Nat.le_refl _)) (show m.next < (m.add _ _).next from Nat.lt_succ_self _) (ob := .row false (anys k)) (by simp [AH.add, Tr.get_set]) q1 (fun e2 he2 => by simp only [AH.add, Tr.get_set, if_true, Option.some.injEq] at he2; subst he2; exact ⟨_, _, rfl⟩) ?_
      refine row_born hr.base q1 (anys_one k) rfl (by rw [anys_length]; exact q5) (fun i v hv => ?_) (.inl rfl)
      have := anys_get hv
      subst this
      have hi : i < k := by
        have := (List.getElem?_eq_some_iff.1 hv).1
        rwa [anys_length] at this
      have hlt : i < cs.size := by omega
      obtain ⟨m0, hm0⟩ := q6 i cs[i] (by simp [hlt])
      refine ⟨cs[i], by simp [hlt], ?_⟩
      rw [hm0]
      simp only [VR]
      exact ⟨rfl, fun b hb => by cases hb⟩
  · cases hs
end
end Ab
end Go.Proofs.YtcoobajkgioflaaGreatDoor
