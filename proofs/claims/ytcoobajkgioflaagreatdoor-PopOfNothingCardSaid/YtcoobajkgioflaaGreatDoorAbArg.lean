/- What is known of arguments that come from outside. -/
import Derived.Test.YtcoobajkgioflaaGreatDoorAbLaw
import Derived.ProofKit
set_option linter.unusedSimpArgs false
set_option linter.unusedVariables false
namespace Go.Proofs.YtcoobajkgioflaaGreatDoor
namespace Ab
theorem slice_arg {P : Program} {w : World} {r : Reach} {base : Nat} {t e : TypeId} {v : Value} (ht : P.underlying t = some (.slice e)) (h : Value.okWide P w r base t v) :
    ∃ a len cap, v = .slice a len cap ∧ len ≤ 9223372036854775807 := by
  simp only [Value.okWide, ht, Cell.okWide] at h
  cases v with
  | slice a len cap =>
    refine ⟨a, len, cap, rfl, ?_⟩
    cases a with
    | none =>
      simp only [Cell.ok, ht] at h
      split at h <;> first | (exact h.elim) | skip
      all_goals simp_all
    | some a =>
      simp only [Cell.ok, ht] at h
      obtain ⟨h1, h2, _⟩ := h
      have e : IntKind.i64.max = 9223372036854775807 := by decide
      omega
  | _ => simp [Cell.ok, ht] at h
end Ab
end Go.Proofs.YtcoobajkgioflaaGreatDoor
