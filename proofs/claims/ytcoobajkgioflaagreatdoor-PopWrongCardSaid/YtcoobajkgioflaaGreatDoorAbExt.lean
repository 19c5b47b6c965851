/- Summaries of functions that the model does in place. -/
import Derived.Test.YtcoobajkgioflaaGreatDoorAbLaw
import Derived.Lib.Bytealg
set_option linter.unusedSimpArgs false
set_option linter.unusedVariables false
namespace Go.Proofs.YtcoobajkgioflaaGreatDoor
namespace Ab
section
variable {P : Program}

/-- A function without a body that the model does in place. -/
def externB (P : Program) (f : FuncId) (name : String) : Bool := match P.funcs[f]? with
  | some fn => fn.body.isNone && !(fn.name == "runtime.NumGoroutine") && (fn.name == name) && (Extern.findNext fn).isNone
  | none => false
theorem extern_run {f : FuncId} {name : String} (h : externB P f name = true) {e : Array Value → Sem Value} (he : ∀ fn, P.funcs[f]? = some fn → Extern.find fn = some e) {args : Array Value} {w w' : World} {x : Value} (hr : (e args).run P w = .ok x w') :
    (callFunc f args).run P w = .ok (.value x) w' := by
  unfold externB at h
  split at h
  · rename_i fn hf
    simp only [Bool.and_eq_true, Bool.not_eq_true', beq_eq_false_iff_ne, beq_iff_eq, Option.isNone_iff_eq_none] at h
    obtain ⟨⟨⟨h1, h2⟩, h3⟩, h4⟩ := h
    have := he fn hf
    simp [callFunc, hf, h1, h2, h4, this, hr]
  · cases h

def idxB : List UInt8 → UInt8 → Nat → Int
  | [], _, _ => -1
  | b :: l, c, i => bif b == c then Int.ofNat i else idxB l c (Nat.succ i)
theorem idxB_eq : ∀ (l : List UInt8) (c : UInt8) (i : Nat), idxB l c i = if Lib.indexByte l c = -1 then -1 else Lib.indexByte l c + i
  | [], c, i => by simp [idxB, Lib.indexByte]
  | b :: l, c, i => by
    have ih := idxB_eq l c (i + 1)
    have hg := Lib.indexByte_ge l c
    have e : Lib.indexByte (b :: l) c = if (b == c) = true then 0 else if (Lib.indexByte l c == -1) = true then -1 else Lib.indexByte l c + 1 := rfl
    have e2 : idxB (b :: l) c i = bif b == c then Int.ofNat i else idxB l c (i + 1) := rfl
    by_cases hb : (b == c) = true
    · rw [if_pos hb] at e
      rw [e, e2, hb]; simp
    · rw [if_neg hb] at e
      have hb' : (b == c) = false := by simpa using hb
      rw [e2, hb', cond_false, ih]
      by_cases h : Lib.indexByte l c = -1
      · rw [if_pos (by simpa using h)] at e
        rw [if_pos h, e]; simp
      · rw [if_neg (by simpa using h)] at e
        rw [if_neg h, e]
        have : ¬ Lib.indexByte l c + 1 = -1 := by omega
        rw [if_neg this]; push_cast; omega
def indexByteG : List AV → AH → Option (AV × AH)
  | [.s l, .i .u8 c], h => some (.i .i64 (idxB l c.toNat.toUInt8 0), h)
  | _, _ => none
theorem nat_indexByte {f : FuncId} (h : externB P f "internal/bytealg.IndexByteString" = true) (he : ∀ fn, P.funcs[f]? = some fn → Extern.find fn = some Extern.BytealgIndexByte.indexByte) (T : Toks) : NatOk P T f indexByteG := by
  intro xs m v m' j B w vs hs hT hr hg hx
  unfold indexByteG at hs
  split at hs
  · cases hs
    simp only [VRs] at hx
    obtain ⟨v0, r0, rfl, h1, v1, r1, rfl, h2, rfl⟩ := hx
    simp only [VR] at h1 h2; subst h1; subst h2
    have hrun := Lib.run_indexByteString (P := P) ⟨⟨‹List UInt8›⟩⟩ ‹Int› w
    refine .inr ⟨_, w, extern_run h he hrun, _, j, rfl, ?_, hr, J.ext_refl _ _, Nat.le_refl _, RowKit.Below.refl _ _⟩
    simp only [VR]
    rw [idxB_eq]
    congr 1
    split
    · rename_i heq; exact heq
    · simp
  · cases hs
end
end Ab
end Go.Proofs.YtcoobajkgioflaaGreatDoor
