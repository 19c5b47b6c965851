/- From a closed run of the abstract interpreter to what a call does. -/
import Derived.Test.YtkjpnpninojknaaGreatDoorAbRun
set_option linter.unusedSimpArgs false
set_option linter.unusedVariables false
namespace Go.Proofs.YtkjpnpninojknaaGreatDoor
namespace Ab
section
variable {P : Program} {S : Sums}

/-- No object but the package-level variables, of whose content nothing is known. -/
def jG (n : Nat) : J := fun id => if id < n then some (id, 0, 0) else none
def h0 (k : Nat) : AH := { objs := .nil, next := k }
theorem jG_glob : GlobOk P (jG P.globals.size) := fun g hg => ⟨0, by simp [jG, hg]⟩
theorem jG_rep {n k : Nat} {w : World} (hn : n ≤ k) (hw : n ≤ w.heap.size) : Rep (jG n) (h0 k) w.heap.size w := by
  refine ⟨fun id hi => ?_, fun id ob b o t h1 _ => ?_, fun id id' ob ob' b o t b' o' t' _ h1 => ?_, fun id b o t hl => ?_, Nat.le_refl _⟩
  · have : k ≤ id := hi
    simp [jG]; omega
  · simp [h0, Tr.get] at h1
  · simp [h0, Tr.get] at h1
  · simp only [jG] at hl
    split at hl
    · cases hl; omega
    · cases hl

/-- Is the answer true? -/
def isTrue : Option (AV × AH) → Bool
  | some (.b true, _) => true
  | _ => false
theorem isTrue_spec {r : Option (AV × AH)} (h : isTrue r = true) : ∃ h', r = some (.b true, h') := by
  unfold isTrue at h
  split at h
  · exact ⟨_, rfl⟩
  · cases h

/-- The function has a body: a use of it enters. -/
theorem Invokes.calls {f : FuncId} {args : Array Value} {w : World} {R : Ending → World → Prop} (h : Invokes P f args w R) {fn : Func} {c : Code} (hf : P.funcs[f]? = some fn) (hb : fn.body = some c) (hn : (fn.name == "runtime.NumGoroutine") = false) : Calls P f args w R := by
  rcases h with ⟨_, h⟩ | ⟨x, w', h, _⟩
  · exact h
  · rw [callFunc_enter hf hb hn] at h; cases h

def entersB (P : Program) (f : FuncId) : Bool := match P.funcs[f]? with
  | some fn => fn.body.isSome && !(fn.name == "runtime.NumGoroutine")
  | none => false
theorem Invokes.calls' {f : FuncId} {args : Array Value} {w : World} {R : Ending → World → Prop} (h : Invokes P f args w R) (he : entersB P f = true) : Calls P f args w R := by
  unfold entersB at he
  split at he
  · rename_i fn hf
    simp only [Bool.and_eq_true, Bool.not_eq_true'] at he
    obtain ⟨c, hc⟩ := Option.isSome_iff_exists.1 he.1
    exact h.calls hf hc he.2
  · cases he

/-- A law's closed run that answers true. -/
theorem closed_true (hmix : P.follows .mixedOrders = true) (hfp : fitsP P = true) (hsum : SumsOk P S) {n k : Nat} {f : FuncId} {as : List AV} {xs : List Value} {w : World}
    (hev : isTrue (evF P S n f as (h0 k)) = true) (he : entersB P f = true) (hk : P.globals.size ≤ k) (hw : P.globals.size ≤ w.heap.size) (hx : VRs (jG P.globals.size) as xs) :
    Calls P f ⟨xs⟩ w fun e w' => e = .returned (.bool true) ∧ RowKit.Below w.heap.size w w' := by
  obtain ⟨h', hev'⟩ := isTrue_spec hev
  refine ((evF_sound hmix hfp hsum hev' (jG_rep hk hw) jG_glob hx).calls' he).mono fun e w' hA => ?_
  obtain ⟨x, j', rfl, hv, _, _, _, hb⟩ := hA
  simp only [VR] at hv; subst hv
  exact ⟨rfl, hb⟩

theorem sums_none : SumsOk P (fun _ => none) := fun f g as h v h' j B w xs hS => by cases hS

/-- A function of no arguments whose closed run answers true and that touches nothing: a summary. -/
def knownG : List AV → AH → Option (AV × AH)
  | [], h => some (.b true, h)
  | _ :: _, _ => none
def knownS (f : FuncId) : Sums := fun g => bif Nat.beq g f then some knownG else none
theorem sums_known (hmix : P.follows .mixedOrders = true) (hfp : fitsP P = true) {n : Nat} {f : FuncId}
    (hev : isTrue (evF P (fun _ => none) n f [] (h0 P.globals.size)) = true) (he : entersB P f = true) : SumsOk P (knownS f) := by
  intro g s as h v h' j B w xs hS hs hr hg hx
  unfold knownS at hS
  obtain ⟨hgf, hS⟩ := bif_none hS
  rw [nat_beq] at hgf
  have hgf' := of_decide_eq_true hgf
  cases hS
  subst hgf'
  cases as with
  | cons _ _ => cases hs
  | nil =>
    cases hs
    simp only [VRs] at hx; subst hx
    have hw : P.globals.size ≤ w.heap.size := by
      cases hz : P.globals.size with
      | zero => omega
      | succ m =>
        obtain ⟨t, ht⟩ := hg m (by omega)
        have := hr.lt _ _ _ _ ht
        omega
    obtain ⟨h1, hev'⟩ := isTrue_spec hev
    have := evF_sound hmix hfp sums_none (xs := []) (as := []) hev' (jG_rep (Nat.le_refl _) hw) jG_glob (by simp [VRs])
    refine .inl ⟨?_, (this.calls' he).mono fun e w' hA => ?_⟩
    · rcases this with ⟨h, _⟩ | ⟨x, w', h, _⟩
      · exact h
      · unfold entersB at he
        split at he
        · rename_i fn hf
          simp only [Bool.and_eq_true, Bool.not_eq_true'] at he
          obtain ⟨c, hc⟩ := Option.isSome_iff_exists.1 he.1
          rw [callFunc_enter hf hc he.2] at h; cases h
        · cases he
    · obtain ⟨x, j', rfl, hv, _, _, _, hb⟩ := hA
      simp only [VR] at hv; subst hv
      refine ⟨.bool true, j, rfl, by simp [VR], ?_, J.ext_refl _ _, Nat.le_refl _, hb.mono hr.base⟩
      refine ⟨hr.fresh, fun id ob b o t q1 q2 => (hr.objs id ob b o t q1 q2).keep (J.le_refl j) (hb.block b (hr.lt id b o t q2)), hr.sep, fun id b o t hl => ?_, ?_⟩
      · exact Nat.lt_of_lt_of_le (hr.lt id b o t hl) hb.size
      · exact Nat.le_trans hr.base hb.size

/-- Whole numbers of a kind lie between its bounds. -/
theorem wf_i64 {n : Int} (h : (Lit.int .i64 n).wf = true) : -9223372036854775808 ≤ n ∧ n ≤ 9223372036854775807 := by
  simp only [Lit.wf, Bool.and_eq_true, decide_eq_true_eq] at h
  obtain ⟨h1, h2⟩ := h
  have e1 : IntKind.i64.min = -9223372036854775808 := by decide
  have e2 : IntKind.i64.max = 9223372036854775807 := by decide
  omega
end
end Ab
end Go.Proofs.YtkjpnpninojknaaGreatDoor
