/- From a closed run of the abstract interpreter to what a call does. -/
import Derived.Test.YtcoobajkgioflaaGreatDoorAbRun
set_option linter.unusedSimpArgs false
set_option linter.unusedVariables false
namespace Go.Proofs.YtcoobajkgioflaaGreatDoor
namespace Ab
section
variable {P : Program} {S : Sums}

/-- No object but the package-level variables, of whose content nothing is known. -/
def jG (n : Nat) (S : Sums) (hwf : S.tok.wf) : J := { loc := fun id => if id < n then some (id, 0, 0) else none, tok := S.tok, wf := hwf }
def h0 (k : Nat) : AH := { objs := .nil, next := k }
theorem jG_glob {hwf : S.tok.wf} : GlobOk P (jG P.globals.size S hwf) := fun g hg => ⟨0, by simp [jG, hg]⟩
theorem jG_rep {hwf : S.tok.wf} {n k : Nat} {w : World} (hn : n ≤ k) (hw : n ≤ w.heap.size) : Rep (jG n S hwf) (h0 k) w.heap.size w := by
  refine ⟨fun id hi => ?_, fun id ob b o t h1 _ => ?_, fun id id' ob ob' b o t b' o' t' _ h1 => ?_, fun id b o t hl => ?_, Nat.le_refl _, fun id e b o t h1 _ => by simp [h0, Tr.get] at h1⟩
  · have : k ≤ id := hi
    simp [jG]; omega
  · simp [h0, Tr.get] at h1
  · simp [h0, Tr.get] at h1
  · simp only [jG] at hl
    split at hl
    · cases hl; omega
    · cases hl

/-- Is the answer true? -/
def isTrue : Option (AV × AH) → Bool
  | some (.b true, _) => true
  | _ => false
theorem isTrue_spec {r : Option (AV × AH)} (h : isTrue r = true) : ∃ h', r = some (.b true, h') := by
  unfold isTrue at h
  split at h
  · exact ⟨_, rfl⟩
  · cases h

/-- The function has a body: a use of it enters. -/
theorem Invokes.calls {f : FuncId} {args : Array Value} {w : World} {R : Ending → World → Prop} (h : Invokes P f args w R) {fn : Func} {c : Code} (hf : P.funcs[f]? = some fn) (hb : fn.body = some c) (hn : (fn.name == "runtime.NumGoroutine") = false) : Calls P f args w R := by
  rcases h with ⟨_, h⟩ | ⟨x, w', h, _⟩
  · exact h
  · rw [callFunc_enter hf hb hn] at h; cases h

def entersB (P : Program) (f : FuncId) : Bool := match P.funcs[f]? with
  | some fn => fn.body.isSome && !(fn.name == "runtime.NumGoroutine")
  | none => false
theorem Invokes.calls' {f : FuncId} {args : Array Value} {w : World} {R : Ending → World → Prop} (h : Invokes P f args w R) (he : entersB P f = true) : Calls P f args w R := by
  unfold entersB at he
  split at he
  · rename_i fn hf
    simp only [Bool.and_eq_true, Bool.not_eq_true'] at he
    obtain ⟨c, hc⟩ := Option.isSome_iff_exists.1 he.1
    exact h.calls hf hc he.2
  · cases he

/-- A law's closed run that answers true. -/
theorem closed_true (hmix : P.follows .mixedOrders = true) (hfp : fitsP P = true) (hO : OpsOk P S) (hsum : SumsOk P S) {n k : Nat} {f : FuncId} {as : List AV} {xs : List Value} {w : World}
    (hev : isTrue (evF P S n f as (h0 k)) = true) (he : entersB P f = true) (hk : P.globals.size ≤ k) (hw : P.globals.size ≤ w.heap.size) (hx : VRs (jG P.globals.size S hO.wf) as xs) :
    Calls P f ⟨xs⟩ w fun e w' => e = .returned (.bool true) ∧ RowKit.Below w.heap.size w w' := by
  obtain ⟨h', hev'⟩ := isTrue_spec hev
  refine ((evF_sound hmix hfp hO hsum hev' rfl (jG_rep hk hw) jG_glob hx).calls' he).mono fun e w' hA => ?_
  obtain ⟨x, j', rfl, hv, _, _, _, hb⟩ := hA
  simp only [VR] at hv; subst hv
  exact ⟨rfl, hb⟩

abbrev Nat1 := List AV → AH → Option (AV × AH)
/-- A function's summary is true, where tokens stand for what T says. -/
def NatOk (P : Program) (T : Toks) (f : FuncId) (g : Nat1) : Prop :=
  ∀ as h v h' j B w xs, g as h = some (v, h') → j.tok = T → Rep j h B w → GlobOk P j → VRs j as xs → Invokes P f ⟨xs⟩ w (Answers j h B w v h')
def look : List (FuncId × Nat1) → FuncId → Option Nat1
  | [], _ => none
  | (g, n) :: r, f => bif Nat.beq f g then some n else look r f
theorem look_mem : ∀ {l : List (FuncId × Nat1)} {f : FuncId} {n : Nat1}, look l f = some n → (f, n) ∈ l
  | [], f, n, h => by cases h
  | (g, m) :: r, f, n, h => by
    simp only [look, bool_cond] at h
    split at h
    · rename_i hb
      rw [nat_beq] at hb
      have := of_decide_eq_true hb
      cases h; subst this; exact List.mem_cons_self ..
    · exact List.mem_cons_of_mem _ (look_mem h)
/-- Summaries of functions alone: no tokens. -/
def noToks : Toks := ⟨fun _ _ => False, fun _ _ _ => False, fun _ _ _ _ => False⟩
theorem noToks_wf : noToks.wf := ⟨fun _ _ h => h.elim, fun _ _ _ h => h.elim⟩
def natS (l : List (FuncId × Nat1)) : Sums := ⟨look l, fun _ _ => none, fun _ _ _ => none, fun _ _ _ => none, fun _ _ _ => none, noToks⟩
theorem natS_ops (l : List (FuncId × Nat1)) : OpsOk P (natS l) := ⟨noToks_wf, fun _ _ _ _ _ _ h => by simp [natS] at h, fun _ _ _ _ _ _ _ _ _ h => by simp [natS] at h, fun _ _ _ _ _ _ _ _ _ _ h => by simp [natS] at h, fun _ _ _ _ _ _ _ _ _ _ h => by simp [natS] at h⟩
theorem sums_of {S : Sums} {l : List (FuncId × Nat1)} (hl : S.fn = look l) (h : ∀ x ∈ l, NatOk P S.tok x.1 x.2) : SumsOk P S := by
  intro f g as m v m' j B w xs hS hs hT hr hg hx
  rw [hl] at hS
  exact h (f, g) (look_mem hS) as m v m' j B w xs hs hT hr hg hx

/-- A function of no arguments whose closed run answers true and that touches nothing: a summary. -/
def knownG : Nat1
  | [], h => some (.b true, h)
  | _ :: _, _ => none
theorem nat_known (hmix : P.follows .mixedOrders = true) (hfp : fitsP P = true) (hO : OpsOk P S) (hsum : SumsOk P S) {n : Nat} {f : FuncId}
    (hev : isTrue (evF P S n f [] (h0 P.globals.size)) = true) (he : entersB P f = true) (T : Toks) : NatOk P T f knownG := by
  intro as h v h' j B w xs hs hT hr hg hx
  cases as with
  | cons _ _ => cases hs
  | nil =>
    cases hs
    simp only [VRs] at hx; subst hx
    have hw : P.globals.size ≤ w.heap.size := by
      cases hz : P.globals.size with
      | zero => omega
      | succ m =>
        obtain ⟨t, ht⟩ := hg m (by omega)
        have := hr.lt _ _ _ _ ht
        omega
    obtain ⟨h1, hev'⟩ := isTrue_spec hev
    have := evF_sound (j := jG P.globals.size S hO.wf) hmix hfp hO hsum (xs := []) (as := []) hev' rfl (jG_rep (Nat.le_refl _) hw) jG_glob (by simp [VRs])
    refine .inl ⟨?_, (this.calls' he).mono fun e w' hA => ?_⟩
    · rcases this with ⟨h, _⟩ | ⟨x, w', h, _⟩
      · exact h
      · unfold entersB at he
        split at he
        · rename_i fn hf
          simp only [Bool.and_eq_true, Bool.not_eq_true'] at he
          obtain ⟨c, hc⟩ := Option.isSome_iff_exists.1 he.1
          rw [callFunc_enter hf hc he.2] at h; cases h
        · cases he
    · obtain ⟨x, j', rfl, hv, _, _, _, hb⟩ := hA
      simp only [VR] at hv; subst hv
      refine ⟨.bool true, j, rfl, by simp [VR], ?_, J.ext_refl _ _, Nat.le_refl _, hb.mono hr.base⟩
      refine ⟨hr.fresh, fun id ob b o t q1 q2 => (hr.objs id ob b o t q1 q2).keep (J.le_refl j) (hb.block b (hr.lt id b o t q2)), hr.sep, fun id b o t hl => ?_, ?_, fun id e b o t q1 q2 => by
        obtain ⟨q3, c, fr, q4⟩ := hr.tys id e b o t q1 q2
        exact ⟨q3, c, fr, by rw [hb.block b (hr.lt id b o t q2)]; exact q4⟩⟩
      · exact Nat.lt_of_lt_of_le (hr.lt id b o t hl) hb.size
      · exact Nat.le_trans hr.base hb.size

/-- Whole numbers of a kind lie between its bounds. -/
theorem wf_i64 {n : Int} (h : (Lit.int .i64 n).wf = true) : -9223372036854775808 ≤ n ∧ n ≤ 9223372036854775807 := by
  simp only [Lit.wf, Bool.and_eq_true, decide_eq_true_eq] at h
  obtain ⟨h1, h2⟩ := h
  have e1 : IntKind.i64.min = -9223372036854775808 := by decide
  have e2 : IntKind.i64.max = 9223372036854775807 := by decide
  omega
end
end Ab
end Go.Proofs.YtcoobajkgioflaaGreatDoor
