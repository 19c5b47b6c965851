/- strings.Builder: a pointer seen as an unsafe one and back, where it lies; as summaries. -/
import Derived.Test.YtcoobajkgioflaaGreatDoorAbExt
set_option linter.unusedSimpArgs false
set_option linter.unusedVariables false
namespace Go.Proofs.YtcoobajkgioflaaGreatDoor
namespace Ab
section
variable {P : Program}

/-- A pointer to a variable, seen otherwise and back: the same pointer. -/
def ucvA (P : Program) (s d : Nat) (v : AV) (h : AH) : Option AV := match v with
  | .p none => some (.p none)
  | .p (some (id, o)) => match h.tys.get id, h.row? id with
    | some e, some (false, cs) => bif Nat.blt o cs.length && (match P.underlying s, P.underlying d with
        | some (.pointer t), some .unsafePointer => (match sizeT P t with | some (_ + 1) => true | _ => false)
        | some .unsafePointer, some (.pointer u) => (match sizeT P u with | some (_ + 1) => true | _ => false) && rowAt P (fun x => sameLayout P P.depth x u) P.depth e (Nat.div cs.length (P.cellsOf e)) o 1
        | _, _ => false) then some v else none
    | _, _ => none
  | _ => none
theorem rowAt_mono {fits : TypeId → Bool} {d : Nat} {e : TypeId} {c c' off n : Nat} (hc : c ≤ c') (h : rowAt P fits d e c off n = true) : rowAt P fits d e c' off n = true := by
  cases d with
  | zero => simp [rowAt] at h
  | succ d =>
    simp only [rowAt] at h ⊢
    split at h
    · cases h
    · rename_i h0
      rw [if_neg h0]
      simp only [Bool.or_eq_true, Bool.and_eq_true, decide_eq_true_eq, beq_iff_eq] at h ⊢
      rcases h with ⟨⟨h1, h2⟩, h3⟩ | ⟨h1, h2⟩
      · exact .inl ⟨⟨h1, by omega⟩, h3⟩
      · exact .inr ⟨by omega, h2⟩
theorem liesAt_row {e u : TypeId} {c off n : Nat} (h : rowAt P (fun x => sameLayout P P.depth x u) P.depth e c off n = true) : liesAt P P.depth e c off u n = true := by
  obtain ⟨d, hd⟩ : ∃ d, P.depth = d + 1 := ⟨_, rfl⟩
  have : liesAt P (d + 1) e c off u n = true := by
    simp only [liesAt, h, Bool.true_or]
  rw [hd]; exact this
theorem ucv_inv {o : Oper} {s d : Nat} {x : AX} (h : compOp P o = some (.R (.ucv s d x))) : ∃ y, o.op = .convert s d y ∧ cx P y = some x := by
  obtain ⟨dst, op, type, pos, after, gd⟩ := o
  cases op with
  | convert s d y =>
    simp only [compOp] at h
    repeat' (first | (cases h; done) | (cases h; exact ⟨_, rfl, by assumption⟩) | (obtain ⟨_, hc'⟩ := bif_none h; cases hc'; done) | split at h)
  | call c =>
    obtain ⟨callee, args, argTypes⟩ := c
    simp only [compOp] at h
    cases callee with
    | value g => simp only at h; split at h <;> cases h
    | invoke r n => simp only at h; cases h
    | builtin b =>
      cases b <;> simp only at h <;> repeat' (first | (cases h; done) | (obtain ⟨_, hc'⟩ := bif_none h; cases hc'; done) | split at h)
  | makeMap t rr => cases rr <;> (simp only [compOp] at h; cases h)
  | next it st => cases st <;> simp only [compOp] at h <;> repeat' (first | (cases h; done) | split at h)
  | _ =>
    simp only [compOp] at h
    repeat' (first | (cases h; done) | (obtain ⟨_, hc'⟩ := bif_none h; cases hc'; done) | split at h)
theorem ucv_types {dst : Option Tmp} {s d : TypeId} {y : Operand} {type : TypeId} {pos : String} {after : Array Edge} {gd : Option (Nat × Bool)} {ro : RO} (h : compOp P ⟨dst, .convert s d y, type, pos, after, gd⟩ = some (.R ro)) {x : AX} (hr : ro = .ucv s d x) :
    (∃ t, P.underlying s = some (.pointer t) ∧ P.underlying d = some .unsafePointer) ∨ (∃ t, P.underlying s = some .unsafePointer ∧ P.underlying d = some (.pointer t)) := by
  subst hr
  simp only [compOp] at h
  split at h
  · cases h
  · cases h
  · cases h
  · split at h
    · rw [bool_cond] at h; split at h <;> cases h
    · cases h
  · split at h <;> cases h
  · split at h <;> cases h
  · rename_i h1 h2 _; exact .inl ⟨_, h1, h2⟩
  · rename_i h1 h2 _; exact .inr ⟨_, h1, h2⟩
  · cases h
theorem seen_run (w : World) (a : Addr) {e : TypeId} {n : Nat} (h : w.shape? a.block = some (e, n)) : (Conv.seenAt a).run P w = .ok a w := by
  simp [Conv.seenAt, viewAt, h]
theorem ucv_sound {j : J} {h : AH} {B : Nat} {w : World} (r : Rep j h B w) (hg : GlobOk P j) {e : Env} {a : Act} (he : ER j e a.tmps) {o : Oper} {s d : Nat} {x : AX} {v : AV}
    (hc : compOp P o = some (.R (.ucv s d x))) (hv : ucvA P s d (x.ev e) h = some v) : RAns P j h B a w o v := by
  obtain ⟨y, hop, hy⟩ := ucv_inv hc
  obtain ⟨dst, op, type, pos, after, gd⟩ := o
  simp only at hop; subst hop
  have hty := ucv_types hc rfl
  have hx := cx_VR hg he hy
  unfold ucvA at hv
  split at hv
  · rename_i hxe
    cases hv
    rw [hxe] at hx; simp only [VR] at hx
    refine ⟨.pointer none, w, by simp only [VR], ?_, r, RowKit.Below.refl _ _⟩
    rcases hty with ⟨t, h1, h2⟩ | ⟨t, h1, h2⟩ <;> simp [execOp, hx, convert, run_underlying h1, run_underlying h2, Conv.unsafePointer]
  · rename_i id o hxe
    split at hv
    case h_2 => cases hv
    rename_i t cs ht hrow
    have hq := bif_none hv
    clear hv
    obtain ⟨hchk, hv⟩ := hq
    cases hv
    simp only [Bool.and_eq_true, Nat.blt_eq] at hchk
    obtain ⟨hlt, hchk⟩ := hchk
    have hx0 := hx
    rw [hxe] at hx
    simp only [VR] at hx
    obtain ⟨b, o', tt, hl, hx⟩ := hx
    obtain ⟨rfl, _⟩ := r.tys id t b o' tt ht hl
    obtain ⟨hob, hB, hone, c, e2, fr, hbb, hsz, hlen, hcells, hfr⟩ := r.own hrow hl
    obtain ⟨_, c3, fr3, hb3⟩ := r.tys id t b 0 tt ht hl
    rw [hbb] at hb3; cases hb3
    have hshape : w.shape? b = some (t, c.size) := by simp [World.shape?, hbb]
    have hseen := seen_run (P := P) w ⟨b, 0 + o, none⟩ hshape
    refine ⟨a.eval y, w, hx0, ?_, r, RowKit.Below.refl _ _⟩
    rcases hty with ⟨t1, h1, h2⟩ | ⟨t1, h1, h2⟩
    · rw [h1, h2] at hchk
      simp only at hchk
      have hs1 : ∃ n, sizeT P t1 = some (n + 1) := by
        split at hchk
        · rename_i n hn; exact ⟨n, hn⟩
        · cases hchk
      obtain ⟨n, hn⟩ := hs1
      have hoff : ¬ c.size ≤ o := by omega
      rw [Nat.zero_add] at hx hseen
      simp [execOp, hx, convert, run_underlying h1, run_underlying h2, Conv.unsafePointer, hseen, cellsIn, hshape, r_size hn, hoff]
    · rw [h1, h2] at hchk
      simp only [Bool.and_eq_true] at hchk
      obtain ⟨hchk, hrowat⟩ := hchk
      have hs1 : ∃ n, sizeT P t1 = some (n + 1) := by
        split at hchk
        · rename_i n hn; exact ⟨n, hn⟩
        · cases hchk
      obtain ⟨n, hn⟩ := hs1
      have hlies : liesAt P P.depth t (c.size / P.cellsOf t) o t1 1 = true := liesAt_row (rowAt_mono (Nat.div_le_div_right (by omega)) hrowat)
      rw [Nat.zero_add] at hx hseen
      simp [execOp, hx, convert, run_underlying h1, run_underlying h2, Conv.unsafePointer, hseen, r_size hn, variablesAt, hshape, hlies]
  · cases hv

/-- Summaries of functions, and unsafe pointers. -/
def natU (P : Program) (l : List (FuncId × Nat1)) : Sums := { natS l with
  rd := fun ro args h => match ro, args with
    | .ucv s d _, [v] => ucvA P s d v h
    | _, _ => none }
theorem natU_ops (l : List (FuncId × Nat1)) : OpsOk P (natU P l) := by
  refine ⟨noToks_wf, fun _ _ _ _ _ _ h => by simp [natU, natS] at h, fun ro v e a j h B w oper hS hT hr hg he hc => ?_, fun _ _ _ _ _ _ _ _ _ _ h => by simp [natU, natS] at h, fun _ _ _ _ _ _ _ _ _ _ h => by simp [natU, natS] at h⟩
  simp only [natU] at hS
  split at hS
  · rename_i s d x v0 heq
    simp only [RO.axs, evAll, List.cons.injEq, and_true] at heq
    subst heq
    exact ucv_sound hr hg he hc hS
  · cases hS

/-- The argument itself. -/
def selfG : Nat1
  | [v], h => some (v, h)
  | _, _ => none
theorem nat_noEscape {f : FuncId} (h : externB P f "internal/abi.NoEscape" = true) (he : ∀ fn, P.funcs[f]? = some fn → Extern.find fn = some Extern.AbiNoEscape.same) (T : Toks) : NatOk P T f selfG := by
  intro xs m v m' j B w vs hs hT hr hg hx
  unfold selfG at hs
  split at hs
  · cases hs
    simp only [VRs] at hx
    obtain ⟨v0, r0, rfl, h1, rfl⟩ := hx
    exact .inr ⟨v0, w, extern_run h he rfl, v0, j, rfl, h1, hr, J.ext_refl _ _, Nat.le_refl _, RowKit.Below.refl _ _⟩
  · cases hs
end
end Ab
end Go.Proofs.YtcoobajkgioflaaGreatDoor
