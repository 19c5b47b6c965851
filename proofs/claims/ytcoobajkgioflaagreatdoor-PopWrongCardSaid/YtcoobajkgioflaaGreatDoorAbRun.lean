/- The run of a function is what the abstract one tells: code, regions, calls. -/
import Derived.Test.YtcoobajkgioflaaGreatDoorAbFork
import Derived.Laws.Sem
import Derived.ScopeJumps
set_option linter.unusedSimpArgs false
set_option linter.unusedVariables false
namespace Go.Proofs.YtcoobajkgioflaaGreatDoor
namespace Ab
section
variable {P : Program} {S : Sums}

/-- What a call comes to. -/
def Answers (j : J) (h : AH) (B : Nat) (w : World) (v : AV) (h' : AH) : Ending → World → Prop := fun e w' => ∃ x j', e = .returned x ∧ VR j' v x ∧ Rep j' h' B w' ∧ j.ext h.next j' ∧ h.next ≤ h'.next ∧ Bel B w w'
def Invokes (P : Program) (f : FuncId) (args : Array Value) (w : World) (R : Ending → World → Prop) : Prop :=
  ((callFunc f args).run P w = .ok (.enter f args) w ∧ Calls P f args w R) ∨ ∃ x w', (callFunc f args).run P w = .ok (.value x) w' ∧ R (.returned x) w'
def SoundF (P : Program) (S : Sums) (N : Nat) : Prop :=
  ∀ n f as h v h' j B w xs, n < N → evF P S n f as h = some (v, h') → j.tok = S.tok → Rep j h B w → GlobOk P j → VRs j as xs → Invokes P f ⟨xs⟩ w (Answers j h B w v h')
def SumsOk (P : Program) (S : Sums) : Prop :=
  ∀ f g as h v h' j B w xs, S.fn f = some g → g as h = some (v, h') → j.tok = S.tok → Rep j h B w → GlobOk P j → VRs j as xs → Invokes P f ⟨xs⟩ w (Answers j h B w v h')

/-- Where code stands when it is done. -/
structure Post (j : J) (h : AH) (B : Nat) (w : World) (a : Act) (e' : Env) (h' : AH) (j' : J) (a' : Act) (w' : World) : Prop where
  er : ER j' e' a'.tmps
  rep : Rep j' h' B w'
  ext : j.ext h.next j'
  le : h.next ≤ h'.next
  bel : Bel B w w'
  defers : a'.defers = a.defers
  size : a'.tmps.size = a.tmps.size
theorem Post.trans {j : J} {h : AH} {B : Nat} {w : World} {a : Act} {e1 : Env} {h1 : AH} {j1 : J} {a1 : Act} {w1 : World} {e2 : Env} {h2 : AH} {j2 : J} {a2 : Act} {w2 : World} (p : Post j h B w a e1 h1 j1 a1 w1) (q : Post j1 h1 B w1 a1 e2 h2 j2 a2 w2) : Post j h B w a e2 h2 j2 a2 w2 :=
  ⟨q.er, q.rep, p.ext.trans q.ext p.le, Nat.le_trans p.le q.le, p.bel.trans q.bel, q.defers.trans p.defers, q.size.trans p.size⟩
theorem Post.refl {j : J} {h : AH} {B : Nat} {w : World} {a : Act} {e : Env} (hr : Rep j h B w) (he : ER j e a.tmps) : Post j h B w a e h j a w := ⟨he, hr, J.ext_refl _ _, Nat.le_refl _, RowKit.Below.refl _ _, rfl, rfl⟩
theorem Post.glob {j : J} {h : AH} {B : Nat} {w : World} {a : Act} {e1 : Env} {h1 : AH} {j1 : J} {a1 : Act} {w1 : World} (p : Post j h B w a e1 h1 j1 a1 w1) (hr : Rep j h B w) (hg : GlobOk P j) : GlobOk P j1 := by
  intro g hlt
  obtain ⟨t, ht⟩ := hg g hlt
  exact ⟨t, (p.ext.le hr).loc _ _ ht⟩

def AExit.to : AExit → Exit
  | .norm => .normal
  | .exit i => .exit i
  | .goto l => .goto l
  | .ret => .ret

/-- All temporaries that code writes lie in a frame of n. -/
def fitsC (n : Nat) : Code → Bool
  | .region _ ops _ => ops.toList.all fun o => match o.dst with | some t => Nat.blt t n | none => true
  | .seq a b => fitsC n a && fitsC n b
  | .cond _ a b => fitsC n a && fitsC n b
  | .block _ b => fitsC n b
  | .loop b => fitsC n b
  | .scope b => fitsC n b
  | _ => true
theorem fits_region {n id : Nat} {ops : Array Oper} {dr : Bool} (h : fitsC n (.region id ops dr) = true) {a : Act} (ha : a.tmps.size = n) : Fits ops a := by
  intro i o t ho hd
  simp only [fitsC] at h
  have := List.all_eq_true.1 h o (List.mem_of_getElem? (i := i) (by simpa using ho))
  rw [hd] at this
  simp only [Nat.blt_eq] at this
  rw [ha]; exact this
theorem fits_label {n : Nat} : ∀ {c : Code} {l : Nat} {r : Code}, fitsC n c = true → findLabel c l = some r → fitsC n r = true
  | .seq a b, l, r, h, hf => by
    simp only [fitsC, Bool.and_eq_true] at h
    simp only [findLabel] at hf
    cases ha : findLabel a l with
    | some x =>
      rw [ha] at hf; simp only [Option.some.injEq] at hf; subst hf
      simp only [fitsC, Bool.and_eq_true]; exact ⟨fits_label h.1 ha, h.2⟩
    | none => rw [ha] at hf; exact fits_label h.2 hf
  | .label l', l, r, h, hf => by
    simp only [findLabel] at hf
    split at hf
    · cases hf; rfl
    · cases hf
  | .skip, l, r, h, hf | .region .., l, r, h, hf | .cond .., l, r, h, hf | .block .., l, r, h, hf | .loop .., l, r, h, hf | .rangeFunc .., l, r, h, hf | .exit .., l, r, h, hf | .scope .., l, r, h, hf | .goto .., l, r, h, hf | .ret, l, r, h, hf | .refuse .., l, r, h, hf => by
    simp [findLabel] at hf
/-- Of all functions: the frame is wide enough. -/
def fitsP (P : Program) : Bool := P.funcs.toList.all fun fn => match fn.body with
  | some c => fitsC fn.ntmps c && !(fn.name == "runtime.NumGoroutine")
  | none => true

def SoundC (P : Program) (S : Sums) (N : Nat) : Prop :=
  ∀ n c e h l j B w a, n < N → evC P S n c e h = some l → fitsC a.tmps.size c = true → j.tok = S.tok → Rep j h B w → GlobOk P j → ER j e a.tmps →
    ∀ Q : Exit → Act → World → Prop, (∀ o ∈ l, ∀ j' a' w', Post j h B w a o.2.1 o.2.2 j' a' w' → Q o.1.to a' w') → c.wp P Q a w
def SoundS (P : Program) (S : Sums) (N : Nat) : Prop :=
  ∀ n body c e h l j B w a, n < N → evS P S n body c e h = some l → fitsC a.tmps.size body = true → fitsC a.tmps.size c = true → j.tok = S.tok → Rep j h B w → GlobOk P j → ER j e a.tmps →
    ∀ (b : Frame) (k : List Item) (cs : List Frame), ∃ o a' w' j', o ∈ l ∧ Post j h B w a o.2.1 o.2.2 j' a' w' ∧ Arrives P (lone (b.at a (.code c :: .inScope body :: k)) cs w) b k cs o.1.to a' w'
def SoundR (P : Program) (S : Sums) (N : Nat) : Prop :=
  ∀ n (ops : Array Oper) k l e h q j B w a, n < N → evR P S n (dstsOf ops.toList) l e h = some q → compOps P (ops.toList.drop k) = some l → Fits ops a → j.tok = S.tok → Rep j h B w → GlobOk P j → ER j e a.tmps →
    ∀ Q : Exit → Act → World → Prop, (∀ o ∈ q, ∀ j' a' w', Post j h B w a o.2.1 o.2.2 j' a' w' → Q o.1.to a' w') → wpOps P ops Q (List.range' k (ops.size - k)) a w

theorem call_inv {o : Oper} {f : AX} {xs : List AX} (h : compOp P o = some (.E (.call f xs))) : ∃ c g, o.op = .call c ∧ c.callee = .value g ∧ cx P g = some f ∧ cxs P c.args.toList = some xs := by
  obtain ⟨dst, op, type, pos, after, gd⟩ := o
  cases op with
  | call c =>
    obtain ⟨callee, args, argTypes⟩ := c
    simp only [compOp] at h
    cases callee with
    | value g =>
      simp only at h
      split at h
      · rename_i f' xs' h1 h2
        cases h
        exact ⟨_, g, rfl, rfl, h1, h2⟩
      · cases h
    | invoke r n => simp only at h; cases h
    | builtin b =>
      cases b <;> simp only at h <;> repeat' (first | (cases h; done) | (obtain ⟨_, hc'⟩ := bif_none h; cases hc'; done) | split at h)
  | makeMap t rr => cases rr <;> (simp only [compOp] at h; cases h)
  | next it st => cases st <;> simp only [compOp] at h <;> repeat' (first | (cases h; done) | split at h)
  | _ =>
    simp only [compOp] at h
    repeat' (first | (cases h; done) | (obtain ⟨_, hc'⟩ := bif_none h; cases hc'; done) | split at h)

/-- A call of a function value. -/
theorem call_does {j : J} {h : AH} {B : Nat} {w : World} {a : Act} {e : Env} (hg : GlobOk P j) (he : ER j e a.tmps) {o : Oper} {f : AX} {xs : List AX} (hc : compOp P o = some (.E (.call f xs)))
    {fn : FuncId} {first caps : List AV} (hf : f.ev e = .f (.func fn) first caps) {v : AV} {h' : AH}
    (hi : ∀ vs, VRs j (first ++ evAll e xs ++ caps) vs → Invokes P fn ⟨vs⟩ w (Answers j h B w v h')) : Does P j h B a w o v h' := by
  obtain ⟨c, g, h1, h2, h3, h4⟩ := call_inv hc
  have hfv := cx_VR hg he h3
  rw [hf] at hfv
  simp only [VR] at hfv
  obtain ⟨fa, ca, hfe, hva, hvc⟩ := hfv
  have hxs := cxs_ok hg he _ _ h4
  have hall := (hva.append hxs).append hvc
  have hrun : ∀ w, (execOp a.eval o).run P w = (callFunc fn ⟨fa ++ c.args.toList.map a.eval ++ ca⟩).run P w := by
    intro w
    obtain ⟨dst, op, type, pos, after, gd⟩ := o
    simp only at h1; subst h1
    have harr : (⟨fa⟩ : Array Value) ++ c.args.map a.eval ++ ⟨ca⟩ = ⟨fa ++ c.args.toList.map a.eval ++ ca⟩ := by
      apply Array.ext'; simp
    simp only [execOp, resolve, h2, hfe, Deferred.ofValue, pure_bind, invoke, harr]
  intro K Q hK
  unfold Oper.wp
  rw [hrun]
  rcases hi _ hall with ⟨hr, hcalls⟩ | ⟨x, w', hr, hR⟩
  · rw [hr, Oper.upon_enter]
    refine Calls.mono hcalls fun en w' hA => ?_
    obtain ⟨x, j', rfl, g1, g2, g3, g4, g5⟩ := hA
    exact hK x w' j' g1 g2 g3 g4 g5
  · rw [hr, Oper.upon_value]
    obtain ⟨x', j', hx, g1, g2, g3, g4, g5⟩ := hR
    cases hx
    exact hK x w' j' g1 g2 g3 g4 g5

theorem soundE_succ {N : Nat} (hO : OpsOk P S) (hF : SoundF P S N) : SoundE P S (N + 1) := by
  intro n o e h v h' oper a w j B hn hev hc hT hr hg he
  cases n with
  | zero => simp only [evE] at hev; cases hev
  | succ n =>
    cases o with
    | call f xs =>
      simp only [evE] at hev
      split at hev
      · rename_i fn first caps hf
        exact call_does hg he hc hf fun vs hvs => hF n fn _ h v h' j B w vs (by omega) hev hT hr hg hvs
      · cases hev
    | _ =>
      simp only [evE] at hev
      exact (eevS_sound hO hT hr hg he hc hev).does

/-- A use in a region, told by what follows it. -/
theorem op_step {ops : Array Oper} {k : Nat} {o : Oper} {a : Act} {w : World} {Q : Exit → Act → World → Prop} {rest : List Nat} {j : J} {h : AH} {B : Nat} {e : Env} {l : List (AV × AH)}
    (ho : ops[k]? = some o) (hfit : Fits ops a) (her : ER j e a.tmps) (hext0 : Rep j h B w)
    (hd : DoesL P j h B a w o l) (hwant : Region.wanted o (yielded ops a.tmps) = true)
    (hrest : ∀ p ∈ l, ∀ j' a' w', Post j h B w a (putA e o.dst p.1) p.2 j' a' w' → wpOps P ops Q rest a' w') : wpOps P ops Q (k :: rest) a w := by
  rw [wpOps_cons]
  refine wpOp_of ho hwant (fun _ => hd _ _ fun p hp x w' j' g1 g2 g3 g4 g5 => ?_) (fun h => by cases h)
  refine hrest p hp j' _ w' ⟨?_, g2, g3, g4, g5, put_defers _ _ _, put_size _ _ _⟩
  have he' : ER j' e a.tmps := fun t => VR.mono (g3.le hext0) _ _ (her t)
  exact he'.put g1 fun t ht => .inl (hfit k o t ho ht)
theorem Does.list {j : J} {h : AH} {B : Nat} {a : Act} {w : World} {o : Oper} {v : AV} {h' : AH} (hd : Does P j h B a w o v h') : DoesL P j h B a w o [(v, h')] :=
  fun K Q hK => hd K Q fun x w' j' g1 g2 g3 g4 g5 => hK (v, h') (List.mem_singleton.2 rfl) x w' j' g1 g2 g3 g4 g5

theorem soundR_succ {N : Nat} (hO : OpsOk P S) (hE : SoundE P S N) (hR : SoundR P S N) : SoundR P S (N + 1) := by
  intro n ops k l e h q j B w a hn hev hl hfit hT hr hg he Q hQ
  cases n with
  | zero => simp only [evR] at hev; cases hev
  | succ n =>
    by_cases hk : k < ops.size
    · have hko : ops[k]? = some ops[k] := by simp [hk]
      have hdrop : ops.toList.drop k = ops[k] :: ops.toList.drop (k + 1) := by
        rw [List.drop_eq_getElem_cons (by simpa using hk)]; simp
      rw [hdrop] at hl
      simp only [compOps] at hl
      split at hl
      case h_2 => cases hl
      rename_i ao r hao hrr
      cases hl
      have hwant := wanted_ok he (ops := ops) (ds := dstsOf ops.toList) (fun i => by rw [dstsOf_get]; simp) ops[k]
      have hrange : List.range' k (ops.size - k) = k :: List.range' (k + 1) (ops.size - (k + 1)) := by
        rw [show ops.size - k = (ops.size - (k + 1)) + 1 from by omega, List.range'_succ]
      rw [hrange]
      -- one use and the rest
      have useL : ∀ (q1 : List (AV × AH)), wantedA (dstsOf ops.toList) e ops[k].guard = true → DoesL P j h B a w ops[k] q1 → (∀ p ∈ q1, ∃ r1, evR P S n (dstsOf ops.toList) r (putA e ops[k].dst p.1) p.2 = some r1 ∧ ∀ x ∈ r1, x ∈ q) → wpOps P ops Q (k :: List.range' (k + 1) (ops.size - (k + 1))) a w := by
        intro q1 hw hd hev'
        refine op_step hko hfit he hr hd (by rw [hwant]; exact hw) fun p hp1 j1 a1 w1 hp => ?_
        obtain ⟨r1, g1, g2⟩ := hev' p hp1
        refine hR n ops (k + 1) r _ p.2 r1 j1 B w1 a1 (by omega) g1 hrr (fun i o t ho hd => by rw [hp.size]; exact hfit i o t ho hd) (hp.ext.tok.trans hT) hp.rep (hp.glob hr hg) hp.er Q fun o ho j2 a2 w2 hp2 => hQ o (g2 o ho) j2 a2 w2 (hp.trans hp2)
      have use : ∀ (v : AV) (h1 : AH), wantedA (dstsOf ops.toList) e ops[k].guard = true → Does P j h B a w ops[k] v h1 → evR P S n (dstsOf ops.toList) r (putA e ops[k].dst v) h1 = some q → wpOps P ops Q (k :: List.range' (k + 1) (ops.size - (k + 1))) a w := by
        intro v h1 hw hd hev'
        refine useL [(v, h1)] hw hd.list fun p hp => ?_
        rw [List.mem_singleton] at hp; subst hp
        exact ⟨q, hev', fun x hx => hx⟩
      simp only [evR] at hev
      cases hw : wantedA (dstsOf ops.toList) e ops[k].guard with
      | false =>
        rw [hw, cond_false] at hev
        rw [wpOps_cons]
        refine wpOp_of (c := false) hko (by rw [hwant]; exact hw) (fun h => by cases h) fun _ => ?_
        have hp : Post j h B w a (putA e ops[k].dst undefA) h j (a.put ops[k].dst Go.undef) w := ⟨he.put (VR.undef j) (fun t ht => .inl (hfit k _ t hko ht)), hr, J.ext_refl _ _, Nat.le_refl _, RowKit.Below.refl _ _, put_defers _ _ _, put_size _ _ _⟩
        exact hR n ops (k + 1) r _ h q j B w _ (by omega) hev hrr (fun i o t ho hd => by rw [hp.size]; exact hfit i o t ho hd) hT hr hg hp.er Q fun o ho j2 a2 w2 hp2 => hQ o ho j2 a2 w2 (hp.trans hp2)
      | true =>
        rw [hw, cond_true] at hev
        cases ao with
        | P po =>
          simp only at hev
          cases hv : pevS S e po with
          | none => rw [hv] at hev; cases hev
          | some v =>
            rw [hv] at hev
            obtain ⟨x, g1, g2⟩ := pevS_sound hO hT hg he hao hv
            exact use v h hw (fun K Q hK => wp_value (g2 w) (hK x w j g1 hr (J.ext_refl _ _) (Nat.le_refl _) (RowKit.Below.refl _ _))) hev
        | R ro =>
          simp only at hev
          cases hv : revS S e h ro with
          | none => rw [hv] at hev; cases hev
          | some v =>
            rw [hv] at hev
            obtain ⟨x, w', g1, g2, g3, g4⟩ := revS_sound hO hT hr hg he hao hv
            exact use v h hw (fun K Q hK => wp_value g2 (hK x w' j g1 g3 (J.ext_refl _ _) (Nat.le_refl _) g4)) hev
        | A ao' =>
          simp only at hev
          cases hv : aevS S e h.next ao' with
          | none => rw [hv] at hev; cases hev
          | some p =>
            obtain ⟨v, ob⟩ := p
            rw [hv] at hev; simp only at hev
            have hnone : j h.next = none := hr.fresh _ (Nat.le_refl _)
            obtain ⟨x, w', obj, t, g1, g2, g3, g4, g5, g6, g7, g8⟩ := aevS_sound hO hT hr.base hg he hnone hao hv
            have hadd := hr.addDead ob (aty ao')
            have hget : (h.add ob (aty ao')).objs.get h.next = some ob := by simp [AH.add, Tr.get_set]
            have hborn := hadd.born hnone (show h.next < (h.add ob (aty ao')).next from Nat.lt_succ_self _) hget g2 (fun e2 he2 => g8 e2 (by simpa [AH.add, Tr.get_set] using he2)) g7
            refine use v (h.add ob (aty ao')) hw (fun K Q hK => wp_value g1 (hK x w' _ g6 hborn (J.put_ext (Nat.le_refl _)) (Nat.le_succ _) ⟨g3, g4, g5, by rw [g2]; simp, fun q hq => by
              have := hr.base
              rw [g2, Array.getElem?_push, if_neg (by omega)]⟩)) hev
        | E eo =>
          have other : (match evE P S n eo e h with
              | some (v, h) => evR P S n (dstsOf ops.toList) r (putA e ops[k].dst v) h
              | none => none) = some q → wpOps P ops Q (k :: List.range' (k + 1) (ops.size - (k + 1))) a w := by
            intro hev
            cases hv : evE P S n eo e h with
            | none => rw [hv] at hev; cases hev
            | some p =>
              obtain ⟨v, h1⟩ := p
              rw [hv] at hev
              exact use v h1 hw (hE n eo e h v h1 ops[k] a w j B (by omega) hv hao hT hr hg he) hev
          cases eo with
          | nextm x =>
            simp only at hev
            cases hv : nextmA h (x.ev e) with
            | none => rw [hv] at hev; cases hev
            | some q1 =>
              rw [hv] at hev; simp only at hev
              exact useL q1 hw (nextm_sound hr hg he hao hv) fun p hp => bindA_mem hev p hp
          | store n a x => exact other hev
          | app n b t s x => exact other hev
          | cpy n d x => exact other hev
          | next x => exact other hev
          | mupd s x k v => exact other hev
          | del s x k => exact other hev
          | rngm x => exact other hev
          | ustr u x y => exact other hev
          | call f xs => exact other hev
    · have hdrop : ops.toList.drop k = [] := List.drop_eq_nil_of_le (by simp; omega)
      rw [hdrop] at hl
      simp only [compOps] at hl; cases hl
      simp only [evR] at hev; cases hev
      rw [show ops.size - k = 0 from by omega]
      exact hQ _ (List.mem_singleton.2 rfl) j a w (Post.refl hr he)

/-- A loop that stands at its mark. -/
def LoopWp (P : Program) (c : Code) (Q : Exit → Act → World → Prop) (a : Act) (w : World) : Prop :=
  ∀ (b : Frame) (k : List Item) (cs : List Frame), ∃ e a' w', Q e a' w' ∧ Arrives P (lone (b.at a (.inLoop c :: k)) cs w) b k cs e a' w'
theorem loop_both {c : Code} {Q : Exit → Act → World → Prop} {a : Act} {w : World} (h : c.wp P (Exit.then (LoopWp P c Q) Q) a w) : LoopWp P c Q a w ∧ (Code.loop c).wp P Q a w := by
  have key : ∀ (b : Frame) (k : List Item) (cs : List Frame), ∃ e a' w', Q e a' w' ∧ Arrives P (lone (b.at a (.code c :: .inLoop c :: k)) cs w) b k cs e a' w' := by
    intro b k cs
    obtain ⟨e, a₁, w₁, hq, harr⟩ := h b (.inLoop c :: k) cs
    cases e with
    | normal =>
      obtain ⟨e₂, a₂, w₂, hq₂, harr₂⟩ := hq b k cs
      exact ⟨e₂, a₂, w₂, hq₂, .of_steps harr harr₂⟩
    | exit id => exact ⟨_, a₁, w₁, hq, .pass (x := .inLoop c) rfl (fun _ _ => .inl (by simp)) harr⟩
    | goto l => exact ⟨_, a₁, w₁, hq, .pass (x := .inLoop c) rfl (fun _ _ => .inl (by simp)) harr⟩
    | ret => exact ⟨_, a₁, w₁, hq, .pass (x := .inLoop c) rfl (fun _ _ => .inl (by simp)) harr⟩
    | panic ch => exact ⟨_, a₁, w₁, hq, .pass (x := .inLoop c) rfl (fun _ _ => .inl (by simp)) harr⟩
    | outgrown => exact ⟨_, a₁, w₁, hq, .pass (x := .inLoop c) rfl (fun _ _ => .inl (by simp)) harr⟩
  exact ⟨fun b k cs => let ⟨e, a', w', hq, harr⟩ := key b k cs; ⟨e, a', w', hq, .of_steps (.one step_inLoop) harr⟩,
    fun b k cs => let ⟨e, a', w', hq, harr⟩ := key b k cs; ⟨e, a', w', hq, .of_steps (.one step_loop) harr⟩⟩

def SoundL (P : Program) (S : Sums) (N : Nat) : Prop :=
  ∀ n c e h l j B w a, n < N → evC P S n (.loop c) e h = some l → fitsC a.tmps.size c = true → j.tok = S.tok → Rep j h B w → GlobOk P j → ER j e a.tmps →
    ∀ Q : Exit → Act → World → Prop, (∀ o ∈ l, ∀ j' a' w', Post j h B w a o.2.1 o.2.2 j' a' w' → Q o.1.to a' w') → LoopWp P c Q a w

theorem loop_step {N : Nat} (hC : SoundC P S N) (hL : SoundL P S N) {n : Nat} {c : Code} {e : Env} {h : AH} {l : Out3} {j : J} {B : Nat} {w : World} {a : Act} (hn : n < N)
    (hev : evC P S (n + 1) (.loop c) e h = some l) (hf : fitsC a.tmps.size c = true) (hT : j.tok = S.tok) (hr : Rep j h B w) (hg : GlobOk P j) (he : ER j e a.tmps)
    {Q : Exit → Act → World → Prop} (hQ : ∀ o ∈ l, ∀ j' a' w', Post j h B w a o.2.1 o.2.2 j' a' w' → Q o.1.to a' w') : LoopWp P c Q a w ∧ (Code.loop c).wp P Q a w := by
  simp only [evC] at hev
  refine loop_both ?_
  cases hb : evC P S n c e h with
  | none => rw [hb] at hev; cases hev
  | some l1 =>
    rw [hb] at hev; simp only at hev
    refine hC n c e h l1 j B w a hn hb hf hT hr hg he _ fun o1 ho1 j1 a1 w1 hp => ?_
    obtain ⟨ex1, e1, h1⟩ := o1
    obtain ⟨l2, g1, g2⟩ := bindA_mem hev _ ho1
    cases ex1 with
    | norm =>
      simp only at g1
      exact hL n c e1 h1 l2 j1 B w1 a1 hn g1 (by rw [hp.size]; exact hf) (hp.ext.tok.trans hT) hp.rep (hp.glob hr hg) hp.er Q fun o2 ho2 j2 a2 w2 hp2 => hQ o2 (g2 o2 ho2) j2 a2 w2 (hp.trans hp2)
    | exit i => simp only at g1; cases g1; exact hQ _ (g2 _ (List.mem_singleton.2 rfl)) j1 a1 w1 hp
    | goto i => simp only at g1; cases g1; exact hQ _ (g2 _ (List.mem_singleton.2 rfl)) j1 a1 w1 hp
    | ret => simp only at g1; cases g1; exact hQ _ (g2 _ (List.mem_singleton.2 rfl)) j1 a1 w1 hp
theorem soundL_succ {N : Nat} (hC : SoundC P S N) (hL : SoundL P S N) : SoundL P S (N + 1) := by
  intro n c e h l j B w a hn hev hf hT hr hg he Q hQ
  cases n with
  | zero => simp only [evC] at hev; cases hev
  | succ n => exact (loop_step hC hL (by omega) hev hf hT hr hg he hQ).1

theorem soundS_succ {N : Nat} (hC : SoundC P S N) (hS : SoundS P S N) : SoundS P S (N + 1) := by
  intro n body c e h l j B w a hn hev hfb hf hT hr hg he b k cs
  cases n with
  | zero => simp only [evS] at hev; cases hev
  | succ n =>
    simp only [evS] at hev
    cases hb : evC P S n c e h with
    | none => rw [hb] at hev; cases hev
    | some l1 =>
      rw [hb] at hev; simp only at hev
      obtain ⟨x, a1, w1, ⟨o1, ho1, hx, j1, hp⟩, harr⟩ := hC n c e h l1 j B w a (by omega) hb hf hT hr hg he (fun x a1 w1 => ∃ o ∈ l1, x = o.1.to ∧ ∃ j1, Post j h B w a o.2.1 o.2.2 j1 a1 w1) (fun o ho j1 a1 w1 hp => ⟨o, ho, rfl, j1, hp⟩) b (.inScope body :: k) cs
      subst hx
      obtain ⟨ex1, e1, h1⟩ := o1
      obtain ⟨l2, g1, g2⟩ := bindA_mem hev _ ho1
      cases ex1 with
      | norm =>
        simp only at g1; cases g1
        exact ⟨_, a1, w1, j1, g2 _ (List.mem_singleton.2 rfl), hp, Steps.trans harr (.one step_inScope)⟩
      | exit i =>
        simp only at g1; cases g1
        exact ⟨_, a1, w1, j1, g2 _ (List.mem_singleton.2 rfl), hp, fun k' hk => harr k' (by simp [exitTo, hk])⟩
      | ret =>
        simp only at g1; cases g1
        exact ⟨_, a1, w1, j1, g2 _ (List.mem_singleton.2 rfl), hp, harr⟩
      | goto lb =>
        simp only at g1
        cases hfl : findLabel body lb with
        | none =>
          rw [hfl] at g1; simp only at g1; cases g1
          exact ⟨_, a1, w1, j1, g2 _ (List.mem_singleton.2 rfl), hp, fun k' hk => harr k' (by simp [gotoIn, hfl, hk])⟩
        | some rest =>
          rw [hfl] at g1; simp only at g1
          obtain ⟨o2, a2, w2, j2, ho2, hp2, harr2⟩ := hS n body rest e1 h1 l2 j1 B w1 a1 (by omega) g1 (by rw [hp.size]; exact hfb) (by rw [hp.size]; exact fits_label hfb hfl) (hp.ext.tok.trans hT) hp.rep (hp.glob hr hg) hp.er b k cs
          exact ⟨o2, a2, w2, j2, g2 _ ho2, hp.trans hp2, .of_steps (harr _ (by simp [gotoIn, hfl])) harr2⟩

theorem wp_scope_of {body : Code} {Q : Exit → Act → World → Prop} {a : Act} {w : World} (h : ∀ (b : Frame) (k : List Item) (cs : List Frame), ∃ x a' w', Q x a' w' ∧ Arrives P (lone (b.at a (.code body :: .inScope body :: k)) cs w) b k cs x a' w') : (Code.scope body).wp P Q a w :=
  fun b k cs => let ⟨x, a', w', hq, harr⟩ := h b k cs; ⟨x, a', w', hq, .of_steps (.one step_scope) harr⟩

theorem soundC_succ {N : Nat} (hmix : P.follows .mixedOrders = true) (hO : OpsOk P S) (hC : SoundC P S N) (hL : SoundL P S N) (hS : SoundS P S N) (hR : SoundR P S N) (hE : SoundE P S N) : SoundC P S (N + 1) := by
  intro n c e h l j B w a hn hev hf hT hr hg he Q hQ
  cases n with
  | zero => simp only [evC] at hev; cases hev
  | succ n =>
    have hn' : n < N := by omega
    have one : ∀ (o : AExit × Env × AH), o ∈ [o] := fun o => List.mem_singleton.2 rfl
    cases c with
    | skip => simp only [evC] at hev; cases hev; exact wp_skip (hQ _ (one _) j a w (Post.refl hr he))
    | label l => simp only [evC] at hev; cases hev; exact wp_label (hQ _ (one _) j a w (Post.refl hr he))
    | ret => simp only [evC] at hev; cases hev; exact wp_ret (hQ _ (one _) j a w (Post.refl hr he))
    | exit i => simp only [evC] at hev; cases hev; exact wp_exit (hQ _ (one _) j a w (Post.refl hr he))
    | goto i => simp only [evC] at hev; cases hev; exact wp_goto (hQ _ (one _) j a w (Post.refl hr he))
    | refuse s => simp only [evC] at hev; cases hev
    | rangeFunc f ps x y => simp only [evC] at hev; cases hev
    | loop c => exact (loop_step hC hL hn' hev (by simpa [fitsC] using hf) hT hr hg he hQ).2
    | seq x y =>
      simp only [evC] at hev
      simp only [fitsC, Bool.and_eq_true] at hf
      cases hb : evC P S n x e h with
      | none => rw [hb] at hev; cases hev
      | some l1 =>
        rw [hb] at hev; simp only at hev
        refine wp_seq (hC n x e h l1 j B w a hn' hb hf.1 hT hr hg he _ fun o1 ho1 j1 a1 w1 hp => ?_)
        obtain ⟨ex1, e1, h1⟩ := o1
        obtain ⟨l2, g1, g2⟩ := bindA_mem hev _ ho1
        cases ex1 with
        | norm =>
          simp only at g1
          exact hC n y e1 h1 l2 j1 B w1 a1 hn' g1 (by rw [hp.size]; exact hf.2) (hp.ext.tok.trans hT) hp.rep (hp.glob hr hg) hp.er Q fun o2 ho2 j2 a2 w2 hp2 => hQ o2 (g2 _ ho2) j2 a2 w2 (hp.trans hp2)
        | exit i => simp only at g1; cases g1; exact hQ _ (g2 _ (one _)) j1 a1 w1 hp
        | goto i => simp only at g1; cases g1; exact hQ _ (g2 _ (one _)) j1 a1 w1 hp
        | ret => simp only at g1; cases g1; exact hQ _ (g2 _ (one _)) j1 a1 w1 hp
    | cond c x y =>
      simp only [evC] at hev
      simp only [fitsC, Bool.and_eq_true] at hf
      split at hev
      case h_2 => cases hev
      rename_i c' hc
      have hcv := cx_VR hg he hc
      split at hev
      · rename_i hb
        rw [hb] at hcv; simp only [VR] at hcv
        exact wp_cond_true hcv (hC n x e h l j B w a hn' hev hf.1 hT hr hg he Q hQ)
      · rename_i hb
        rw [hb] at hcv; simp only [VR] at hcv
        exact wp_cond_false hcv (hC n y e h l j B w a hn' hev hf.2 hT hr hg he Q hQ)
      · cases hev
    | block i x =>
      simp only [evC] at hev
      simp only [fitsC] at hf
      cases hb : evC P S n x e h with
      | none => rw [hb] at hev; cases hev
      | some l1 =>
        rw [hb] at hev; simp only at hev; cases hev
        refine wp_block (hC n x e h l1 j B w a hn' hb hf hT hr hg he _ fun o1 ho1 j1 a1 w1 hp => ?_)
        obtain ⟨ex1, e1, h1⟩ := o1
        have hmem := List.mem_map_of_mem (f := fun (p : AExit × Env × AH) => match p with
          | (.exit id', e, h) => bif Nat.beq id' i then (AExit.norm, e, h) else (.exit id', e, h)
          | q => q) ho1
        cases ex1 with
        | norm => exact hQ _ hmem j1 a1 w1 hp
        | exit q =>
          show if q = i then Q .normal a1 w1 else Q (.exit q) a1 w1
          have hm : (bif Nat.beq q i then (AExit.norm, e1, h1) else (AExit.exit q, e1, h1)) ∈ _ := hmem
          by_cases hq : q = i
          · rw [if_pos hq]; rw [nat_beq, decide_eq_true hq, cond_true] at hm; exact hQ _ hm j1 a1 w1 hp
          · rw [if_neg hq]; rw [nat_beq, decide_eq_false hq, cond_false] at hm; exact hQ _ hm j1 a1 w1 hp
        | goto q => exact hQ _ hmem j1 a1 w1 hp
        | ret => exact hQ _ hmem j1 a1 w1 hp
    | scope x =>
      simp only [evC] at hev
      simp only [fitsC] at hf
      refine wp_scope_of fun b k cs => ?_
      obtain ⟨o, a1, w1, j1, ho, hp, harr⟩ := hS n x x e h l j B w a hn' hev hf hf hT hr hg he b k cs
      exact ⟨_, a1, w1, hQ o ho j1 a1 w1 hp, harr⟩
    | region i ops dr =>
      have hfit := fits_region hf rfl
      cases dr with
      | false =>
        simp only [evC] at hev
        split at hev
        · rename_i q hl
          have := hR n ops 0 q e h l j B w a hn' hev (by simpa using hl) hfit hT hr hg he Q hQ
          rw [Nat.sub_zero] at this
          exact wp_region (by rw [List.range_eq_range']; exact this)
        · cases hev
      | true =>
        simp only [evC] at hev
        split at hev
        · rename_i d hd
          split at hev
          · rename_i V h1 hl
            cases hev
            exact draw_sound hmix hO hE hd (Nat.le_of_lt hn') hl hT hg hr he hfit fun a' w' j' q1 q2 q3 q4 q5 q6 q7 => hQ _ (one _) j' a' w' ⟨q1, q2, q3, q4, q5, q6, q7⟩
          · cases hev
        · cases hev

def resOne (tmps : Array Value) : ResultVar → Sem Value
  | .tmp t => pure (tmps.getD t Go.undef)
  | .cell a t => do loadVar t (← asAddr (tmps.getD a Go.undef))
theorem resA_ok {j : J} {h : AH} {B : Nat} {w : World} (hr : Rep j h B w) {e : Env} {a : Act} (he : ER j e a.tmps) : ∀ (rs : List ResultVar) (l : List AV), resA P h e rs = some l →
    ∃ vs, (rs.mapM (resOne a.tmps)).run P w = .ok vs w ∧ VRs j l vs
  | [], l, hv => by simp only [resA] at hv; cases hv; exact ⟨[], by simp, by simp [VRs]⟩
  | .tmp t :: r, l, hv => by
    simp only [resA] at hv
    split at hv
    · rename_i l' hl'
      cases hv
      obtain ⟨vs, h1, h2⟩ := resA_ok hr he r l' hl'
      refine ⟨a.tmps.getD t Go.undef :: vs, ?_, ?_⟩
      · simp [List.mapM_cons, resOne, Sem.run_bind, h1]
      · simp only [VRs]; exact ⟨_, _, rfl, he t, h2⟩
    · cases hv
  | .cell ad t :: r, l, hv => by
    simp only [resA] at hv
    split at hv
    case h_2 => cases hv
    rename_i l' g n id o hl' hg hn had
    split at hv
    case h_2 => cases hv
    rename_i ro cs hrow
    split at hv
    case h_2 => cases hv
    rename_i v hp
    cases hv
    obtain ⟨vs, h1, h2⟩ := resA_ok hr he r l' hl'
    have hx := he ad
    rw [had] at hx
    obtain ⟨x, aa, g1, g2, g3⟩ := hr.part hg hn hrow hp hx
    refine ⟨x :: vs, ?_, ?_⟩
    · simp [List.mapM_cons, resOne, Sem.run_bind, g1, asAddr, g3, h1]
    · simp only [VRs]; exact ⟨_, _, rfl, g2, h2⟩
theorem results_eq (fn : Func) (tmps : Array Value) : results fn tmps = (fn.results.mapM (resOne tmps)) >>= fun vs => pure (if h : vs.size = 1 then vs[0] else .tuple vs) := by
  unfold results
  congr 1
theorem results_ok {j : J} {h : AH} {B : Nat} {w : World} (hr : Rep j h B w) {e : Env} {a : Act} (he : ER j e a.tmps) {fn : Func} {l : List AV} (hv : resA P h e fn.results.toList = some l) :
    ∃ x, (results fn a.tmps).run P w = .ok x w ∧ VR j (resV l) x := by
  obtain ⟨vs, h1, h2⟩ := resA_ok hr he _ _ hv
  have hrun : (fn.results.mapM (resOne a.tmps)).run P w = .ok ⟨vs⟩ w := by
    rw [Array.mapM_eq_mapM_toList, map_eq_pure_bind, Sem.run_bind, h1]; rfl
  refine ⟨_, by rw [results_eq, Sem.run_bind, hrun]; rfl, ?_⟩
  match l, vs, h2 with
  | [], vs, h2 => simp only [VRs] at h2; subst h2; simp [resV, VR, VRs]
  | [v], vs, h2 =>
    simp only [VRs] at h2
    obtain ⟨x, r, rfl, hx, rfl⟩ := h2
    simpa [resV] using hx
  | v :: v' :: l, vs, h2 =>
    have hlen := h2.length
    have hne : ¬ (⟨vs⟩ : Array Value).size = 1 := by simp at hlen ⊢; omega
    rw [dif_neg hne]
    exact ⟨vs, rfl, h2⟩

theorem fitsC_mono {n m : Nat} (hnm : n ≤ m) : ∀ {c : Code}, fitsC n c = true → fitsC m c = true
  | .region id ops dr, h => by
    simp only [fitsC, List.all_eq_true] at h ⊢
    intro o ho
    have := h o ho
    cases hd : o.dst with
    | none => rfl
    | some t => rw [hd] at this; simp only [Nat.blt_eq] at this ⊢; exact Nat.lt_of_lt_of_le this hnm
  | .seq a b, h => by simp only [fitsC, Bool.and_eq_true] at h ⊢; exact ⟨fitsC_mono hnm h.1, fitsC_mono hnm h.2⟩
  | .cond c a b, h => by simp only [fitsC, Bool.and_eq_true] at h ⊢; exact ⟨fitsC_mono hnm h.1, fitsC_mono hnm h.2⟩
  | .block _ b, h => by simp only [fitsC] at h ⊢; exact fitsC_mono hnm h
  | .loop b, h => by simp only [fitsC] at h ⊢; exact fitsC_mono hnm h
  | .scope b, h => by simp only [fitsC] at h ⊢; exact fitsC_mono hnm h
  | .skip, h | .rangeFunc .., h | .exit .., h | .goto .., h | .ret, h | .refuse .., h | .label .., h => rfl

theorem envOf_at : ∀ (l : List AV) (i : Nat) (e : Env) (t : Nat), Env.at (envOf l i e) t = if i ≤ t ∧ t < i + l.length then (l[t - i]?).getD undefA else Env.at e t
  | [], i, e, t => by simp [envOf]; intro h1 h2; omega
  | v :: l, i, e, t => by
    simp only [envOf]
    rw [envOf_at l (i + 1) _ t]
    simp only [List.length_cons]
    by_cases h1 : i + 1 ≤ t ∧ t < i + 1 + l.length
    · rw [if_pos h1, if_pos (by omega), show t - i = (t - (i + 1)) + 1 from by omega, List.getElem?_cons_succ]
    · rw [if_neg h1, Env.at_set]
      by_cases h2 : t = i
      · subst h2; rw [if_pos rfl, if_pos (by omega)]; simp
      · rw [if_neg h2, if_neg (by omega)]
theorem enter_ER {j : J} {as : List AV} {xs : List Value} (h : VRs j as xs) (n : Nat) : ER j (envOf as 0 .nil) (⟨xs⟩ ++ Array.replicate n Go.undef : Array Value) := by
  intro t
  rw [envOf_at]
  have hl := h.length
  simp only [Nat.zero_le, true_and, Nat.zero_add, Nat.sub_zero]
  by_cases ht : t < as.length
  · rw [if_pos ht]
    obtain ⟨v, h1, h2⟩ := h.get t as[t] (by simp [ht])
    have : (⟨xs⟩ ++ Array.replicate n Go.undef : Array Value).getD t Go.undef = v := by
      rw [Array.getD_eq_getD_getElem?, Array.getElem?_append_left (by simpa [← hl] using ht)]
      simp only [List.getElem?_toArray]
      rw [h1]; rfl
    rw [this]; simpa [ht] using h2
  · rw [if_neg ht]
    have hu : (⟨xs⟩ ++ Array.replicate n Go.undef : Array Value).getD t Go.undef = Go.undef := by
      rw [Array.getD_eq_getD_getElem?, Array.getElem?_append_right (by simp; omega), Array.getElem?_replicate]
      split <;> rfl
    rw [hu]
    have : Env.at (.nil : Env) t = undefA := by simp [Env.at, Tr.get]
    rw [this]; exact VR.undef j

theorem callFunc_enter {f : FuncId} {fn : Func} {c : Code} {args : Array Value} {w : World} (hf : P.funcs[f]? = some fn) (hb : fn.body = some c) (hn : (fn.name == "runtime.NumGoroutine") = false) : (callFunc f args).run P w = .ok (.enter f args) w := by
  have hn' : ¬ fn.name = "runtime.NumGoroutine" := by simpa using hn
  simp [callFunc, hf, hb, hn']

theorem soundF_succ {N : Nat} (hfp : fitsP P = true) (hsum : SumsOk P S) (hC : SoundC P S N) : SoundF P S (N + 1) := by
  intro n f as h v h' j B w xs hn hev hT hr hg hx
  cases n with
  | zero => simp only [evF] at hev; cases hev
  | succ n =>
    simp only [evF] at hev
    cases hS : natA S f as h with
    | some p =>
      rw [hS] at hev; cases hev
      unfold natA at hS
      split at hS
      · rename_i g hg'; exact hsum f g as h v h' j B w xs hg' hS hT hr hg hx
      · cases hS
    | none =>
      rw [hS] at hev; simp only at hev
      cases hf : P.funcs[f]? with
      | none => rw [hf] at hev; cases hev
      | some fn =>
        rw [hf] at hev; simp only at hev
        cases hb : fn.body with
        | none => rw [hb] at hev; cases hev
        | some c =>
          rw [hb] at hev; simp only at hev
          have hfit := List.all_eq_true.1 hfp fn (List.mem_of_getElem? (i := f) (by simpa using hf))
          rw [hb] at hfit
          simp only [Bool.and_eq_true, Bool.not_eq_true'] at hfit
          refine .inl ⟨callFunc_enter hf hb hfit.2, calls_of_wp hf hb ?_⟩
          have hsz : fn.ntmps ≤ ((⟨xs⟩ : Array Value) ++ Array.replicate (fn.ntmps - (⟨xs⟩ : Array Value).size) Go.undef).size := by simp; omega
          cases hev1 : evC P S n c (envOf as 0 .nil) h with
          | none => rw [hev1] at hev; cases hev
          | some l1 =>
            rw [hev1] at hev; simp only at hev
            split at hev
            case h_2 => cases hev
            rename_i q hq
            refine hC n c _ h l1 j B w _ (by omega) hev1 (fitsC_mono hsz hfit.1) hT hr hg (enter_ER hx _) _ fun o1 ho1 j1 a1 w1 hp => ?_
            obtain ⟨ex1, e1, h1⟩ := o1
            obtain ⟨l2, g1, g2⟩ := bindA_mem hq _ ho1
            have fin : (match resA P h1 e1 fn.results.toList with
                | some l => some [(resV l, h1)]
                | none => none) = some l2 → ∃ x, (results fn a1.tmps).run P w1 = .ok x w1 ∧ Answers j h B w v h' (.returned x) w1 := by
              intro g
              split at g
              · rename_i lr hl
                cases g
                obtain ⟨x, k1, k2⟩ := results_ok hp.rep hp.er hl
                obtain ⟨m1, m2⟩ := mergeAll_mem hev _ (g2 _ (List.mem_singleton.2 rfl))
                simp only at m1 m2
                subst m1
                exact ⟨x, k1, x, j1, rfl, k2, hp.rep.weak m2, hp.ext, Nat.le_trans hp.le m2.next, hp.bel⟩
              · cases g
            cases ex1 with
            | norm => obtain ⟨x, k1, k2⟩ := fin g1; exact ⟨hp.defers, x, k1, k2⟩
            | ret => obtain ⟨x, k1, k2⟩ := fin g1; exact ⟨hp.defers, x, k1, k2⟩
            | exit i => simp only at g1; cases g1
            | goto i => simp only at g1; cases g1

/-- THE WHOLE: what the abstract run tells of a function, its run does. -/
theorem sound (hmix : P.follows .mixedOrders = true) (hfp : fitsP P = true) (hO : OpsOk P S) (hsum : SumsOk P S) : ∀ N, SoundC P S N ∧ SoundL P S N ∧ SoundS P S N ∧ SoundR P S N ∧ SoundE P S N ∧ SoundF P S N
  | 0 => ⟨by intro n; intros; exact absurd ‹n < 0› (Nat.not_lt_zero _), by intro n; intros; exact absurd ‹n < 0› (Nat.not_lt_zero _), by intro n; intros; exact absurd ‹n < 0› (Nat.not_lt_zero _), by intro n; intros; exact absurd ‹n < 0› (Nat.not_lt_zero _), by intro n; intros; exact absurd ‹n < 0› (Nat.not_lt_zero _), by intro n; intros; exact absurd ‹n < 0› (Nat.not_lt_zero _)⟩
  | N + 1 => by
    obtain ⟨c, l, s, r, e, f⟩ := sound hmix hfp hO hsum N
    exact ⟨soundC_succ hmix hO c l s r e, soundL_succ c l, soundS_succ c s, soundR_succ hO e r, soundE_succ hO f, soundF_succ hfp hsum c⟩
theorem evF_sound (hmix : P.follows .mixedOrders = true) (hfp : fitsP P = true) (hO : OpsOk P S) (hsum : SumsOk P S) {n : Nat} {f : FuncId} {as : List AV} {h : AH} {v : AV} {h' : AH} {j : J} {B : Nat} {w : World} {xs : List Value}
    (hev : evF P S n f as h = some (v, h')) (hT : j.tok = S.tok) (hr : Rep j h B w) (hg : GlobOk P j) (hx : VRs j as xs) : Invokes P f ⟨xs⟩ w (Answers j h B w v h') :=
  (sound hmix hfp hO hsum (n + 1)).2.2.2.2.2 n f as h v h' j B w xs (Nat.lt_succ_self n) hev hT hr hg hx
end
end Ab
end Go.Proofs.YtcoobajkgioflaaGreatDoor
