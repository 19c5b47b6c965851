/- A region whose order is drawn: in whatever order, the run comes to what the abstract one comes to. -/
import Derived.Test.YtcoobajkgioflaaGreatDoorAbStat
set_option linter.unusedSimpArgs false
set_option linter.unusedVariables false
namespace Go.Proofs.YtcoobajkgioflaaGreatDoor
namespace Ab
section
variable {P : Program} {S : Sums}

/-- A use of an operation, told by what follows it. -/
def Does (P : Program) (j : J) (h : AH) (B : Nat) (a : Act) (w : World) (o : Oper) (v : AV) (h' : AH) : Prop :=
  ∀ (K : Act → World → Prop) (Q : Exit → Act → World → Prop), (∀ x w' j', VR j' v x → Rep j' h' B w' → j.ext h.next j' → h.next ≤ h'.next → Bel B w w' → K (a.put o.dst x) w') → o.wp P a w K Q
def SoundE (P : Program) (S : Sums) (N : Nat) : Prop :=
  ∀ n o e h v h' oper a w j B, n < N → evE P S n o e h = some (v, h') → compOp P oper = some (.E o) → j.tok = S.tok → Rep j h B w → GlobOk P j → ER j e a.tmps → Does P j h B a w oper v h'
/-- Operations on tokens are told truly. -/
structure OpsOk (P : Program) (S : Sums) : Prop where
  wf : S.tok.wf
  op : ∀ po v e a j oper, S.op po (evAll e po.axs) = some v → j.tok = S.tok → GlobOk P j → ER j e a.tmps → compOp P oper = some (.P po) → PAns P j a oper v
  rd : ∀ ro v e a j h B w oper, S.rd ro (evAll e ro.axs) h = some v → j.tok = S.tok → Rep j h B w → GlobOk P j → ER j e a.tmps → compOp P oper = some (.R ro) → RAns P j h B a w oper v
  ao : ∀ ao v ob e a j B w id oper, S.ao ao (evAll e ao.axs) id = some (v, ob) → j.tok = S.tok → B ≤ w.heap.size → GlobOk P j → ER j e a.tmps → j id = none → compOp P oper = some (.A ao) → AAns P j B a w oper id v ob (aty ao)
  eo : ∀ eo v h' e a j h B w oper, S.eo eo (evAll e eo.axs) h = some (v, h') → j.tok = S.tok → Rep j h B w → GlobOk P j → ER j e a.tmps → compOp P oper = some (.E eo) → EAns P j h B a w oper v h'
theorem aevS_sound (hO : OpsOk P S) {j : J} {B : Nat} {w : World} (hT : j.tok = S.tok) (hB : B ≤ w.heap.size) (hg : GlobOk P j) {e : Env} {a : Act} (he : ER j e a.tmps) {o : Oper} {ao : AO} {v : AV} {id : Nat} {ob : AObj} (hid : j id = none)
    (hc : compOp P o = some (.A ao)) (hv : aevS S e id ao = some (v, ob)) : AAns P j B a w o id v ob (aty ao) := by
  unfold aevS at hv
  split at hv
  · rename_i u hu; cases hv; exact aev_sound hB hg he hid hc hu
  · exact hO.ao ao v ob e a j B w id o hv hT hB hg he hid hc
theorem eevS_sound (hO : OpsOk P S) {j : J} {h : AH} {B : Nat} {w : World} (hT : j.tok = S.tok) (r : Rep j h B w) (hg : GlobOk P j) {e : Env} {a : Act} (he : ER j e a.tmps) {o : Oper} {eo : EO} {v : AV} {h' : AH}
    (hc : compOp P o = some (.E eo)) (hv : eevS S e h eo = some (v, h')) : EAns P j h B a w o v h' := by
  unfold eevS at hv
  split at hv
  · rename_i u hu; cases hv; exact eev_sound r hg he hc hu
  · exact hO.eo eo v h' e a j h B w o hv hT r hg he hc
theorem pevS_sound (hO : OpsOk P S) {j : J} (hT : j.tok = S.tok) (hg : GlobOk P j) {e : Env} {a : Act} (he : ER j e a.tmps) {o : Oper} {po : PO} {v : AV}
    (hc : compOp P o = some (.P po)) (hv : pevS S e po = some v) : PAns P j a o v := by
  unfold pevS at hv
  split at hv
  · rename_i u hu; cases hv; exact pev_sound hg he hc hu
  · exact hO.op po v e a j o hv hT hg he hc
theorem revS_sound (hO : OpsOk P S) {j : J} {h : AH} {B : Nat} {w : World} (hT : j.tok = S.tok) (r : Rep j h B w) (hg : GlobOk P j) {e : Env} {a : Act} (he : ER j e a.tmps) {o : Oper} {ro : RO} {v : AV}
    (hc : compOp P o = some (.R ro)) (hv : revS S e h ro = some v) : RAns P j h B a w o v := by
  unfold revS at hv
  split at hv
  · rename_i u hu; cases hv; exact rev_sound r hg he hc hu
  · exact hO.rd ro v e a j h B w o hv hT r hg he hc


theorem wp_value {o : Oper} {a : Act} {w w' : World} {x : Value} {K : Act → World → Prop} {Q : Exit → Act → World → Prop} (h : (execOp a.eval o).run P w = .ok (.value x) w') (hk : K (a.put o.dst x) w') : o.wp P a w K Q := by
  unfold Oper.wp
  rw [h]; exact hk
theorem wp_skip' {o : Oper} {a : Act} {w w' : World} {K : Act → World → Prop} {Q : Exit → Act → World → Prop} (h : (execOp a.eval o).run P w = .ok .skip w') (hk : K (a.put o.dst Go.undef) w') : o.wp P a w K Q := by
  unfold Oper.wp
  rw [h]; exact hk
theorem EAns.does {j : J} {h : AH} {B : Nat} {a : Act} {w : World} {o : Oper} {v : AV} {h' : AH} (hA : EAns P j h B a w o v h') : Does P j h B a w o v h' := by
  intro K Q hk
  obtain ⟨x, w', j', hrun, h1, h2, h3, h4, h5⟩ := hA
  rcases hrun with hrun | ⟨hrun, rfl⟩
  · exact wp_value hrun (hk x w' j' h1 h2 h3 h4 h5)
  · exact wp_skip' hrun (hk _ w' j' h1 h2 h3 h4 h5)

theorem ER.put {j : J} {e : Env} {a : Act} (he : ER j e a.tmps) {d : Option Tmp} {v : AV} {x : Value} (hv : VR j v x) (hd : ∀ t, d = some t → t < a.tmps.size ∨ v = undefA) : ER j (putA e d v) (a.put d x).tmps := by
  intro t
  cases d with
  | none => exact he t
  | some d =>
    simp only [putA, Env.at_set, Act.put]
    by_cases ht : t = d
    · subst ht
      rw [if_pos rfl]
      by_cases hlt : t < a.tmps.size
      · simpa [Array.getD_eq_getD_getElem?, hlt] using hv
      · rcases hd t rfl with h | h
        · exact absurd h hlt
        · subst h
          have : (a.tmps.setIfInBounds t x).getD t Go.undef = Go.undef := by
            simp [Array.getD_eq_getD_getElem?, Array.getElem?_eq_none (show (a.tmps.setIfInBounds t x).size ≤ t by simp; omega)]
          rw [this]; exact VR.undef j
    · rw [if_neg ht]
      have : (a.tmps.setIfInBounds d x).getD t Go.undef = a.tmps.getD t Go.undef := by
        simp only [Array.getD_eq_getD_getElem?]
        rw [Array.getElem?_setIfInBounds_ne (Ne.symm ht)]
      rw [this]; exact he t
theorem put_size (a : Act) (d : Option Tmp) (x : Value) : (a.put d x).tmps.size = a.tmps.size := by
  cases d <;> simp [Act.put]
theorem put_defers (a : Act) (d : Option Tmp) (x : Value) : (a.put d x).defers = a.defers := by
  cases d <;> simp [Act.put]

/-- All temporaries that are written lie in the frame. -/
def Fits (ops : Array Oper) (a : Act) : Prop := ∀ (i : Nat) (o : Oper) (t : Tmp), ops[i]? = some o → o.dst = some t → t < a.tmps.size

theorem Rep.addTo {j : J} {C h2 : AH} {B base : Nat} {w : World} {sg : List DOp} (r : Rep j C B w) (ha : AddTo base sg C h2) (hn : ∀ x ∈ sg, j (base + x.i) = none) : Rep j h2 B w := by
  have hg : ∀ id ob loc, h2.objs.get id = some ob → j id = some loc → C.objs.get id = some ob := by
    intro id ob loc h1 h3
    rw [← (ha.2 id fun x hx e => by subst e; rw [hn x hx] at h3; cases h3).1]; exact h1
  exact ⟨fun id hi => r.fresh id (by rw [← ha.1]; exact hi), fun id ob b o t h1 h3 => r.objs id ob b o t (hg id ob _ h1 h3) h3,
    fun id id' ob ob' b o t b' o' t' hne h1 h3 h4 h5 h6 => r.sep id id' ob ob' b o t b' o' t' hne (hg id ob _ h1 h3) h3 (hg id' ob' _ h4 h5) h5 h6, r.lt, r.base, fun id e b o t h1 h3 => r.tys id e b o t (by rw [← (ha.2 id fun x hx e => by subst e; rw [hn x hx] at h3; cases h3).2]; exact h1) h3⟩

theorem ordB_inj : ∀ {l : List DOp}, ordB l = true → ∀ x ∈ l, ∀ y ∈ l, x.i = y.i → x = y
  | [], _, x, hx, _, _, _ => by cases hx
  | z :: r, h, x, hx, y, hy, he => by
    simp only [ordB, Bool.and_eq_true] at h
    obtain ⟨⟨_, h2⟩, h3⟩ := h
    have hz : z.i ∉ idxs r := notIn_iff.1 h2
    rcases List.mem_cons.1 hx with ex | hx' <;> rcases List.mem_cons.1 hy with ey | hy'
    · rw [ex, ey]
    · exact absurd (mem_idxs.2 ⟨y, hy', by rw [← he, ex]⟩) hz
    · exact absurd (mem_idxs.2 ⟨x, hx', by rw [he, ey]⟩) hz
    · exact ordB_inj h3 x hx' y hy' he

/-- The levels' heads stand apart. -/
theorem ordB_heads : ∀ {lv : List (DOp × List DOp)} {seg : List DOp}, ordB (flat seg lv) = true → ∀ (m m' : Nat) (y y' : DOp) (sg sg' : List DOp), lv[m]? = some (y, sg) → lv[m']? = some (y', sg') → y.i = y'.i → m = m'
  | [], seg, _, m, m', y, y', sg, sg', h, _, _ => by simp at h
  | (y0, sg0) :: r, seg, ho, m, m', y, y', sg, sg', h, h', he => by
    simp only [flat] at ho
    obtain ⟨_, o2, _⟩ := ordB_append ho
    simp only [ordB, Bool.and_eq_true] at o2
    obtain ⟨⟨_, o22⟩, o23⟩ := o2
    have hy0 : y0.i ∉ idxs (flat sg0 r) := notIn_iff.1 o22
    have inr : ∀ (k : Nat) (z : DOp) (sz : List DOp), r[k]? = some (z, sz) → z ∈ flat sg0 r := fun k z sz hk => mem_flat.2 (.inr ⟨k, z, sz, hk, .inl rfl⟩)
    cases m with
    | zero =>
      simp at h; obtain ⟨rfl, rfl⟩ := h
      cases m' with
      | zero => rfl
      | succ m' => exact absurd (mem_idxs.2 ⟨y', inr m' y' sg' (by simpa using h'), he.symm⟩) hy0
    | succ m =>
      cases m' with
      | zero =>
        simp at h'; obtain ⟨rfl, rfl⟩ := h'
        exact absurd (mem_idxs.2 ⟨y, inr m y sg (by simpa using h), he⟩) hy0
      | succ m' => rw [ordB_heads o23 m m' y y' sg sg' (by simpa using h) (by simpa using h') he]

/-- What is known of a drawn region's text. -/
structure Reg (P : Program) (ops : Array Oper) (d : DReg) : Prop where
  n : d.n = ops.size
  ds : ∀ i, idx? d.ds i = (ops[i]?).map (·.dst)
  get : ∀ (i : Nat) (o : Oper), ops[i]? = some o → ∃ x, d.D[i]? = some x ∧ x.i = i ∧ x.mask = idxD (masks ops.toList []) i ∧ x.g = o.guard ∧ x.dst = o.dst ∧ compOp P o = some x.op ∧ x.src = srcs d.ds x.mask d.n (readsOf d.ds x.g x.op)
  len : d.D.length = ops.size
  flatD : ∀ x ∈ flat d.seg d.lv, x ∈ d.D
  all : ∀ i, i < ops.size → ∃ x ∈ flat d.seg d.lv, x.i = i
  ord : ordB (flat d.seg d.lv) = true
  lev : levB [] d.lv = true
  segP : ∀ x ∈ d.seg, x.op.isE = false
  chk : chkD d.D = true

theorem compD_reg {ops : Array Oper} {d : DReg} (h : compD P ops.toList = some d) : Reg P ops d := by
  unfold compD at h
  split at h
  · cases h
  · rename_i l hl
    obtain ⟨hc, h⟩ := bif_none h
    simp only [Bool.and_eq_true] at hc
    obtain ⟨⟨⟨⟨h1, h2⟩, h3⟩, h4⟩, h5⟩ := hc
    cases h
    obtain ⟨g1, g2⟩ := compOps_get ops.toList l hl
    obtain ⟨m1, m2⟩ := mkD_get (dstsOf ops.toList) (masks ops.toList []) ops.toList.length l 0
    have hsub : ∀ x ∈ flat (segOf (mkD (dstsOf ops.toList) (masks ops.toList []) ops.toList.length l 0) 0 (mkD (dstsOf ops.toList) (masks ops.toList []) ops.toList.length l 0)) (levels (mkD (dstsOf ops.toList) (masks ops.toList []) ops.toList.length l 0) (mkD (dstsOf ops.toList) (masks ops.toList []) ops.toList.length l 0) 0),
        x ∈ mkD (dstsOf ops.toList) (masks ops.toList []) ops.toList.length l 0 := by
      intro x hx
      rcases mem_flat.1 hx with hx | ⟨m, y, sg, hm, hx⟩
      · exact segOf_sub _ _ _ _ hx
      · have := levels_sub _ _ _ y sg (List.mem_of_getElem? hm)
        rcases hx with rfl | hx
        · exact this.1
        · exact this.2 x hx
    refine ⟨by simp, fun i => by rw [dstsOf_get]; simp, fun i o ho => ?_, by rw [m1, g1]; simp, hsub, fun i hi => ?_, h2, h4, fun x hx => ?_, h1⟩
    · obtain ⟨ao, hao, hla⟩ := g2 i o (by simpa using ho)
      have := m2 i _ _ _ hla
      rw [Nat.zero_add] at this
      exact ⟨_, this, rfl, rfl, rfl, rfl, hao, rfl⟩
    · have := allBelow_iff h3 i (by simpa using hi)
      exact mem_idxs.1 this
    · simpa using List.all_eq_true.1 h5 x hx

theorem Reg.at {ops : Array Oper} {d : DReg} (R : Reg P ops d) {x : DOp} (hx : x ∈ d.D) : ∃ o, ops[x.i]? = some o ∧ d.D[x.i]? = some x ∧ x.mask = idxD (masks ops.toList []) x.i ∧ x.g = o.guard ∧ x.dst = o.dst ∧ compOp P o = some x.op ∧ x.src = srcs d.ds x.mask d.n (readsOf d.ds x.g x.op) := by
  obtain ⟨i, hi, he⟩ := List.getElem_of_mem hx
  have hlt : i < ops.size := by rw [← R.len]; exact hi
  obtain ⟨x', h1, h2, h3⟩ := R.get i ops[i] (by simp [hlt])
  have : x' = x := by
    rw [List.getElem?_eq_getElem hi] at h1
    rw [← Option.some.inj h1]; exact he
  subst this
  rw [h2]
  exact ⟨ops[i], by simp [hlt], h1, h3⟩

theorem chk_pair {D : List DOp} (h : chkD D = true) {x y : DOp} (hx : x ∈ D) (hy : y ∈ D) : x.mask < 2 ^ x.i ∧
    (∀ t, y.dst = some t → x.i ≠ y.i → (∃ p ∈ x.src, p.1 = t) → Nat.testBit x.mask y.i = true ∨ Nat.testBit y.mask x.i = true) ∧
    (∀ t, x.dst = some t → y.dst = some t → x.i < y.i → Nat.testBit y.mask x.i = true) := by
  unfold chkD at h
  have h1 := List.all_eq_true.1 h x hx
  simp only [Bool.and_eq_true] at h1
  obtain ⟨hlt, h1⟩ := h1
  have h2 := List.all_eq_true.1 h1 y hy
  unfold chkPair at h2
  simp only [Bool.and_eq_true] at h2
  obtain ⟨⟨h3, h4⟩, h5⟩ := h2
  refine ⟨?_, fun t ht hne hsrc => ?_, fun t ht hu hlt' => ?_⟩
  · have : Nat.blt x.mask (Nat.pow 2 x.i) = true := hlt
    simpa [Nat.blt_eq] using this
  · rw [ht] at h3
    simp only [nat_beq, Bool.or_eq_true, decide_eq_true_eq, Bool.not_eq_true'] at h3
    rcases h3 with ((h3 | h3) | h3) | h3
    · exact absurd h3 hne
    · exfalso
      obtain ⟨p, hp, e⟩ := hsrc
      have := List.any_eq_false.1 h3 p hp
      simp [e] at this
    · exact .inl h3
    · exact .inr h3
  · rw [ht, hu] at h4
    simp only [nat_beq, decide_true, Bool.not_true, Bool.false_or, Bool.or_eq_true, Bool.not_eq_true'] at h4
    rcases h4 with h4 | h4
    · have : Nat.blt x.i y.i = true := by rw [Nat.blt_eq]; exact hlt'
      rw [this] at h4; cases h4
    · exact h4

theorem maskE_keep (acc : List Nat) : ∀ (es : List Edge) (s i : Nat), Nat.testBit s i = true → Nat.testBit (maskE acc es s) i = true
  | [], s, i, h => h
  | e :: r, s, i, h => by
    simp only [maskE]
    cases hb : Region.binds .any e with
    | false => rw [cond_false]; exact maskE_keep acc r s i h
    | true =>
      rw [cond_true]
      refine maskE_keep acc r _ i ?_
      rw [lor_bit, h]; rfl
theorem maskE_has (acc : List Nat) : ∀ (es : List Edge) (s : Nat) (e : Edge), e ∈ es → Region.binds .any e = true → Nat.testBit (maskE acc es s) e.on = true
  | [], s, e, h, _ => by cases h
  | e0 :: r, s, e, h, hb => by
    simp only [maskE]
    rcases List.mem_cons.1 h with rfl | h
    · rw [hb, cond_true]
      refine maskE_keep acc r _ _ ?_
      rw [lor_bit, lor_bit]
      have : Nat.testBit (Nat.pow 2 e.on) e.on = true := Nat.testBit_two_pow_self
      rw [this]; simp
    · cases hb0 : Region.binds .any e0 with
      | false => rw [cond_false]; exact maskE_has acc r _ e h hb
      | true => rw [cond_true]; exact maskE_has acc r _ e h hb

/-- A binding edge comes from an operation ahead. -/
theorem Reg.edge {ops : Array Oper} {d : DReg} (R : Reg P ops d) {i : Nat} {o : Oper} (ho : ops[i]? = some o) {e : Edge} (he : e ∈ o.after) (hb : Region.binds .any e = true) : e.on < i := by
  obtain ⟨x, h1, h2, h3, _⟩ := R.get i o ho
  have hx : x ∈ d.D := List.mem_of_getElem? h1
  have hlt := (chk_pair R.chk hx hx).1
  obtain ⟨g1, g2, g3⟩ := masks_get ops.toList []
  have hm := g3 i o (by simpa using ho)
  simp only [List.length_nil, Nat.zero_add] at hm
  have hmask : x.mask = maskE ((masks ops.toList []).take i) o.after.toList 0 := by
    rw [h3, idxD_eq, hm]; rfl
  have hbit : Nat.testBit x.mask e.on = true := by
    rw [hmask]; exact maskE_has _ _ _ e (by simpa using he) hb
  rw [h2] at hlt
  rcases Nat.lt_or_ge e.on i with h | h
  · exact h
  · rw [Nat.testBit_lt_two_pow (Nat.lt_of_lt_of_le hlt (Nat.pow_le_pow_right (by omega) h))] at hbit; cases hbit

def unl (L : Array Bool) : Nat → Nat
  | 0 => 0
  | n + 1 => (if L.getD n false = true then 0 else 1) + unl L n
theorem unl_set_ge {L : Array Bool} {i : Nat} : ∀ {n : Nat}, n ≤ i → unl (L.setIfInBounds i true) n = unl L n
  | 0, _ => rfl
  | n + 1, h => by
    simp only [unl]
    rw [getD_set_ne false (show i ≠ n by omega), unl_set_ge (n := n) (by omega)]
theorem unl_set {L : Array Bool} {i : Nat} (hs : i < L.size) (hl : L.getD i false = false) : ∀ {n : Nat}, i < n → unl (L.setIfInBounds i true) n + 1 = unl L n
  | 0, h => by omega
  | n + 1, h => by
    simp only [unl]
    by_cases he : i = n
    · subst he
      rw [unl_set_ge (Nat.le_refl _), hl]
      have : (L.setIfInBounds i true).getD i false = true := by simp [hs]
      rw [this]; simp; omega
    · rw [getD_set_ne false he]
      have := unl_set hs hl (n := n) (by omega)
      omega
theorem unl_zero {L : Array Bool} : ∀ {n : Nat}, unl L n = 0 → ∀ i, i < n → L.getD i false = true
  | 0, _, i, hi => by omega
  | n + 1, h, i, hi => by
    simp only [unl] at h
    by_cases hl : L.getD n false = true
    · by_cases he : i = n
      · rw [he]; exact hl
      · exact unl_zero (n := n) (by omega) i (by omega)
    · rw [if_neg hl] at h; omega
theorem unl_rep (n m : Nat) : ∀ {k : Nat}, unl (Array.replicate n false) k = k
  | 0 => rfl
  | k + 1 => by
    simp only [unl]
    rw [unl_rep n m (k := k)]
    have : (Array.replicate n false).getD k false = false := by
      simp only [Array.getD_eq_getD_getElem?, Array.getElem?_replicate]
      split <;> rfl
    rw [this]; simp; omega

theorem getD_tf {L : Array Bool} {i : Nat} : L.getD i true = false ↔ i < L.size ∧ L.getD i false = false := by
  simp only [Array.getD_eq_getD_getElem?]
  by_cases h : i < L.size
  · simp [h]
  · rw [Array.getElem?_eq_none (by omega)]; simp [h]

/-- Where nothing is ready, all is listed. -/
theorem Reg.done {ops : Array Oper} {d : DReg} (R : Reg P ops d) {L : Array Bool} (hs : L.size = ops.size) (hr : Region.ready .any ops L = []) : ∀ i, i < ops.size → L.getD i false = true := by
  intro i
  induction i using Nat.strongRecOn with
  | _ i ih =>
    intro hi
    cases hl : L.getD i false with
    | true => rfl
    | false =>
      have : i ∈ Region.ready .any ops L := mem_ready.2 ⟨getD_tf.2 ⟨by omega, hl⟩, ops[i], by simp [hi], fun e he hb => by
        have hlt := R.edge (i := i) (o := ops[i]) (by simp [hi]) he hb
        exact ih e.on hlt (by omega)⟩
      rw [hr] at this; cases this

/-- The state of a run of a drawn region. -/
structure Inv (P : Program) (ops : Array Oper) (d : DReg) (T : Env) (base : Nat) (V : VT) (Bf : Nat → AH) (j0 : J) (B : Nat) (w0 : World) (a0 : Act) (L : Array Bool) (a : Act) (w : World) (k : Nat) (eS : Env) (j : J) : Prop where
  size : L.size = ops.size
  closed : Closed ops L
  heads : ∀ m y sg, d.lv[m]? = some (y, sg) → (L.getD y.i false = true ↔ m < k)
  kle : k ≤ d.lv.length
  rep : Rep j (Bf k) B w
  ext : j0.ext base j
  absent : ∀ i, i < d.n → L.getD i false = false → j (base + i) = none
  room : base + d.n ≤ (Bf k).next
  er : ER j eS a.tmps
  env : ∀ t, Env.at eS t = match lastP (fun u => L.getD u false) d.ds t d.n with | some u => Env.at V u | none => Env.at T t
  bel : Bel B w0 w
  defers : a.defers = a0.defers
  fits : a.tmps.size = a0.tmps.size

theorem set_self {L : Array Bool} {i : Nat} (h : i < L.size) : (L.setIfInBounds i true).getD i false = true := by simp [h]

section step
variable {ops : Array Oper} {d : DReg} {T : Env} {base : Nat} {V : VT} {Bf : Nat → AH} {j0 : J} {B : Nat} {w0 : World} {a0 : Act} {L : Array Bool} {a : Act} {w : World} {k : Nat} {eS : Env} {j : J} {i : Nat} {o : Oper} {x : DOp}

/-- What is known of a ready operation. -/
structure Rdy (ops : Array Oper) (d : DReg) (L : Array Bool) (i : Nat) (o : Oper) (x : DOp) : Prop where
  no : L.getD i false = false
  lt : i < L.size
  op : ops[i]? = some o
  edges : ∀ e ∈ o.after, Region.binds .any e = true → L.getD e.on false = true
  get : d.D[i]? = some x
  i : x.i = i
  mask : ∀ u, Nat.testBit x.mask u = true → L.getD u false = true

theorem Inv.mask (R : Reg P ops d) (hI : Inv P ops d T base V Bf j0 B w0 a0 L a w k eS j) {u : Nat} {y : DOp} (hy : d.D[u]? = some y) (hl : L.getD u false = true) : y.i = u ∧ ∀ q, Nat.testBit y.mask q = true → L.getD q false = true := by
  have hlt : u < ops.size := by rw [← R.len]; exact (List.getElem?_eq_some_iff.1 hy).1
  obtain ⟨y', h1, h2, h3, _⟩ := R.get u ops[u] (by simp [hlt])
  rw [hy] at h1; cases h1
  exact ⟨h2, fun q hq => mask_closed hI.closed u ops[u] (by simp [hlt]) (.inl hl) q (by rw [← h3]; exact hq)⟩

theorem Inv.agree (R : Reg P ops d) (hI : Inv P ops d T base V Bf j0 B w0 a0 L a w k eS j) (hr : Rdy ops d L i o x) : Agree (mkE V x.src T) eS (readsOf d.ds x.g x.op) := by
  intro t ht
  have hx : x ∈ d.D := List.mem_of_getElem? hr.get
  obtain ⟨o', h1, h2, h3, h4, h5, h6, h7⟩ := R.at hx
  rw [h7, mkE_at, if_pos ht, hI.env, lastw_eq]
  have hcg : lastP (Nat.testBit x.mask) d.ds t d.n = lastP (fun u => L.getD u false) d.ds t d.n := ?_
  · rw [hcg]; cases lastP (fun u => L.getD u false) d.ds t d.n <;> rfl
  refine lastP_congr fun u hu hw => ?_
  have hlt : u < ops.size := by rw [← R.n]; exact hu
  obtain ⟨y, g1, g2, g3, g4, g5, _⟩ := R.get u ops[u] (by simp [hlt])
  have hyd : y.dst = some t := by
    have := R.ds u
    rw [hw] at this
    simp only [Array.getElem?_eq_getElem hlt, Option.map_some, Option.some.injEq] at this
    rw [g5, this]
  cases hb : Nat.testBit x.mask u with
  | true => exact (hr.mask u hb).symm
  | false =>
    cases hl : L.getD u false with
    | false => rfl
    | true =>
      have hne : x.i ≠ y.i := by
        rw [hr.i, g2]; intro e; subst e; rw [hr.no] at hl; cases hl
      have hsrc : ∃ p ∈ x.src, p.1 = t := by
        rw [h7]; exact ⟨_, srcs_mem _ _ _ _ t ht, rfl⟩
      rcases (chk_pair R.chk hx (List.mem_of_getElem? g1)).2.1 t hyd hne hsrc with h | h
      · rw [g2, hb] at h; cases h
      · have := (hI.mask R g1 hl).2 _ h
        rw [hr.i, hr.no] at this; cases this

theorem Inv.next (R : Reg P ops d) (hfit : Fits ops a0) (hI : Inv P ops d T base V Bf j0 B w0 a0 L a w k eS j) (hr : Rdy ops d L i o x) {xv : Value} {w' : World} {j' : J} {k' : Nat}
    (hv : VR j' (Env.at V i) xv) (hrep : Rep j' (Bf k') B w') (hj : ∀ id, id < base + d.n → id ≠ base + i → j' id = j id) (hle : j.le j') (hroom : base + d.n ≤ (Bf k').next)
    (hh : ∀ m y sg, d.lv[m]? = some (y, sg) → ((L.setIfInBounds i true).getD y.i false = true ↔ m < k')) (hk : k' ≤ d.lv.length) (hb : Bel B w w') :
    Inv P ops d T base V Bf j0 B w0 a0 (L.setIfInBounds i true) (a.put o.dst xv) w' k' (putA eS x.dst (Env.at V i)) j' := by
  have hx : x ∈ d.D := List.mem_of_getElem? hr.get
  obtain ⟨o', h1, h2, h3, h4, h5, h6, h7⟩ := R.at hx
  have hoo : o' = o := by
    rw [hr.i, hr.op] at h1; exact (Option.some.inj h1).symm
  subst hoo
  have hin : i < d.n := by rw [R.n, ← hI.size]; exact hr.lt
  have her : ER j' eS a.tmps := fun t => VR.mono hle _ _ (hI.er t)
  refine ⟨by simp [hI.size], ?_, hh, hk, hrep, ⟨hle.tok.trans hI.ext.tok, fun id hid => ?_⟩, fun u hu hl => ?_, hroom, ?_, fun t => ?_, hI.bel.trans hb, ?_, ?_⟩
  · intro q oq hoq hl e he hbe
    by_cases hq : i = q
    · subst hq
      rw [hr.op] at hoq; cases hoq
      exact getD_set_true (hr.edges e he hbe)
    · rw [getD_set_ne false hq] at hl
      exact getD_set_true (hI.closed q oq hoq hl e he hbe)
  · rw [hj id (by omega) (by omega)]; exact hI.ext.loc id hid
  · by_cases hu' : i = u
    · subst hu'; rw [set_self hr.lt] at hl; cases hl
    · rw [getD_set_ne false hu'] at hl
      rw [hj _ (by omega) (by omega)]; exact hI.absent u hu hl
  · rw [h5]
    exact her.put hv fun t ht => .inl (by rw [hI.fits]; exact hfit i o' t hr.op ht)
  · have hds : idx? d.ds i = some x.dst := by rw [R.ds, hr.op, h5]; rfl
    have hcg : lastP (fun u => (L.setIfInBounds i true).getD u false) d.ds t d.n = lastP (fun u => L.getD u false || Nat.beq u i) d.ds t d.n := by
      refine lastP_congr fun u hu _ => ?_
      by_cases hu' : i = u
      · subst hu'; rw [set_self hr.lt]; simp [nat_beq]
      · rw [getD_set_ne false hu']
        have : Nat.beq u i = false := by rw [nat_beq]; exact decide_eq_false (Ne.symm hu')
        rw [this, Bool.or_false]
    have hadd : lastP (fun u => L.getD u false || Nat.beq u i) d.ds t d.n = if x.dst = some t then some i else lastP (fun u => L.getD u false) d.ds t d.n := ?_
    · rw [hcg, hadd]
      cases hd : x.dst with
      | none => simp only [putA]; rw [if_neg (by simp)]; exact hI.env t
      | some q =>
        simp only [putA, Env.at_set]
        by_cases htq : t = q
        · subst htq; simp
        · rw [if_neg htq, if_neg (by simpa using Ne.symm htq)]; exact hI.env t
    · refine lastP_add hds hin fun u hu hun hl q hq hw => ?_
      have hlt : u < ops.size := by rw [← R.n]; exact hun
      obtain ⟨y, g1, g2, g3, g4, g5, _⟩ := R.get u ops[u] (by simp [hlt])
      have hyd : y.dst = some q := by
        have := R.ds u
        rw [hw] at this
        simp only [Array.getElem?_eq_getElem hlt, Option.map_some, Option.some.injEq] at this
        rw [g5, this]
      have hm := (chk_pair R.chk hx (List.mem_of_getElem? g1)).2.2 q hq hyd (by rw [hr.i, g2]; exact hu)
      have := (hI.mask R g1 hl).2 _ hm
      rw [hr.i, hr.no] at this; cases this
  · rw [put_defers]; exact hI.defers
  · rw [put_size]; exact hI.fits

/-- No writer of memory: the heads stand as they did. -/
theorem Inv.headsP (R : Reg P ops d) (hI : Inv P ops d T base V Bf j0 B w0 a0 L a w k eS j) (hr : Rdy ops d L i o x) (he : x.op.isE = false) :
    ∀ m y sg, d.lv[m]? = some (y, sg) → ((L.setIfInBounds i true).getD y.i false = true ↔ m < k) := by
  intro m y sg hm
  have hy : y ∈ d.D := R.flatD y (mem_flat.2 (.inr ⟨m, y, sg, hm, .inl rfl⟩))
  have hye := (levB_get _ _ R.lev m y sg hm).1
  have hne : i ≠ y.i := by
    intro e
    obtain ⟨_, _, h2, _⟩ := R.at hy
    rw [← e, hr.get] at h2
    cases h2
    rw [he] at hye; cases hye
  rw [getD_set_ne false hne]
  exact hI.heads m y sg hm

/-- Where an operation stands. -/
theorem Inv.place (R : Reg P ops d) (hI : Inv P ops d T base V Bf j0 B w0 a0 L a w k eS j) (hr : Rdy ops d L i o x) :
    (x.op.isE = false ∧ (x ∈ d.seg ∨ ∃ m y sg, m < k ∧ d.lv[m]? = some (y, sg) ∧ x ∈ sg) ∧ ∀ q y sg, q < k → d.lv[q]? = some (y, sg) → Nat.testBit y.mask x.i = false) ∨
    (x.op.isE = true ∧ ∃ sg, d.lv[k]? = some (x, sg)) := by
  have hx : x ∈ d.D := List.mem_of_getElem? hr.get
  have hin : i < ops.size := by rw [← hI.size]; exact hr.lt
  obtain ⟨x', hx', hi'⟩ := R.all i hin
  have hxx : x' = x := by
    obtain ⟨_, _, h2, _⟩ := R.at (R.flatD x' hx')
    rw [hi', hr.get] at h2
    exact (Option.some.inj h2).symm
  subst hxx
  have hheads : ∀ q y sg, q < k → d.lv[q]? = some (y, sg) → Nat.testBit y.mask x'.i = false := by
    intro q y sg hq hl
    have hy : y ∈ d.D := R.flatD y (mem_flat.2 (.inr ⟨q, y, sg, hl, .inl rfl⟩))
    have hly := (hI.heads q y sg hl).2 hq
    obtain ⟨_, _, h2, _⟩ := R.at hy
    cases hb : Nat.testBit y.mask x'.i with
    | false => rfl
    | true =>
      have := (hI.mask R h2 hly).2 _ hb
      rw [hr.i, hr.no] at this; cases this
  rcases mem_flat.1 hx' with h | ⟨m, y, sg, hm, h⟩
  · exact .inl ⟨R.segP _ h, .inl h, hheads⟩
  · obtain ⟨l1, _, l3, l4⟩ := levB_get _ _ R.lev m y sg hm
    rcases h with h | h
    · subst h
      refine .inr ⟨l1, ?_⟩
      have hmk : ¬ m < k := fun hlt => by
        have := (hI.heads m _ sg hm).2 hlt
        rw [hr.i, hr.no] at this; cases this
      rcases Nat.lt_or_ge k m with hkm | hkm
      · exfalso
        have hlen : k < d.lv.length := Nat.lt_trans hkm (List.getElem?_eq_some_iff.1 hm).1
        obtain ⟨⟨y', sg'⟩, hyk⟩ : ∃ p, d.lv[k]? = some p := ⟨d.lv[k], List.getElem?_eq_getElem hlen⟩
        have := hr.mask _ (l3 k y' sg' hkm hyk)
        exact absurd ((hI.heads k y' sg' hyk).1 this) (Nat.lt_irrefl _)
      · have : m = k := by omega
        subst this; exact ⟨sg, hm⟩
    · obtain ⟨g1, g2⟩ := l4 _ h
      exact .inl ⟨g1, .inr ⟨m, y, sg, (hI.heads m y sg hm).1 (hr.mask _ g2), hm, h⟩, hheads⟩
end step

section run
variable {ops : Array Oper} {d : DReg} {T : Env} {base : Nat} {V : VT} {Bf : Nat → AH} {j0 : J} {B : Nat} {w0 : World} {a0 : Act} {h0 h' : AH} {N : Nat} {Q : Exit → Act → World → Prop}

theorem wpOp_of {ops : Array Oper} {i : Nat} {o : Oper} {a : Act} {w : World} {K : Act → World → Prop} (ho : ops[i]? = some o) {c : Bool} (hw : Region.wanted o (yielded ops a.tmps) = c) (ht : c = true → o.wp P a w K Q) (hf : c = false → K (a.put o.dst Go.undef) w) : wpOp P ops Q i K a w := by
  unfold wpOp
  rw [ho]; simp only [hw]
  cases c with
  | true => simp only [if_true]; exact .inl (ht rfl)
  | false => simp only [Bool.false_eq_true, if_false]; exact hf rfl

theorem GlobOk.ext {j : J} (hg : GlobOk P j0) (hf : ∀ id, base ≤ id → j0 id = none) (he : j0.ext base j) : GlobOk P j := by
  intro g hlt
  obtain ⟨t, ht⟩ := hg g hlt
  refine ⟨t, ?_⟩
  rcases Nat.lt_or_ge g base with h | h
  · rw [he.loc g h]; exact ht
  · rw [hf g h] at ht; cases ht

theorem Inv.finish (R : Reg P ops d) (F : Facts d.ds T base P S N d.seg d.lv [] h0 V h' Bf)
    (hQ : ∀ a' w' j', ER j' (outE V d.D T) a'.tmps → Rep j' h' B w' → j0.ext base j' → base + d.n ≤ h'.next → Bel B w0 w' → a'.defers = a0.defers → a'.tmps.size = a0.tmps.size → Q .normal a' w')
    {L : Array Bool} {a : Act} {w : World} {k : Nat} {eS : Env} {j : J} (hI : Inv P ops d T base V Bf j0 B w0 a0 L a w k eS j) (hall : ∀ i, i < ops.size → L.getD i false = true) : Q .normal a w := by
  have hk : k = d.lv.length := by
    rcases Nat.lt_or_ge k d.lv.length with h | h
    · exfalso
      obtain ⟨⟨y, sg⟩, hy⟩ : ∃ p, d.lv[k]? = some p := ⟨d.lv[k], List.getElem?_eq_getElem h⟩
      have hyD : y ∈ d.D := R.flatD y (mem_flat.2 (.inr ⟨k, y, sg, hy, .inl rfl⟩))
      obtain ⟨_, g1, _⟩ := R.at hyD
      have := (hI.heads k y sg hy).1 (hall _ (Array.getElem?_eq_some_iff.1 g1).1)
      omega
    · have := hI.kle; omega
  subst hk
  have hB := F.last
  refine hQ a w j (fun t => ?_) (by rw [← hB]; exact hI.rep) hI.ext (by rw [← hB]; exact hI.room) hI.bel hI.defers hI.fits
  have he := hI.env t
  have ho := outE_at V d.ds d.D 0 T t fun i x hx => by
    have hlt : i < ops.size := by rw [← R.len]; exact (List.getElem?_eq_some_iff.1 hx).1
    obtain ⟨x', g1, g2, g3, g4, g5, _⟩ := R.get i ops[i] (by simp [hlt])
    rw [hx] at g1; cases g1
    refine ⟨by omega, ?_⟩
    rw [Nat.zero_add, R.ds, g5]; simp [hlt]
  have hcg : lastP (fun u => Nat.ble 0 u) d.ds t (0 + d.D.length) = lastP (fun u => L.getD u false) d.ds t d.n := by
    rw [Nat.zero_add, R.len, R.n]
    refine lastP_congr fun u hu _ => ?_
    rw [hall u hu]; rfl
  rw [hcg] at ho
  have : Env.at (outE V d.D T) t = Env.at eS t := by
    rw [he, ho]; cases lastP (fun u => L.getD u false) d.ds t d.n <;> rfl
  rw [this]; exact hI.er t

theorem draw_any (R : Reg P ops d) (hfit : Fits ops a0) (hO : OpsOk P S) (hT0 : j0.tok = S.tok) (hS : SoundE P S N) (hg0 : GlobOk P j0) (hf0 : ∀ id, base ≤ id → j0 id = none) (F : Facts d.ds T base P S N d.seg d.lv [] h0 V h' Bf)
    (hQ : ∀ a' w' j', ER j' (outE V d.D T) a'.tmps → Rep j' h' B w' → j0.ext base j' → base + d.n ≤ h'.next → Bel B w0 w' → a'.defers = a0.defers → a'.tmps.size = a0.tmps.size → Q .normal a' w') :
    ∀ (fuel : Nat) (L : Array Bool) (a : Act) (w : World) (k : Nat) (eS : Env) (j : J), Inv P ops d T base V Bf j0 B w0 a0 L a w k eS j → unl L d.n ≤ fuel → wpAny P .any ops Q fuel L a w := by
  intro fuel
  induction fuel with
  | zero =>
    intro L a w k eS j hI hu
    have hall : ∀ i, i < ops.size → L.getD i false = true := by rw [← R.n]; exact unl_zero (by omega)
    refine ⟨?_, hI.finish R F hQ hall⟩
    rw [List.eq_nil_iff_forall_not_mem]
    intro i hi
    obtain ⟨h1, _⟩ := mem_ready.1 hi
    obtain ⟨h2, h3⟩ := getD_tf.1 h1
    rw [hall i (by rw [← hI.size]; exact h2)] at h3; cases h3
  | succ fuel ih =>
    intro L a w k eS j hI hu
    refine ⟨fun hr => hI.finish R F hQ (R.done hI.size hr), fun i hi => ?_⟩
    obtain ⟨h1, o, ho, hedge⟩ := mem_ready.1 hi
    obtain ⟨hlt, hno⟩ := getD_tf.1 h1
    have hin : i < d.n := by rw [R.n, ← hI.size]; exact hlt
    obtain ⟨x, hx, hxi, hxm, hxg, hxd, hxo, hxs⟩ := R.get i o ho
    have hr : Rdy ops d L i o x := ⟨hno, hlt, ho, hedge, hx, hxi, fun u hb => mask_closed hI.closed i o ho (.inr hedge) u (by rw [← hxm]; exact hb)⟩
    have hgl : GlobOk P j := hg0.ext hf0 hI.ext
    have hT : j.tok = S.tok := hI.ext.tok.trans hT0
    have hag := hI.agree R hr
    have hax : ∀ y ∈ x.op.axs, y.ev (mkE V x.src T) = y.ev eS := by
      have := hag
      unfold readsOf at this
      exact (agree_tmps fun t ht => this t (List.mem_append.2 (.inr ht)))
    have hgd : wantedA d.ds (mkE V x.src T) x.g = wantedA d.ds eS x.g := wantedA_congr fun t ht => hag t (by unfold readsOf; exact List.mem_append.2 (.inl ht))
    have hwant := wanted_ok hI.er (ops := ops) (ds := d.ds) R.ds o
    rw [← hxg, ← hgd] at hwant
    -- what follows a use
    have hun : unl (L.setIfInBounds i true) d.n ≤ fuel := by
      have := unl_set hlt hno (n := d.n) hin
      omega
    have absI := hI.absent i hin hno
    have keep : ∀ (xv : Value) (w' : World) (j' : J) (k' : Nat), VR j' (Env.at V i) xv → Rep j' (Bf k') B w' → (∀ id, id < base + d.n → id ≠ base + i → j' id = j id) → j.le j' → base + d.n ≤ (Bf k').next →
        (∀ m y sg, d.lv[m]? = some (y, sg) → ((L.setIfInBounds i true).getD y.i false = true ↔ m < k')) → k' ≤ d.lv.length → Bel B w w' → wpAny P .any ops Q fuel (L.setIfInBounds i true) (a.put o.dst xv) w' :=
      fun xv w' j' k' p1 p2 p3 p4 p5 p6 p7 p8 => ih _ _ _ _ _ _ (hI.next R hfit hr p1 p2 p3 p4 p5 p6 p7 p8) hun
    rcases hI.place R hr with ⟨hE, hpl, hbits⟩ | ⟨hE, sg, hsg⟩
    · -- no writer of memory
      have hhd := hI.headsP R hr hE
      have segf : SegF S d.ds T base V x := by
        rcases hpl with h | ⟨m, y, sg, hm, hl, hx'⟩
        · exact F.seg0 x h
        · exact (F.lev m y sg hl).1 x hx'
      have hst : stays S d.ds T base V (Bf k) x = true := F.stay k x hI.kle (by
        rcases hpl with h | h
        · exact .inl (by simpa using h)
        · exact .inr h) hbits
      unfold SegF at segf
      unfold stays at hst
      rw [hxi] at segf hst
      refine wpOp_of ho hwant (fun hw => ?_) fun hw => ?_
      · have hsf := segf.2 hw
        simp only [hw, Bool.not_true, Bool.false_or] at hst
        cases hop : x.op with
        | P po =>
          rw [hop] at hsf hax hxo; simp only at hsf
          obtain ⟨xv, g1, g2⟩ := pevS_sound hO hT hgl hI.er hxo (show pevS S eS po = some (Env.at V i) by rw [← pevS_congr hax]; exact hsf)
          exact wp_value (g2 w) (keep xv w j k g1 hI.rep (fun _ _ _ => rfl) (J.le_refl j) hI.room hhd hI.kle (RowKit.Below.refl _ _))
        | R ro =>
          rw [hop] at hst hax hxo; simp only at hst
          have hcg := revS_congr (S := S) (m := Bf k) hax
          rw [hcg] at hst
          cases hv : revS S eS (Bf k) ro with
          | none => rw [hv] at hst; cases hst
          | some v =>
            rw [hv] at hst; simp only at hst
            have := same_eq _ _ hst
            subst this
            obtain ⟨xv, w', g1, g2, g3, g4⟩ := revS_sound hO hT hI.rep hgl hI.er hxo hv
            exact wp_value g2 (keep xv w' j k g1 g3 (fun _ _ _ => rfl) (J.le_refl j) hI.room hhd hI.kle g4)
        | A ao =>
          rw [hop] at hsf hst hax hxo; simp only at hsf hst
          obtain ⟨ob, hob⟩ := hsf
          have hadd : Nat.add base i = base + i := rfl
          rw [hadd, hob] at hst
          cases hget : (Bf k).objs.get (base + i) with
          | none => rw [hget] at hst; cases hst
          | some ob' =>
            rw [hget] at hst; simp only at hst
            simp only [Bool.and_eq_true] at hst
            obtain ⟨hst, hlt⟩ := hst
            have := sameObj_eq hst
            subst this
            rw [aevS_congr hax] at hob
            obtain ⟨xv, w', obj, t, g1, g2, g3, g4, g5, g6, g7, g8⟩ := aevS_sound hO (hI.ext.tok.trans hT0) hI.rep.base hgl hI.er absI hxo hob
            have hroom : base + i < (Bf k).next := by have := hI.room; omega
            refine wp_value g1 (keep xv w' _ k g6 (hI.rep.born absI hroom hget g2 (fun e he => g8 e (by
              rw [he] at hlt
              unfold leT at hlt
              split at hlt
              · rename_i h1; cases h1
              · rename_i h1 h2; cases h1; rw [h2, Nat.eq_of_beq_eq_true hlt]
              · cases hlt)) g7) (fun id _ hne => ?_) (J.put_le absI) hI.room hhd hI.kle ?_)
            · rw [J.put_at]; rw [if_neg hne]
            · exact ⟨g3, g4, g5, by rw [g2]; simp, fun q hq => by
                have := hI.rep.base
                rw [g2, Array.getElem?_push, if_neg (by omega)]⟩
        | E eo => rw [hop] at hE; cases hE
      · have hu := segf.1 hw
        exact keep Go.undef w j k (by rw [hu]; exact VR.undef j) hI.rep (fun _ _ _ => rfl) (J.le_refl j) hI.room hhd hI.kle (RowKit.Below.refl _ _)
    · -- a writer of memory
      obtain ⟨hsgF, C, hEF, hadd⟩ := F.lev k x sg hsg
      have hklt : k < d.lv.length := (List.getElem?_eq_some_iff.1 hsg).1
      unfold EF at hEF
      rw [hxi] at hEF
      have hhd : ∀ m y sg, d.lv[m]? = some (y, sg) → ((L.setIfInBounds i true).getD y.i false = true ↔ m < k + 1) := by
        intro m y sg' hm
        by_cases hy : y.i = i
        · rw [hy, set_self hlt]
          have := ordB_heads R.ord m k y x sg' sg hm hsg (by rw [hy, hxi])
          subst this; simp
        · rw [getD_set_ne false (Ne.symm hy), hI.heads m y sg' hm]
          constructor
          · intro h; omega
          · intro h
            rcases Nat.lt_or_ge m k with h' | h'
            · exact h'
            · have : m = k := by omega
              subst this
              rw [hsg] at hm; cases hm
              exact absurd hxi hy
      -- behind the use: what the next level makes
      have hgrow : ∀ (w' : World) (j' : J), Rep j' C B w' → j.ext (Bf k).next j' → Rep j' (Bf (k + 1)) B w' := by
        intro w' j' hrep hext
        refine hrep.addTo hadd fun z hz => ?_
        have hzD : z ∈ d.D := R.flatD z (mem_flat.2 (.inr ⟨k, x, sg, hsg, .inr hz⟩))
        obtain ⟨oz, z1, z2, _⟩ := R.at hzD
        have hzlt : z.i < d.n := by rw [R.n]; exact (Array.getElem?_eq_some_iff.1 z1).1
        have hzno : L.getD z.i false = false := by
          cases hl : L.getD z.i false with
          | false => rfl
          | true =>
            have hb := ((levB_get _ _ R.lev k x sg hsg).2.2.2 z hz).2
            have := (hI.mask R z2 hl).2 _ hb
            rw [hxi, hno] at this; cases this
        have hroom := hI.room
        rw [hext.loc _ (by omega)]
        exact hI.absent z.i hzlt hzno
      have hnext : (Bf (k + 1)).next = C.next := hadd.1
      have hroom := hI.room
      refine wpOp_of ho hwant (fun hw => ?_) fun hw => ?_
      · obtain ⟨n, eo, hn, hop, hev⟩ := hEF.2 hw
        rw [hop] at hax hxo
        rw [evE_congr hax] at hev
        refine hS n eo eS (Bf k) _ C o a w j B hn hev hxo hT hI.rep hgl hI.er _ _ fun xv w' j' g1 g2 g3 g4 g5 => ?_
        refine keep xv w' j' (k + 1) g1 (hgrow w' j' g2 g3) (fun id hid _ => g3.loc id (by omega)) (g3.le hI.rep) (by omega) hhd hklt g5
      · obtain ⟨hu, hC⟩ := hEF.1 hw
        subst hC
        exact keep Go.undef w j (k + 1) (by rw [hu]; exact VR.undef j) (hgrow w j hI.rep (J.ext_refl _ _)) (fun _ _ _ => rfl) (J.le_refl j) (by omega) hhd hklt (RowKit.Below.refl _ _)

/-- A drawn region runs as the abstract one does, whatever order is drawn. -/
theorem draw_sound (hmix : P.follows .mixedOrders = true) (hO : OpsOk P S) (hS : SoundE P S N) {h : AH} {j : J} {w : World} {a : Act} {id n : Nat} (hd : compD P ops.toList = some d) (hn : n ≤ N)
    (hev : evL P S n d.ds T h.next d.seg d.lv [] .nil { h with next := Nat.add h.next d.n } = some (V, h')) (hT : j.tok = S.tok) (hg : GlobOk P j) (hrep : Rep j h B w) (her : ER j T a.tmps) (hfit : Fits ops a)
    (hQ : ∀ a' w' j', ER j' (outE V d.D T) a'.tmps → Rep j' h' B w' → j.ext h.next j' → h.next ≤ h'.next → Bel B w w' → a'.defers = a.defers → a'.tmps.size = a.tmps.size → Q .normal a' w') :
    (Code.region id ops true).wp P Q a w := by
  have R := compD_reg hd
  obtain ⟨_, Bf, F⟩ := evL_facts S d.ds T h.next n d.lv d.seg [] .nil _ V h' N hn hev R.ord (fun x hx => by cases hx)
  have hle : ∀ {b}, h.next + d.n ≤ b → h.next ≤ b := fun h => by omega
  refine wp_region_any hmix (draw_any (w0 := w) (a0 := a) R hfit hO hT hS hg hrep.fresh F (fun a' w' j' q1 q2 q3 q4 q5 q6 q7 => hQ a' w' j' q1 q2 q3 (hle q4) q5 q6 q7) ops.size _ _ _ 0 T j ?_ ?_)
  · have hno : ∀ u, (Array.replicate ops.size false).getD u false = false := by
      intro u
      simp only [Array.getD_eq_getD_getElem?, Array.getElem?_replicate]
      split <;> rfl
    have hadd0 := F.add0
    refine ⟨by simp, fun q oq _ hl => ?_, fun m y sg hm => ?_, Nat.zero_le _, ?_, J.ext_refl _ _, fun q hq _ => hrep.fresh _ (by omega), ?_, her, fun t => ?_, ⟨rfl, rfl, rfl, Nat.le_refl _, fun _ _ => rfl⟩, rfl, rfl⟩
    · rw [hno] at hl; cases hl
    · rw [hno]; simp
    · refine Rep.addTo (h2 := Bf 0) (C := { h with next := Nat.add h.next d.n }) (base := h.next) (sg := d.seg) ?_ hadd0 fun z hz => hrep.fresh _ (by omega)
      exact ⟨fun q hq => hrep.fresh q (hle hq), hrep.objs, hrep.sep, hrep.lt, hrep.base, hrep.tys⟩
    · rw [hadd0.1]; exact Nat.le_refl _
    · have : lastP (fun u => (Array.replicate ops.size false).getD u false) d.ds t d.n = none := by
        generalize d.n = m
        induction m with
        | zero => rfl
        | succ m ihm => simp only [lastP]; rw [hno m, Bool.false_and, cond_false]; exact ihm
      rw [this]
  · rw [unl_rep ops.size 0, R.n]; exact Nat.le_refl _
end run
end
end Ab
end Go.Proofs.YtcoobajkgioflaaGreatDoor
