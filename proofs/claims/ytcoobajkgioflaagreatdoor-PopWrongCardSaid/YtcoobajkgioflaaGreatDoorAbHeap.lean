/- The abstract heap beside the model's memory. -/
import Derived.Test.YtcoobajkgioflaaGreatDoorAbPev
import Derived.Laws.BytesString
set_option linter.unusedSimpArgs false
set_option linter.unusedVariables false
namespace Go.Proofs.YtcoobajkgioflaaGreatDoor
namespace Ab

def AObj.own : AObj → Bool
  | .row true _ | .cust true _ => false
  | _ => true

/-- The entries of a map. -/
def MR (j : J) : List (AV × AV × Nat) → List MapEntry → Prop
  | [], es => es = []
  | (k, v, n) :: r, es => ∃ e q, es = e :: q ∧ VR j k e.key ∧ VR j v e.val ∧ e.born = n ∧ MR j r q
theorem MR.mono {j j' : J} (hj : j.le j') : ∀ (l : List (AV × AV × Nat)) (es : List MapEntry), MR j l es → MR j' l es
  | [], _, h => h
  | (k, v, n) :: r, es, h => by
    simp only [MR] at h ⊢
    obtain ⟨e, q, h1, h2, h3, h4, h5⟩ := h
    exact ⟨e, q, h1, VR.mono hj _ _ h2, VR.mono hj _ _ h3, h4, MR.mono hj _ _ h5⟩

def ORel (j : J) (w : World) (B b o t : Nat) : AObj → Prop
  | .row true cs => ∀ (i : Nat) (v : AV), cs[i]? = some v → ∃ x, w.cell? ⟨b, o + i, none⟩ = some x ∧ VR j v x
  | .row false cs => B ≤ b ∧ allOne cs = true ∧ ∃ c e fr, w.heap[b]? = some (.cells c e fr) ∧ c.size = o + t ∧ cs.length ≤ t ∧ (∀ (i : Nat) (v : AV), cs[i]? = some v → ∃ x, c[o + i]? = some x ∧ VR j v x) ∧ (fr.1 = fr.2 ∨ c.size ≤ fr.1)
  | .map es clock => B ≤ b ∧ o = 0 ∧ ∃ es', w.heap[b]? = some (.map es' clock) ∧ MR j es es'.toList ∧ ∀ e ∈ es, e.2.2 < clock
  | .sit s pos => B ≤ b ∧ o = 0 ∧ w.heap[b]? = some (.stringIter ⟨⟨s⟩⟩ pos)
  | .mit r since seen stepped => B ≤ b ∧ o = 0 ∧ ∃ rr, w.heap[b]? = some (.mapIter rr since ⟨seen⟩ stepped) ∧ match r with
    | none => rr = none
    | some m => ∃ bm om tm, j m = some (bm, om, tm) ∧ rr = some bm
  | .cust ro n => (ro = false → B ≤ b) ∧ j.tok.ob n w.heap[b]? o t

theorem ORel.keep {j j' : J} {w w' : World} {B b o t : Nat} {ob : AObj} (h : ORel j w B b o t ob) (hj : j.le j') (hw : w'.heap[b]? = w.heap[b]?) : ORel j' w' B b o t ob := by
  cases ob with
  | row ro cs =>
    cases ro with
    | true =>
      intro i v hv
      obtain ⟨x, hx, hr⟩ := h i v hv
      exact ⟨x, (World.cell?_of_block (a := ⟨b, o + i, none⟩) hw).trans hx, VR.mono hj _ _ hr⟩
    | false =>
      obtain ⟨h0, h1, c, e, fr, h2, h3, h4, h5, h6⟩ := h
      refine ⟨h0, h1, c, e, fr, hw.trans h2, h3, h4, fun i v hv => ?_, h6⟩
      obtain ⟨x, hx, hr⟩ := h5 i v hv
      exact ⟨x, hx, VR.mono hj _ _ hr⟩
  | map es clock =>
    obtain ⟨h0, h1, es', h2, h3, h4⟩ := h
    exact ⟨h0, h1, es', hw.trans h2, MR.mono hj _ _ h3, h4⟩
  | sit s pos => exact ⟨h.1, h.2.1, hw.trans h.2.2⟩
  | mit r since seen stepped =>
    obtain ⟨h0, h1, rr, h2, h3⟩ := h
    refine ⟨h0, h1, rr, hw.trans h2, ?_⟩
    cases r with
    | none => exact h3
    | some m =>
      obtain ⟨bm, om, tm, h4, h5⟩ := h3
      exact ⟨bm, om, tm, hj.loc _ _ h4, h5⟩
  | cust ro n => exact ⟨h.1, by rw [hj.tok, hw]; exact h.2⟩

structure Rep (j : J) (h : AH) (B : Nat) (w : World) : Prop where
  fresh : ∀ id, h.next ≤ id → j id = none
  objs : ∀ id ob b o t, h.objs.get id = some ob → j id = some (b, o, t) → ORel j w B b o t ob
  sep : ∀ id id' ob ob' b o t b' o' t', id ≠ id' → h.objs.get id = some ob → j id = some (b, o, t) → h.objs.get id' = some ob' → j id' = some (b', o', t') → ob.own = true → b ≠ b'
  lt : ∀ id b o t, j id = some (b, o, t) → b < w.heap.size
  base : B ≤ w.heap.size
  tys : ∀ id e b o t, h.tys.get id = some e → j id = some (b, o, t) → o = 0 ∧ ∃ c fr, w.heap[b]? = some (.cells c e fr)

/-- What a run may do to the world. -/
abbrev Bel (B : Nat) (w w' : World) : Prop := RowKit.Below B w w'

/-- What the map of ids may do. -/
structure J.ext (n : Nat) (j j' : J) : Prop where
  tok : j'.tok = j.tok
  loc : ∀ id, id < n → j' id = j id
theorem J.ext_refl (n : Nat) (j : J) : j.ext n j := ⟨rfl, fun _ _ => rfl⟩
theorem J.ext.trans {n m : Nat} {a b c : J} (h : a.ext n b) (k : b.ext m c) (hnm : n ≤ m) : a.ext n c := ⟨k.tok.trans h.tok, fun id hi => (k.loc id (by omega)).trans (h.loc id hi)⟩
theorem J.ext.mono {n m : Nat} {a b : J} (h : a.ext n b) (hm : m ≤ n) : a.ext m b := ⟨h.tok, fun id hi => h.loc id (by omega)⟩
theorem J.ext.le {h : AH} {B : Nat} {w : World} {j j' : J} (he : j.ext h.next j') (hr : Rep j h B w) : j.le j' := by
  refine ⟨he.tok, fun id loc hl => ?_⟩
  by_cases hi : id < h.next
  · rw [he.loc id hi]; exact hl
  · rw [hr.fresh id (by omega)] at hl; cases hl

def J.put (j : J) (id : Nat) (l : Nat × Nat × Nat) : J := { j with loc := fun i => if i = id then some l else j i }
theorem J.put_at (j : J) (id : Nat) (l : Nat × Nat × Nat) (i : Nat) : (j.put id l) i = if i = id then some l else j i := rfl
theorem J.put_le {j : J} {id : Nat} {loc : Nat × Nat × Nat} (h : j id = none) : j.le (j.put id loc) := by
  refine ⟨rfl, fun i l hl => ?_⟩
  show (if i = id then some loc else j i) = some l
  by_cases hi : i = id
  · subst hi; rw [h] at hl; cases hl
  · rw [if_neg hi]; exact hl
theorem J.put_self (j : J) (id : Nat) (loc : Nat × Nat × Nat) : j.put id loc id = some loc := by simp [J.put]
theorem J.put_ext {j : J} {id n : Nat} {loc : Nat × Nat × Nat} (h : n ≤ id) : j.ext n (j.put id loc) := ⟨rfl, fun i hi => by
  show (if i = id then some loc else j i) = j i
  rw [if_neg (by omega)]⟩

/-- A world whose blocks are the same. -/
theorem Rep.same {j : J} {h : AH} {B : Nat} {w w' : World} (r : Rep j h B w) (hw : w'.heap = w.heap) : Rep j h B w' :=
  ⟨r.fresh, fun id ob b o t h1 h2 => (r.objs id ob b o t h1 h2).keep (J.le_refl j) (by rw [hw]), r.sep, fun id b o t hl => by rw [hw]; exact r.lt id b o t hl, by rw [hw]; exact r.base, by rw [hw]; exact r.tys⟩

theorem Rep.kill {j : J} {h : AH} {B : Nat} {w : World} (r : Rep j h B w) (id : Nat) : Rep j (h.kill id) B w := by
  have hg : ∀ i ob, (h.kill id).objs.get i = some ob → i ≠ id ∧ h.objs.get i = some ob := by
    intro i ob hi
    simp only [AH.kill, Tr.get_set] at hi
    by_cases he : i = id
    · rw [if_pos he] at hi; cases hi
    · rw [if_neg he] at hi; exact ⟨he, hi⟩
  exact ⟨r.fresh, fun i ob b o t h1 h2 => r.objs i ob b o t (hg i ob h1).2 h2,
    fun i i' ob ob' b o t b' o' t' hne h1 h2 h3 h4 h5 => r.sep i i' ob ob' b o t b' o' t' hne (hg i ob h1).2 h2 (hg i' ob' h3).2 h4 h5, r.lt, r.base, r.tys⟩

/-- An object that no id of the model's stands for. -/
theorem Rep.addDead {j : J} {h : AH} {B : Nat} {w : World} (r : Rep j h B w) (ob : AObj) (ty : Option Nat := none) : Rep j (h.add ob ty) B w := by
  have hn : j h.next = none := r.fresh h.next (Nat.le_refl _)
  have hg : ∀ i ob' loc, (h.add ob ty).objs.get i = some ob' → j i = some loc → h.objs.get i = some ob' := by
    intro i ob' loc hi hl
    simp only [AH.add, Tr.get_set] at hi
    by_cases he : i = h.next
    · subst he; rw [hn] at hl; cases hl
    · rw [if_neg he] at hi; exact hi
  exact ⟨fun id hi => r.fresh id (Nat.le_of_succ_le hi), fun i ob' b o t h1 h2 => r.objs i ob' b o t (hg i ob' _ h1 h2) h2,
    fun i i' ob1 ob2 b o t b' o' t' hne h1 h2 h3 h4 h5 => r.sep i i' ob1 ob2 b o t b' o' t' hne (hg i ob1 _ h1 h2) h2 (hg i' ob2 _ h3 h4) h4 h5, r.lt, r.base, fun i e b o t h1 h2 => by
      simp only [AH.add, Tr.get_set] at h1
      by_cases he : i = h.next
      · subst he; rw [hn] at h2; cases h2
      · rw [if_neg he] at h1; exact r.tys i e b o t h1 h2⟩

/-- No block's type of element is another one. -/
def TyKeep (w w' : World) : Prop := ∀ (b : Nat) (c : Array Value) (e : TypeId) (fr : Nat × Nat), w.heap[b]? = some (.cells c e fr) → ∃ c' fr', w'.heap[b]? = some (.cells c' e fr')
theorem TyKeep.push {w w' : World} {obj : Obj} (h : w'.heap = w.heap.push obj) : TyKeep w w' := fun b c e fr hb => ⟨c, fr, by
  have := (Array.getElem?_eq_some_iff.1 hb).1
  rw [h, Array.getElem?_push, if_neg (by omega)]; exact hb⟩
theorem TyKeep.one {w w' : World} {b : Nat} (hw : ∀ k, k ≠ b → w'.heap[k]? = w.heap[k]?) (hb : ∀ c e fr, w.heap[b]? = some (.cells c e fr) → ∃ c' fr', w'.heap[b]? = some (.cells c' e fr')) : TyKeep w w' := fun k c e fr hk => by
  by_cases h : k = b
  · subst h; exact hb c e fr hk
  · exact ⟨c, fr, by rw [hw k h]; exact hk⟩
theorem Rep.tysKept {j : J} {h : AH} {B : Nat} {w w' : World} (r : Rep j h B w) (hk : TyKeep w w') : ∀ id e b o t, h.tys.get id = some e → j id = some (b, o, t) → o = 0 ∧ ∃ c fr, w'.heap[b]? = some (.cells c e fr) := fun id e b o t h1 h2 => by
  obtain ⟨h3, c, fr, h4⟩ := r.tys id e b o t h1 h2
  exact ⟨h3, hk b c e fr h4⟩

/-- An id comes to stand for a block that no other live one stands for. -/
theorem Rep.bear {j : J} {h : AH} {B : Nat} {w w' : World} (r : Rep j h B w) {id : Nat} {ob : AObj} {b o t : Nat} (hid : j id = none) (hlt : id < h.next) (hob : h.objs.get id = some ob)
    (hw : ∀ id' b' o' t' ob', id' ≠ id → h.objs.get id' = some ob' → j id' = some (b', o', t') → w'.heap[b']? = w.heap[b']? ∧ b' ≠ b)
    (hsz : w.heap.size ≤ w'.heap.size) (hb : b < w'.heap.size) (hkeep : TyKeep w w') (hty : ∀ e, h.tys.get id = some e → o = 0 ∧ ∃ c fr, w'.heap[b]? = some (.cells c e fr)) (hrel : ORel (j.put id (b, o, t)) w' B b o t ob) : Rep (j.put id (b, o, t)) h B w' := by
  have hj : ∀ i loc, (j.put id (b, o, t)) i = some loc → (i = id ∧ loc = (b, o, t)) ∨ (i ≠ id ∧ j i = some loc) := by
    intro i loc hl
    rw [J.put_at] at hl
    by_cases hi : i = id
    · rw [if_pos hi] at hl; exact .inl ⟨hi, (Option.some.inj hl).symm⟩
    · rw [if_neg hi] at hl; exact .inr ⟨hi, hl⟩
  refine ⟨fun i hi => ?_, fun i ob' b' o' t' h1 h2 => ?_, fun i i' ob1 ob2 b1 o1 t1 b2 o2 t2 hne h1 h2 h3 h4 h5 => ?_, fun i b' o' t' hl => ?_, Nat.le_trans r.base hsz, fun i e b' o' t' h1 h2 => ?_⟩
  · rw [J.put_at]; rw [if_neg (by omega)]; exact r.fresh i hi
  · rcases hj i _ h2 with ⟨rfl, he⟩ | ⟨hi, hl⟩
    · cases he; rw [hob] at h1; cases h1; exact hrel
    · exact (r.objs i ob' b' o' t' h1 hl).keep (J.put_le hid) (hw i b' o' t' ob' hi h1 hl).1
  · rcases hj i _ h2 with ⟨rfl, he⟩ | ⟨hi, hl⟩ <;> rcases hj i' _ h4 with ⟨rfl, he'⟩ | ⟨hi', hl'⟩
    · exact absurd rfl hne
    · cases he; exact fun e => (hw i' b2 o2 t2 ob2 hi' h3 hl').2 e.symm
    · cases he'; exact (hw i b1 o1 t1 ob1 hi h1 hl).2
    · exact r.sep i i' ob1 ob2 b1 o1 t1 b2 o2 t2 hne h1 hl h3 hl' h5
  · rcases hj i _ hl with ⟨rfl, he⟩ | ⟨hi, hl'⟩
    · cases he; exact hb
    · exact Nat.lt_of_lt_of_le (r.lt i b' o' t' hl') hsz
  · rcases hj i _ h2 with ⟨rfl, he⟩ | ⟨hi, hl'⟩
    · cases he; exact hty e h1
    · exact r.tysKept hkeep i e b' o' t' h1 hl'

/-- A new block for a new object. -/
theorem Rep.born {j : J} {h : AH} {B : Nat} {w w' : World} (r : Rep j h B w) {id : Nat} {ob : AObj} {obj : Obj} {t : Nat} (hid : j id = none) (hlt : id < h.next) (hob : h.objs.get id = some ob)
    (hw : w'.heap = w.heap.push obj) (hty : ∀ e, h.tys.get id = some e → ∃ c fr, obj = .cells c e fr) (hrel : ORel (j.put id (w.heap.size, 0, t)) w' B w.heap.size 0 t ob) : Rep (j.put id (w.heap.size, 0, t)) h B w' := by
  refine r.bear hid hlt hob (fun id' b' o' t' ob' hne h1 h2 => ?_) (by rw [hw]; simp) (by rw [hw]; simp) (.push hw) (fun e he => ⟨rfl, by
    obtain ⟨c, fr, rfl⟩ := hty e he
    exact ⟨c, fr, by rw [hw]; simp⟩⟩) hrel
  have := r.lt id' b' o' t' h2
  refine ⟨?_, by omega⟩
  rw [hw, Array.getElem?_push, if_neg (by omega)]

/-- An own object's block is written. -/
theorem Rep.write {j : J} {h : AH} {B : Nat} {w w' : World} (r : Rep j h B w) {id : Nat} {ob ob' : AObj} {b o t : Nat} (hob : h.objs.get id = some ob) (hown : ob.own = true) (hid : j id = some (b, o, t)) (hown' : ob'.own = true)
    (hw : ∀ k, k ≠ b → w'.heap[k]? = w.heap[k]?) (hsz : w'.heap.size = w.heap.size) (hty : ∀ c e fr, w.heap[b]? = some (.cells c e fr) → ∃ c' fr', w'.heap[b]? = some (.cells c' e fr')) (hrel : ORel j w' B b o t ob') : Rep j { h with objs := h.objs.set id (some ob') } B w' := by
  have hg : ∀ i ob1, (h.objs.set id (some ob')).get i = some ob1 → (i = id ∧ ob1 = ob') ∨ (i ≠ id ∧ h.objs.get i = some ob1) := by
    intro i ob1 hi
    rw [Tr.get_set] at hi
    by_cases he : i = id
    · rw [if_pos he] at hi; exact .inl ⟨he, (Option.some.inj hi).symm⟩
    · rw [if_neg he] at hi; exact .inr ⟨he, hi⟩
  refine ⟨r.fresh, fun i ob1 b' o' t' h1 h2 => ?_, fun i i' ob1 ob2 b1 o1 t1 b2 o2 t2 hne h1 h2 h3 h4 h5 => ?_, fun i b' o' t' hl => by rw [hsz]; exact r.lt i b' o' t' hl, by rw [hsz]; exact r.base, r.tysKept (.one hw hty)⟩
  · rcases hg i ob1 h1 with ⟨rfl, rfl⟩ | ⟨hi, h1'⟩
    · rw [hid] at h2; cases h2; exact hrel
    · exact (r.objs i ob1 b' o' t' h1' h2).keep (J.le_refl j) (hw b' fun e => r.sep id i ob ob1 b o t b' o' t' (Ne.symm hi) hob hid h1' h2 hown e.symm)
  · rcases hg i ob1 h1 with ⟨rfl, rfl⟩ | ⟨hi, h1'⟩ <;> rcases hg i' ob2 h3 with ⟨rfl, rfl⟩ | ⟨hi', h3'⟩
    · exact absurd rfl hne
    · exact r.sep i i' ob ob2 b1 o1 t1 b2 o2 t2 hne hob h2 h3' h4 hown
    · rw [hid] at h4; cases h4
      exact fun e => r.sep i' i ob ob1 b o t b1 o1 t1 (Ne.symm hi) hob hid h1' h2 hown e.symm
    · exact r.sep i i' ob1 ob2 b1 o1 t1 b2 o2 t2 hne h1' h2 h3' h4 h5

/- Cells. -/
/-- An own object's block is written, and the object forgotten. -/
theorem Rep.killed {j : J} {h : AH} {B : Nat} {w w' : World} (r : Rep j h B w) {id : Nat} {ob : AObj} {b o t : Nat} (hob : h.objs.get id = some ob) (hown : ob.own = true) (hid : j id = some (b, o, t))
    (hw : ∀ k, k ≠ b → w'.heap[k]? = w.heap[k]?) (hsz : w'.heap.size = w.heap.size) (hty : ∀ c e fr, w.heap[b]? = some (.cells c e fr) → ∃ c' fr', w'.heap[b]? = some (.cells c' e fr')) : Rep j (h.kill id) B w' := by
  have hg : ∀ i ob1, (h.kill id).objs.get i = some ob1 → i ≠ id ∧ h.objs.get i = some ob1 := by
    intro i ob1 hi
    simp only [AH.kill, Tr.get_set] at hi
    by_cases he : i = id
    · rw [if_pos he] at hi; cases hi
    · rw [if_neg he] at hi; exact ⟨he, hi⟩
  refine ⟨r.fresh, fun i ob1 b' o' t' h1 h2 => ?_, fun i i' ob1 ob2 b1 o1 t1 b2 o2 t2 hne h1 h2 h3 h4 h5 => r.sep i i' ob1 ob2 b1 o1 t1 b2 o2 t2 hne (hg i ob1 h1).2 h2 (hg i' ob2 h3).2 h4 h5, fun i b' o' t' hl => by rw [hsz]; exact r.lt i b' o' t' hl, by rw [hsz]; exact r.base, r.tysKept (.one hw hty)⟩
  obtain ⟨hi, h1'⟩ := hg i ob1 h1
  exact (r.objs i ob1 b' o' t' h1' h2).keep (J.le_refl j) (hw b' fun e => r.sep id i ob ob1 b o t b' o' t' (Ne.symm hi) hob hid h1' h2 hown e.symm)

theorem one_of_allOne : ∀ {l : List AV}, allOne l = true → ∀ (i : Nat) (v : AV), l[i]? = some v → v.one = true
  | [], _, i, v, h => by simp at h
  | a :: l, h, i, v, hv => by
    simp only [allOne, Bool.and_eq_true] at h
    cases i with
    | zero => simp at hv; subst hv; exact h.1
    | succ i => exact one_of_allOne h.2 i v (by simpa using hv)
theorem allOne_of : ∀ {l : List AV}, (∀ (i : Nat) (v : AV), l[i]? = some v → v.one = true) → allOne l = true
  | [], _ => rfl
  | a :: l, h => by
    simp only [allOne, Bool.and_eq_true]
    exact ⟨h 0 a rfl, allOne_of fun i v hv => h (i + 1) v (by simpa using hv)⟩
theorem VRs.oneCell {j : J} : ∀ {l : List AV} {vs : List Value}, VRs j l vs → allOne l = true → ∀ v ∈ vs, v.oneCell' = true
  | [], vs, h, _ => by simp only [VRs] at h; subst h; simp
  | a :: l, vs, h, ho => by
    simp only [VRs] at h
    obtain ⟨v, r, rfl, hv, h⟩ := h
    simp only [allOne, Bool.and_eq_true] at ho
    intro u hu
    rcases List.mem_cons.1 hu with rfl | hu
    · exact hv.oneCell ho.1
    · exact h.oneCell ho.2 u hu

/-- The cells of a row, as the model reads them. -/
theorem Rep.cells {j : J} {h : AH} {B : Nat} {w : World} (r : Rep j h B w) {id : Nat} {ro : Bool} {cs : List AV} {b o t : Nat} (hr : h.row? id = some (ro, cs)) (hl : j id = some (b, o, t)) :
    ∀ (i : Nat) (v : AV), cs[i]? = some v → ∃ x, w.cell? ⟨b, o + i, none⟩ = some x ∧ VR j v x := by
  have hg : h.objs.get id = some (.row ro cs) := by
    unfold AH.row? at hr
    split at hr
    · rename_i h1; cases hr; exact h1
    · cases hr
  have := r.objs id _ b o t hg hl
  cases ro with
  | true => exact this
  | false =>
    obtain ⟨_, _, c, e, fr, h2, h3, h4, h5, h6⟩ := this
    intro i v hv
    obtain ⟨x, hx, hr⟩ := h5 i v hv
    exact ⟨x, by simp [World.cell?, h2, hx], hr⟩

theorem cells_list {j : J} {w : World} {b : Nat} : ∀ (l : List AV) (o : Nat), (∀ (i : Nat) (v : AV), l[i]? = some v → ∃ x, w.cell? ⟨b, o + i, none⟩ = some x ∧ VR j v x) →
    ∃ xs, VRs j l xs ∧ ∀ (i : Nat) (x : Value), xs[i]? = some x → w.cell? ((⟨b, o, none⟩ : Addr).add i) = some x
  | [], o, _ => ⟨[], by simp [VRs], fun i x hx => by simp at hx⟩
  | a :: l, o, h => by
    obtain ⟨x, hx, hr⟩ := h 0 a rfl
    obtain ⟨xs, hxs, hc⟩ := cells_list l (o + 1) (fun i v hv => by
      have := h (i + 1) v (by simpa using hv)
      rw [show o + 1 + i = o + (i + 1) by omega]; exact this)
    refine ⟨x :: xs, by simp only [VRs]; exact ⟨x, xs, rfl, hr, hxs⟩, fun i y hy => ?_⟩
    rw [addr_add]
    cases i with
    | zero => simp at hy; subst hy; exact hx
    | succ i =>
      have := hc i y (by simpa using hy)
      rw [addr_add] at this
      rw [show o + (i + 1) = o + 1 + i by omega]; exact this

theorem sub_cells {α : Type} {l : List α} {o n i : Nat} {v : α} (h : (sub l o n)[i]? = some v) : l[o + i]? = some v := by
  unfold sub at h
  rw [List.getElem?_take] at h
  split at h
  · rwa [List.getElem?_drop] at h
  · cases h

/-- A part of a row, read. -/
theorem Rep.part {P : Program} {j : J} {h : AH} {B : Nat} {w : World} (r : Rep j h B w) {id o n : Nat} {ro g : Bool} {cs : List AV} {v : AV} {ad : Value} {t : TypeId}
    (hg : aggT P t = some g) (hn : sizeT P t = some n) (hr : h.row? id = some (ro, cs)) (hp : partA g cs o n = some v) (ha : VR j (.p (some (id, o))) ad) :
    ∃ x a, ad = .pointer (some a) ∧ VR j v x ∧ (loadVar t a).run P w = .ok x w := by
  simp only [VR] at ha
  obtain ⟨b, o', tt, hl, rfl⟩ := ha
  have hc := r.cells hr hl
  suffices hs : ∃ x, VR j v x ∧ (loadVar t ⟨b, o' + o, none⟩).run P w = .ok x w by
    obtain ⟨x, h1, h2⟩ := hs; exact ⟨x, _, rfl, h1, h2⟩
  cases g with
  | true =>
    obtain ⟨xs, h1, h2⟩ := cells_list (j := j) (w := w) (b := b) (sub cs o n) (o' + o) (fun i v hv => by
        rw [Nat.add_assoc]; exact hc (o + i) v (sub_cells hv))
    unfold partA at hp
    rw [cond_true] at hp
    obtain ⟨hle, hp⟩ := bif_none hp
    rw [nat_ble] at hle
    cases hp
    have hlen : xs.length = n := by rw [← h1.length, sub_length]; simpa using hle
    refine ⟨.agg ⟨xs⟩, by simp only [VR]; exact ⟨xs, rfl, h1⟩, ?_⟩
    have hrun := run_loadCells_list (P := P) w ⟨b, o' + o, none⟩ xs h2
    rw [hlen] at hrun
    simp [loadVar, r_agg hg, r_size hn, hrun]
  | false =>
    unfold partA at hp
    rw [cond_false, idx?_eq] at hp
    obtain ⟨x, hx, hv⟩ := hc o v hp
    exact ⟨x, hv, by simp [loadVar, r_agg hg, hx]⟩

end Ab
end Go.Proofs.YtcoobajkgioflaaGreatDoor
