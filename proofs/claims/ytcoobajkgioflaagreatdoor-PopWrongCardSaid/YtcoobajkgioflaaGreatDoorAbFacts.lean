/- What a run through a region whose order is drawn has shown. -/
import Derived.Test.YtcoobajkgioflaaGreatDoorAbEev
set_option linter.unusedSimpArgs false
set_option linter.unusedVariables false
namespace Go.Proofs.YtcoobajkgioflaaGreatDoor
namespace Ab

theorem sameO_eq {a b : Option (Nat × Nat)} (h : sameO a b = true) : a = b := by
  unfold sameO at h
  split at h
  · rfl
  · rw [nat_beq, nat_beq] at h; simp only [Bool.and_eq_true, decide_eq_true_eq] at h; rw [h.1, h.2]
  · cases h
theorem sameN_eq {a b : Option Nat} (h : sameN a b = true) : a = b := by
  unfold sameN at h
  split at h
  · rfl
  · rw [nat_beq] at h; simp only [decide_eq_true_eq] at h; rw [h]
  · cases h
mutual
theorem same_eq : ∀ (a b : AV), same a b = true → a = b
  | .i k n, b, h => by
    cases b <;> simp [same] at h
    rw [h.1, h.2]
  | .b x, b, h => by cases b <;> simp [same] at h; rw [h]
  | .s l, b, h => by cases b <;> simp [same] at h; rw [h]
  | .p a, b, h => by
    cases b <;> simp only [same] at h <;> first | (rw [sameO_eq h]) | cases h
  | .sl a n c e, b, h => by
    cases b <;> simp only [same] at h <;> first | cases h | skip
    simp only [Bool.and_eq_true, nat_beq, decide_eq_true_eq] at h
    obtain ⟨⟨⟨h1, h2⟩, h3⟩, h4⟩ := h
    rw [sameO_eq h1, h2, sameN_eq h3, h4]
  | .m a, b, h => by
    cases b <;> simp only [same] at h <;> first | (rw [sameN_eq h]) | cases h
  | .f fn x y, b, h => by
    cases b <;> simp only [same] at h <;> first | cases h | skip
    simp only [Bool.and_eq_true, decide_eq_true_eq] at h
    obtain ⟨⟨h1, h2⟩, h3⟩ := h
    rw [h1, sames_eq _ _ h2, sames_eq _ _ h3]
  | .nf, b, h => by cases b <;> simp [same] at h; rfl
  | .ni, b, h => by cases b <;> simp [same] at h; rfl
  | .ifc t x, b, h => by
    cases b <;> simp only [same] at h <;> first | cases h | skip
    simp only [Bool.and_eq_true, nat_beq, decide_eq_true_eq] at h
    rw [h.1, same_eq _ _ h.2]
  | .g l, b, h => by cases b <;> simp only [same] at h <;> first | (rw [sames_eq _ _ h]) | cases h
  | .t l, b, h => by cases b <;> simp only [same] at h <;> first | (rw [sames_eq _ _ h]) | cases h
theorem sames_eq : ∀ (a b : List AV), sames a b = true → a = b
  | [], b, h => by cases b <;> simp only [sames] at h <;> first | rfl | cases h
  | x :: l, b, h => by
    cases b <;> simp only [sames] at h <;> first | cases h | skip
    simp only [Bool.and_eq_true] at h
    rw [same_eq _ _ h.1, sames_eq _ _ h.2]
end
theorem sameObj_eq {a b : AObj} (h : sameObj a b = true) : a = b := by
  unfold sameObj at h
  split at h
  · rw [sames_eq _ _ h]
  · rw [nat_beq] at h; simp only [decide_eq_true_eq] at h; rw [h]
  · rw [nat_beq] at h; simp only [Bool.and_eq_true, decide_eq_true_eq] at h; rw [h.1, h.2]
  · cases h

theorem notIn_iff : ∀ {n : Nat} {l : List Nat}, notIn n l = true ↔ n ∉ l
  | n, [] => by simp [notIn]
  | n, m :: r => by
    simp only [notIn, Bool.and_eq_true, Bool.not_eq_true', nat_beq, decide_eq_false_iff_not, List.mem_cons, not_or]
    rw [notIn_iff]
theorem srcFree_iff : ∀ {l : List Nat} {s : List (Nat × Option Nat)}, srcFree l s = true → ∀ t u, (t, some u) ∈ s → u ∉ l
  | l, [], _, t, u, h => by cases h
  | l, (t', some u') :: r, h, t, u, hm => by
    simp only [srcFree, Bool.and_eq_true] at h
    rcases List.mem_cons.1 hm with e | hm
    · cases e; exact notIn_iff.1 h.1
    · exact srcFree_iff h.2 t u hm
  | l, (t', none) :: r, h, t, u, hm => by
    simp only [srcFree] at h
    rcases List.mem_cons.1 hm with e | hm
    · cases e
    · exact srcFree_iff h t u hm
theorem mem_idxs : ∀ {l : List DOp} {i : Nat}, i ∈ idxs l ↔ ∃ x ∈ l, x.i = i
  | [], i => by simp [idxs]
  | x :: r, i => by
    simp only [idxs, List.mem_cons, mem_idxs (l := r)]
    constructor
    · rintro (rfl | ⟨y, hy, rfl⟩)
      · exact ⟨x, .inl rfl, rfl⟩
      · exact ⟨y, .inr hy, rfl⟩
    · rintro ⟨y, rfl | hy, rfl⟩
      · exact .inl rfl
      · exact .inr ⟨y, hy, rfl⟩

/-- V and V' are one outside the indices of l -/
def Out (l : List Nat) (V V' : VT) : Prop := ∀ i, i ∉ l → Env.at V' i = Env.at V i
theorem mkE_out {l : List Nat} {V V' : VT} (h : Out l V V') : ∀ (s : List (Nat × Option Nat)) (e : Env), srcFree l s = true → mkE V' s e = mkE V s e
  | [], e, _ => rfl
  | (t, some u) :: r, e, hs => by
    have hu := srcFree_iff hs t u (by simp)
    simp only [srcFree, Bool.and_eq_true] at hs
    simp only [mkE, h u hu]
    exact mkE_out h r _ hs.2
  | (t, none) :: r, e, hs => by
    simp only [srcFree] at hs
    simp only [mkE]
    exact mkE_out h r _ hs
theorem srcFree_mono {l l' : List Nat} (hl : ∀ i ∈ l', i ∈ l) : ∀ {s : List (Nat × Option Nat)}, srcFree l s = true → srcFree l' s = true
  | [], _ => rfl
  | (t, some u) :: r, h => by
    simp only [srcFree, Bool.and_eq_true] at h ⊢
    exact ⟨notIn_iff.2 fun hm => notIn_iff.1 h.1 (hl u hm), srcFree_mono hl h.2⟩
  | (t, none) :: r, h => by simp only [srcFree] at h ⊢; exact srcFree_mono hl h

section
variable {P : Program} (S : Sums) (ds : List (Option Tmp)) (T : Env) (base : Nat)

/-- What a use of an operation that writes no memory has answered. -/
def SegF (V : VT) (x : DOp) : Prop :=
  (wantedA ds (mkE V x.src T) x.g = false → Env.at V x.i = undefA) ∧
  (wantedA ds (mkE V x.src T) x.g = true → match x.op with
    | .P o => pevS S (mkE V x.src T) o = some (Env.at V x.i)
    | .R _ => True
    | .A o => ∃ ob, aevS S (mkE V x.src T) (base + x.i) o = some (Env.at V x.i, ob)
    | .E _ => False)
/-- Memory has grown by what a level makes. -/
def AddTo (seg : List DOp) (h h' : AH) : Prop := h'.next = h.next ∧ ∀ id, (∀ x ∈ seg, id ≠ base + x.i) → h'.objs.get id = h.objs.get id ∧ h'.tys.get id = h.tys.get id

theorem stays_out {l : List Nat} {V V' : VT} (h : Out l V V') {x : DOp} (hs : srcFree l x.src = true) (hx : x.i ∉ l) (m : AH) : stays S ds T base V' m x = stays S ds T base V m x := by
  unfold stays
  simp only [mkE_out h _ _ hs, h x.i hx]
theorem segF_out {l : List Nat} {V V' : VT} (h : Out l V V') {x : DOp} (hs : srcFree l x.src = true) (hx : x.i ∉ l) (hf : SegF S ds T base V x) : SegF S ds T base V' x := by
  unfold SegF at hf ⊢
  rw [mkE_out h _ _ hs, h x.i hx]; exact hf

theorem evSeg_facts : ∀ (seg : List DOp) (V : VT) (h : AH) (V' : VT) (h' : AH), evSeg S ds T base seg V h = some (V', h') → ordB seg = true →
    Out (idxs seg) V V' ∧ AddTo base seg h h' ∧ ∀ x ∈ seg, SegF S ds T base V' x
  | [], V, h, V', h', he, _ => by
    simp only [evSeg] at he; cases he
    exact ⟨fun i _ => rfl, ⟨rfl, fun id _ => ⟨rfl, rfl⟩⟩, fun x hx => by cases hx⟩
  | x :: r, V, h, V', h', he, ho => by
    simp only [ordB, Bool.and_eq_true] at ho
    obtain ⟨⟨ho1, ho2⟩, ho3⟩ := ho
    have hxi : x.i ∉ idxs r := notIn_iff.1 ho2
    -- one step
    have step : ∀ (v : AV) (h1 : AH), evSeg S ds T base r (V.set x.i (some v)) h1 = some (V', h') → h1.next = h.next → (∀ id, id ≠ base + x.i → h1.objs.get id = h.objs.get id ∧ h1.tys.get id = h.tys.get id) →
        ((wantedA ds (mkE V x.src T) x.g = false ∧ v = undefA) ∨ (wantedA ds (mkE V x.src T) x.g = true ∧ match x.op with
          | .P o => pevS S (mkE V x.src T) o = some v
          | .R _ => True
          | .A o => ∃ ob, aevS S (mkE V x.src T) (base + x.i) o = some (v, ob)
          | .E _ => False)) →
        Out (idxs (x :: r)) V V' ∧ AddTo base (x :: r) h h' ∧ ∀ y ∈ x :: r, SegF S ds T base V' y := by
      intro v h1 hev hn hg hcase
      obtain ⟨q1, q2, q3⟩ := evSeg_facts r _ h1 V' h' hev ho3
      have hVi : Env.at V' x.i = v := by rw [q1 x.i hxi]; simp [Env.at_set]
      have hout : Out (idxs (x :: r)) V V' := by
        intro i hi
        simp only [idxs, List.mem_cons, not_or] at hi
        rw [q1 i hi.2, Env.at_set, if_neg hi.1]
      refine ⟨hout, ⟨q2.1.trans hn, fun id hid => ?_⟩, fun y hy => ?_⟩
      · have g1 := q2.2 id fun y hy => hid y (by simp [hy])
        have g2 := hg id (hid x (by simp))
        exact ⟨g1.1.trans g2.1, g1.2.trans g2.2⟩
      · rcases List.mem_cons.1 hy with rfl | hy
        · unfold SegF
          rw [mkE_out hout _ _ ho1, hVi]
          rcases hcase with ⟨c1, c2⟩ | ⟨c1, c2⟩
          · rw [c1]; exact ⟨fun _ => c2, fun h => by cases h⟩
          · rw [c1]; exact ⟨fun h => (by cases h), fun _ => c2⟩
        · exact q3 y hy
    simp only [evSeg] at he
    cases hw : wantedA ds (mkE V x.src T) x.g with
    | false =>
      rw [hw, cond_false] at he
      exact step undefA h he rfl (fun _ _ => ⟨rfl, rfl⟩) (.inl ⟨hw, rfl⟩)
    | true =>
      rw [hw, cond_true] at he
      cases hop : x.op with
      | P o =>
        rw [hop] at he step; simp only at he step
        cases hv : pevS S (mkE V x.src T) o with
        | none => rw [hv] at he; cases he
        | some v => rw [hv] at he; exact step v h he rfl (fun _ _ => ⟨rfl, rfl⟩) (.inr ⟨hw, hv⟩)
      | R o =>
        rw [hop] at he step; simp only at he step
        cases hv : revS S (mkE V x.src T) h o with
        | none => rw [hv] at he; cases he
        | some v => rw [hv] at he; exact step v h he rfl (fun _ _ => ⟨rfl, rfl⟩) (.inr ⟨hw, trivial⟩)
      | A o =>
        rw [hop] at he step; simp only at he step
        cases hv : aevS S (mkE V x.src T) (Nat.add base x.i) o with
        | none => rw [hv] at he; cases he
        | some p =>
          obtain ⟨v, ob⟩ := p
          rw [hv] at he
          refine step v _ he rfl (fun id hid => ?_) (.inr ⟨hw, ob, hv⟩)
          simp only [Tr.get_set]
          exact ⟨if_neg hid, if_neg hid⟩
      | E o => rw [hop] at he; simp only at he; cases he

/-- What a use of a writer of memory has answered. -/
def EF (P : Program) (S : Sums) (N : Nat) (V : VT) (y : DOp) (h C : AH) : Prop :=
  (wantedA ds (mkE V y.src T) y.g = false → Env.at V y.i = undefA ∧ C = h) ∧
  (wantedA ds (mkE V y.src T) y.g = true → ∃ n o, n < N ∧ y.op = .E o ∧ evE P S n o (mkE V y.src T) h = some (Env.at V y.i, C))

structure Facts (P : Program) (S : Sums) (N : Nat) (seg : List DOp) (rest : List (DOp × List DOp)) (watch : List DOp) (h : AH) (V' : VT) (h' : AH) (B : Nat → AH) : Prop where
  last : B rest.length = h'
  add0 : AddTo base seg h (B 0)
  seg0 : ∀ x ∈ seg, SegF S ds T base V' x
  lev : ∀ m y sg, rest[m]? = some (y, sg) → (∀ x ∈ sg, SegF S ds T base V' x) ∧ ∃ C, EF ds T P S N V' y (B m) C ∧ AddTo base sg C (B (m + 1))
  stay : ∀ m x, m ≤ rest.length → (x ∈ watch ++ seg ∨ ∃ m' y sg, m' < m ∧ rest[m']? = some (y, sg) ∧ x ∈ sg) → (∀ q y sg, q < m → rest[q]? = some (y, sg) → Nat.testBit y.mask x.i = false) → stays S ds T base V' (B m) x = true

theorem ordB_append : ∀ {a b : List DOp}, ordB (a ++ b) = true → ordB a = true ∧ ordB b = true ∧ ∀ x ∈ a, srcFree (idxs b) x.src = true ∧ x.i ∉ idxs b
  | [], b, h => ⟨rfl, h, fun x hx => by cases hx⟩
  | x :: a, b, h => by
    simp only [List.cons_append, ordB, Bool.and_eq_true] at h
    obtain ⟨⟨h1, h2⟩, h3⟩ := h
    obtain ⟨g1, g2, g3⟩ := ordB_append h3
    have hi : ∀ (i : Nat), i ∈ idxs a → i ∈ idxs (a ++ b) := fun i hi => by
      rw [mem_idxs] at hi ⊢
      obtain ⟨y, hy, e⟩ := hi; exact ⟨y, by simp [hy], e⟩
    have hi2 : ∀ (i : Nat), i ∈ idxs b → i ∈ idxs (a ++ b) := fun i hi => by
      rw [mem_idxs] at hi ⊢
      obtain ⟨y, hy, e⟩ := hi; exact ⟨y, by simp [hy], e⟩
    refine ⟨?_, g2, fun y hy => ?_⟩
    · simp only [ordB, Bool.and_eq_true]
      refine ⟨⟨srcFree_mono (fun i hh => ?_) h1, notIn_iff.2 fun hh => notIn_iff.1 h2 (hi _ hh)⟩, g1⟩
      rcases List.mem_cons.1 hh with rfl | hh
      · simp
      · exact List.mem_cons_of_mem _ (hi _ hh)
    · rcases List.mem_cons.1 hy with rfl | hy
      · exact ⟨srcFree_mono (fun i hh => List.mem_cons_of_mem _ (hi2 _ hh)) h1, fun hh => notIn_iff.1 h2 (hi2 _ hh)⟩
      · exact g3 y hy

theorem flat_eq (seg : List DOp) (rest : List (DOp × List DOp)) : flat seg rest = seg ++ (match rest with | [] => [] | (y, sg) :: r => y :: flat sg r) := by
  cases rest with
  | nil => simp [flat]
  | cons p r => obtain ⟨y, sg⟩ := p; simp [flat]

theorem evL_facts : ∀ (n : Nat) (rest : List (DOp × List DOp)) (seg watch : List DOp) (V : VT) (h : AH) (V' : VT) (h' : AH) (N : Nat), n ≤ N → evL P S n ds T base seg rest watch V h = some (V', h') → ordB (flat seg rest) = true →
    (∀ x ∈ watch, srcFree (idxs (flat seg rest)) x.src = true ∧ x.i ∉ idxs (flat seg rest)) →
    Out (idxs (flat seg rest)) V V' ∧ ∃ B, Facts ds T base P S N seg rest watch h V' h' B := by
  intro n rest
  induction rest generalizing n with
  | nil =>
    intro seg watch V h V' h' N hnN hev ho hw
    cases n with
    | zero => simp only [evL] at hev; cases hev
    | succ n =>
      simp only [evL] at hev
      cases hs : evSeg S ds T base seg V h with
      | none => rw [hs] at hev; cases hev
      | some p =>
        obtain ⟨V1, h1⟩ := p
        rw [hs] at hev
        simp only at hev
        obtain ⟨hst, hev⟩ := bif_none hev
        cases hev
        simp only [flat] at ho hw ⊢
        obtain ⟨q1, q2, q3⟩ := evSeg_facts S ds T base seg V h V' h' hs ho
        refine ⟨q1, fun _ => h', ⟨rfl, q2, q3, fun m y sg hm => by simp at hm, fun m x hm hx _ => ?_⟩⟩
        rcases hx with hx | ⟨m', y, sg, hm', hr, _⟩
        · exact List.all_eq_true.1 hst x hx
        · simp at hr
  | cons p rest ih =>
    obtain ⟨y, sg⟩ := p
    intro seg watch V h V' h' N hnN hev ho hw
    cases n with
    | zero => simp only [evL] at hev; cases hev
    | succ n =>
      simp only [evL] at hev
      cases hs : evSeg S ds T base seg V h with
      | none => rw [hs] at hev; cases hev
      | some p =>
        obtain ⟨V1, h1⟩ := p
        rw [hs] at hev
        simp only at hev
        obtain ⟨hst, hev⟩ := bif_none hev
        simp only [flat] at ho hw ⊢
        obtain ⟨o1, o2, o3⟩ := ordB_append ho
        simp only [ordB, Bool.and_eq_true] at o2
        obtain ⟨⟨o21, o22⟩, o23⟩ := o2
        obtain ⟨q1, q2, q3⟩ := evSeg_facts S ds T base seg V h V1 h1 hs o1
        have hyi : y.i ∉ idxs (flat sg rest) := notIn_iff.1 o22
        have hsub : ∀ i, i ∈ idxs (flat sg rest) → i ∈ idxs (y :: flat sg rest) := fun i hi => List.mem_cons_of_mem _ hi
        have hall : ∀ i, i ∈ idxs (y :: flat sg rest) → i ∈ idxs (seg ++ y :: flat sg rest) := fun i hi => by
          rw [mem_idxs] at hi ⊢
          obtain ⟨x, hx, e⟩ := hi; exact ⟨x, by simp at hx ⊢; rcases hx with h | h <;> simp [h], e⟩
        have hseg : ∀ i, i ∈ idxs seg → i ∈ idxs (seg ++ y :: flat sg rest) := fun i hi => by
          rw [mem_idxs] at hi ⊢
          obtain ⟨x, hx, e⟩ := hi; exact ⟨x, by simp [hx], e⟩
        -- one step
        have step : ∀ (v : AV) (C : AH), evL P S n ds T base sg rest ((watch ++ seg).filter fun z => !(Nat.testBit y.mask z.i)) (V1.set y.i (some v)) C = some (V', h') →
            ((wantedA ds (mkE V1 y.src T) y.g = false ∧ v = undefA ∧ C = h1) ∨ (wantedA ds (mkE V1 y.src T) y.g = true ∧ ∃ o, y.op = .E o ∧ evE P S n o (mkE V1 y.src T) h1 = some (v, C))) →
            Out (idxs (seg ++ y :: flat sg rest)) V V' ∧ ∃ B, Facts ds T base P S N seg ((y, sg) :: rest) watch h V' h' B := by
          intro v C hev hcase
          have hw' : ∀ x ∈ (watch ++ seg).filter (fun z => !(Nat.testBit y.mask z.i)), srcFree (idxs (flat sg rest)) x.src = true ∧ x.i ∉ idxs (flat sg rest) := by
            intro x hx
            rw [List.mem_filter] at hx
            rcases List.mem_append.1 hx.1 with h1 | h1
            · obtain ⟨g1, g2⟩ := hw x h1
              exact ⟨srcFree_mono (fun i hi => hall i (hsub i hi)) g1, fun hi => g2 (hall _ (hsub _ hi))⟩
            · obtain ⟨g1, g2⟩ := o3 x h1
              exact ⟨srcFree_mono hsub g1, fun hi => g2 (hsub _ hi)⟩
          obtain ⟨r1, B, F⟩ := ih n sg _ (V1.set y.i (some v)) C V' h' N (by omega) hev o23 hw'
          have hVy : Env.at V' y.i = v := by rw [r1 y.i hyi]; simp [Env.at_set]
          have hout1 : Out (idxs (y :: flat sg rest)) V1 V' := by
            intro i hi
            simp only [idxs, List.mem_cons, not_or] at hi
            rw [r1 i hi.2, Env.at_set, if_neg hi.1]
          have hout : Out (idxs (seg ++ y :: flat sg rest)) V V' := by
            intro i hi
            rw [hout1 i fun hh => hi (hall i hh), q1 i fun hh => hi (hseg i hh)]
          refine ⟨hout, fun m => match m with | 0 => h1 | m + 1 => B m, ?_⟩
          refine ⟨F.last, q2, fun x hx => ?_, fun m y' sg' hm => ?_, fun m x hm hx hq => ?_⟩
          · obtain ⟨g1, g2⟩ := o3 x hx
            exact segF_out S ds T base hout1 g1 g2 (q3 x hx)
          · cases m with
            | zero =>
              simp only [List.getElem?_cons_zero, Option.some.injEq, Prod.mk.injEq] at hm
              obtain ⟨rfl, rfl⟩ := hm
              refine ⟨F.seg0, C, ?_, F.add0⟩
              unfold EF
              rw [mkE_out hout1 _ _ o21, hVy]
              rcases hcase with ⟨c1, c2, c3⟩ | ⟨c1, o, c2, c3⟩
              · rw [c1]; exact ⟨fun _ => ⟨c2, c3⟩, fun h => by cases h⟩
              · rw [c1]; exact ⟨fun h => (by cases h), fun _ => ⟨n, o, by omega, c2, c3⟩⟩
            | succ m => exact F.lev m y' sg' (by simpa using hm)
          · cases m with
            | zero =>
              have hx' : x ∈ watch ++ seg := by
                rcases hx with hx | ⟨m', _, _, hm', _⟩
                · exact hx
                · omega
              have hold := List.all_eq_true.1 hst x hx'
              rcases List.mem_append.1 hx' with h2 | h2
              · obtain ⟨g1, g2⟩ := hw x h2
                rw [stays_out S ds T base hout1 (srcFree_mono hall g1) (fun hi => g2 (hall _ hi))]; exact hold
              · obtain ⟨g1, g2⟩ := o3 x h2
                rw [stays_out S ds T base hout1 g1 g2]; exact hold
            | succ m =>
              refine F.stay m x (by simpa using hm) ?_ (fun q y' sg' hq' hr => hq (q + 1) y' sg' (by omega) (by simpa using hr))
              rcases hx with hx | ⟨m', y', sg', hm', hr, hx⟩
              · left
                refine List.mem_append.2 (.inl (List.mem_filter.2 ⟨hx, ?_⟩))
                rw [hq 0 y sg (by omega) rfl]; rfl
              · cases m' with
                | zero =>
                  simp only [List.getElem?_cons_zero, Option.some.injEq, Prod.mk.injEq] at hr
                  obtain ⟨rfl, rfl⟩ := hr
                  exact .inl (List.mem_append.2 (.inr hx))
                | succ m' => exact .inr ⟨m', y', sg', by omega, by simpa using hr, hx⟩
        cases hwt : wantedA ds (mkE V1 y.src T) y.g with
        | false =>
          rw [hwt, cond_false] at hev
          exact step undefA h1 hev (.inl ⟨hwt, rfl, rfl⟩)
        | true =>
          rw [hwt, cond_true] at hev
          cases hop : y.op with
          | E o =>
            rw [hop] at hev step; simp only at hev
            cases hv : evE P S n o (mkE V1 y.src T) h1 with
            | none => rw [hv] at hev; cases hev
            | some p =>
              obtain ⟨v, C⟩ := p
              rw [hv] at hev
              exact step v C hev (.inr ⟨hwt, o, rfl, hv⟩)
          | _ => rw [hop] at hev; simp only at hev; cases hev
end
end Ab
end Go.Proofs.YtcoobajkgioflaaGreatDoor
