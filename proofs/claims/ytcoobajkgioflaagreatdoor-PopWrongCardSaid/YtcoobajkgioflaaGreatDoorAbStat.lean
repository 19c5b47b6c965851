/- What the checks of a drawn region say. -/
import Derived.Test.YtcoobajkgioflaaGreatDoorAbCong
set_option linter.unusedSimpArgs false
set_option linter.unusedVariables false
namespace Go.Proofs.YtcoobajkgioflaaGreatDoor
namespace Ab

theorem idxD_eq (l : List Nat) (n : Nat) : idxD l n = (l[n]?).getD 0 := by
  unfold idxD
  rw [idx?_eq]
  cases l[n]? <;> rfl

theorem lor_bit (a b i : Nat) : Nat.testBit (Nat.lor a b) i = (Nat.testBit a i || Nat.testBit b i) := Nat.testBit_or a b i
theorem maskE_bit (acc : List Nat) : ∀ (es : List Edge) (s i : Nat), Nat.testBit (maskE acc es s) i = true → Nat.testBit s i = true ∨ ∃ e ∈ es, Region.binds .any e = true ∧ (e.on = i ∨ Nat.testBit (idxD acc e.on) i = true)
  | [], s, i, h => .inl h
  | e :: r, s, i, h => by
    simp only [maskE] at h
    cases hb : Region.binds .any e with
    | false =>
      rw [hb, cond_false] at h
      rcases maskE_bit acc r s i h with h1 | ⟨e', h1, h2, h3⟩
      · exact .inl h1
      · exact .inr ⟨e', by simp [h1], h2, h3⟩
    | true =>
      rw [hb, cond_true] at h
      rcases maskE_bit acc r _ i h with h1 | ⟨e', h1, h2, h3⟩
      · rw [lor_bit, lor_bit] at h1
        simp only [Bool.or_eq_true] at h1
        rcases h1 with h1 | h1 | h1
        · exact .inl h1
        · refine .inr ⟨e, by simp, hb, .inl ?_⟩
          have h1' : (2 ^ e.on).testBit i = true := h1
          rw [Nat.testBit_two_pow] at h1'
          simpa using h1'
        · exact .inr ⟨e, by simp, hb, .inr h1⟩
      · exact .inr ⟨e', by simp [h1], h2, h3⟩

theorem masks_get : ∀ (ops : List Oper) (acc : List Nat), (masks ops acc).length = acc.length + ops.length ∧ (∀ i, i < acc.length → (masks ops acc)[i]? = acc[i]?) ∧
    ∀ (k : Nat) (o : Oper), ops[k]? = some o → (masks ops acc)[acc.length + k]? = some (maskE ((masks ops acc).take (acc.length + k)) o.after.toList 0)
  | [], acc => ⟨by simp [masks], fun i hi => rfl, fun k o h => by simp at h⟩
  | o :: r, acc => by
    obtain ⟨h1, h2, h3⟩ := masks_get r (acc ++ [maskE acc o.after.toList 0])
    simp only [masks]
    refine ⟨by rw [h1]; simp; omega, fun i hi => ?_, fun k p hk => ?_⟩
    · rw [h2 i (by simp; omega), List.getElem?_append_left hi]
    · cases k with
      | zero =>
        simp only [List.getElem?_cons_zero, Option.some.injEq] at hk
        subst hk
        rw [Nat.add_zero, h2 acc.length (by simp)]
        simp only [List.getElem?_concat_length]
        congr 2
        apply List.ext_getElem?
        intro i
        rw [List.getElem?_take]
        split
        · rename_i hi; rw [h2 i (by simp; omega), List.getElem?_append_left hi]
        · rename_i hi; rw [List.getElem?_eq_none (by omega)]
      | succ k =>
        have := h3 k p (by simpa using hk)
        simp only [List.length_append, List.length_cons, List.length_nil] at this
        rw [show acc.length + (k + 1) = acc.length + 1 + k by omega]
        exact this

/-- A set of listed operations that holds, with each, those it waits for. -/
def Closed (ops : Array Oper) (L : Array Bool) : Prop := ∀ (j : Nat) (o : Oper), ops[j]? = some o → L.getD j false = true → ∀ e ∈ o.after, Region.binds .any e = true → L.getD e.on false = true

theorem mask_closed {ops : Array Oper} {L : Array Bool} (hc : Closed ops L) : ∀ (j : Nat) (o : Oper), ops[j]? = some o → (L.getD j false = true ∨ ∀ e ∈ o.after, Region.binds .any e = true → L.getD e.on false = true) →
    ∀ i, Nat.testBit (idxD (masks ops.toList []) j) i = true → L.getD i false = true := by
  intro j
  induction j using Nat.strongRecOn with
  | _ j ih =>
    intro o ho hl i hi
    obtain ⟨_, _, h3⟩ := masks_get ops.toList []
    have hm := h3 j o (by simpa using ho)
    simp only [List.length_nil, Nat.zero_add] at hm
    rw [idxD_eq, hm] at hi
    simp only [Option.getD_some] at hi
    have hpre : ∀ e ∈ o.after, Region.binds .any e = true → L.getD e.on false = true := by
      rcases hl with hl | hl
      · exact fun e he hb => hc j o ho hl e he hb
      · exact hl
    rcases maskE_bit _ _ _ _ hi with h1 | ⟨e, h1, h2, h3'⟩
    · simp at h1
    · have he := hpre e (by simpa using h1) h2
      rcases h3' with h4 | h4
      · rw [← h4]; exact he
      · rw [idxD_eq, List.getElem?_take] at h4
        split at h4
        · rename_i hlt
          have hex : ∃ o', ops[e.on]? = some o' := by
            have : j < ops.size := (Array.getElem?_eq_some_iff.1 ho).1
            exact ⟨ops[e.on]'(by omega), by simp [show e.on < ops.size by omega]⟩
          obtain ⟨o', ho'⟩ := hex
          exact ih e.on hlt o' ho' (.inl he) i (by rw [idxD_eq]; exact h4)
        · simp at h4

theorem compOps_get {P : Program} : ∀ (ops : List Oper) (l : List (Option (Nat × Bool) × Option Tmp × AOp)), compOps P ops = some l → l.length = ops.length ∧ ∀ (i : Nat) (o : Oper), ops[i]? = some o → ∃ a, compOp P o = some a ∧ l[i]? = some (o.guard, o.dst, a)
  | [], l, h => by simp only [compOps] at h; cases h; exact ⟨rfl, fun i o h => by simp at h⟩
  | o :: r, l, h => by
    simp only [compOps] at h
    split at h
    · rename_i a q h1 h2
      cases h
      obtain ⟨g1, g2⟩ := compOps_get r q h2
      refine ⟨by simp [g1], fun i p hp => ?_⟩
      cases i with
      | zero => simp at hp; subst hp; exact ⟨a, h1, rfl⟩
      | succ i => simpa using g2 i p (by simpa using hp)
    · cases h

theorem mkD_get (ds : List (Option Tmp)) (ms : List Nat) (n : Nat) : ∀ (l : List (Option (Nat × Bool) × Option Tmp × AOp)) (k : Nat), (mkD ds ms n l k).length = l.length ∧ ∀ (i : Nat) (g : Option (Nat × Bool)) (d : Option Tmp) (o : AOp), l[i]? = some (g, d, o) →
    (mkD ds ms n l k)[i]? = some ⟨k + i, idxD ms (k + i), g, d, o, srcs ds (idxD ms (k + i)) n (readsOf ds g o)⟩
  | [], k => ⟨rfl, fun i g d o h => by simp at h⟩
  | (g0, d0, o0) :: r, k => by
    obtain ⟨h1, h2⟩ := mkD_get ds ms n r (k + 1)
    refine ⟨by simp [mkD, h1], fun i g d o h => ?_⟩
    cases i with
    | zero => simp at h; obtain ⟨rfl, rfl, rfl⟩ := h; simp [mkD]
    | succ i =>
      have := h2 i g d o (by simpa using h)
      simp only [mkD, List.getElem?_cons_succ]
      rw [show k + (i + 1) = k + 1 + i by omega]
      exact this

theorem dstsOf_get : ∀ (ops : List Oper) (i : Nat), idx? (dstsOf ops) i = (ops[i]?).map (·.dst)
  | [], i => by simp [dstsOf, idx?]
  | o :: r, 0 => by simp [dstsOf, idx?]
  | o :: r, i + 1 => by simp [dstsOf, idx?, dstsOf_get r i]

theorem segOf_sub (D : List DOp) (m : Nat) : ∀ (L : List DOp) (x : DOp), x ∈ segOf D m L → x ∈ L
  | [], x, h => by cases h
  | y :: r, x, h => by
    simp only [segOf, bool_cond] at h
    split at h
    · rcases List.mem_cons.1 h with rfl | h
      · simp
      · exact List.mem_cons_of_mem _ (segOf_sub D m r x h)
    · exact List.mem_cons_of_mem _ (segOf_sub D m r x h)
theorem levels_sub (D : List DOp) : ∀ (L : List DOp) (m : Nat) (y : DOp) (sg : List DOp), (y, sg) ∈ levels D L m → y ∈ L ∧ ∀ x ∈ sg, x ∈ D
  | [], m, y, sg, h => by cases h
  | z :: r, m, y, sg, h => by
    simp only [levels, bool_cond] at h
    split at h
    · rcases List.mem_cons.1 h with e | h
      · cases e; exact ⟨by simp, fun x hx => segOf_sub D _ D x hx⟩
      · obtain ⟨h1, h2⟩ := levels_sub D r _ y sg h
        exact ⟨List.mem_cons_of_mem _ h1, h2⟩
    · obtain ⟨h1, h2⟩ := levels_sub D r _ y sg h
      exact ⟨List.mem_cons_of_mem _ h1, h2⟩
theorem mem_flat : ∀ {lv : List (DOp × List DOp)} {seg : List DOp} {x : DOp}, x ∈ flat seg lv ↔ x ∈ seg ∨ ∃ (m : Nat) (y : DOp) (sg : List DOp), lv[m]? = some (y, sg) ∧ (x = y ∨ x ∈ sg)
  | [], seg, x => by simp [flat]
  | (y0, sg0) :: r, seg, x => by
    simp only [flat, List.mem_append, List.mem_cons, mem_flat (lv := r)]
    constructor
    · rintro (h | rfl | h | ⟨m, y, sg, h1, h2⟩)
      · exact .inl h
      · exact .inr ⟨0, x, sg0, rfl, .inl rfl⟩
      · exact .inr ⟨0, y0, sg0, rfl, .inr h⟩
      · exact .inr ⟨m + 1, y, sg, by simpa using h1, h2⟩
    · rintro (h | ⟨m, y, sg, h1, h2⟩)
      · exact .inl h
      · cases m with
        | zero =>
          simp at h1; obtain ⟨rfl, rfl⟩ := h1
          rcases h2 with rfl | h2
          · exact .inr (.inl rfl)
          · exact .inr (.inr (.inl h2))
        | succ m => exact .inr (.inr (.inr ⟨m, y, sg, by simpa using h1, h2⟩))

theorem isIn_iff : ∀ {n : Nat} {l : List Nat}, isIn n l = true → n ∈ l
  | n, [], h => by cases h
  | n, m :: r, h => by
    simp only [isIn, Bool.or_eq_true, nat_beq, decide_eq_true_eq] at h
    rcases h with rfl | h
    · simp
    · exact List.mem_cons_of_mem _ (isIn_iff h)
theorem allBelow_iff {l : List Nat} : ∀ {n : Nat}, allBelow l n = true → ∀ i, i < n → i ∈ l
  | 0, _, i, hi => by omega
  | n + 1, h, i, hi => by
    simp only [allBelow, Bool.and_eq_true] at h
    by_cases hn : i = n
    · subst hn; exact isIn_iff h.1
    · exact allBelow_iff h.2 i (by omega)

theorem levB_get : ∀ (lv : List (DOp × List DOp)) (hs : List DOp), levB hs lv = true → ∀ (m : Nat) (y : DOp) (sg : List DOp), lv[m]? = some (y, sg) →
    y.op.isE = true ∧ (∀ q ∈ hs, Nat.testBit y.mask q.i = true) ∧ (∀ k y' sg', k < m → lv[k]? = some (y', sg') → Nat.testBit y.mask y'.i = true) ∧ ∀ x ∈ sg, x.op.isE = false ∧ Nat.testBit x.mask y.i = true
  | [], hs, _, m, y, sg, h => by simp at h
  | (y0, sg0) :: r, hs, hl, m, y, sg, h => by
    simp only [levB, Bool.and_eq_true] at hl
    obtain ⟨⟨⟨h1, h2⟩, h3⟩, h4⟩ := hl
    cases m with
    | zero =>
      simp at h; obtain ⟨rfl, rfl⟩ := h
      refine ⟨h1, fun q hq => List.all_eq_true.1 h2 q hq, fun k y' sg' hk => by omega, fun x hx => ?_⟩
      have := List.all_eq_true.1 h3 x hx
      simpa using this
    | succ m =>
      obtain ⟨g1, g2, g3, g4⟩ := levB_get r (hs ++ [y0]) h4 m y sg (by simpa using h)
      refine ⟨g1, fun q hq => g2 q (by simp [hq]), fun k y' sg' hk hy' => ?_, g4⟩
      cases k with
      | zero => simp at hy'; obtain ⟨rfl, rfl⟩ := hy'; exact g2 _ (by simp)
      | succ k => exact g3 k y' sg' (by omega) (by simpa using hy')

/-- the last writer by a predicate -/
def lastP (p : Nat → Bool) (ds : List (Option Tmp)) (t : Nat) : Nat → Option Nat
  | 0 => none
  | n + 1 => bif p n && isW ds n t then some n else lastP p ds t n
theorem lastw_eq (ds : List (Option Tmp)) (mask t : Nat) : ∀ n, lastw ds mask t n = lastP (Nat.testBit mask) ds t n
  | 0 => rfl
  | n + 1 => by simp only [lastw, lastP, lastw_eq ds mask t n]
def writes (ds : List (Option Tmp)) (u t : Nat) : Prop := idx? ds u = some (some t)
theorem lastP_congr {p q : Nat → Bool} {ds : List (Option Tmp)} {t : Nat} : ∀ {n : Nat}, (∀ u, u < n → writes ds u t → p u = q u) → lastP p ds t n = lastP q ds t n
  | 0, _ => rfl
  | n + 1, h => by
    simp only [lastP]
    rw [lastP_congr (n := n) fun u hu hw => h u (by omega) hw]
    unfold isW
    cases hd : idx? ds n with
    | none => simp
    | some d =>
      cases d with
      | none => simp
      | some d =>
        by_cases hdt : d = t
        · subst hdt; rw [h n (by omega) hd]
        · have : Nat.beq d t = false := by rw [nat_beq]; simp [hdt]
          simp [this]
/-- one more is listed, and no later writer of the same stands already -/
theorem lastP_add {p : Nat → Bool} {ds : List (Option Tmp)} {i : Nat} {d : Option Tmp} (hd : idx? ds i = some d) : ∀ {n t : Nat}, i < n → (∀ u, i < u → u < n → p u = true → ∀ q, d = some q → ¬ writes ds u q) →
    lastP (fun u => p u || Nat.beq u i) ds t n = if d = some t then some i else lastP p ds t n
  | 0, t, hi, _ => by omega
  | n + 1, t, hi, h => by
    simp only [lastP]
    by_cases hn : n = i
    · subst hn
      have hb : Nat.beq n n = true := by rw [nat_beq]; simp
      rw [hb, Bool.or_true, Bool.true_and]
      unfold isW
      rw [hd]
      have hcong : lastP (fun u => p u || Nat.beq u n) ds t n = lastP p ds t n := lastP_congr fun u hu _ => by
        have : Nat.beq u n = false := by rw [nat_beq]; simp; omega
        rw [this, Bool.or_false]
      cases d with
      | none => simp only [cond_false, Bool.and_false, reduceCtorEq, if_false]; exact hcong
      | some q =>
        by_cases hq : q = t
        · subst hq
          have : Nat.beq q q = true := by rw [nat_beq]; simp
          simp [this]
        · have : Nat.beq q t = false := by rw [nat_beq]; simp [hq]
          simp only [this, cond_false, Bool.and_false, Option.some.injEq, hq, if_false]; exact hcong
    · have hb : Nat.beq n i = false := by rw [nat_beq]; simp [hn]
      rw [hb, Bool.or_false, lastP_add hd (by omega) fun u h1 h2 h3 => h u h1 (by omega) h3]
      by_cases hdt : d = some t
      · simp only [if_pos hdt]
        have hz : (p n && isW ds n t) = false := by
          by_cases hp : p n = true
          · have := h n (by omega) (by omega) hp t hdt
            have hw : isW ds n t = false := by
              unfold isW
              split
              · rename_i z hdn
                rw [nat_beq]
                simp only [decide_eq_false_iff_not]
                intro e; subst e; exact this hdn
              · rfl
            rw [hw, Bool.and_false]
          · rw [Bool.eq_false_iff.2 hp, Bool.false_and]
        rw [hz]; rfl
      · rw [if_neg hdt, if_neg hdt]

theorem srcs_mem (ds : List (Option Tmp)) (mask n : Nat) : ∀ (l : List Nat) (t : Nat), t ∈ l → (t, lastw ds mask t n) ∈ srcs ds mask n l
  | [], t, h => by cases h
  | u :: r, t, h => by
    simp only [srcs]
    rcases List.mem_cons.1 h with rfl | h
    · simp
    · exact List.mem_cons_of_mem _ (srcs_mem ds mask n r t h)

theorem mkE_at (V : VT) (ds : List (Option Tmp)) (mask n : Nat) : ∀ (l : List Nat) (T : Env) (t : Nat), Env.at (mkE V (srcs ds mask n l) T) t = if t ∈ l then (match lastw ds mask t n with | some u => Env.at V u | none => Env.at T t) else Env.at T t
  | [], T, t => by simp [srcs, mkE]
  | u :: r, T, t => by
    simp only [srcs]
    cases hu : lastw ds mask u n with
    | none =>
      simp only [mkE, mkE_at V ds mask n r T t, List.mem_cons]
      by_cases h1 : t ∈ r
      · simp [h1]
      · by_cases h2 : t = u
        · subst h2; simp [h1, hu]
        · simp [h1, h2]
    | some k =>
      simp only [mkE, mkE_at V ds mask n r _ t, List.mem_cons, Env.at_set]
      by_cases h1 : t ∈ r
      · simp only [h1, if_true, or_true]
        by_cases h2 : t = u
        · subst h2; simp [hu]
        · simp [h2]
      · by_cases h2 : t = u
        · subst h2; simp [h1, hu]
        · simp [h1, h2]

theorem outE_at (V : VT) (ds : List (Option Tmp)) : ∀ (D : List DOp) (k : Nat) (T : Env) (t : Nat), (∀ (i : Nat) (x : DOp), D[i]? = some x → x.i = k + i ∧ idx? ds (k + i) = some x.dst) →
    Env.at (outE V D T) t = match lastP (fun u => Nat.ble k u) ds t (k + D.length) with | some u => Env.at V u | none => Env.at T t
  | [], k, T, t, _ => by
    simp only [outE, List.length_nil, Nat.add_zero]
    have : ∀ n, n ≤ k → lastP (fun u => Nat.ble k u) ds t n = none := by
      intro n
      induction n with
      | zero => intro _; rfl
      | succ n ih => intro hn; simp only [lastP]; rw [ih (by omega)]; have : Nat.ble k n = false := by rw [nat_ble]; simp; omega
                     simp [this]
    rw [this k (Nat.le_refl _)]
  | x :: r, k, T, t, h => by
    obtain ⟨hx1, hx2⟩ := h 0 x rfl
    simp only [outE]
    rw [outE_at V ds r (k + 1) _ t fun i y hy => by
      have := h (i + 1) y (by simpa using hy)
      rw [show k + 1 + i = k + (i + 1) by omega]; exact this]
    simp only [List.length_cons, Nat.add_zero] at hx1 hx2 ⊢
    rw [show k + (r.length + 1) = k + 1 + r.length by omega]
    have key : ∀ n, k < n → (match lastP (fun u => Nat.ble (k + 1) u) ds t n with | some u => Env.at V u | none => Env.at (putA T x.dst (Env.at V x.i)) t) = match lastP (fun u => Nat.ble k u) ds t n with | some u => Env.at V u | none => Env.at T t := by
      intro n
      induction n with
      | zero => intro h; omega
      | succ n ih =>
        intro hn
        simp only [lastP]
        by_cases hnk : n = k
        · subst hnk
          have e1 : Nat.ble (n + 1) n = false := by rw [nat_ble]; simp
          have e2 : Nat.ble n n = true := by rw [nat_ble]; simp
          rw [e1, e2, Bool.false_and, cond_false, Bool.true_and]
          unfold isW
          rw [hx2]
          have hno : ∀ m, m ≤ n → lastP (fun u => Nat.ble (n + 1) u) ds t m = none ∧ lastP (fun u => Nat.ble n u) ds t m = none := by
            intro m
            induction m with
            | zero => intro _; exact ⟨rfl, rfl⟩
            | succ m ih2 =>
              intro hm
              obtain ⟨g1, g2⟩ := ih2 (by omega)
              simp only [lastP]
              have e3 : Nat.ble (n + 1) m = false := by rw [nat_ble]; simp; omega
              have e4 : Nat.ble n m = false := by rw [nat_ble]; simp; omega
              rw [e3, e4, g1, g2]; simp
          obtain ⟨g1, g2⟩ := hno n (Nat.le_refl _)
          rw [g1]
          cases hdst : x.dst with
          | none => simp only [putA, cond_false]; rw [g2]
          | some d =>
            simp only [putA, Env.at_set]
            by_cases hdt : d = t
            · subst hdt
              have : Nat.beq d d = true := by rw [nat_beq]; simp
              rw [this, cond_true, hx1]; simp
            · have : Nat.beq d t = false := by rw [nat_beq]; simp [hdt]
              rw [this, cond_false, g2, if_neg (Ne.symm hdt)]
        · have e1 : Nat.ble (k + 1) n = true := by rw [nat_ble]; simp; omega
          have e2 : Nat.ble k n = true := by rw [nat_ble]; simp; omega
          rw [e1, e2]
          cases hb : (true && isW ds n t) with
          | true => rfl
          | false => rw [cond_false, cond_false]; exact ih (by omega)
    exact key _ (by omega)
end Ab
end Go.Proofs.YtcoobajkgioflaaGreatDoor
