/- How abstract values and heaps stand to the model's. -/
import Derived.Test.YtcoobajkgioflaaGreatDoorAb
import Derived.Laws.Cells
import Derived.Below
import Derived.Calls
import Derived.Orders
set_option linter.unusedSimpArgs false
namespace Go.Proofs.YtcoobajkgioflaaGreatDoor
namespace Ab

/- Lists and trees. -/
theorem idx?_eq {α : Type} : ∀ (l : List α) (i : Nat), idx? l i = l[i]?
  | [], _ => by simp [idx?]
  | a :: l, 0 => by simp [idx?]
  | a :: l, i + 1 => by simp [idx?, idx?_eq l i]

theorem beq_half (k : Nat) : (Nat.beq (Nat.mod k 2) 0) = decide (k % 2 = 0) := by
  by_cases h : k % 2 = 0
  · simp only [h, decide_true]; show Nat.beq (k % 2) 0 = true; rw [h]; rfl
  · simp only [h, decide_false]; show Nat.beq (k % 2) 0 = false
    have : k % 2 = 1 := by omega
    rw [this]; rfl

theorem Tr.get_nil {α : Type} (m : Nat) : (Tr.nil : Tr α).get m = none := rfl
theorem Tr.get_zero {α : Type} (v : Option α) (l r : Tr α) : (Tr.node v l r).get 0 = v := rfl
theorem Tr.get_succ {α : Type} (v : Option α) (l r : Tr α) (k : Nat) : (Tr.node v l r).get (k + 1) = if k % 2 = 0 then l.get (k / 2) else r.get (k / 2) := by
  show (bif Nat.beq (Nat.mod k 2) 0 then _ else _) = _
  rw [beq_half]
  by_cases h : k % 2 = 0 <;> simp [h] <;> rfl

theorem Tr.put_nil {α : Type} (f n : Nat) (x : Option α) : (Tr.put (f + 1) .nil (n + 1) x) = if n % 2 = 0 then .node none (Tr.put f .nil (n / 2) x) .nil else .node none .nil (Tr.put f .nil (n / 2) x) := by
  show (bif Nat.beq (Nat.mod n 2) 0 then _ else _) = _
  rw [beq_half]
  by_cases h : n % 2 = 0 <;> simp [h] <;> rfl
theorem Tr.put_node {α : Type} (f n : Nat) (x v : Option α) (l r : Tr α) : (Tr.put (f + 1) (.node v l r) (n + 1) x) = if n % 2 = 0 then .node v (Tr.put f l (n / 2) x) r else .node v l (Tr.put f r (n / 2) x) := by
  show (bif Nat.beq (Nat.mod n 2) 0 then _ else _) = _
  rw [beq_half]
  by_cases h : n % 2 = 0 <;> simp [h] <;> rfl

theorem Tr.get_put {α : Type} : ∀ (f : Nat) (t : Tr α) (n : Nat) (x : Option α) (m : Nat), n < f → (Tr.put f t n x).get m = if m = n then x else t.get m := by
  intro f
  induction f with
  | zero => intro t n x m h; omega
  | succ f ih =>
    intro t n x m h
    cases t with
    | nil =>
      cases n with
      | zero => cases m with
        | zero => rfl
        | succ m => show (Tr.node x Tr.nil Tr.nil).get (m + 1) = _; rw [Tr.get_succ]; simp [Tr.get_nil]
      | succ n =>
        rw [Tr.put_nil]
        cases m with
        | zero => by_cases hn : n % 2 = 0 <;> simp [hn, Tr.get_zero, Tr.get_nil]
        | succ m =>
          by_cases hn : n % 2 = 0
          · simp only [hn, if_true, Tr.get_succ]
            by_cases hm : m % 2 = 0
            · simp only [hm, if_true]
              rw [ih _ _ _ _ (by omega)]
              by_cases e : m = n
              · subst e; simp
              · rw [if_neg (by omega), if_neg (by omega)]; simp [Tr.get_nil]
            · simp only [hm, if_false, Tr.get_nil]; rw [if_neg (by intro e; apply hm; have : m = n := by omega
                                                                   rw [this]; exact hn)]
          · simp only [hn, if_false, Tr.get_succ]
            by_cases hm : m % 2 = 0
            · simp only [hm, if_true, Tr.get_nil]; rw [if_neg (by intro e; apply hn; have : n = m := by omega
                                                                  rw [this]; exact hm)]
            · simp only [hm, if_false]
              rw [ih _ _ _ _ (by omega)]
              by_cases e : m = n
              · subst e; simp
              · rw [if_neg (by omega), if_neg (by omega)]; simp [Tr.get_nil]
    | node v l r =>
      cases n with
      | zero => cases m with
        | zero => rfl
        | succ m => show (Tr.node x l r).get (m + 1) = _; rw [Tr.get_succ, Tr.get_succ, if_neg (Nat.succ_ne_zero m)]
      | succ n =>
        rw [Tr.put_node]
        cases m with
        | zero => by_cases hn : n % 2 = 0 <;> simp [hn, Tr.get_zero]
        | succ m =>
          by_cases hn : n % 2 = 0
          · simp only [hn, if_true, Tr.get_succ]
            by_cases hm : m % 2 = 0
            · simp only [hm, if_true]
              rw [ih _ _ _ _ (by omega)]
              by_cases e : m = n
              · subst e; simp
              · rw [if_neg (by omega), if_neg (by omega)]
            · simp only [hm, if_false]; rw [if_neg (by intro e; apply hm; have : m = n := by omega
                                                       rw [this]; exact hn)]
          · simp only [hn, if_false, Tr.get_succ]
            by_cases hm : m % 2 = 0
            · simp only [hm, if_true]; rw [if_neg (by intro e; apply hn; have : n = m := by omega
                                                      rw [this]; exact hm)]
            · simp only [hm, if_false]
              rw [ih _ _ _ _ (by omega)]
              by_cases e : m = n
              · subst e; simp
              · rw [if_neg (by omega), if_neg (by omega)]

theorem Tr.get_set {α : Type} (t : Tr α) (n : Nat) (x : Option α) (m : Nat) : (t.set n x).get m = if m = n then x else t.get m :=
  Tr.get_put _ t n x m (Nat.lt_succ_self n)

theorem Env.at_set (e : Env) (n : Nat) (v : AV) (m : Nat) : Env.at (Tr.set e n (some v)) m = if m = n then v else Env.at e m := by
  unfold Env.at
  rw [Tr.get_set]
  by_cases h : m = n <;> simp [h]
theorem Env.at_nil (m : Nat) : Env.at (Tr.nil : Env) m = undefA := rfl

theorem over_length {α : Type} : ∀ (l : List α) (i : Nat) (ys : List α), i ≤ l.length → (over l i ys).length = max l.length (i + ys.length)
  | l, 0, [], _ => by simp [over]
  | [], 0, y :: ys, _ => by simp [over]
  | [], i + 1, ys, h => by simp at h
  | a :: l, 0, y :: ys, _ => by simp only [over, List.length_cons, over_length l 0 ys (Nat.zero_le _)]; omega
  | a :: l, i + 1, ys, h => by simp [over, over_length l i ys (by simpa using h)]; omega

theorem over_get {α : Type} : ∀ (l : List α) (i : Nat) (ys : List α) (j : Nat), i ≤ l.length → (over l i ys)[j]? = if j < i then l[j]? else if j < i + ys.length then ys[j - i]? else l[j]?
  | l, 0, [], j, _ => by simp [over]
  | [], 0, y :: ys, j, _ => by
    simp only [over, Nat.not_lt_zero, if_false, Nat.zero_add, Nat.sub_zero]
    by_cases h : j < (y :: ys).length
    · rw [if_pos h]
    · rw [if_neg h, List.getElem?_eq_none (by omega)]; simp
  | [], i + 1, ys, j, h => by simp at h
  | a :: l, 0, y :: ys, j, _ => by
    have ih := over_get l 0 ys
    cases j with
    | zero => simp [over]
    | succ j =>
      have := ih j (Nat.zero_le _)
      simp only [Nat.not_lt_zero, if_false, Nat.zero_add, Nat.sub_zero] at this
      simp only [over, List.getElem?_cons_succ, this, Nat.not_lt_zero, if_false, List.length_cons, Nat.zero_add, Nat.sub_zero, Nat.add_lt_add_iff_right]
  | a :: l, i + 1, ys, j, h => by
    cases j with
    | zero => simp [over]
    | succ j =>
      have := over_get l i ys j (by simpa using h)
      simp only [over, List.getElem?_cons_succ, this, Nat.add_lt_add_iff_right, show i + 1 + ys.length = (i + ys.length) + 1 by omega, Nat.add_sub_add_right]

theorem sub_length {α : Type} (l : List α) (i n : Nat) (h : i + n ≤ l.length) : (sub l i n).length = n := by
  simp [sub]; omega
theorem sub_get {α : Type} (l : List α) (i n j : Nat) (hj : j < n) : (sub l i n)[j]? = l[i + j]? := by
  simp [sub, List.getElem?_take, hj, List.getElem?_drop]

theorem bool_cond {α : Type} (b : Bool) (x y : α) : (bif b then x else y) = if b = true then x else y := by cases b <;> rfl
theorem nat_beq (a b : Nat) : (Nat.beq a b) = decide (a = b) := by
  by_cases h : a = b
  · subst h; simp
  · simp only [h, decide_false]; exact Bool.eq_false_iff.2 fun hh => h (Nat.eq_of_beq_eq_true hh)
theorem nat_ble (a b : Nat) : (Nat.ble a b) = decide (a ≤ b) := by
  by_cases h : a ≤ b
  · simp only [h, decide_true]; exact Nat.ble_eq_true_of_le h
  · simp only [h, decide_false]; exact Bool.eq_false_iff.2 fun hh => h (Nat.le_of_ble_eq_true hh)

/- Values. -/
/-- Where the abstract objects lie; what the tokens stand for: one cell's values, no bools. -/
structure Toks.wf (T : Toks) : Prop where
  cell : ∀ n v, T.cell n v → v.oneCell' = true ∧ ∀ b, v ≠ .bool b
  ptr : ∀ n l v, T.ptr n l v → v.oneCell' = true ∧ ∀ b, v ≠ .bool b
structure J where
  loc : Nat → Option (Nat × Nat × Nat)
  tok : Toks
  wf : tok.wf
instance : CoeFun J (fun _ => Nat → Option (Nat × Nat × Nat)) := ⟨J.loc⟩
structure J.le (j j' : J) : Prop where
  tok : j'.tok = j.tok
  loc : ∀ id l, j id = some l → j' id = some l
theorem J.le_refl (j : J) : j.le j := ⟨rfl, fun _ _ h => h⟩
theorem J.le_trans {a b c : J} (h : a.le b) (k : b.le c) : a.le c := ⟨k.tok.trans h.tok, fun id loc x => k.loc id loc (h.loc id loc x)⟩

mutual
def VR (j : J) : AV → Value → Prop
  | .i k n, v => v = .int k n
  | .b x, v => v = .bool x
  | .s l, v => v = .string ⟨⟨l⟩⟩
  | .p none, v => v = .pointer none
  | .p (some (id, o)), v => ∃ b o' t, j id = some (b, o', t) ∧ v = .pointer (some ⟨b, o' + o, none⟩)
  | .sl none len cap _, v => len = 0 ∧ cap = some 0 ∧ v = .slice none 0 0
  | .sl (some (id, o)) len cap es, v => ∃ a c, v = .slice (some a) len c ∧ len ≤ c ∧ (∀ c', cap = some c' → c' = c) ∧ (c = 0 ∨ ∃ b o' t, j id = some (b, o', t) ∧ a = ⟨b, o' + o, none⟩ ∧ (es ≠ 0 → o + c * es ≤ t))
  | .m none, v => v = .map none
  | .m (some id), v => ∃ b o t, j id = some (b, o, t) ∧ v = .map (some b)
  | .f fn first caps, v => ∃ a b, v = .func fn ⟨a⟩ ⟨b⟩ ∧ VRs j first a ∧ VRs j caps b
  | .nf, v => v = .nilFunc
  | .ni, v => v = .nilIface
  | .ifc t x, v => ∃ y, v = .iface t y ∧ VR j x y
  | .g l, v => ∃ cs, v = .agg ⟨cs⟩ ∧ VRs j l cs
  | .t l, v => ∃ cs, v = .tuple ⟨cs⟩ ∧ VRs j l cs
  | .r k lo hi, v => ∃ n, v = .int k n ∧ lo ≤ n ∧ n ≤ hi
  | .any, v => v.oneCell' = true ∧ ∀ b, v ≠ .bool b
  | .u lo hi, v => ∃ a len c, v = .slice a len c ∧ lo ≤ len ∧ len ≤ hi
  | .x n, v => j.tok.cell n v
  | .y id n, v => ∃ l, j id = some l ∧ j.tok.ptr n l v
def VRs (j : J) : List AV → List Value → Prop
  | [], vs => vs = []
  | a :: l, vs => ∃ v r, vs = v :: r ∧ VR j a v ∧ VRs j l r
end

theorem VRs.length {j : J} : ∀ {l : List AV} {vs : List Value}, VRs j l vs → l.length = vs.length
  | [], vs, h => by simp only [VRs] at h; subst h; rfl
  | a :: l, vs, h => by simp only [VRs] at h; obtain ⟨v, r, rfl, _, h⟩ := h; simp [h.length]
theorem VRs.get {j : J} : ∀ {l : List AV} {vs : List Value}, VRs j l vs → ∀ (i : Nat) (a : AV), l[i]? = some a → ∃ v, vs[i]? = some v ∧ VR j a v
  | [], vs, h, i, a, ha => by simp at ha
  | a :: l, vs, h, i, b, hb => by
    simp only [VRs] at h; obtain ⟨v, r, rfl, hv, h⟩ := h
    cases i with
    | zero => simp at hb; subst hb; exact ⟨v, rfl, hv⟩
    | succ i => simpa using h.get i b (by simpa using hb)
theorem VRs.mk {j : J} : ∀ {l : List AV} {vs : List Value}, l.length = vs.length → (∀ (i : Nat) (a : AV), l[i]? = some a → ∃ v, vs[i]? = some v ∧ VR j a v) → VRs j l vs
  | [], vs, hl, _ => by simp only [VRs]; exact List.eq_nil_of_length_eq_zero hl.symm
  | a :: l, [], hl, _ => by simp at hl
  | a :: l, v :: vs, hl, h => by
    simp only [VRs]
    obtain ⟨x, hx, hax⟩ := h 0 a rfl
    simp at hx; subst hx
    exact ⟨v, vs, rfl, hax, VRs.mk (by simpa using hl) fun i b hb => by simpa using h (i + 1) b (by simpa using hb)⟩
theorem VRs.append {j : J} {a b : List AV} {x y : List Value} (h : VRs j a x) (k : VRs j b y) : VRs j (a ++ b) (x ++ y) := by
  refine VRs.mk (by simp [h.length, k.length]) fun i v hv => ?_
  by_cases hi : i < a.length
  · rw [List.getElem?_append_left hi] at hv
    rw [List.getElem?_append_left (h.length ▸ hi)]
    exact h.get i v hv
  · rw [List.getElem?_append_right (by omega)] at hv
    rw [List.getElem?_append_right (by rw [← h.length]; omega), ← h.length]
    exact k.get _ v hv

mutual
theorem VR.mono {j j' : J} (hj : j.le j') : ∀ (a : AV) (v : Value), VR j a v → VR j' a v
  | .i _ _, _, h => h
  | .b _, _, h => h
  | .s _, _, h => h
  | .p none, _, h => h
  | .p (some (id, o)), _, h => by
    simp only [VR] at h ⊢; obtain ⟨b, o', t, h, e⟩ := h; exact ⟨b, o', t, hj.loc _ _ h, e⟩
  | .sl none _ _ _, _, h => h
  | .sl (some (id, o)) _ _ _, _, h => by
    simp only [VR] at h ⊢; obtain ⟨a, c, h1, h2, h3, h4⟩ := h
    refine ⟨a, c, h1, h2, h3, h4.imp (fun x => x) ?_⟩
    rintro ⟨b, o', t, h, e⟩; exact ⟨b, o', t, hj.loc _ _ h, e⟩
  | .m none, _, h => h
  | .m (some id), _, h => by
    simp only [VR] at h ⊢; obtain ⟨b, o', t, h, e⟩ := h; exact ⟨b, o', t, hj.loc _ _ h, e⟩
  | .f fn first caps, _, h => by
    simp only [VR] at h ⊢; obtain ⟨a, b, h, h1, h2⟩ := h; exact ⟨a, b, h, VRs.mono hj _ _ h1, VRs.mono hj _ _ h2⟩
  | .nf, _, h => h
  | .ni, _, h => h
  | .ifc _ x, _, h => by simp only [VR] at h ⊢; obtain ⟨y, h, h1⟩ := h; exact ⟨y, h, VR.mono hj _ _ h1⟩
  | .g l, _, h => by simp only [VR] at h ⊢; obtain ⟨y, h, h1⟩ := h; exact ⟨y, h, VRs.mono hj _ _ h1⟩
  | .t l, _, h => by simp only [VR] at h ⊢; obtain ⟨y, h, h1⟩ := h; exact ⟨y, h, VRs.mono hj _ _ h1⟩
  | .r _ _ _, _, h => by simp only [VR] at h ⊢; exact h
  | .any, _, h => by simp only [VR] at h ⊢; exact h
  | .u _ _, _, h => by simp only [VR] at h ⊢; exact h
  | .x n, _, h => by simp only [VR] at h ⊢; rw [hj.tok]; exact h
  | .y id n, _, h => by
    simp only [VR] at h ⊢; rw [hj.tok]
    obtain ⟨l, h1, h2⟩ := h; exact ⟨l, hj.loc _ _ h1, h2⟩
theorem VRs.mono {j j' : J} (hj : j.le j') : ∀ (l : List AV) (vs : List Value), VRs j l vs → VRs j' l vs
  | [], _, h => h
  | a :: l, _, h => by
    simp only [VRs] at h ⊢; obtain ⟨v, r, h, h1, h2⟩ := h; exact ⟨v, r, h, VR.mono hj _ _ h1, VRs.mono hj _ _ h2⟩
end

theorem VR.undef (j : J) : VR j undefA undef := by simp [undefA, Go.undef, VR, VRs]

/-- One-cell abstract values stand for one-cell values. -/
theorem VR.oneCell {j : J} {a : AV} {v : Value} (h : VR j a v) (ha : a.one = true) : v.oneCell' = true := by
  unfold VR at h
  split at h <;> (try (simp [AV.one] at ha; done))
  all_goals (first | (subst h; rfl) | skip)
  · obtain ⟨_, _, _, _, rfl⟩ := h; rfl
  · obtain ⟨_, _, rfl⟩ := h; rfl
  · obtain ⟨_, _, rfl, _⟩ := h; rfl
  · obtain ⟨_, _, _, _, rfl⟩ := h; rfl
  · obtain ⟨_, _, rfl, _⟩ := h; rfl
  · obtain ⟨_, rfl, _⟩ := h; rfl
  · obtain ⟨_, rfl, _⟩ := h; rfl
  · exact h.1
  · obtain ⟨_, _, _, rfl, _⟩ := h; rfl
  · exact (j.wf.cell _ _ h).1
  · obtain ⟨l, _, h⟩ := h; exact (j.wf.ptr _ _ _ h).1

theorem VR.cells {j : J} {a : AV} {v : Value} (h : VR j a v) : VRs j a.cells v.cells.toList := by
  cases a with
  | g l => simp only [VR] at h; obtain ⟨cs, rfl, h⟩ := h; exact h
  | t l =>
    have h' := h
    simp only [VR] at h'; obtain ⟨cs, rfl, _⟩ := h'
    simp only [AV.cells, VRs, Value.cells]
    exact ⟨_, [], rfl, h, rfl⟩
  | _ =>
    have h1 := VR.oneCell h rfl
    have : v.cells = #[v] := by cases v <;> simp_all [Value.cells, Value.oneCell']
    rw [this]
    simp only [AV.cells, VRs]
    exact ⟨v, [], rfl, h, rfl⟩

/- Frames. -/
def ER (j : J) (e : Env) (tmps : Array Value) : Prop := ∀ t, VR j (Env.at e t) (tmps.getD t Go.undef)
theorem ER.mono {j j' : J} (hj : j.le j') {e : Env} {tmps : Array Value} (h : ER j e tmps) : ER j' e tmps := fun t => VR.mono hj _ _ (h t)

theorem ofS_VR {j : J} : ∀ {v : Value} {a : AV}, ofS v = some a → VR j a v := by
  intro v a h
  unfold ofS at h
  split at h <;> first | (cases h; simp [VR, VRs]; done) | (simp at h; done)
theorem allS_VR {j : J} : ∀ {vs : List Value} {l : List AV}, allS vs = some l → VRs j l vs
  | [], l, h => by simp [allS] at h; subst h; simp [VRs]
  | v :: vs, l, h => by
    simp only [allS] at h
    split at h
    · rename_i x hx
      split at h
      · rename_i xs hxs
        cases h
        simp only [VRs]
        exact ⟨v, vs, rfl, ofS_VR hx, allS_VR hxs⟩
      · cases h
    · cases h
theorem ofV_VR {j : J} {v : Value} {a : AV} (h : ofV v = some a) : VR j a v := by
  unfold ofV at h
  split at h
  · rename_i cs
    split at h
    · rename_i l hl
      cases h
      simp only [VR]
      exact ⟨cs, rfl, allS_VR hl⟩
    · cases h
  · cases h; exact VR.undef j
  · exact ofS_VR h

/-- The globals lie where they lie. -/
def GlobOk (P : Program) (j : J) : Prop := ∀ g, g < P.globals.size → ∃ t, j g = some (g, 0, t)

theorem cx_VR {P : Program} {j : J} (hg : GlobOk P j) {e : Env} {a : Act} (he : ER j e a.tmps) {x : Operand} {y : AX} (h : cx P x = some y) : VR j (y.ev e) (a.eval x) := by
  unfold cx at h
  split at h
  · cases h; exact he _
  · split at h
    · rename_i hv; cases h; exact ofV_VR hv
    · cases h
  · rename_i g
    split at h
    · rename_i hlt
      cases h
      obtain ⟨t, ht⟩ := hg g hlt
      simp only [AX.ev, VR, Act.eval]
      exact ⟨g, 0, t, ht, rfl⟩
    · cases h
  · cases h; simp only [AX.ev, VR, Act.eval]; exact ⟨[], [], rfl, by simp [VRs], by simp [VRs]⟩

end Ab
end Go.Proofs.YtcoobajkgioflaaGreatDoor
