/- The operations that look at no memory: what the abstract one answers, the model answers. -/
import Derived.Test.YtcoobajkgioflaaGreatDoorAbRel
import Derived.Lib.Strings
import Derived.Laws.StructEq
set_option linter.unusedSimpArgs false
set_option linter.unusedVariables false
namespace Go.Proofs.YtcoobajkgioflaaGreatDoor
namespace Ab

section
variable {P : Program}

theorem r_info {t : TypeId} {i : TypeInfo} (h : P.info? t = some i) (w : World) : (typeInfo t).run P w = .ok i w := by
  simp [typeInfo, h]
theorem r_size {t : TypeId} {n : Nat} (h : sizeT P t = some n) (w : World) : (sizeOf t).run P w = .ok n w := by
  unfold sizeT at h
  split at h
  · rename_i i hi; cases h; simp [sizeOf, r_info hi]
  · cases h
theorem r_zero {t : TypeId} {z : AV} (h : zeroT P t = some z) : ∃ v, ofV v = some z ∧ ∀ w, (zeroValue t).run P w = .ok v w := by
  unfold zeroT at h
  split at h
  · rename_i i hi
    split at h
    · rename_i v hv
      exact ⟨v, h, fun w => by simp [zeroValue, r_info hi, hv]⟩
    · cases h
  · cases h
theorem r_agg {t : TypeId} {g : Bool} (h : aggT P t = some g) (w : World) : (isAgg t).run P w = .ok g w := by
  unfold aggT at h
  split at h
  · rename_i hu; cases h; simp [isAgg, run_underlying hu]
  · rename_i hu; cases h; simp [isAgg, run_underlying hu]
  · rename_i d h1 h2 hu
    cases h
    simp only [isAgg, Sem.run_bind, run_underlying hu, Result.andThen_ok]
    cases d <;> first | rfl | (exact absurd rfl (h1 _)) | (exact absurd rfl (h2 _ _))
  · cases h

theorem toList_extract' {α : Type} (l : List α) (a b : Nat) : ((⟨l⟩ : Array α).extract a b).toList = (l.drop a).take (b - a) := by simp

theorem VRs.take {j : J} {l : List AV} {vs : List Value} (h : VRs j l vs) (n : Nat) : VRs j (l.take n) (vs.take n) :=
  VRs.mk (by simp [h.length]) fun i a ha => by
    rw [List.getElem?_take] at ha ⊢
    split at ha
    · rename_i hi; rw [if_pos hi]; exact h.get i a ha
    · cases ha
theorem VRs.drop {j : J} {l : List AV} {vs : List Value} (h : VRs j l vs) (n : Nat) : VRs j (l.drop n) (vs.drop n) :=
  VRs.mk (by simp [h.length]) fun i a ha => by
    rw [List.getElem?_drop] at ha ⊢
    exact h.get _ a ha
theorem VRs.sub {j : J} {l : List AV} {vs : List Value} (h : VRs j l vs) (i n : Nat) : VRs j (Ab.sub l i n) ((vs.drop i).take n) := (h.drop i).take n

theorem bif_none {α : Type} {c : Bool} {x : Option α} {v : α} (h : (bif c then x else none) = some v) : c = true ∧ x = some v := by
  cases c
  · cases h
  · exact ⟨rfl, h⟩
theorem bif_none' {α : Type} {c : Bool} {x : Option α} {v : α} (h : (bif c then none else x) = some v) : c = false ∧ x = some v := by
  cases c
  · exact ⟨rfl, h⟩
  · cases h
theorem ite_none {α : Type} {c : Prop} [Decidable c] {x : Option α} {v : α} (h : (if c then x else none) = some v) : c ∧ x = some v := by
  by_cases hc : c
  · rw [if_pos hc] at h; exact ⟨hc, h⟩
  · rw [if_neg hc] at h; cases h
theorem ite_none' {α : Type} {c : Prop} [Decidable c] {x : Option α} {v : α} (h : (if c then none else x) = some v) : ¬c ∧ x = some v := by
  by_cases hc : c
  · rw [if_pos hc] at h; cases h
  · rw [if_neg hc] at h; exact ⟨hc, h⟩

theorem r_part {j : J} {t : TypeId} {g : Bool} {n off : Nat} {l : List AV} {cs : List Value} {v : AV} (hg : aggT P t = some g) (hn : sizeT P t = some n)
    (hp : partA g l off n = some v) (hl : VRs j l cs) : ∃ x, VR j v x ∧ ∀ w, (part t ⟨cs⟩ off).run P w = .ok x w := by
  unfold partA at hp
  cases g with
  | true =>
    rw [cond_true] at hp
    obtain ⟨_, h⟩ := bif_none hp
    obtain rfl := Option.some.inj h
    refine ⟨.agg ((⟨cs⟩ : Array Value).extract off (off + n)), ?_, fun w => by simp [part, r_agg hg, r_size hn]⟩
    simp only [VR]
    refine ⟨(cs.drop off).take n, ?_, hl.sub off n⟩
    congr 1
    apply Array.ext'
    simp
  | false =>
    rw [cond_false, idx?_eq] at hp
    obtain ⟨x, hx, hv⟩ := hl.get off v hp
    exact ⟨x, hv, fun w => by simp [part, r_agg hg, hx]⟩

theorem r_int {j : J} {k : IntKind} {n : Int} {v : Value} (h : VR j (.i k n) v) : v = .int k n := h
theorem bnd_ok {j : J} {v : AV} {x : Value} {y n : Nat} {code : BoundsCode} (h : VR j v x) (hb : bndA v y = some n) : n ≤ y ∧ ∀ y', n ≤ y' → ∀ w, (Instr.sliceBound x y' code).run P w = .ok n w := by
  unfold bndA at hb
  split at hb
  · rename_i k i
    obtain ⟨hi, hb⟩ := ite_none hb
    cases hb
    obtain rfl := r_int h
    refine ⟨by omega, fun y' hy w => ?_⟩
    have hi' : 0 ≤ i ∧ i ≤ (y' : Int) := ⟨hi.1, by omega⟩
    simp [Instr.sliceBound, asIntOf, hi']
  · cases hb

theorem bytes_eq (a b : List UInt8) : ((⟨⟨a⟩⟩ : ByteArray).toList == (⟨⟨b⟩⟩ : ByteArray).toList) = (a == b) := by
  rw [Lib.toList_data, Lib.toList_data]
theorem bytes_beq (a b : List UInt8) : ((⟨⟨a⟩⟩ : ByteArray) == ⟨⟨b⟩⟩) = (a == b) := by
  show ((⟨a⟩ : Array UInt8) == ⟨b⟩) = _
  simp
theorem bytes_less (a b : List UInt8) : Op.bytesLess (⟨⟨a⟩⟩ : ByteArray).toList (⟨⟨b⟩⟩ : ByteArray).toList = Op.bytesLess a b := by
  rw [Lib.toList_data, Lib.toList_data]
theorem bytes_append (a b : List UInt8) : (⟨⟨a⟩⟩ ++ ⟨⟨b⟩⟩ : ByteArray) = ⟨⟨a ++ b⟩⟩ := by
  apply ByteArray.ext; simp
theorem bytes_size (a : List UInt8) : (⟨⟨a⟩⟩ : ByteArray).size = a.length := rfl
theorem bytes_extract (a : List UInt8) (l h : Nat) : (⟨⟨a⟩⟩ : ByteArray).extract l h = ⟨⟨sub a l (h - l)⟩⟩ := by
  apply ByteArray.ext
  apply Array.ext'
  rw [Lib.extract_data]; rfl
theorem bytes_get (a : List UInt8) (i : Nat) : (⟨⟨a⟩⟩ : ByteArray)[i]? = a[i]? := by
  by_cases h : i < a.length
  · rw [getElem?_pos _ _ (by exact h), List.getElem?_eq_getElem h]; rfl
  · rw [getElem?_neg _ _ (by exact h), List.getElem?_eq_none (by omega)]

/-- Two-place operators on numbers and strings. -/
theorem bin_ok {j : J} {op : BinOp} {t : TypeId} {x y v : AV} {a b : Value} (hx : VR j x a) (hy : VR j y b) (h : binA op x y = some v) :
    ∃ r, VR j v r ∧ (∀ w, (binOp op t a b).run P w = .ok r w) := by
  unfold binA at h
  split at h
  case h_1 =>
    obtain rfl := r_int hx; obtain rfl := r_int hy
    obtain ⟨hn, h2⟩ := ite_none' h
    obtain rfl := Option.some.inj h2
    exact ⟨_, rfl, fun w => by simp [binOp, Op.shift, hn]⟩
  case h_2 =>
    obtain rfl := r_int hx; obtain rfl := r_int hy
    obtain ⟨hn, h2⟩ := ite_none' h
    obtain rfl := Option.some.inj h2
    exact ⟨_, rfl, fun w => by simp [binOp, Op.shift, hn]⟩
  case h_6 =>
    obtain rfl := r_int hx; obtain rfl := r_int hy
    obtain ⟨hk, h1⟩ := ite_none h; subst hk
    obtain ⟨hn, h2⟩ := ite_none' h1
    obtain rfl := Option.some.inj h2
    exact ⟨_, rfl, fun w => by simp [binOp, Op.intDiv, hn]⟩
  case h_7 =>
    obtain rfl := r_int hx; obtain rfl := r_int hy
    obtain ⟨hk, h1⟩ := ite_none h; subst hk
    obtain ⟨hn, h2⟩ := ite_none' h1
    obtain rfl := Option.some.inj h2
    exact ⟨_, rfl, fun w => by simp [binOp, Op.intDiv, hn]⟩
  case h_18 =>
    simp only [VR] at hx hy; subst hx; subst hy
    obtain ⟨hn, h2⟩ := ite_none' h
    obtain rfl := Option.some.inj h2
    exact ⟨_, rfl, fun w => by simp only [binOp, Op.stringOp, bytes_size]; rw [if_neg hn]; simp [bytes_append]⟩
  case h_25 => cases h
  all_goals first
    | (obtain rfl := r_int hx; obtain rfl := r_int hy
       obtain ⟨hk, h1⟩ := ite_none h; subst hk
       obtain rfl := Option.some.inj h1
       exact ⟨_, rfl, fun w => by simp [binOp, Op.intArith, Op.intBits, Op.intCmp]⟩)
    | (simp only [VR] at hx hy; subst hx; subst hy
       obtain rfl := Option.some.inj h
       exact ⟨_, rfl, fun w => by simp only [binOp, Op.stringOp, bytes_eq, bytes_less]; rfl⟩)

theorem rngOf_int {j : J} {x : AV} {a : Value} {k : IntKind} {lo hi : Int} (hx : VR j x a) (h : rngOf x = some (k, lo, hi)) : ∃ n, a = .int k n ∧ lo ≤ n ∧ n ≤ hi := by
  unfold rngOf at h
  split at h
  · cases h; simp only [VR] at hx; exact ⟨_, hx, Int.le_refl _, Int.le_refl _⟩
  · cases h; simp only [VR] at hx; exact hx
  · cases h
theorem rngA_int {j : J} {op : BinOp} {x y v : AV} {a : Value} (hx : VR j x a) (h : rngA op x y = some v) : ∃ k n, a = .int k n := by
  unfold rngA at h
  split at h
  · rename_i k lo hi k' c d h1 h2
    obtain ⟨n, hn, _⟩ := rngOf_int hx h1
    exact ⟨k, n, hn⟩
  · cases h
theorem rngA_ok {j : J} {op : BinOp} {t : TypeId} {x y v : AV} {a b : Value} (hx : VR j x a) (hy : VR j y b) (h : rngA op x y = some v) :
    ∃ r, VR j v r ∧ (∀ w, (binOp op t a b).run P w = .ok r w) := by
  unfold rngA at h
  split at h
  case h_2 => cases h
  rename_i k lo hi k' c d h1 h2
  obtain ⟨hk, h3⟩ := ite_none h; subst hk
  split at h3
  case h_2 => cases h3
  rename_i z hz
  cases h3
  obtain ⟨n, hn, n1, n2⟩ := rngOf_int hx h1
  obtain ⟨m, hm, m1, m2⟩ := rngOf_int hy h2
  have key : ∀ (c : Bool), binA op (.i k n) (.i k m) = some (.b c) → c = z → ∃ r, VR j (.b z) r ∧ (∀ w, (binOp op t a b).run P w = .ok r w) := by
    intro c hc hcz
    subst hcz
    exact bin_ok (j := j) (x := .i k n) (y := .i k m) (by simp only [VR]; exact hn) (by simp only [VR]; exact hm) hc
  have beqt : ∀ {p q : Int}, p = q → (p == q) = true := fun h => by simp [h]
  cases op <;> simp only [cmpR] at hz <;> first | (cases hz; done) | skip
  · -- eql
    refine key (n == m) (by simp [binA]) ?_
    split at hz
    · cases hz; simp; omega
    · split at hz
      · cases hz; simp; omega
      · cases hz
  · refine key (n != m) (by simp [binA]) ?_
    split at hz
    · cases hz; simp; omega
    · split at hz
      · cases hz; simp; omega
      · cases hz
  · refine key (decide (n < m)) (by simp [binA]) ?_
    split at hz
    · cases hz; simp; omega
    · split at hz
      · cases hz; simp; omega
      · cases hz
  · refine key (decide (n ≤ m)) (by simp [binA]) ?_
    split at hz
    · cases hz; simp; omega
    · split at hz
      · cases hz; simp; omega
      · cases hz
  · refine key (decide (n > m)) (by simp [binA]) ?_
    split at hz
    · cases hz; simp; omega
    · split at hz
      · cases hz; simp; omega
      · cases hz
  · refine key (decide (n ≥ m)) (by simp [binA]) ?_
    split at hz
    · cases hz; simp; omega
    · split at hz
      · cases hz; simp; omega
      · cases hz
theorem binR_cases {op : BinOp} {x y v : AV} (h : binR op x y = some v) : binA op x y = some v ∨ rngA op x y = some v := by
  unfold binR at h
  split at h
  · rename_i u hu; cases h; exact .inl hu
  · exact .inr h
theorem binR_ok {j : J} {op : BinOp} {t : TypeId} {x y v : AV} {a b : Value} (hx : VR j x a) (hy : VR j y b) (h : binR op x y = some v) :
    ∃ r, VR j v r ∧ (∀ w, (binOp op t a b).run P w = .ok r w) :=
  (binR_cases h).elim (bin_ok hx hy) (rngA_ok hx hy)

theorem un_ok {j : J} {op : UnOp} {x v : AV} {a : Value} (hx : VR j x a) (h : unA op x = some v) :
    ∃ r, VR j v r ∧ (∀ w, (Op.unary op a).run P w = .ok r w) := by
  unfold unA at h
  split at h
  · obtain rfl := r_int hx
    obtain rfl := Option.some.inj h
    exact ⟨_, rfl, fun w => by simp [Op.unary, Op.intArith]⟩
  · obtain rfl := r_int hx
    simp only [binA, if_true] at h
    obtain rfl := Option.some.inj h
    exact ⟨_, rfl, fun w => by simp [Op.unary, Op.intBits]⟩
  · simp only [VR] at hx; subst hx
    obtain rfl := Option.some.inj h
    exact ⟨_, rfl, fun w => by simp [Op.unary]⟩
  · cases h

theorem neg_run {α : Type} {s : Sem Bool} {z neg : Bool} {w : World} (hs : s.run P w = .ok z w) :
    ((do pure (.bool (← s))) : Sem Value).run P w = .ok (.bool z) w := by simp [hs]

def TKty (P : Program) (t : TypeId) : TK → Prop
  | .bool => P.underlying t = some .bool
  | .ptr => ∃ e, P.underlying t = some (.pointer e) ∧ ∃ n, sizeT P e = some n
  | .slice => ∃ e, P.underlying t = some (.slice e)
  | .func => ∃ p r c, P.underlying t = some (.func p r c)
  | .map => ∃ k e, P.underlying t = some (.map k e)
theorem eqk_ok {j : J} {k : TK} {t : TypeId} {x y : AV} {z : Bool} {a b : Value} (hx : VR j x a) (hy : VR j y b) (h : eqA k x y = some z)
    (ht : TKty P t k) (d : Nat) (w : World) : (Op.equalIn (d + 1) t a b).run P w = .ok z w := by
  by_cases hk : k = .ptr
  · subst hk
    simp only [TKty] at ht
    obtain ⟨e, ht, n, hn⟩ := ht
    have huv : ∃ u v, x = .p u ∧ y = .p v := by
      unfold eqA at h
      split at h <;> first | exact ⟨_, _, rfl, rfl⟩ | (cases h; done) | (rename_i hh _ _; cases hh; done) | (rename_i hh; cases hh; done)
    obtain ⟨u, v, rfl, rfl⟩ := huv
    cases u with
    | none =>
      simp only [VR] at hx; subst hx; cases h
      cases v with
      | none => simp only [VR] at hy; subst hy; simp [Op.equalIn, run_underlying ht]
      | some c => obtain ⟨id, o⟩ := c; simp only [VR] at hy; obtain ⟨_, _, _, _, rfl⟩ := hy; simp [Op.equalIn, run_underlying ht]
    | some c =>
      obtain ⟨id, o⟩ := c
      simp only [VR] at hx
      obtain ⟨b1, o1, t1, h1, rfl⟩ := hx
      cases v with
      | none => simp only [VR] at hy; subst hy; cases h; simp [Op.equalIn, run_underlying ht]
      | some d =>
        obtain ⟨id', o'⟩ := d
        have hq := bif_none (show (bif Nat.beq id id' && Nat.beq o o' then some true else none) = some z from h)
        clear h
        obtain ⟨hab, h⟩ := hq
        simp only [Bool.and_eq_true] at hab
        obtain ⟨ha, hb⟩ := hab
        have ha := Nat.eq_of_beq_eq_true ha
        have hb := Nat.eq_of_beq_eq_true hb
        subst ha; subst hb; cases h
        simp only [VR] at hy
        obtain ⟨b2, o2, t2, h2, rfl⟩ := hy
        rw [h1] at h2; cases h2
        simp [Op.equalIn, run_underlying ht, r_size hn, sameAddr]
  unfold eqA at h
  split at h <;> first | exact absurd rfl hk | (try simp only [TKty] at ht)
  · simp only [VR] at hx hy; subst hx; subst hy; cases h
    simp [Op.equalIn, run_underlying ht]
  · obtain ⟨e, ht⟩ := ht
    rename_i c _ _ _
    simp only [VR] at hx; obtain ⟨_, _, rfl⟩ := hx; cases h
    cases c with
    | none => simp only [VR] at hy; obtain ⟨_, _, rfl⟩ := hy; simp [Op.equalIn, run_underlying ht]
    | some c => obtain ⟨id, o⟩ := c; simp only [VR] at hy; obtain ⟨_, _, rfl, _⟩ := hy; simp [Op.equalIn, run_underlying ht]
  · obtain ⟨e, ht⟩ := ht
    rename_i c _ _ _ _ _ _
    obtain ⟨id, o⟩ := c
    simp only [VR] at hx hy; obtain ⟨_, _, rfl, _⟩ := hx; obtain ⟨_, _, rfl⟩ := hy; cases h
    simp [Op.equalIn, run_underlying ht]
  · obtain ⟨_, _, _, ht⟩ := ht
    simp only [VR] at hx hy; subst hx; subst hy; cases h
    simp [Op.equalIn, run_underlying ht]
  · obtain ⟨_, _, _, ht⟩ := ht
    simp only [VR] at hx hy; subst hx; obtain ⟨_, _, rfl, _⟩ := hy; cases h
    simp [Op.equalIn, run_underlying ht]
  · obtain ⟨_, _, _, ht⟩ := ht
    simp only [VR] at hx hy; subst hy; obtain ⟨_, _, rfl, _⟩ := hx; cases h
    simp [Op.equalIn, run_underlying ht]
  · obtain ⟨k', e', ht⟩ := ht
    rename_i c
    simp only [VR] at hx; subst hx; cases h
    cases c with
    | none => simp only [VR] at hy; subst hy; simp [Op.equalIn, run_underlying ht]
    | some c => simp only [VR] at hy; obtain ⟨_, _, _, _, rfl⟩ := hy; simp [Op.equalIn, run_underlying ht]
  · obtain ⟨_, _, ht⟩ := ht
    simp only [VR] at hx hy; subst hy; obtain ⟨_, _, _, _, rfl⟩ := hx; cases h
    simp [Op.equalIn, run_underlying ht]
  · cases h

theorem scalT_agg {t : TypeId} {k : SK} (h : scalT P t = some k) : aggT P t = some false := by
  unfold scalT at h
  unfold aggT
  split at h <;> first | (rename_i hu; rw [hu]) | cases h

theorem eqs_ok {j : J} {k : SK} {t : TypeId} {x y : AV} {z : Bool} {a b : Value} (d : Nat) (hk : scalT P t = some k) (hx : VR j x a) (hy : VR j y b) (h : eqs k x y = some z) (w : World) :
    (Op.equalIn (d + 1) t a b).run P w = .ok z w := by
  unfold scalT at hk
  unfold eqs at h
  split at h
  · obtain ⟨rfl, h⟩ := ite_none h
    obtain rfl := r_int hx; obtain rfl := r_int hy
    split at hk <;> first | (cases hk; done) | skip
    rename_i hu
    simp_all [Op.equalIn, run_underlying hu]
  · simp only [VR] at hx hy; subst hx; subst hy
    split at hk <;> first | (cases hk; done) | skip
    rename_i hu
    obtain rfl := Option.some.inj h
    simp only [Op.equalIn, Sem.run_bind, run_underlying hu, Result.andThen_ok, Sem.run_pure, bytes_beq]
  · simp only [VR] at hx hy; subst hx; subst hy
    split at hk <;> first | (cases hk; done) | skip
    rename_i hu
    obtain rfl := Option.some.inj h
    simp [Op.equalIn, run_underlying hu]
  · cases h

theorem eqg_ok {j : J} {xl yl : List AV} {xs ys : List Value} (hx : VRs j xl xs) (hy : VRs j yl ys) (d : Nat) (w : World) : ∀ (fs : List Field) (offs : List (Nat × SK)) (z : Bool),
    scalOffs P fs = some offs → eqgA xl yl offs = some z → (Op.eqFields (d + 1) ⟨xs⟩ ⟨ys⟩ fs).run P w = .ok z w
  | [], offs, z, h, hz => by
    simp only [scalOffs] at h; cases h
    simp only [eqgA] at hz; cases hz
    simp [Op.eqFields]
  | f :: fs, offs, z, h, hz => by
    simp only [scalOffs] at h
    obtain ⟨hn, h⟩ := ite_none' h
    cases hk : scalT P f.type with
    | none => rw [hk] at h; cases h
    | some k =>
      rw [hk] at h
      cases hr : scalOffs P fs with
      | none => rw [hr] at h; cases h
      | some r =>
        rw [hr] at h
        obtain rfl := Option.some.inj h
        simp only [eqgA, idx?_eq] at hz
        cases ha : xl[f.offset]? with
        | none => rw [ha] at hz; cases hz
        | some a =>
          cases hb : yl[f.offset]? with
          | none => rw [ha, hb] at hz; cases hz
          | some b =>
            rw [ha, hb] at hz
            simp only at hz
            obtain ⟨u, hu, hau⟩ := hx.get _ _ ha
            obtain ⟨v, hv, hbv⟩ := hy.get _ _ hb
            have p1 : (part f.type ⟨xs⟩ f.offset).run P w = .ok u w := by simp [part, r_agg (scalT_agg hk), hu]
            have p2 : (part f.type ⟨ys⟩ f.offset).run P w = .ok v w := by simp [part, r_agg (scalT_agg hk), hv]
            cases he : eqs k a b with
            | none => rw [he] at hz; cases hz
            | some q =>
              rw [he] at hz
              have p3 := eqs_ok (P := P) d hk hau hbv he w
              simp only [Op.eqFields, hn, ne_eq, not_false_eq_true, if_true, Sem.run_bind, p1, p2, p3, Result.andThen_ok]
              cases q with
              | false => simp only at hz; cases hz; simp
              | true => simp only at hz; simpa using eqg_ok hx hy d w fs r z hr hz

theorem fold_set : ∀ (cs : List Value) (k off : Nat) (A : Array Value), off + k + cs.length ≤ A.size →
    ((cs.zipIdx k).foldl (fun (a : Array Value) (x : Value × Nat) => a.setIfInBounds (off + x.2) x.1) A).toList = over A.toList (off + k) cs
  | [], k, off, A, _ => by
    have : ∀ (l : List Value) (i : Nat), i ≤ l.length → over l i [] = l := by
      intro l
      induction l with
      | nil => intro i hi; cases i <;> simp_all [over]
      | cons a l ih => intro i hi; cases i with
        | zero => simp [over]
        | succ i => simp [over, ih i (by simpa using hi)]
    simp only [List.zipIdx_nil, List.foldl_nil]
    exact (this _ _ (by have h0 : off + k + ([] : List Value).length ≤ A.size := by assumption
                        simp only [List.length_nil, Nat.add_zero] at h0; simpa using h0)).symm
  | c :: cs, k, off, A, h => by
    simp only [List.length_cons] at h
    simp only [List.zipIdx_cons, List.foldl_cons]
    rw [fold_set cs (k + 1) off (A.setIfInBounds (off + k) c) (by simp; omega)]
    apply List.ext_getElem?
    intro i
    have g1 : off + (k + 1) ≤ (A.setIfInBounds (off + k) c).toList.length := by rw [Array.length_toList, Array.size_setIfInBounds]; omega
    have g2 : off + k ≤ A.toList.length := by rw [Array.length_toList]; omega
    rw [over_get _ _ _ _ g1, over_get _ _ _ _ g2]
    simp only [Array.toList_setIfInBounds, List.length_cons]
    by_cases h1 : i < off + k
    · rw [if_pos (by omega), if_pos h1, List.getElem?_set_ne (by omega)]
    · rw [if_neg h1]
      by_cases h2 : i = off + k
      · subst h2
        rw [if_pos (by omega), if_pos (by omega), List.getElem?_set_self (by rw [Array.length_toList]; omega)]
        simp
      · rw [if_neg (by omega)]
        by_cases h3 : i < off + k + (cs.length + 1)
        · rw [if_pos (by omega), if_pos h3, show i - (off + k) = (i - (off + (k + 1))) + 1 by omega, List.getElem?_cons_succ]
        · rw [if_neg (by omega), if_neg h3, List.getElem?_set_ne (by omega)]

theorem VRs.over {j : J} {l ys : List AV} {vs us : List Value} (h : VRs j l vs) (k : VRs j ys us) (i : Nat) (hi : i ≤ l.length) : VRs j (Ab.over l i ys) (Ab.over vs i us) := by
  have hl := h.length
  have hk := k.length
  refine VRs.mk (by rw [over_length _ _ _ hi, over_length _ _ _ (by omega)]; omega) fun n a ha => ?_
  rw [over_get _ _ _ _ hi] at ha
  rw [over_get _ _ _ _ (by omega)]
  split at ha
  · rename_i h1; rw [if_pos h1]; exact h.get n a ha
  · rename_i h1
    rw [if_neg h1]
    split at ha
    · rename_i h2; rw [if_pos (by omega)]; exact k.get _ a ha
    · rename_i h2; rw [if_neg (by omega)]; exact h.get n a ha

theorem fill_ok {j : J} (hg : GlobOk P j) {e : Env} {a : Act} (he : ER j e a.tmps) {place : Nat → Option (Nat × Nat)} : ∀ (ops : List (Nat × Operand)) (q : List (Nat × Nat × AX)) (l l' : List AV) (cells : List Value),
    partsOf P place ops = some q → fillA l (evParts e q) = some l' → VRs j l cells → ∃ cells', Instr.fill place ⟨cells⟩ (ops.map fun p => (p.1, a.eval p.2)) = some ⟨cells'⟩ ∧ VRs j l' cells'
  | [], q, l, l', cells, hq, hf, hv => by
    simp only [partsOf] at hq; cases hq
    simp only [evParts, fillA] at hf; cases hf
    exact ⟨cells, by simp [Instr.fill], hv⟩
  | (i, x) :: ops, q, l, l', cells, hq, hf, hv => by
    simp only [partsOf] at hq
    split at hq
    · rename_i o n y r h1 h2 h3
      cases hq
      simp only [evParts, fillA] at hf
      obtain ⟨hc, hf⟩ := bif_none hf
      rw [nat_beq, nat_ble] at hc
      simp only [Bool.and_eq_true, decide_eq_true_eq] at hc
      obtain ⟨hc1, hc2⟩ := hc
      have hx := cx_VR hg he h2
      have hcs := VR.cells hx
      have hlen := hcs.length
      have hl := hv.length
      have hsz : (a.eval x).cells.size = n := by rw [← hc1, hlen]; simp
      have hc2' : o + n ≤ l.length := hc2
      have hfold : (a.eval x).cells.zipIdx.foldl (fun (cs : Array Value) (p : Value × Nat) => cs.setIfInBounds (o + p.2) p.1) ⟨cells⟩ = ⟨Ab.over cells o (a.eval x).cells.toList⟩ := by
        apply Array.ext'
        rw [← Array.foldl_toList, Array.toList_zipIdx]
        have hsz' : (a.eval x).cells.toList.length = n := by simpa using hsz
        have := fold_set (a.eval x).cells.toList 0 o ⟨cells⟩ (by rw [hsz']; show o + 0 + n ≤ cells.length; omega)
        simpa using this
      obtain ⟨cells', hcells, hv'⟩ := fill_ok hg he ops r _ l' _ h3 hf (hv.over hcs o (by omega))
      refine ⟨cells', ?_, hv'⟩
      simp only [List.map_cons, Instr.fill, h1]
      rw [if_neg, hfold, hcells]
      simp only [hsz, ne_eq, not_true_eq_false, decide_false, Bool.false_or, decide_eq_true_eq, Nat.not_lt]
      show o + n ≤ cells.length
      omega
    · cases hq

theorem cxs_ok {j : J} (hg : GlobOk P j) {e : Env} {a : Act} (he : ER j e a.tmps) : ∀ (xs : List Operand) (ys : List AX), cxs P xs = some ys → VRs j (evAll e ys) (xs.map a.eval)
  | [], ys, h => by simp only [cxs] at h; cases h; simp [evAll, VRs]
  | x :: xs, ys, h => by
    simp only [cxs] at h
    split at h
    · rename_i y hy
      split at h
      · rename_i zs hzs
        cases h
        simp only [evAll, List.map_cons, VRs]
        exact ⟨_, _, rfl, cx_VR hg he hy, cxs_ok hg he xs zs hzs⟩
      · cases h
    · cases h

/-- An optional operand. -/
def OR (j : J) (e : Env) (a : Act) (x : Option Operand) (y : Option AX) : Prop := match x, y with
  | none, none => True
  | some x, some y => VR j (y.ev e) (a.eval x)
  | _, _ => False
theorem cxo_ok {j : J} (hg : GlobOk P j) {e : Env} {a : Act} (he : ER j e a.tmps) {x : Option Operand} {y : Option AX} (h : cxo P x = some y) : OR j e a x y := by
  cases x with
  | none => simp only [cxo] at h; cases h; trivial
  | some x =>
    simp only [cxo] at h
    split at h
    · rename_i z hz; cases h; exact cx_VR hg he hz
    · cases h

theorem bM_ok {j : J} {e : Env} {a : Act} {len c : Nat} {cap : Option Nat} {mx : Option Operand} {mx' : Option AX} {m : Option Nat}
    (hcap : ∀ c', cap = some c' → c' = c) (hlen : len ≤ c) (h3 : OR j e a mx mx') (hb : bM e len cap mx' = some m) :
    ∃ M, (∀ x, mx = some x → ∀ code w, (Instr.sliceBound (a.eval x) c code).run P w = .ok M w) ∧ (mx = none → M = c ∧ len ≤ M) ∧ M ≤ c ∧ (∀ m', m = some m' → m' = M) ∧ (m = none → M = c) ∧ topA m len ≤ M := by
  have htop : topA cap len ≤ c := by
    cases cap with
    | none => exact hlen
    | some c' => have := hcap c' rfl; subst this; exact Nat.le_refl _
  cases mx with
  | none =>
    cases mx' with
    | some y => exact h3.elim
    | none =>
      simp only [bM] at hb; cases hb
      exact ⟨c, fun x hx => (by cases hx), fun _ => ⟨rfl, hlen⟩, Nat.le_refl _, hcap, fun _ => rfl, htop⟩
  | some x =>
    cases mx' with
    | none => exact h3.elim
    | some y =>
      simp only [bM] at hb
      cases hq : bndA (y.ev e) (topA cap len) with
      | none => rw [hq] at hb; cases hb
      | some n =>
        rw [hq] at hb; cases hb
        have hn := (bnd_ok (P := P) (code := .index) (show VR j (y.ev e) (a.eval x) from h3) hq).1
        refine ⟨n, fun x' hx code w => ?_, fun h => (by cases h), by omega, fun _ h => (Option.some.inj h).symm, fun h => (by cases h), Nat.le_refl _⟩
        cases hx
        exact (bnd_ok (P := P) (code := code) (show VR j (y.ev e) (a.eval x) from h3) hq).2 c (by omega) w

theorem bnds_ok {j : J} {e : Env} {a : Act} {len c : Nat} {cap : Option Nat} {lo hi mx : Option Operand} {lo' hi' mx' : Option AX} {l h : Nat} {m : Option Nat} (isSlice : Bool)
    (hcap : ∀ c', cap = some c' → c' = c) (hlen : len ≤ c) (h1 : OR j e a lo lo') (h2 : OR j e a hi hi') (h3 : OR j e a mx mx') (hb : bnds e len cap lo' hi' mx' = some (l, h, m)) :
    ∃ M, (∀ w, (Instr.sliceBounds isSlice len c (lo.map a.eval) (hi.map a.eval) (mx.map a.eval)).run P w = .ok (l, h, M) w) ∧ l ≤ h ∧ h ≤ M ∧ M ≤ c ∧ (∀ m', m = some m' → m' = M) ∧ (m = none → M = c) := by
  unfold bnds at hb
  cases e0 : bM e len cap mx' with
  | none => rw [e0] at hb; cases hb
  | some m0 =>
  rw [e0] at hb
  obtain ⟨M, hMx, hMn, hMc, hmM, hmN, hmid⟩ := bM_ok (P := P) hcap hlen h3 e0
  simp only at hb
  cases e1 : bH e len m0 hi' mx' with
  | none => rw [e1] at hb; cases hb
  | some h0 =>
  rw [e1] at hb
  simp only at hb
  cases e2 : bL e h0 lo' with
  | none => rw [e2] at hb; cases hb
  | some l0 =>
  rw [e2] at hb
  cases hb
  have hL : (∀ x, lo = some x → ∀ code w, (Instr.sliceBound (a.eval x) h code).run P w = .ok l w) ∧ (lo = none → l = 0) ∧ l ≤ h := by
    cases lo with
    | none =>
      cases lo' with
      | some y => exact h1.elim
      | none => simp only [bL] at e2; cases e2; exact ⟨fun x hx => (by cases hx), fun _ => rfl, Nat.zero_le _⟩
    | some x =>
      cases lo' with
      | none => exact h1.elim
      | some y =>
        simp only [bL] at e2
        refine ⟨fun x' hx code w => ?_, fun h => (by cases h), (bnd_ok (P := P) (code := .index) (show VR j (y.ev e) (a.eval x) from h1) e2).1⟩
        cases hx
        exact (bnd_ok (P := P) (code := code) (show VR j (y.ev e) (a.eval x) from h1) e2).2 h (bnd_ok (P := P) (code := code) (show VR j (y.ev e) (a.eval x) from h1) e2).1 w
  have hH : (∀ x, hi = some x → ∀ code w, (Instr.sliceBound (a.eval x) M code).run P w = .ok h w) ∧ (hi = none → mx = none ∧ h = len) ∧ h ≤ M := by
    cases hi with
    | none =>
      cases hi' with
      | some y => exact h2.elim
      | none =>
        cases mx with
        | none =>
          cases mx' with
          | some y => exact h3.elim
          | none => simp only [bH] at e1; cases e1; exact ⟨fun x hx => (by cases hx), fun _ => ⟨rfl, rfl⟩, (hMn rfl).2⟩
        | some x =>
          cases mx' with
          | none => exact h3.elim
          | some y => simp only [bH] at e1; cases e1
    | some x =>
      cases hi' with
      | none => exact h2.elim
      | some y =>
        simp only [bH] at e1
        have hn := (bnd_ok (P := P) (code := .index) (show VR j (y.ev e) (a.eval x) from h2) e1).1
        refine ⟨fun x' hx code w => ?_, fun h => (by cases h), by omega⟩
        cases hx
        exact (bnd_ok (P := P) (code := code) (show VR j (y.ev e) (a.eval x) from h2) e1).2 M (by omega) w
  obtain ⟨hLx, hLn, hlh⟩ := hL
  obtain ⟨hHx, hHn, hhM⟩ := hH
  refine ⟨M, fun w => ?_, hlh, hhM, hMc, hmM, hmN⟩
  cases mx with
  | none =>
    obtain ⟨rfl, _⟩ := hMn rfl
    cases hi with
    | none =>
      obtain ⟨_, rfl⟩ := hHn rfl
      cases lo with
      | none => have := hLn rfl; subst this; simp [Instr.sliceBounds]
      | some x => simp [Instr.sliceBounds, hLx x rfl]
    | some y =>
      cases lo with
      | none => have := hLn rfl; subst this; simp [Instr.sliceBounds, hHx y rfl]
      | some x => simp [Instr.sliceBounds, hLx x rfl, hHx y rfl]
  | some z =>
    cases hi with
    | none => cases (hHn rfl).1
    | some y =>
      cases lo with
      | none => have := hLn rfl; subst this; simp [Instr.sliceBounds, hMx z rfl, hHx y rfl]
      | some x => simp [Instr.sliceBounds, hMx z rfl, hLx x rfl, hHx y rfl]
end
end Ab
end Go.Proofs.YtcoobajkgioflaaGreatDoor
