/- The operations that write memory. -/
import Derived.Test.YtcoobajkgioflaaGreatDoorAbNew
set_option linter.unusedSimpArgs false
set_option linter.unusedVariables false
namespace Go.Proofs.YtcoobajkgioflaaGreatDoor
namespace Ab
section
variable {P : Program}

def putBlk (w : World) (b : Nat) (o : Obj) : World := { w with heap := w.heap.setIfInBounds b o }
theorem putBlk_get (w : World) (b : Nat) (o : Obj) (hb : b < w.heap.size) : (putBlk w b o).heap[b]? = some o := by simp [putBlk, hb]
theorem putBlk_other (w : World) (b : Nat) (o : Obj) (k : Nat) (hk : k ≠ b) : (putBlk w b o).heap[k]? = w.heap[k]? := by
  simp only [putBlk]; rw [Array.getElem?_setIfInBounds_ne (Ne.symm hk)]
theorem putBlk_size (w : World) (b : Nat) (o : Obj) : (putBlk w b o).heap.size = w.heap.size := by simp [putBlk]
theorem putBlk_bel (w : World) (b : Nat) (o : Obj) {B : Nat} (hb : B ≤ b) : Bel B w (putBlk w b o) :=
  ⟨rfl, rfl, rfl, by rw [putBlk_size]; exact Nat.le_refl _, fun k hk => putBlk_other w b o k (by omega)⟩

theorem over_nil {α : Type} : ∀ (l : List α) (i : Nat), i ≤ l.length → over l i [] = l
  | [], 0, _ => by simp [over]
  | [], i + 1, h => by simp at h
  | a :: l, 0, _ => by simp [over]
  | a :: l, i + 1, h => by simp [over, over_nil l i (by simpa using h)]
theorem over_cons {α : Type} (l : List α) (i : Nat) (y : α) (ys : List α) (h : i < l.length) : over l i (y :: ys) = over (l.set i y) (i + 1) ys := by
  apply List.ext_getElem?
  intro k
  rw [over_get _ _ _ _ (by omega), over_get _ _ _ _ (by simp; omega)]
  simp only [List.length_cons]
  by_cases h1 : k < i
  · rw [if_pos h1, if_pos (by omega), List.getElem?_set_ne (by omega)]
  · rw [if_neg h1]
    by_cases h2 : k = i
    · subst h2; rw [if_pos (by omega), if_pos (by omega), List.getElem?_set_self h]; simp
    · by_cases h3 : k < i + (ys.length + 1)
      · rw [if_pos h3, if_neg (by omega), if_pos (by omega), show k - i = (k - (i + 1)) + 1 by omega, List.getElem?_cons_succ]
      · rw [if_neg h3, if_neg (by omega), if_neg (by omega), List.getElem?_set_ne (by omega)]

theorem putBlk_self (w : World) (b : Nat) (o : Obj) (h : w.heap[b]? = some o) : putBlk w b o = w := by
  have : w.heap.setIfInBounds b o = w.heap := by
    apply Array.ext_getElem?
    intro k
    by_cases hk : b = k
    · subst hk
      have hlt : b < w.heap.size := (Array.getElem?_eq_some_iff.1 h).1
      rw [Array.getElem?_setIfInBounds_self_of_lt hlt, h]
    · rw [Array.getElem?_setIfInBounds_ne hk]
  simp only [putBlk, this]
theorem putBlk_putBlk (w : World) (b : Nat) (o o' : Obj) : putBlk (putBlk w b o) b o' = putBlk w b o' := by
  simp [putBlk]
theorem setCell_putBlk (w : World) (b i : Nat) (c : Array Value) (e : TypeId) (fr : Nat × Nat) (v : Value) (h : w.heap[b]? = some (.cells c e fr)) : w.setCell ⟨b, i, none⟩ v = putBlk w b (.cells (c.setIfInBounds i v) e fr) := by
  unfold World.setCell putBlk
  congr 1
  apply Array.ext_getElem?
  intro k
  rw [Array.getElem?_modify]
  by_cases hk : b = k
  · subst hk
    have hlt : b < w.heap.size := (Array.getElem?_eq_some_iff.1 h).1
    rw [Array.getElem?_setIfInBounds_self_of_lt hlt]
    simp [h]
  · rw [if_neg hk, Array.getElem?_setIfInBounds_ne hk]

theorem storeCells_ok (b : Nat) (e : TypeId) (fr : Nat × Nat) : ∀ (vs : List Value) (o i : Nat) (c : Array Value) (w : World), w.heap[b]? = some (.cells c e fr) → o + i + vs.length ≤ c.size → (∀ v ∈ vs, v.oneCell' = true) →
    (fr.1 = fr.2 ∨ c.size ≤ fr.1) → (storeCells ⟨b, o, none⟩ vs i).run P w = .ok () (putBlk w b (.cells ⟨over c.toList (o + i) vs⟩ e fr))
  | [], o, i, c, w, h, hl, _, _ => by
    have : (⟨over c.toList (o + i) []⟩ : Array Value) = c := by rw [over_nil _ _ (by simpa using hl)]
    rw [this, putBlk_self w b _ h]; rfl
  | v :: vs, o, i, c, w, h, hl, h1, hfr => by
    simp only [List.length_cons] at hl
    have hi : o + i < c.size := by omega
    have hcell : w.cell? ⟨b, o + i, none⟩ = some c[o + i] := by simp [World.cell?, h, hi]
    have hfro : w.frozen? ⟨b, o + i, none⟩ = false := by
      simp only [World.frozen?, h]
      rcases hfr with hfr | hfr
      · rw [hfr]; first | (simp; done) | (simp; omega)
      · first | (simp; done) | (simp; omega)
    have hst : (store ((⟨b, o, none⟩ : Addr).add i) v).run P w = .ok () (putBlk w b (.cells (c.setIfInBounds (o + i) v) e fr)) := by
      rw [addr_add, run_store P w _ v _ (h1 v (by simp)), hcell]
      simp [hfro, setCell_putBlk w b (o + i) c e fr v h]
    have hb : b < w.heap.size := (Array.getElem?_eq_some_iff.1 h).1
    have ih := storeCells_ok b e fr vs o (i + 1) (c.setIfInBounds (o + i) v) _ (putBlk_get w b _ hb) (by simp; omega) (fun x hx => h1 x (by simp [hx])) (by simpa using hfr)
    simp only [storeCells, Sem.run_bind, hst, Result.andThen_ok, ih, putBlk_putBlk]
    have e1 : over c.toList (o + i) (v :: vs) = over (c.setIfInBounds (o + i) v).toList (o + (i + 1)) vs := by
      rw [over_cons _ _ _ _ (by simpa using hi), Array.toList_setIfInBounds, Nat.add_assoc]
    rw [e1]

def EAns (P : Program) (j : J) (h : AH) (B : Nat) (a : Act) (w : World) (o : Oper) (v : AV) (h' : AH) : Prop :=
  ∃ x w' j', ((execOp a.eval o).run P w = .ok (.value x) w' ∨ ((execOp a.eval o).run P w = .ok .skip w' ∧ x = Go.undef)) ∧ VR j' v x ∧ Rep j' h' B w' ∧ j.ext h.next j' ∧ h.next ≤ h'.next ∧ Bel B w w'

/-- A row of the call's own is written. -/
theorem Rep.rowWrite {j : J} {h : AH} {B : Nat} {w : World} (r : Rep j h B w) {id b o' t o : Nat} {old cs : List AV} {vs : List Value} (hr : h.row? id = some (false, old)) (hl : j id = some (b, o', t)) (hvs : VRs j cs vs) (hone : allOne cs = true)
    (hle : o + cs.length ≤ old.length) : ∃ w', (storeCells ⟨b, o' + o, none⟩ vs).run P w = .ok () w' ∧ Rep j (h.setRow id (over old o cs)) B w' ∧ Bel B w w' := by
  obtain ⟨hg, hB, hone', c, e, fr, hb, hsz, hlen, hcells, hfr⟩ := r.own hr hl
  have hvl := hvs.length
  have hst := storeCells_ok (P := P) b e fr vs (o' + o) 0 c w hb (by omega) (hvs.oneCell hone) hfr
  rw [Nat.add_zero] at hst
  have hbl : b < w.heap.size := (Array.getElem?_eq_some_iff.1 hb).1
  refine ⟨_, hst, ?_, putBlk_bel w b _ hB⟩
  refine r.write hg rfl hl rfl (fun k hk => putBlk_other w b _ k hk) (putBlk_size w b _) (fun c1 e1 q1 h1 => by rw [hb] at h1; cases h1; exact ⟨_, _, putBlk_get w b _ hbl⟩) ?_
  refine ⟨hB, ?_, _, e, fr, putBlk_get w b _ hbl, ?_, ?_, ?_, ?_⟩
  · refine allOne_of fun i v hv => ?_
    rw [over_get _ _ _ _ (by omega)] at hv
    split at hv
    · exact one_of_allOne hone' i v hv
    · split at hv
      · exact one_of_allOne hone _ v hv
      · exact one_of_allOne hone' i v hv
  · show (over c.toList (o' + o) vs).length = o' + t
    rw [over_length _ _ _ (by rw [Array.length_toList]; omega), Array.length_toList]; omega
  · rw [over_length _ _ _ (by omega)]; omega
  · intro i v hv
    rw [over_get _ _ _ _ (by omega)] at hv
    have hconv : (⟨over c.toList (o' + o) vs⟩ : Array Value)[o' + i]? = (over c.toList (o' + o) vs)[o' + i]? := by simp
    rw [hconv, over_get _ _ _ _ (by rw [Array.length_toList]; omega)]
    by_cases h1 : i < o
    · rw [if_pos h1] at hv
      rw [if_pos (by omega)]
      obtain ⟨x, hx, hrx⟩ := hcells i v hv
      exact ⟨x, by simpa using hx, hrx⟩
    · rw [if_neg h1] at hv
      rw [if_neg (by omega)]
      by_cases h2 : i < o + cs.length
      · rw [if_pos h2] at hv
        rw [if_pos (by omega), show o' + i - (o' + o) = i - o by omega]
        exact hvs.get _ v hv
      · rw [if_neg h2] at hv
        rw [if_neg (by omega)]
        obtain ⟨x, hx, hrx⟩ := hcells i v hv
        exact ⟨x, by simpa using hx, hrx⟩
  · show fr.1 = fr.2 ∨ (over c.toList (o' + o) vs).length ≤ fr.1
    rcases hfr with hfr | hfr
    · exact .inl hfr
    · right; rw [over_length _ _ _ (by rw [Array.length_toList]; omega), Array.length_toList]; omega

/-- What is appended or copied. -/
theorem Rep.src {j : J} {h : AH} {B : Nat} {w : World} (r : Rep j h B w) {n k : Nat} {v : AV} {x : Value} {new : List AV} (hx : VR j v x) (hs : srcOf h n v = some (new, k)) :
    ∃ xs, VRs j new xs ∧ new.length = k * n ∧ (∀ w', (Builtin.lenOf x).run P w' = .ok k w') ∧ (∀ q ≤ k, ∀ w', w'.heap = w.heap → (Builtin.firstCells n q x).run P w' = .ok ⟨xs.take (q * n)⟩ w') := by
  unfold srcOf at hs
  split at hs
  · rename_i l
    obtain ⟨hn, hs⟩ := bif_none hs
    rw [nat_beq] at hn
    simp only [decide_eq_true_eq] at hn
    subst hn
    cases hs
    simp only [VR] at hx
    subst hx
    refine ⟨l.map fun c => .int .u8 c.toNat, ?_, by rw [ofBytes_length]; omega, fun w' => rfl, fun q hq w' _ => ?_⟩
    · refine VRs.mk (by rw [ofBytes_length]; simp) fun i v hv => ?_
      rw [ofBytes_get] at hv
      cases hq : l[i]? with
      | none => rw [hq] at hv; cases hv
      | some c => rw [hq] at hv; cases hv; exact ⟨_, by simp [hq], rfl⟩
    · have : ((⟨⟨l⟩⟩ : ByteArray).extract 0 q).data.map (fun b => Value.int .u8 b.toNat) = ⟨(l.map fun c => Value.int .u8 c.toNat).take (q * 1)⟩ := by
        rw [bytes_extract]
        apply Array.ext'
        simp [sub, List.map_take]
      simp only [Builtin.firstCells]
      rw [this]; rfl
  · rename_i a len cap es
    split at hs
    · rename_i cs hcs
      cases hs
      obtain ⟨ad, len', c, xs, hx', hlc, hxs, hlen, hnil, hcell, a', c', e', heq⟩ := r.rowOf hx hcs
      injection heq with _ heq _ _
      subst heq
      refine ⟨xs, hxs, hlen, fun w' => by rw [hx']; rfl, fun q hq w' hw' => ?_⟩
      rw [hx']
      cases ad with
      | none =>
        obtain ⟨h1, _⟩ := hnil rfl
        subst h1
        simp [Builtin.firstCells]
      | some ad =>
        have hl : (xs.take (q * n)).length = q * n := by
          have : q * n ≤ k * n := Nat.mul_le_mul_right _ hq
          have := hxs.length
          simp; omega
        have hrun := run_loadCells_list (P := P) w' ad (xs.take (q * n)) (fun i y hy => by
          rw [List.getElem?_take] at hy
          split at hy
          · rw [World.cell?_of_block (w := w) (by rw [hw'])]
            exact hcell ad rfl i y hy
          · cases hy)
        rw [hl] at hrun
        simpa [Builtin.firstCells] using hrun
    · cases hs
  · cases hs

theorem growBy_le (need : Nat) : ∀ (k c : Nat), c < need + (need + 768) / 4 + 1 → Builtin.growBy need k c ≤ need + (need + 768) / 4
  | 0, c, h => by simp only [Builtin.growBy]; omega
  | k + 1, c, h => by
    simp only [Builtin.growBy]
    split
    · omega
    · exact growBy_le need k _ (by omega)
theorem nextcap_le (need c : Nat) (h : c < need) : Builtin.nextslicecap need c ≤ 2 * need + 768 := by
  unfold Builtin.nextslicecap
  split
  · omega
  · split
    · omega
    · have := growBy_le need 4 c (by omega)
      omega

theorem size_zeroCells (z : Array Value) (n : Nat) : (Builtin.zeroCells z n).size = n * z.size := by simp [Builtin.zeroCells]

theorem row_info {t : TypeId} {i : TypeInfo} (h : P.info? t = some i) : sizeT P t = some i.size := by simp [sizeT, h]

/-- The two roads of an append: there is room; there is none. -/
theorem append_room {t ty el : TypeId} {t2 : TypeId} {i : TypeInfo} {w w' : World} {base : Option Addr} {len c k : Nat} {x : Value} {xs : List Value} (hu : P.underlying t = some (.slice el)) (hu2 : (∃ e2, P.underlying t2 = some (.slice e2)) ∨ P.underlying t2 = some .string) (hi : P.info? el = some i)
    (hlen : ∀ w', (Builtin.lenOf x).run P w' = .ok k w') (hfirst : (Builtin.firstCells i.size k x).run P w = .ok ⟨xs⟩ w) (hroom : len + k ≤ c)
    (hst : (match base with | some a => storeCells (a.add (len * i.size)) xs | none => pure () : Sem Unit).run P w = .ok () w') :
    (Builtin.append_ #[t, t2] ty #[.slice base len c, x]).run P w = .ok (.slice base (len + k) c) w' := by
  cases base with
  | none =>
    simp only [Sem.run_pure] at hst
    injection hst with _ hst; subst hst
    rcases hu2 with ⟨e2, hd⟩ | hd <;>
      simp [Builtin.append_, run_underlying hu, run_underlying hd, r_size (row_info hi), hlen, hfirst, hroom]
  | some a =>
    simp only at hst
    rcases hu2 with ⟨e2, hd⟩ | hd <;>
      simp [Builtin.append_, run_underlying hu, run_underlying hd, r_size (row_info hi), hlen, hfirst, hroom, hst]

theorem append_grow {t ty el : TypeId} {t2 : TypeId} {i : TypeInfo} {z : Value} {w : World} {base : Option Addr} {len c k : Nat} {x : Value} {xs ys : List Value} (hu : P.underlying t = some (.slice el)) (hu2 : (∃ e2, P.underlying t2 = some (.slice e2)) ∨ P.underlying t2 = some .string) (hi : P.info? el = some i)
    (hz : ∀ w, (zeroValue el).run P w = .ok z w) (hlen : ∀ w', (Builtin.lenOf x).run P w' = .ok k w') (hfirst : (Builtin.firstCells i.size k x).run P w.drew = .ok ⟨xs⟩ w.drew) (hgrow : ¬ len + k ≤ c)
    (hold : (Builtin.firstCells i.size len (.slice base len c)).run P w.drew = .ok ⟨ys⟩ w.drew) (hb0 : i.bytes ≠ 0) (hsmall : (len + k) * i.bytes ≤ 68719476736) :
    ∃ cap, len + k ≤ cap ∧ (Builtin.append_ #[t, t2] ty #[.slice base len c, x]).run P w =
      .ok (.slice (some ⟨w.heap.size, 0, none⟩) (len + k) cap) (w.drew.alloc (.cells (⟨ys⟩ ++ ⟨xs⟩ ++ Builtin.zeroCells z.cells (cap - (len + k))) el)) := by
  refine ⟨Question.cut (.appendCap (len + k) c el) (w.tape w.drawn (.appendCap (len + k) c el)), by simp [Question.cut], ?_⟩
  have hrun : (choose (.appendCap (len + k) c el)).run P w = .ok (Question.cut (.appendCap (len + k) c el) (w.tape w.drawn (.appendCap (len + k) c el))) w.drew := by
    rw [run_choose_drew]; simp [Question.forced]
  generalize Question.cut (.appendCap (len + k) c el) (w.tape w.drawn (.appendCap (len + k) c el)) = cap at hrun ⊢
  have hnc := nextcap_le (len + k) c (by omega)
  have hcap : ¬ (Builtin.nextslicecap (len + k) c * i.bytes > 2 ^ 48) := by
    have h1 : Builtin.nextslicecap (len + k) c * i.bytes ≤ (2 * (len + k) + 768) * i.bytes := Nat.mul_le_mul_right _ hnc
    have h2 : (2 * (len + k) + 768) * i.bytes = 2 * ((len + k) * i.bytes) + 768 * i.bytes := by rw [Nat.add_mul, Nat.mul_assoc]
    have h3 : i.bytes ≤ (len + k) * i.bytes := Nat.le_mul_of_pos_left _ (by omega)
    omega
  have hmax : ¬ (((len + k : Nat) : Int) > IntKind.i64.max ∧ (false = true ∨ i.bytes = 0)) := by
    intro h; rcases h.2 with h | h
    · cases h
    · exact hb0 h
  have hask : ∀ n w, (askRoom n).run P w = .ok () w := fun n w => run_askRoom P w n
  have hnew : ∀ cs, (newRow el cs).run P w.drew = .ok ⟨w.heap.size, 0, none⟩ (w.drew.alloc (.cells cs el)) := fun cs => rfl
  rcases hu2 with ⟨e2, hd⟩ | hd <;>
    simp [-run_choose, -run_choose_drew, Builtin.append_, run_underlying hu, run_underlying hd, r_size (row_info hi), r_info hi, hlen, hgrow, hcap, hrun, hask, hold, hfirst, hz, hnew, hb0] <;> (congr 2; apply Array.ext'; simp)

/-- A source's own ids. -/
theorem app_sound {j : J} {h : AH} {B : Nat} {w : World} (r : Rep j h B w) {t ty el t2 : TypeId} {i : TypeInfo} {z : AV} {s v : AV} {sv x : Value} {new : List AV} {k : Nat} {h' : AH}
    (hu : P.underlying t = some (.slice el)) (hu2 : (∃ e2, P.underlying t2 = some (.slice e2)) ∨ P.underlying t2 = some .string) (hi : P.info? el = some i) (hz : zeroT P el = some z) (hzn : z.cells.length = i.size) (hn0 : i.size ≠ 0) (hb0 : i.bytes ≠ 0)
    (hs : VR j s sv) (hx : ∃ xs, VRs j new xs ∧ new.length = k * i.size ∧ (∀ w', (Builtin.lenOf x).run P w' = .ok k w') ∧ (∀ q ≤ k, ∀ w', w'.heap = w.heap → (Builtin.firstCells i.size q x).run P w' = .ok ⟨xs.take (q * i.size)⟩ w'))
    (ha : appA h i.size i.bytes el s new k = some (v, h')) :
    ∃ y w' j', (Builtin.append_ #[t, t2] ty #[sv, x]).run P w = .ok y w' ∧ VR j' v y ∧ Rep j' h' B w' ∧ j.ext h.next j' ∧ h.next ≤ h'.next ∧ Bel B w w' := by
  obtain ⟨xs, hxs, hnew, hlen, hfirst⟩ := hx
  have hxl := hxs.length
  have hfx : ∀ w', w'.heap = w.heap → (Builtin.firstCells i.size k x).run P w' = .ok ⟨xs⟩ w' := by
    intro w' hw'
    have := hfirst k (Nat.le_refl _) w' hw'
    rwa [List.take_of_length_le (by omega)] at this
  unfold appA at ha
  split at ha
  case h_2 => cases ha
  rename_i ad len cap es
  rw [nat_beq] at ha
  by_cases hk : k = 0
  · -- nothing
    subst hk
    simp only [decide_true, cond_true] at ha
    cases ha
    have hxs0 : xs = [] := List.eq_nil_of_length_eq_zero (by omega)
    subst hxs0
    have hsv : ∃ b c, sv = .slice b len c ∧ len ≤ c := by
      cases ad with
      | none => simp only [VR] at hs; obtain ⟨rfl, _, hs⟩ := hs; exact ⟨_, _, hs, Nat.le_refl _⟩
      | some p => obtain ⟨p, q⟩ := p; simp only [VR] at hs; obtain ⟨_, c, hs, hc, _⟩ := hs; exact ⟨_, c, hs, hc⟩
    obtain ⟨b, c, hsv, hlc⟩ := hsv
    refine ⟨.slice b (len + 0) c, w, j, ?_, by rw [Nat.add_zero, ← hsv]; exact hs, r, J.ext_refl _ _, Nat.le_refl _, RowKit.Below.refl _ _⟩
    rw [hsv]
    refine append_room hu hu2 hi hlen (hfx w rfl) (by omega) ?_
    cases b <;> rfl
  · simp only [hk, decide_false, cond_false] at ha
    obtain ⟨hsm, ha⟩ := bif_none' ha
    rw [nat_ble] at hsm
    simp only [Bool.not_eq_false', Bool.and_eq_true, decide_eq_true_eq] at hsm
    obtain ⟨hsmall, hone⟩ := hsm
    have hsmall : (len + k) * i.bytes ≤ 68719476736 := hsmall
    obtain ⟨zv, hzv, hzr⟩ := r_zero hz
    have hzc : zv.cells.size = i.size := by have := (VR.cells (ofV_VR (j := j) hzv)).length; simp at this; omega
    -- a new row
    have grown : ∀ (ty2 : Option Nat) (hty2 : ∀ e, ty2 = some e → e = el) (old : List AV) (ys : List Value) (h0 : AH) (b : Option Addr) (c : Nat), sv = .slice b len c → ¬ len + k ≤ c → Rep j h0 B w → h0.next = h.next → VRs j old ys → old.length = len * i.size → allOne old = true →
        (∀ w', w'.heap = w.heap → (Builtin.firstCells i.size len (.slice b len c)).run P w' = .ok ⟨ys⟩ w') → v = .sl (some (h.next, 0)) (len + k) none i.size → h' = h0.add (.row false (old ++ new)) ty2 →
        ∃ y w' j', (Builtin.append_ #[t, t2] ty #[sv, x]).run P w = .ok y w' ∧ VR j' v y ∧ Rep j' h' B w' ∧ j.ext h.next j' ∧ h.next ≤ h'.next ∧ Bel B w w' := by
      intro ty2 hty2 old ys h0 b c hsv hgr r0 hnx hold hol holo hfo hv hh'
      subst hv; subst hh'
      obtain ⟨cap', hcap', hrun⟩ := append_grow (P := P) (ty := ty) hu hu2 hi hzr hlen (hfx w.drew rfl) hgr (hfo w.drew rfl) hb0 hsmall
      have hyl := hold.length
      let tt := cap' * i.size
      have hmul : (len + k) * i.size = len * i.size + k * i.size := Nat.add_mul _ _ _
      have hmul2 : (len + k) * i.size ≤ cap' * i.size := Nat.mul_le_mul_right _ hcap'
      have hsub : (cap' - (len + k)) * i.size = cap' * i.size - (len + k) * i.size := Nat.sub_mul _ _ _
      have hsize : ((⟨ys⟩ : Array Value) ++ ⟨xs⟩ ++ Builtin.zeroCells zv.cells (cap' - (len + k))).size = cap' * i.size := by
        rw [Array.size_append, Array.size_append, size_zeroCells, hzc, hsub]
        show ys.length + xs.length + _ = _
        omega
      have r1 : Rep j (h0.add (.row false (old ++ new)) ty2) B w.drew := (r0.addDead _ _).same rfl
      have hjn : j h.next = none := r.fresh _ (Nat.le_refl _)
      refine ⟨_, _, j.put h.next (w.heap.size, 0, cap' * i.size), by rw [hsv]; exact hrun, ?_, ?_, J.put_ext (Nat.le_refl _), ?_, ?_⟩
      · simp only [VR]
        exact ⟨_, cap', rfl, hcap', fun c' hc => (by cases hc), .inr ⟨_, _, _, J.put_self _ _ _, rfl, fun _ => by omega⟩⟩
      · refine r1.born (ob := .row false (old ++ new)) (obj := .cells (⟨ys⟩ ++ ⟨xs⟩ ++ Builtin.zeroCells zv.cells (cap' - (len + k))) el) hjn ?_ ?_ rfl (fun e he => by simp only [AH.add, Tr.get_set, hnx, if_true] at he; rw [hty2 e he]; exact ⟨_, _, rfl⟩) ?_
        · show h.next < Nat.succ h0.next; rw [hnx]; exact Nat.lt_succ_self _
        · simp only [AH.add, Tr.get_set, hnx, if_true]
        · refine row_born (w := w.drew) r.base rfl ?_ hsize ?_ ?_ (.inl rfl)
          · refine allOne_of fun q u hq => ?_
            by_cases hql : q < old.length
            · rw [List.getElem?_append_left hql] at hq; exact one_of_allOne holo _ _ hq
            · rw [List.getElem?_append_right (by omega)] at hq; exact one_of_allOne hone _ _ hq
          · rw [List.length_append]; omega
          · intro q u hq
            have happ : VRs (j.put h.next (w.heap.size, 0, cap' * i.size)) (old ++ new) (ys ++ xs) := VRs.mono (J.put_le hjn) _ _ (hold.append hxs)
            obtain ⟨y, hy, hry⟩ := happ.get q u hq
            refine ⟨y, ?_, hry⟩
            have hqlt : q < (ys ++ xs).length := by
              rcases Nat.lt_or_ge q (ys ++ xs).length with h | h
              · exact h
              · rw [List.getElem?_eq_none h] at hy; cases hy
            have e1 : ((⟨ys⟩ : Array Value) ++ ⟨xs⟩) = ⟨ys ++ xs⟩ := by apply Array.ext'; simp
            rw [e1, Array.getElem?_append_left (by exact hqlt)]
            simpa using hy
      · show h.next ≤ Nat.succ h0.next; omega
      · exact (RowKit.Below.refl B w).drew.alloc r.base _
    cases cap with
    | some c =>
      simp only at ha
      rw [nat_ble] at ha
      by_cases hroom : len + k ≤ c
      · -- room that is known
        have hroom' : Nat.add len k ≤ c := hroom
        simp only [hroom', decide_true, cond_true] at ha
        cases ad with
        | none => cases ha
        | some p =>
          obtain ⟨id, o⟩ := p
          simp only at ha
          obtain ⟨hes, ha⟩ := bif_none ha
          rw [nat_beq] at hes
          simp only [decide_eq_true_eq] at hes
          split at ha
          · rename_i old hrow
            obtain ⟨hle, ha⟩ := bif_none ha
            rw [nat_ble, nat_ble] at hle
            simp only [Bool.and_eq_true, decide_eq_true_eq] at hle
            obtain ⟨hle1, hle2⟩ := hle
            have hle1 : o + len * i.size ≤ old.length := hle1
            have hle2 : o + c * i.size ≤ old.length := hle2
            cases ha
            simp only [VR] at hs
            obtain ⟨a, c', hsv, hlc, hcc, hor⟩ := hs
            have := hcc c rfl; subst this
            rcases hor with h0 | ⟨b, o', tt, hj, had, hbnd⟩
            · omega
            · have hmul : (len + k) * i.size = len * i.size + k * i.size := Nat.add_mul _ _ _
              have hmul2 : (len + k) * i.size ≤ c * i.size := Nat.mul_le_mul_right _ hroom
              obtain ⟨w', hst, hrep, hbel⟩ := r.rowWrite (P := P) (o := o + len * i.size) hrow hj hxs hone (by omega)
              refine ⟨.slice (some a) (len + k) c, w', j, ?_, ?_, hrep, J.ext_refl _ _, Nat.le_refl _, hbel⟩
              · rw [hsv]
                refine append_room hu hu2 hi hlen (hfx w rfl) hroom ?_
                show (storeCells (a.add (len * i.size)) xs).run P w = _
                rw [had, addr_add, Nat.add_assoc]; exact hst
              · simp only [VR]
                exact ⟨a, c, rfl, hroom, fun c' hc => (Option.some.inj hc).symm, .inr ⟨b, o', tt, hj, had, hbnd⟩⟩
          · cases ha
      · have hroom' : ¬ Nat.add len k ≤ c := hroom
        simp only [hroom', decide_false, cond_false] at ha
        split at ha
        · rename_i old hold
          obtain ⟨holo, ha⟩ := bif_none ha
          cases ha
          obtain ⟨b, len', c', ys, hsv, hlc, hys, hol, hnil, hcell, a', cc, e', heq⟩ := r.rowOf hs hold
          injection heq with e1 e2 e3 e4
          subst e2
          have hcc : c' = c := by
            rw [hsv] at hs
            cases ad with
            | none => simp only [VR] at hs; obtain ⟨h1, h2, h3⟩ := hs; injection h3 with h3 h4 h5; cases h2; omega
            | some p => obtain ⟨p, q⟩ := p; simp only [VR] at hs; obtain ⟨_, c2, h1, _, h2, _⟩ := hs; injection h1 with _ _ h1; rw [h1]; exact (h2 c rfl).symm
          subst hcc
          refine grown (some el) (fun e he => (Option.some.inj he).symm) old ys h b c' hsv hroom r rfl hys hol holo ?_ rfl rfl
          intro w' hw'
          cases b with
          | none =>
            obtain ⟨h1, h2⟩ := hnil rfl
            subst h1
            simp [Builtin.firstCells]
          | some b =>
            have hyl := hys.length
            have hrun := run_loadCells_list (P := P) w' b ys (fun q y hy => by
              rw [World.cell?_of_block (w := w) (by rw [hw'])]; exact hcell b rfl q y hy)
            rw [← hyl, hol] at hrun
            simpa [Builtin.firstCells] using hrun
        · cases ha
    | none =>
      simp only at ha
      cases ad with
      | none => cases ha
      | some p =>
      obtain ⟨id, o⟩ := p
      simp only at ha
      obtain ⟨hes, ha⟩ := bif_none ha
      rw [nat_beq] at hes
      simp only [decide_eq_true_eq] at hes
      split at ha
      · rename_i old hrow
        obtain ⟨hle, ha⟩ := bif_none ha
        rw [nat_ble] at hle
        simp only [decide_eq_true_eq] at hle
        have hle : o + len * i.size ≤ old.length := hle
        cases ha
        simp only [VR] at hs
        obtain ⟨a, c, hsv, hlc, _, hor⟩ := hs
        by_cases hroom : len + k ≤ c
        · -- it is written where it lies
          rcases hor with h0 | ⟨b, o', tt, hj, had, hbnd⟩
          · omega
          · have hbnd := hbnd (by rw [hes]; exact hn0)
            rw [hes] at hbnd
            have hmul : (len + k) * i.size = len * i.size + k * i.size := Nat.add_mul _ _ _
            have hmul2 : (len + k) * i.size ≤ c * i.size := Nat.mul_le_mul_right _ hroom
            obtain ⟨hg, hBb, hone', cc, e, fr, hb, hsz, hlen', hcells, hfr⟩ := r.own hrow hj
            have hst := storeCells_ok (P := P) b e fr xs (o' + (o + len * i.size)) 0 cc w hb (by omega) (hxs.oneCell hone) hfr
            rw [Nat.add_zero] at hst
            have hbl : b < w.heap.size := (Array.getElem?_eq_some_iff.1 hb).1
            have r1 : Rep j ((h.kill id).add (.row false (sub old o (Nat.mul len i.size) ++ new)) (keepT h id o el)) B w := (r.kill id).addDead _ _
            have hjn : j h.next = none := r.fresh _ (Nat.le_refl _)
            refine ⟨.slice (some a) (len + k) c, putBlk w b (.cells ⟨over cc.toList (o' + (o + len * i.size)) xs⟩ e fr), j.put h.next (b, o' + o, tt - o), ?_, ?_, ?_, J.put_ext (Nat.le_refl _), Nat.le_succ _, putBlk_bel w b _ hBb⟩
            · rw [hsv]
              refine append_room hu hu2 hi hlen (hfx w rfl) hroom ?_
              show (storeCells (a.add (len * i.size)) xs).run P w = _
              rw [had, addr_add, Nat.add_assoc]; exact hst
            · simp only [VR]
              exact ⟨a, c, rfl, hroom, fun c' hc => (by cases hc), .inr ⟨b, o' + o, tt - o, J.put_self _ _ _, had, fun _ => by omega⟩⟩
            · refine r1.bear (ob := .row false (sub old o (Nat.mul len i.size) ++ new)) hjn (Nat.lt_succ_self _) ?_ ?_ (by rw [putBlk_size]; exact Nat.le_refl _) (by rw [putBlk_size]; exact hbl) (.one (fun k hk => putBlk_other w b _ k hk) fun c1 e1 q1 h1 => by rw [hb] at h1; cases h1; exact ⟨_, _, putBlk_get w b _ hbl⟩) (fun e2 he2 => by
                simp only [AH.add, AH.kill, Tr.get_set, if_true] at he2
                unfold keepT at he2
                obtain ⟨ho, he2⟩ := bif_none he2
                rw [nat_beq] at ho
                have ho := of_decide_eq_true ho
                split at he2
                · rename_i t1 ht1
                  obtain ⟨hte, he2⟩ := bif_none he2
                  rw [nat_beq] at hte
                  have hte := of_decide_eq_true hte
                  cases he2
                  obtain ⟨g1, c3, fr3, g2⟩ := r.tys id t1 b o' tt ht1 hj
                  rw [hb] at g2; cases g2
                  exact ⟨by omega, _, _, by rw [← hte]; exact putBlk_get w b _ hbl⟩
                · cases he2) ?_
              · simp only [AH.add, AH.kill, Tr.get_set, if_true]
              · intro id' b' o1 t1 ob' hne hob' hj'
                have hgob : id' ≠ id ∧ h.objs.get id' = some ob' := by
                  simp only [AH.add, AH.kill, Tr.get_set] at hob'
                  rw [if_neg hne] at hob'
                  by_cases hii : id' = id
                  · rw [if_pos hii] at hob'; cases hob'
                  · rw [if_neg hii] at hob'; exact ⟨hii, hob'⟩
                have hbb : b ≠ b' := r.sep id id' _ ob' b o' tt b' o1 t1 (Ne.symm hgob.1) hg hj hgob.2 hj' rfl
                exact ⟨putBlk_other w b _ b' (Ne.symm hbb), Ne.symm hbb⟩
              · have hsl : (sub old o (Nat.mul len i.size)).length = len * i.size := sub_length _ _ _ hle
                refine ⟨hBb, ?_, _, e, fr, putBlk_get w b _ hbl, ?_, ?_, ?_, ?_⟩
                · refine allOne_of fun q u hq => ?_
                  by_cases hql : q < (sub old o (Nat.mul len i.size)).length
                  · rw [List.getElem?_append_left hql] at hq
                    exact one_of_allOne hone' _ _ (sub_cells hq)
                  · rw [List.getElem?_append_right (by omega)] at hq; exact one_of_allOne hone _ _ hq
                · show (over cc.toList (o' + (o + len * i.size)) xs).length = o' + o + (tt - o)
                  rw [over_length _ _ _ (by rw [Array.length_toList]; omega), Array.length_toList]; omega
                · rw [List.length_append, hsl]; omega
                · intro q u hq
                  have hconv : (⟨over cc.toList (o' + (o + len * i.size)) xs⟩ : Array Value)[o' + o + q]? = (over cc.toList (o' + (o + len * i.size)) xs)[o' + o + q]? := by simp
                  rw [hconv, over_get _ _ _ _ (by rw [Array.length_toList]; omega)]
                  by_cases hql : q < (sub old o (Nat.mul len i.size)).length
                  · rw [List.getElem?_append_left hql] at hq
                    rw [if_pos (by omega)]
                    obtain ⟨y, hy, hry⟩ := hcells _ _ (sub_cells hq)
                    refine ⟨y, ?_, VR.mono (J.put_le hjn) _ _ hry⟩
                    rw [← Nat.add_assoc] at hy
                    simpa using hy
                  · rw [List.getElem?_append_right (by omega)] at hq
                    have hqn : q - (sub old o (Nat.mul len i.size)).length < new.length := by
                      rcases Nat.lt_or_ge (q - (sub old o (Nat.mul len i.size)).length) new.length with h | h
                      · exact h
                      · rw [List.getElem?_eq_none h] at hq; cases hq
                    rw [if_neg (by omega), if_pos (by omega)]
                    obtain ⟨y, hy, hry⟩ := hxs.get _ _ hq
                    refine ⟨y, ?_, VR.mono (J.put_le hjn) _ _ hry⟩
                    rw [hsl] at hy
                    rw [show o' + o + q - (o' + (o + len * i.size)) = q - len * i.size by omega]
                    exact hy
                · show fr.1 = fr.2 ∨ (over cc.toList (o' + (o + len * i.size)) xs).length ≤ fr.1
                  rcases hfr with hfr | hfr
                  · exact .inl hfr
                  · right; rw [over_length _ _ _ (by rw [Array.length_toList]; omega), Array.length_toList]; omega
        · -- a new row
          have hold : ∃ ys, VRs j (sub old o (Nat.mul len i.size)) ys ∧ (∀ w', w'.heap = w.heap → (Builtin.firstCells i.size len (.slice (some a) len c)).run P w' = .ok ⟨ys⟩ w') := by
            by_cases hl0 : len = 0
            · subst hl0
              refine ⟨[], ?_, fun w' _ => ?_⟩
              · have : sub old o (Nat.mul 0 i.size) = [] := List.eq_nil_of_length_eq_zero (by rw [show Nat.mul 0 i.size = 0 from Nat.zero_mul _]; simp [sub])
                rw [this]; simp [VRs]
              · simp [Builtin.firstCells, loadCells, loadCellsFrom]
            · rcases hor with h0 | ⟨b, o', tt, hj, had, hbnd⟩
              · omega
              · have hc := r.cells hrow hj
                obtain ⟨ys, h1, h2⟩ := cells_list (j := j) (w := w) (b := b) (sub old o (len * i.size)) (o' + o) (fun q v hv => by
                    rw [Nat.add_assoc]; exact hc (o + q) v (sub_cells hv))
                refine ⟨ys, h1, fun w' hw' => ?_⟩
                have hyl := h1.length
                rw [sub_length _ _ _ hle] at hyl
                have hrun := run_loadCells_list (P := P) w' ⟨b, o' + o, none⟩ ys (fun q y hy => by
                  rw [World.cell?_of_block (w := w) (by rw [hw'])]; exact h2 q y hy)
                rw [← hyl] at hrun
                rw [had]
                simpa [Builtin.firstCells] using hrun
          obtain ⟨ys, hys, hyf⟩ := hold
          have holo : allOne (sub old o (Nat.mul len i.size)) = true := by
            by_cases hl0 : len = 0
            · subst hl0
              have : sub old o (Nat.mul 0 i.size) = [] := List.eq_nil_of_length_eq_zero (by rw [show Nat.mul 0 i.size = 0 from Nat.zero_mul _]; simp [sub])
              rw [this]; rfl
            · rcases hor with h0 | ⟨b, o', tt, hj, had, hbnd⟩
              · omega
              · obtain ⟨hg, hBb, hone', _⟩ := r.own hrow hj
                exact allOne_of fun q u hq => one_of_allOne hone' _ _ (sub_cells hq)
          exact grown (keepT h id o el) (fun e he => by
            unfold keepT at he
            obtain ⟨_, he⟩ := bif_none he
            split at he
            · obtain ⟨_, he⟩ := bif_none he; cases he; rfl
            · cases he) (sub old o (Nat.mul len i.size)) ys (h.kill id) (some a) c hsv hroom (r.kill id) rfl hys (sub_length _ _ _ hle) holo hyf rfl rfl
      · cases ha
end
end Ab
end Go.Proofs.YtcoobajkgioflaaGreatDoor
