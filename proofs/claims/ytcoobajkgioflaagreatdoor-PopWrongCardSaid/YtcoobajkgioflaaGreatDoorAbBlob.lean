/- Texts of unknown length: as slices of bytes; slices of texts: what is told of them ahead. -/
import Derived.Test.YtcoobajkgioflaaGreatDoorAbTok
import Derived.Test.YtcoobajkgioflaaGreatDoorAbBld
set_option linter.unusedSimpArgs false
set_option linter.unusedVariables false
namespace Go.Proofs.YtcoobajkgioflaaGreatDoor
namespace Ab
section
variable {P : Program}

abbrev Wds := Nat → Option (List (List UInt8))
/-- A token n of a text: '.x n' the text; '.y id n' a slice of its bytes, at an object '.cust false n'. A token n of texts: '.y id n' a slice of them. -/
def tokB (val : Vals) (wds : Wds) : Toks where
  cell := (tokT val).cell
  ptr n l v := (∃ s c, val n = some (.s s) ∧ v = .slice (some ⟨l.1, l.2.1, none⟩) s.length c ∧ s.length ≤ c) ∨ (∃ ws c, wds n = some ws ∧ v = .slice (some ⟨l.1, l.2.1, none⟩) ws.length c ∧ ws.length ≤ c)
  ob n ob o t := ∃ s cs e fr, val n = some (.s s) ∧ ob = some (.cells cs e fr) ∧ ∀ (i : Nat) (c : UInt8), s[i]? = some c → cs[o + i]? = some (.int .u8 c.toNat)
theorem tokB_wf (val : Vals) (wds : Wds) : (tokB val wds).wf := ⟨(tokT_wf val).cell, fun n l v h => by
  rcases h with ⟨_, _, _, rfl, _⟩ | ⟨_, _, _, rfl, _⟩ <;> exact ⟨rfl, fun b hb => by cases hb⟩⟩

/-- What is told of the texts: the tables; the texts whose bytes are looked at as a slice; bounds on the lengths of slices. -/
structure BTab where
  T : Tab
  R : RowTab
  blobs : List Nat
  lens : List (Nat × Nat × Nat)
def hasB (n : Nat) : List Nat → Bool
  | [] => false
  | m :: r => Nat.beq n m || hasB n r
def lenB (n : Nat) : List (Nat × Nat × Nat) → Option (Nat × Nat)
  | [] => none
  | (m, lo, hi) :: r => bif Nat.beq n m then some (lo, hi) else lenB n r
theorem hasB_mem {n : Nat} : ∀ {l : List Nat}, hasB n l = true → n ∈ l
  | [], h => by cases h
  | m :: r, h => by
    simp only [hasB, Bool.or_eq_true] at h
    rcases h with h | h
    · rw [Nat.eq_of_beq_eq_true h]; exact List.mem_cons_self ..
    · exact List.mem_cons_of_mem _ (hasB_mem h)
theorem lenB_mem {n lo hi : Nat} : ∀ {l : List (Nat × Nat × Nat)}, lenB n l = some (lo, hi) → (n, lo, hi) ∈ l
  | [], h => by cases h
  | (m, a, b) :: r, h => by
    simp only [lenB, bool_cond] at h
    split at h
    · rename_i hh; cases h; rw [Nat.eq_of_beq_eq_true hh]; exact List.mem_cons_self ..
    · exact List.mem_cons_of_mem _ (lenB_mem h)
/-- How long what a token's slice holds is. -/
def lengthB (val : Vals) (wds : Wds) (n k : Nat) : Prop := (∃ s, val n = some (.s s) ∧ k = s.length) ∨ (∃ ws, wds n = some ws ∧ k = ws.length)
structure BOk (val : Vals) (wds : Wds) (t : BTab) : Prop where
  T : TabOk val t.T
  R : RowOk val t.R
  blobs : ∀ n ∈ t.blobs, ∃ s, val n = some (.s s)
  lens : ∀ q ∈ t.lens, ∀ k, lengthB val wds q.1 k → q.2.1 ≤ k ∧ k ≤ q.2.2

def opB (t : BTab) (po : PO) (as : List AV) : Option AV := match po.key with
  | some k => lookT k as t.T
  | none => match po, as with
    | .lenl _, [.y _ n] => match lenB n t.lens with
      | some (lo, hi) => some (.r .i64 lo hi)
      | none => none
    | .iads 1 _ _, [.y id n, .i _ k] => match lenB n t.lens with
      | some (lo, _) => if 0 ≤ k ∧ k < lo then some (.p (some (id, k.toNat))) else none
      | none => none
    | _, _ => none
def rdB (P : Program) (t : BTab) (ro : RO) (as : List AV) (h : AH) : Option AV := match ro, as with
  | .ucv s d _, [v] => ucvA P s d v h
  | .b2s _, [v] => match v with
    | .y id n => match h.objs.get id with
      | some (.cust false m) => bif Nat.beq m n && hasB n t.blobs then some (.x n) else none
      | _ => none
    | v => match rowOf h 1 v with
      | some cs => match lookRow cs t.R with
        | some n => some (.x n)
        | none => none
      | none => none
  | _, _ => none
def aoB (t : BTab) (o : AO) (as : List AV) (id : Nat) : Option (AV × AObj) := match o, as with
  | .s2b _ _, [.x n] => match lookTok n t.R with
    | some cs => some (.sl (some (id, 0)) cs.length none 1, .row false cs)
    | none => bif hasB n t.blobs then some (.y id n, .cust false n) else none
  | _, _ => none
def blobS (P : Program) (l : List (FuncId × Nat1)) (t : BTab) (val : Vals) (wds : Wds) : Sums where
  fn := look l
  op := opB t
  rd := rdB P t
  ao := aoB t
  eo _ _ _ := none
  tok := tokB val wds

theorem lenl_inv {o : Oper} {x : AX} (h : compOp P o = some (.P (.lenl x))) : ∃ z ts t el, o.op = .call ⟨.builtin .len, #[z], ts⟩ ∧ ts[0]? = some t ∧ P.underlying t = some (.slice el) ∧ cx P z = some x := by
  obtain ⟨dst, op, type, pos, after, gd⟩ := o
  cases op with
  | call c =>
    obtain ⟨callee, args, argTypes⟩ := c
    simp only [compOp] at h
    cases callee with
    | value g => simp only at h; split at h <;> cases h
    | invoke r n => simp only at h; cases h
    | builtin b =>
      cases b with
      | len =>
        simp only at h
        split at h
        · cases h
        · rename_i el x' h1 h2
          cases h
          obtain ⟨t, ht, hu⟩ := argTy h1
          have : ∃ z, args = #[z] ∧ cx P z = some x := by
            obtain ⟨l⟩ := args
            simp only at h2
            match l, h2 with
            | [], h2 => simp [cxs] at h2
            | [z], h2 =>
              simp only [cxs] at h2
              split at h2
              · rename_i y hy; cases h2; exact ⟨z, rfl, hy⟩
              · cases h2
            | z :: z' :: r, h2 =>
              simp only [cxs] at h2
              split at h2
              · split at h2
                · rename_i ys hys
                  cases h2
                  split at hys
                  · split at hys <;> cases hys
                  · cases hys
                · cases h2
              · cases h2
          obtain ⟨z, rfl, hz⟩ := this
          exact ⟨z, argTypes, t, el, rfl, ht, hu, hz⟩
        all_goals cases h
      | _ => simp only at h <;> repeat' (first | (cases h; done) | (obtain ⟨_, hc'⟩ := bif_none h; cases hc'; done) | split at h)
  | binOp op t x y q =>
    simp only [compOp] at h
    split at h
    case h_2 => cases h
    rename_i q' hq
    cases h
    unfold compBin at hq
    split at hq
    case h_2 => cases hq
    split at hq <;> first
      | (cases hq; done)
      | (unfold isniOp at hq; split at hq <;> cases hq; done)
      | (unfold eqkOp at hq; split at hq <;> cases hq; done)
      | (obtain ⟨_, hq⟩ := bif_none' hq; unfold eqgOp at hq; split at hq <;> cases hq; done)
      | (split at hq <;> first | (cases hq; done) | (unfold eqkOp at hq; split at hq <;> cases hq; done))
  | makeMap t rr => cases rr <;> (simp only [compOp] at h; cases h)
  | next it st => cases st <;> simp only [compOp] at h <;> repeat' (first | (cases h; done) | split at h)
  | _ =>
    simp only [compOp] at h
    repeat' (first | (cases h; done) | (obtain ⟨_, hc'⟩ := bif_none h; cases hc'; done) | split at h)
theorem iads_inv {o : Oper} {n : Nat} {x i : AX} (h : compOp P o = some (.P (.iads n x i))) : ∃ t el y k, o.op = .indexAddr t y k ∧ P.underlying t = some (.slice el) ∧ sizeT P el = some n ∧ cx P y = some x ∧ cx P k = some i := by
  obtain ⟨dst, op, type, pos, after, gd⟩ := o
  cases op with
  | indexAddr t y k =>
    simp only [compOp] at h
    split at h
    · rename_i el x' i' hu hx hi
      split at h
      · rename_i n' hn; cases h; exact ⟨t, el, y, k, rfl, hu, hn, hx, hi⟩
      · cases h
    · split at h <;> cases h
    · cases h
  | binOp op t x y q =>
    simp only [compOp] at h
    split at h
    case h_2 => cases h
    rename_i q' hq
    cases h
    unfold compBin at hq
    split at hq
    case h_2 => cases hq
    split at hq <;> first
      | (cases hq; done)
      | (unfold isniOp at hq; split at hq <;> cases hq; done)
      | (unfold eqkOp at hq; split at hq <;> cases hq; done)
      | (obtain ⟨_, hq⟩ := bif_none' hq; unfold eqgOp at hq; split at hq <;> cases hq; done)
      | (split at hq <;> first | (cases hq; done) | (unfold eqkOp at hq; split at hq <;> cases hq; done))
  | call c =>
    obtain ⟨callee, args, argTypes⟩ := c
    simp only [compOp] at h
    cases callee with
    | value g => simp only at h; split at h <;> cases h
    | invoke r n => simp only at h; cases h
    | builtin b =>
      cases b <;> simp only at h <;> repeat' (first | (cases h; done) | (obtain ⟨_, hc'⟩ := bif_none h; cases hc'; done) | split at h)
  | makeMap t rr => cases rr <;> (simp only [compOp] at h; cases h)
  | next it st => cases st <;> simp only [compOp] at h <;> repeat' (first | (cases h; done) | split at h)
  | _ =>
    simp only [compOp] at h
    repeat' (first | (cases h; done) | (obtain ⟨_, hc'⟩ := bif_none h; cases hc'; done) | split at h)
theorem ptrB_len {val : Vals} {wds : Wds} {j : J} (hT : j.tok = tokB val wds) {id n : Nat} {v : Value} (h : VR j (.y id n) v) : ∃ b o t k c, j id = some (b, o, t) ∧ v = .slice (some ⟨b, o, none⟩) k c ∧ k ≤ c ∧ lengthB val wds n k := by
  simp only [VR, hT] at h
  obtain ⟨⟨b, o, t⟩, hl, h⟩ := h
  rcases h with ⟨s, c, h1, h2, h3⟩ | ⟨ws, c, h1, h2, h3⟩
  · exact ⟨b, o, t, _, c, hl, h2, h3, .inl ⟨s, h1, rfl⟩⟩
  · exact ⟨b, o, t, _, c, hl, h2, h3, .inr ⟨ws, h1, rfl⟩⟩

/-- The bytes of a text as a slice: one text again. -/
theorem blob_b2s {val : Vals} {wds : Wds} {j : J} {h : AH} {B : Nat} {w : World} (hT : j.tok = tokB val wds) (r : Rep j h B w) (hg : GlobOk P j) {e : Env} {a : Act} (he : ER j e a.tmps) {o : Oper} {x : AX} {id n : Nat} {s : List UInt8}
    (hc : compOp P o = some (.R (.b2s x))) (hx : x.ev e = .y id n) (hob : h.objs.get id = some (.cust false n)) (hn : val n = some (.s s)) (hw : wds n = none) : (execOp a.eval o).run P w = .ok (.value (.string ⟨⟨s⟩⟩)) w := by
  obtain ⟨dst, op, type, pos, after, gd⟩ := o
  cases op with
  | convert src dst' y =>
    simp only [compOp] at hc
    split at hc
    · cases hc
    · cases hc
    · cases hc
    · split at hc
      · rw [bool_cond] at hc; split at hc <;> cases hc
      · cases hc
    · split at hc <;> cases hc
    · rename_i el x' h1 h2 h3
      split at hc
      · rename_i h4
        cases hc
        have hxv := cx_VR hg he h3
        rw [hx] at hxv
        simp only [VR, hT] at hxv
        obtain ⟨⟨b, oo, t⟩, hl, hxv⟩ := hxv
        have hxv' : ∃ c, a.eval y = .slice (some ⟨b, oo, none⟩) s.length c ∧ s.length ≤ c := by
          rcases hxv with ⟨s', c, g1, g2, g3⟩ | ⟨ws, c, g1, _⟩
          · rw [hn] at g1; cases g1; exact ⟨c, g2, g3⟩
          · rw [hw] at g1; cases g1
        obtain ⟨c, hxe, hlc⟩ := hxv'
        obtain ⟨_, hobr⟩ := r.objs id _ b oo t hob hl
        rw [hT] at hobr
        obtain ⟨s', cs, e1, fr, g1, g2, g3⟩ := hobr
        rw [hn] at g1; cases g1
        have hcell : ∀ (q : Nat) (v : Value), (s.map fun c => Value.int .u8 c.toNat)[q]? = some v → w.cell? ((⟨b, oo, none⟩ : Addr).add q) = some v := by
          intro q v hq
          rw [List.getElem?_map, Option.map_eq_some_iff] at hq
          obtain ⟨cc, hq, rfl⟩ := hq
          have := g3 q cc hq
          rw [addr_add]
          simp only [World.cell?, g2]
          exact this
        have hld := run_loadCells_list (P := P) w ⟨b, oo, none⟩ (s.map fun c => Value.int .u8 c.toNat) hcell
        rw [List.length_map] at hld
        have hmap : (s.map fun c => Value.int .u8 c.toNat) = (s.map fun c => (c.toNat : Int)).map (Value.int .u8) := by rw [List.map_map]; rfl
        rw [hmap] at hld
        have hrun : (Conv.bytesToString (.slice (some ⟨b, oo, none⟩) s.length c)).run P w = .ok (.string ⟨⟨s⟩⟩) w := by
          rw [run_bytesToString w ⟨b, oo, none⟩ s.length c _ hld]
          have := fold_push (s.map fun c => (c.toNat : Int)) []
          simp only [List.nil_append] at this
          rw [show (ByteArray.empty : ByteArray) = ⟨⟨[]⟩⟩ from rfl, this, List.map_map]
          congr 3
          have : ((fun n : Int => UInt8.ofNat n.toNat) ∘ fun c : UInt8 => (c.toNat : Int)) = (fun c => c) := by funext c; simp
          rw [this, List.map_id']
        simp only [execOp, Sem.run_bind, hxe]
        rw [run_convert_bytes_string w src dst' el (some ⟨b, oo, none⟩) s.length c h1 h4 h2, hrun]
        rfl
      · cases hc
    · cases hc
    · cases hc
    · cases hc
  | call c =>
    obtain ⟨callee, args, argTypes⟩ := c
    simp only [compOp] at hc
    cases callee with
    | value g => simp only at hc; split at hc <;> cases hc
    | invoke r n => simp only at hc; cases hc
    | builtin b =>
      cases b <;> simp only at hc <;> repeat' (first | (cases hc; done) | (obtain ⟨_, hc'⟩ := bif_none hc; cases hc'; done) | split at hc)
  | makeMap t rr => cases rr <;> (simp only [compOp] at hc; cases hc)
  | next it st => cases st <;> simp only [compOp] at hc <;> repeat' (first | (cases hc; done) | split at hc)
  | _ =>
    simp only [compOp] at hc
    repeat' (first | (cases hc; done) | (obtain ⟨_, hc'⟩ := bif_none hc; cases hc'; done) | split at hc)

theorem s2b_run {val : Vals} {j : J} {w : World} (hT : j.tok.cell = (tokT val).cell) (hg : GlobOk P j) {e : Env} {a : Act} (he : ER j e a.tmps) {o : Oper} {ty n : Nat} {x : AX} {s : List UInt8}
    (hc : compOp P o = some (.A (.s2b ty x))) (hx : x.ev e = .x n) (hn : val n = some (.s s)) : ∃ cap w', s.length ≤ cap ∧ (execOp a.eval o).run P w = .ok (.value (.slice (some ⟨w.heap.size, 0, none⟩) s.length cap)) w' ∧
      w'.heap = w.heap.push (.cells (s2bCells s cap) ty (cap, cap + 1)) ∧ w'.os = w.os ∧ w'.tape = w.tape ∧ w'.output = w.output := by
  obtain ⟨dst, op, type, pos, after, gd⟩ := o
  cases op with
  | convert src dst' y =>
    simp only [compOp] at hc
    split at hc
    · cases hc
    · cases hc
    · cases hc
    · split at hc
      · rw [bool_cond] at hc; split at hc <;> cases hc
      · cases hc
    · rename_i el x' h1 h2 h3
      split at hc
      · rename_i h4
        cases hc
        have hxv := cx_VR hg he h3
        rw [hx] at hxv
        simp only [VR, hT, tokT, hn] at hxv
        obtain ⟨c, hc1, hc2⟩ := hxv
        cases hc1
        obtain ⟨cap, w', g1, g2, g3, g4, g5, g6⟩ := stringToBytes_run (P := P) ty s w
        refine ⟨cap, w', g1, ?_, g3, g4, g5, g6⟩
        simp only [Tv.v] at hc2
        simp only [execOp, Sem.run_bind, hc2, convert, run_underlying h1, run_underlying h2, run_underlying h4, Result.andThen_ok, g2]
        rfl
      · cases hc
    · split at hc <;> cases hc
    · cases hc
    · cases hc
    · cases hc
  | call c =>
    obtain ⟨callee, args, argTypes⟩ := c
    simp only [compOp] at hc
    cases callee with
    | value g => simp only at hc; split at hc <;> cases hc
    | invoke r n => simp only at hc; cases hc
    | builtin b =>
      cases b <;> simp only at hc <;> repeat' (first | (cases hc; done) | (obtain ⟨_, hc'⟩ := bif_none hc; cases hc'; done) | split at hc)
  | makeMap t rr => cases rr <;> (simp only [compOp] at hc; cases hc)
  | next it st => cases st <;> simp only [compOp] at hc <;> repeat' (first | (cases hc; done) | split at hc)
  | _ =>
    simp only [compOp] at hc
    repeat' (first | (cases hc; done) | (obtain ⟨_, hc'⟩ := bif_none hc; cases hc'; done) | split at hc)

theorem row_s2b {val : Vals} {wds : Wds} {j : J} {w : World} {B id : Nat} (hT : j.tok = tokB val wds) (hB : B ≤ w.heap.size) (hg : GlobOk P j) {e : Env} {a : Act} (he : ER j e a.tmps) {o : Oper} {ty n : Nat} {x : AX} {l : List UInt8} {cs : List AV}
    (hc : compOp P o = some (.A (.s2b ty x))) (hx : x.ev e = .x n) (hn : val n = some (.s l)) (hcs : cs.map (conc val) = ofBytes l) : AAns P j B a w o id (.sl (some (id, 0)) cs.length none 1) (.row false cs) (some ty) := by
  have hTc : j.tok.cell = (tokT val).cell := by rw [hT]; rfl
  obtain ⟨cap, w', g1, g2, g3, g4, g5, g6⟩ := s2b_run (w := w) hTc hg he hc hx hn
  have hlen : cs.length = l.length := by have := congrArg List.length hcs; rw [List.length_map, ofBytes_length] at this; exact this
  have hsz : (s2bCells l cap).size = cap := by simp [s2bCells]; omega
  refine ⟨_, w', _, cap, g2, g3, g4, g5, g6, ?_, ?_, fun e he => by cases he; exact ⟨_, _, rfl⟩⟩
  · simp only [VR]
    exact ⟨_, cap, by rw [hlen], by omega, fun c' hc => (by cases hc), .inr ⟨_, _, _, J.put_self _ _ _, rfl, fun _ => by omega⟩⟩
  · refine row_born hB g3 ?_ hsz (by omega) (fun i v hv => ?_) (.inr (by simp; omega))
    · refine allOne_of fun i v hv => ?_
      have h1 : (cs.map (conc val))[i]? = some (conc val v) := by rw [List.getElem?_map, hv]; rfl
      rw [hcs] at h1
      have := one_of_allOne (ofBytes_one l) i _ h1
      cases v <;> first | rfl | (simp [conc, AV.one] at this)
    · have h1 : (cs.map (conc val))[i]? = some (conc val v) := by rw [List.getElem?_map, hv]; rfl
      rw [hcs, ofBytes_get, Option.map_eq_some_iff] at h1
      obtain ⟨q, hq, hqe⟩ := h1
      refine ⟨.int .u8 q.toNat, ?_, ?_⟩
      · have hi : i < l.length := (List.getElem?_eq_some_iff.1 hq).1
        unfold s2bCells
        rw [Array.getElem?_append_left (by simp; exact hi)]
        have hq' : l[i] = q := by rw [List.getElem?_eq_getElem hi] at hq; exact Option.some.inj hq
        simp [hi, hq']
      · exact (VR_conc (show (j.put id (w.heap.size, 0, cap)).tok.cell = (tokT val).cell from hTc) _ _).1 (by rw [← hqe]; simp only [VR])

theorem blob_ops {l : List (FuncId × Nat1)} {t : BTab} {val : Vals} {wds : Wds} (hb : BOk val wds t) (hd : ∀ n s, val n = some (.s s) → wds n = none) : OpsOk P (blobS P l t val wds) := by
  refine ⟨tokB_wf val wds, fun po v e a j oper h hj hg he hc => ?_, fun ro v e a j h B w oper hS hj hr hg he hc => ?_, fun o v ob e a j B w id oper h hj hB hg he hid hc => ?_, fun _ _ _ _ _ _ _ _ _ _ h => by simp [blobS] at h⟩
  · have hT : j.tok = tokB val wds := hj
    have hTc : j.tok.cell = (tokT val).cell := by rw [hT]; rfl
    simp only [blobS, opB] at h
    split at h
    · rename_i k hk
      have h1 := hb.T _ (lookT_mem h)
      rw [← evAll_conc val e po.axs (key_noTok val hc hk)] at h1
      have h2 := pk_pev hk h1
      obtain ⟨x, g1, g2⟩ := pev_sound hg (ER_conc hTc he) hc h2
      exact ⟨x, (VR_conc hTc _ _).1 g1, g2⟩
    · split at h
      · rename_i x id n heq
        simp only [PO.axs, evAll, List.cons.injEq, and_true] at heq
        split at h
        · rename_i lo hi hl
          cases h
          obtain ⟨z, ts, tt, el, hop, h1, h2, h3⟩ := lenl_inv hc
          have hx := cx_VR hg he h3
          rw [heq] at hx
          obtain ⟨b, o, t', k, c, g1, g2, g3, g4⟩ := ptrB_len hT hx
          have := hb.lens _ (lenB_mem hl) k g4
          obtain ⟨dst, op, type, pos, after, gd⟩ := oper
          simp only at hop; subst hop
          refine ⟨.int .i64 k, ?_, fun w => by simp [execOp, resolve, invoke, builtin, Builtin.len_, h1, g2, run_underlying h2, goInt]⟩
          simp only [VR]
          exact ⟨k, rfl, by simp only at this; omega, by simp only at this; omega⟩
        · cases h
      · rename_i x i id n kk k _ heq
        simp only [PO.axs, evAll, List.cons.injEq, and_true] at heq
        obtain ⟨hxe, hie⟩ := heq
        split at h
        · rename_i lo hi hl
          obtain ⟨hk, h⟩ := ite_none h
          cases h
          obtain ⟨t1, el, y, q, hop, h1, h2, h3, h4⟩ := iads_inv hc
          have hx := cx_VR hg he h3
          have hi := cx_VR hg he h4
          rw [hxe] at hx; rw [hie] at hi
          have hi := r_int hi
          obtain ⟨b, o, t', m, c, g1, g2, g3, g4⟩ := ptrB_len hT hx
          have hle := (hb.lens _ (lenB_mem hl) m g4).1
          simp only at hle
          have hkm : k < m := by omega
          obtain ⟨dst, op, type, pos, after, gd⟩ := oper
          simp only at hop; subst hop
          refine ⟨.pointer (some ⟨b, o + k.toNat, none⟩), ?_, fun w => ?_⟩
          · simp only [VR]; exact ⟨b, o, t', g1, rfl⟩
          · simp [execOp, g2, hi, Instr.indexAt, asIntOf, run_underlying h1, hk.1, hkm, r_size h2, addr_add]
        · cases h
      · cases h
  · have hT : j.tok = tokB val wds := hj
    have hTc : j.tok.cell = (tokT val).cell := by rw [hT]; rfl
    simp only [blobS, rdB] at hS
    split at hS
    · rename_i s d x v0 heq
      simp only [RO.axs, evAll, List.cons.injEq, and_true] at heq
      subst heq
      exact ucv_sound hr hg he hc hS
    · rename_i x v0 heq
      simp only [RO.axs, evAll, List.cons.injEq, and_true] at heq
      split at hS
      · rename_i id n
        split at hS
        · rename_i m hob
          obtain ⟨hm, hS⟩ := bif_none hS
          simp only [Bool.and_eq_true] at hm
          obtain ⟨hm, hh⟩ := hm
          have hm := Nat.eq_of_beq_eq_true hm
          subst hm
          cases hS
          obtain ⟨s, hs⟩ := hb.blobs _ (hasB_mem hh)
          have hrun := blob_b2s hT hr hg he hc heq hob hs (hd _ _ hs)
          refine ⟨.string ⟨⟨s⟩⟩, w, ?_, hrun, hr, RowKit.Below.refl _ _⟩
          simp only [VR, hT]
          exact ⟨_, hs, rfl⟩
        · cases hS
      · split at hS
        · rename_i cs hcs
          split at hS
          · rename_i n hn
            cases hS
            obtain ⟨l, h1, h2⟩ := hb.R _ (lookRow_mem hn)
            simp only at h1 h2
            rw [← heq] at hcs
            have hrun := b2s_run hTc hr hg he hc hcs (l := l) (by rw [concs_map, h2, toBytes_ofBytes])
            refine ⟨.string ⟨⟨l⟩⟩, w, ?_, hrun, hr, RowKit.Below.refl _ _⟩
            have : conc val (.x n) = .s l := by simp only [conc, h1]; rfl
            exact (VR_conc hTc _ _).1 (by rw [this]; simp only [VR])
          · cases hS
        · cases hS
    · cases hS
  · have hT : j.tok = tokB val wds := hj
    have hTc : j.tok.cell = (tokT val).cell := by rw [hT]; rfl
    simp only [blobS, aoB] at h
    split at h
    · rename_i ty x n heq
      simp only [AO.axs, evAll, List.cons.injEq, and_true] at heq
      split at h
      · rename_i cs hcs
        cases h
        obtain ⟨l, h1, h2⟩ := hb.R _ (lookTok_mem hcs)
        exact row_s2b hT hB hg he hc heq h1 h2
      · obtain ⟨hh, h⟩ := bif_none h
        cases h
        obtain ⟨s, hs⟩ := hb.blobs _ (hasB_mem hh)
        obtain ⟨cap, w', g1, g2, g3, g4, g5, g6⟩ := s2b_run (w := w) hTc hg he hc heq hs
        refine ⟨_, w', _, cap, g2, g3, g4, g5, g6, ?_, ?_, fun e he => by cases he; exact ⟨_, _, rfl⟩⟩
        · simp only [VR]
          refine ⟨_, J.put_self _ _ _, ?_⟩
          show (j.tok).ptr n _ _
          rw [hT]
          exact .inl ⟨s, cap, hs, rfl, g1⟩
        · refine ⟨fun _ => hB, ?_⟩
          show (j.tok).ob n _ _ _
          rw [hT, g3]
          refine ⟨s, s2bCells s cap, ty, (cap, cap + 1), hs, by simp, fun i q hq => ?_⟩
          have hi : i < s.length := (List.getElem?_eq_some_iff.1 hq).1
          rw [Nat.zero_add]
          unfold s2bCells
          rw [Array.getElem?_append_left (by simp; exact hi)]
          have hq' : s[i] = q := by rw [List.getElem?_eq_getElem hi] at hq; exact Option.some.inj hq
          simp [hi, hq']
    · cases h
end
end Ab
end Go.Proofs.YtcoobajkgioflaaGreatDoor
