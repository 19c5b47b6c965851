/- Tokens that stand for whole numbers and strings: what is told of them ahead is told by tables. -/
import Derived.Test.YtcoobajkgioflaaGreatDoorAbLaw
set_option linter.unusedSimpArgs false
set_option linter.unusedVariables false
namespace Go.Proofs.YtcoobajkgioflaaGreatDoor
namespace Ab
section
variable {P : Program}

/-- What a token stands for. -/
inductive Tv where
  | i (k : IntKind) (n : Int)
  | s (l : List UInt8)
def Tv.av : Tv → AV
  | .i k n => .i k n
  | .s l => .s l
def Tv.v : Tv → Value
  | .i k n => .int k n
  | .s l => .string ⟨⟨l⟩⟩
abbrev Vals := Nat → Option Tv
def tokT (val : Vals) : Toks := ⟨fun n v => ∃ c, val n = some c ∧ v = c.v, fun _ _ _ => False, fun _ _ _ _ => False⟩
theorem tokT_wf (val : Vals) : (tokT val).wf := ⟨fun n v ⟨c, _, h⟩ => by
  subst h; cases c <;> exact ⟨rfl, fun b hb => by cases hb⟩, fun _ _ _ h => h.elim⟩

mutual
def conc (val : Vals) : AV → AV
  | .x n => match val n with | some c => c.av | none => .x n
  | .g l => .g (concs val l)
  | .t l => .t (concs val l)
  | v => v
def concs (val : Vals) : List AV → List AV
  | [] => []
  | v :: r => conc val v :: concs val r
end
theorem concs_map (val : Vals) : ∀ l, concs val l = l.map (conc val)
  | [] => rfl
  | v :: r => by simp only [concs, concs_map val r, List.map_cons]

mutual
theorem VR_conc {val : Vals} {j : J} (hT : j.tok.cell = (tokT val).cell) : ∀ (v : AV) (x : Value), VR j (conc val v) x ↔ VR j v x
  | .x n, x => by
    simp only [conc]
    cases h : val n with
    | none => simp only
    | some c =>
      simp only [VR, hT, tokT]
      cases c with
      | i k m => simp only [Tv.av, VR, h]; exact ⟨fun e => ⟨_, rfl, e⟩, fun ⟨c, e1, e2⟩ => by cases e1; exact e2⟩
      | s l => simp only [Tv.av, VR, h]; exact ⟨fun e => ⟨_, rfl, e⟩, fun ⟨c, e1, e2⟩ => by cases e1; exact e2⟩
  | .g l, x => by simp only [conc, VR]; exact ⟨fun ⟨c, e, h⟩ => ⟨c, e, (VRs_conc hT l _).1 h⟩, fun ⟨c, e, h⟩ => ⟨c, e, (VRs_conc hT l _).2 h⟩⟩
  | .t l, x => by simp only [conc, VR]; exact ⟨fun ⟨c, e, h⟩ => ⟨c, e, (VRs_conc hT l _).1 h⟩, fun ⟨c, e, h⟩ => ⟨c, e, (VRs_conc hT l _).2 h⟩⟩
  | .i _ _, _ | .b _, _ | .s _, _ | .p _, _ | .sl _ _ _ _, _ | .m _, _ | .f _ _ _, _ | .nf, _ | .ni, _ | .ifc _ _, _ | .r _ _ _, _ | .any, _ | .u _ _, _ | .y _ _, _ => by simp only [conc]
theorem VRs_conc {val : Vals} {j : J} (hT : j.tok.cell = (tokT val).cell) : ∀ (l : List AV) (xs : List Value), VRs j (concs val l) xs ↔ VRs j l xs
  | [], xs => by simp only [concs]
  | v :: r, xs => by
    simp only [concs, VRs]
    exact ⟨fun ⟨a, b, e, h1, h2⟩ => ⟨a, b, e, (VR_conc hT v a).1 h1, (VRs_conc hT r b).1 h2⟩, fun ⟨a, b, e, h1, h2⟩ => ⟨a, b, e, (VR_conc hT v a).2 h1, (VRs_conc hT r b).2 h2⟩⟩
end

def Tr.map {α β : Type} (f : α → β) : Tr α → Tr β
  | .nil => .nil
  | .node v l r => .node (v.map f) (Tr.map f l) (Tr.map f r)
theorem Tr.get_map {α β : Type} (f : α → β) : ∀ (t : Tr α) (n : Nat), (t.map f).get n = (t.get n).map f
  | .nil, n => rfl
  | .node v l r, 0 => rfl
  | .node v l r, n + 1 => by
    simp only [Tr.map]
    rw [Tr.get_succ, Tr.get_succ]
    split
    · exact Tr.get_map f l _
    · exact Tr.get_map f r _
def concE (val : Vals) (e : Env) : Env := Tr.map (conc val) e
theorem concE_at (val : Vals) (e : Env) (t : Nat) : Env.at (concE val e) t = conc val (Env.at e t) := by
  unfold Env.at concE
  rw [Tr.get_map]
  cases Tr.get e t with
  | none => simp [undefA, conc, concs]
  | some v => rfl
theorem ER_conc {val : Vals} {j : J} (hT : j.tok.cell = (tokT val).cell) {e : Env} {tmps : Array Value} (he : ER j e tmps) : ER j (concE val e) tmps := fun t => by
  rw [concE_at]; exact (VR_conc hT _ _).2 (he t)

/- Constants bear no tokens. -/
theorem ofS_conc (val : Vals) : ∀ {v : Value} {a : AV}, ofS v = some a → conc val a = a := by
  intro v a h
  unfold ofS at h
  split at h <;> first | (cases h; rfl) | (simp at h; done)
theorem allS_conc (val : Vals) : ∀ {vs : List Value} {l : List AV}, allS vs = some l → concs val l = l
  | [], l, h => by simp [allS] at h; subst h; rfl
  | v :: vs, l, h => by
    simp only [allS] at h
    split at h
    · rename_i x hx
      split at h
      · rename_i xs hxs
        cases h
        simp only [concs, ofS_conc val hx, allS_conc val hxs]
      · cases h
    · cases h
theorem ofV_conc (val : Vals) {v : Value} {a : AV} (h : ofV v = some a) : conc val a = a := by
  unfold ofV at h
  split at h
  · split at h
    · rename_i l hl; cases h; simp only [conc, allS_conc val hl]
    · cases h
  · cases h; rfl
  · exact ofS_conc val h
/-- An operand's value, tokens laid open. -/
def NoTok (val : Vals) (x : AX) : Prop := ∀ e, x.ev (concE val e) = conc val (x.ev e)
theorem cx_noTok (val : Vals) {x : Operand} {y : AX} (h : cx P x = some y) : NoTok val y := by
  intro e
  unfold cx at h
  split at h
  · cases h; exact concE_at val e _
  · split at h
    · rename_i hv; cases h; exact (ofV_conc val hv).symm
    · cases h
  · split at h
    · cases h; rfl
    · cases h
  · cases h; rfl
theorem cxs_noTok (val : Vals) : ∀ {xs : List Operand} {ys : List AX}, cxs P xs = some ys → ∀ y ∈ ys, NoTok val y
  | [], ys, h, y, hy => by simp [cxs] at h; subst h; cases hy
  | x :: xs, ys, h, y, hy => by
    simp only [cxs] at h
    split at h
    · rename_i y0 h0
      split at h
      · rename_i ys0 h1
        cases h
        rcases List.mem_cons.1 hy with rfl | hy
        · exact cx_noTok val h0
        · exact cxs_noTok val h1 y hy
      · cases h
    · cases h
theorem cxo_noTok (val : Vals) {x : Option Operand} {y : Option AX} (h : cxo P x = some y) : ∀ z, y = some z → NoTok val z := by
  intro z hz
  cases x with
  | none => simp [cxo] at h; subst h; cases hz
  | some x =>
    simp only [cxo] at h
    split at h
    · rename_i y0 h0; cases h; cases hz; exact cx_noTok val h0
    · cases h

theorem cxo_opt (val : Vals) {x : Option Operand} {y : Option AX} (h : cxo P x = some y) : ∀ z ∈ optA y, NoTok val z := by
  intro z hz
  cases y with
  | none => simp [optA] at hz
  | some q => simp only [optA, List.mem_singleton] at hz; subst hz; exact cxo_noTok val h _ rfl

/-- The operations on tokens that tables tell of. -/
inductive PK where
  | bin (op : BinOp)
  | lens
  | ixs
  | sls (lo hi : Bool)
  | mm (mx : Bool)
  | ci (k : IntKind)
  deriving DecidableEq, Inhabited
def PO.key : PO → Option PK
  | .bin op _ _ => some (.bin op)
  | .lens _ => some .lens
  | .ixs _ _ => some .ixs
  | .sls _ lo hi => some (.sls lo.isSome hi.isSome)
  | .mm mx _ _ => some (.mm mx)
  | .ci k _ => some (.ci k)
  | _ => none
/-- A slice expression over a string, its bounds as values. -/
def slsV (l : List UInt8) (lo hi : Option AV) : Option AV :=
  match (match hi with | some v => bndA v l.length | none => some l.length) with
  | some h => match (match lo with | some v => bndA v h | none => some 0) with
    | some a => some (.s (sub l a (Nat.sub h a)))
    | none => none
  | none => none
def pk : PK → List AV → Option AV
  | .bin op, [x, y] => binR op x y
  | .lens, [.s l] => some (.i .i64 l.length)
  | .ixs, [.s l, .i _ k] => if 0 ≤ k then (idx? l k.toNat).map (fun c => .i .u8 c.toNat) else none
  | .sls false false, [.s l] => slsV l none none
  | .sls true false, [.s l, a] => slsV l (some a) none
  | .sls false true, [.s l, b] => slsV l none (some b)
  | .sls true true, [.s l, a, b] => slsV l (some a) (some b)
  | .mm mx, x :: xs => mmA mx x xs
  | .ci k, [.i _ n] => some (.i k (k.wrap n))
  | _, _ => none
theorem key_noTok (val : Vals) {o : Oper} {po : PO} {k : PK} (hc : compOp P o = some (.P po)) (hk : po.key = some k) : ∀ x ∈ po.axs, NoTok val x := by
  obtain ⟨dst, op, type, pos, after, gd⟩ := o
  have one : ∀ {x : Operand} {y : AX}, cx P x = some y → ∀ z ∈ [y], NoTok val z := fun h z hz => by
    rw [List.mem_singleton] at hz; subst hz; exact cx_noTok val h
  cases op with
  | binOp op t x y q =>
    simp only [compOp] at hc
    split at hc
    case h_2 => cases hc
    rename_i q' hq
    cases hc
    unfold compBin at hq
    split at hq
    case h_2 => cases hq
    rename_i a b ha hb
    have two : ∀ z ∈ [a, b], NoTok val z := fun z hz => by
      rcases List.mem_cons.1 hz with rfl | hz
      · exact cx_noTok val ha
      · exact one hb z hz
    split at hq
    · unfold isniOp at hq
      split at hq <;> cases hq <;> simp [PO.key] at hk
    · obtain ⟨_, hq⟩ := bif_none' hq
      unfold eqgOp at hq
      split at hq <;> cases hq <;> simp [PO.key] at hk
    · cases hq; exact two
    · cases hq; exact two
    all_goals first
      | (cases hq; done)
      | (unfold eqkOp at hq; split at hq <;> cases hq <;> simp [PO.key] at hk; done)
      | (split at hq <;> first | (cases hq; done) | (unfold eqkOp at hq; split at hq <;> cases hq <;> simp [PO.key] at hk))
  | convert src dst' x =>
    simp only [compOp] at hc
    split at hc
    · rename_i hx; cases hc; exact one hx
    · rename_i hx; cases hc; simp [PO.key] at hk
    · rename_i hx; cases hc; simp [PO.key] at hk
    all_goals (try (split at hc)) <;> first | (cases hc; done) | (rw [bool_cond] at hc; split at hc <;> cases hc)
  | slice t x lo hi mx =>
    simp only [compOp] at hc
    split at hc
    · rename_i hx hlo hhi hmx
      cases hc
      intro z hz
      simp only [PO.axs, List.mem_cons, List.mem_append] at hz
      rcases hz with rfl | hz | hz
      · exact cx_noTok val hx
      · exact cxo_opt val hlo z hz
      · exact cxo_opt val hhi z hz
    all_goals (try (split at hc)) <;> first | (cases hc; done) | (cases hc; simp [PO.key] at hk)
  | index t x i =>
    simp only [compOp] at hc
    split at hc
    · rename_i hx hi
      cases hc
      intro z hz
      simp only [PO.axs, List.mem_cons] at hz
      rcases hz with rfl | hz
      · exact cx_noTok val hx
      · exact one hi z (by simpa using hz)
    all_goals (try (split at hc)) <;> first | (cases hc; done) | (cases hc; simp [PO.key] at hk)
  | call c =>
    obtain ⟨callee, args, argTypes⟩ := c
    simp only [compOp] at hc
    cases callee with
    | value g => simp only at hc; split at hc <;> cases hc
    | invoke r n => simp only at hc; cases hc
    | builtin b =>
      cases b with
      | len =>
        simp only at hc
        split at hc
        · rename_i h2; cases hc; exact fun z hz => cxs_noTok val h2 z hz
        all_goals first | (cases hc; done) | (cases hc; simp [PO.key] at hk)
      | max =>
        simp only at hc
        split at hc
        · rename_i h2; cases hc; exact fun z hz => cxs_noTok val h2 z hz
        · cases hc
      | min =>
        simp only at hc
        split at hc
        · rename_i h2; cases hc; exact fun z hz => cxs_noTok val h2 z hz
        · cases hc
      | _ => simp only at hc <;> repeat' (first | (cases hc; done) | (cases hc; simp [PO.key] at hk; done) | (obtain ⟨_, hc'⟩ := bif_none hc; cases hc'; done) | split at hc)
  | makeMap t rr => cases rr <;> (simp only [compOp] at hc; cases hc)
  | next it st => cases st <;> simp only [compOp] at hc <;> repeat' (first | (cases hc; done) | split at hc)
  | _ =>
    simp only [compOp] at hc
    repeat' (first | (cases hc; done) | (cases hc; simp [PO.key] at hk; done) | (obtain ⟨_, hc'⟩ := bif_none hc; cases hc'; done) | split at hc)

theorem evAll_conc (val : Vals) (e : Env) : ∀ (l : List AX), (∀ x ∈ l, NoTok val x) → evAll (concE val e) l = (evAll e l).map (conc val)
  | [], _ => rfl
  | x :: r, h => by simp only [evAll, List.map_cons, h x (by simp) e, evAll_conc val e r fun y hy => h y (by simp [hy])]
/-- What the tables' operations come to, in the interpreter. -/
theorem pk_pev {e : Env} {po : PO} {k : PK} {v : AV} (hk : po.key = some k) (h : pk k (evAll e po.axs) = some v) : pev e po = some v := by
  cases po with
  | bin op x y => simp only [PO.key] at hk; cases hk; simpa only [PO.axs, evAll, pk, pev] using h
  | lens x =>
    simp only [PO.key] at hk; cases hk
    simp only [PO.axs, evAll, pev] at h ⊢
    generalize x.ev e = a at h ⊢
    cases a <;> simp only [pk] at h <;> first | cases h | skip
    rfl
  | ixs x y =>
    simp only [PO.key] at hk; cases hk
    simp only [PO.axs, evAll, pev] at h ⊢
    generalize x.ev e = a at h ⊢
    generalize y.ev e = b at h ⊢
    cases a <;> simp only [pk] at h <;> first | cases h | skip
    cases b <;> simp only [pk] at h <;> first | cases h | skip
    exact h
  | sls x lo hi =>
    simp only [PO.key] at hk; cases hk
    simp only [PO.axs, pev] at h ⊢
    cases lo with
    | none => cases hi with
      | none =>
        simp only [optA, List.append_nil, evAll, Option.isSome] at h
        generalize x.ev e = a at h ⊢
        cases a <;> simp only [pk] at h <;> first | cases h | skip
        simp [slsV, bnds, bM, bH, bL]
      | some q =>
        simp only [optA, List.nil_append, evAll, Option.isSome] at h
        generalize x.ev e = a at h ⊢
        cases a <;> simp only [pk] at h <;> first | cases h | skip
        simp only [slsV] at h
        simp only [bnds, bM, bH, bL, topA]
        split at h
        · rename_i hh; rw [hh]; simpa using h
        · cases h
    | some p => cases hi with
      | none =>
        simp only [optA, List.append_nil, evAll, Option.isSome] at h
        generalize x.ev e = a at h ⊢
        cases a <;> simp only [pk] at h <;> first | cases h | skip
        simp only [slsV] at h
        simp only [bnds, bM, bH, bL, topA]
        split at h
        · rename_i hh; rw [hh]; simpa using h
        · cases h
      | some q =>
        simp only [optA, evAll, Option.isSome, List.cons_append, List.nil_append] at h
        generalize x.ev e = a at h ⊢
        cases a <;> simp only [pk] at h <;> first | cases h | skip
        simp only [slsV] at h
        simp only [bnds, bM, bH, bL, topA]
        split at h
        · rename_i h1
          rw [h1]; simp only
          split at h
          · rename_i h2; rw [h2]; simpa using h
          · cases h
        · cases h
  | mm mx x xs => simp only [PO.key] at hk; cases hk; simpa only [PO.axs, evAll, pk, pev] using h
  | ci k x =>
    simp only [PO.key] at hk; cases hk
    simp only [PO.axs, evAll, pev] at h ⊢
    generalize x.ev e = a at h ⊢
    cases a <;> simp only [pk] at h <;> first | cases h | skip
    rfl
  | _ => simp [PO.key] at hk

/-- A table: an operation, what it is used on, what it comes to. -/
abbrev Tab := List (PK × List AV × AV)
def lookT (k : PK) (as : List AV) : Tab → Option AV
  | [] => none
  | (k', bs, v) :: r => bif decide (k = k') && likes as bs then some v else lookT k as r
def TabOk (val : Vals) (T : Tab) : Prop := ∀ q ∈ T, pk q.1 (q.2.1.map (conc val)) = some (conc val q.2.2)
/-- Rows of bytes that are tokens' bytes. -/
abbrev RowTab := List (List AV × Nat)
def lookRow (cs : List AV) : RowTab → Option Nat
  | [] => none
  | (l, n) :: r => bif likes cs l then some n else lookRow cs r
def lookTok (n : Nat) : RowTab → Option (List AV)
  | [] => none
  | (l, m) :: r => bif Nat.beq n m then some l else lookTok n r
def RowOk (val : Vals) (R : RowTab) : Prop := ∀ q ∈ R, ∃ l, val q.2 = some (.s l) ∧ q.1.map (conc val) = ofBytes l

/-- Summaries of functions, and tables. -/
def tabS (l : List (FuncId × Nat1)) (T : Tab) (R : RowTab) (val : Vals) : Sums where
  fn := look l
  op po as := match po.key with
    | some k => lookT k as T
    | none => none
  rd ro as h := match ro, as with
    | .b2s _, [v] => match rowOf h 1 v with
      | some cs => match lookRow cs R with
        | some n => some (.x n)
        | none => none
      | none => none
    | _, _ => none
  ao o as id := match o, as with
    | .s2b _ _, [.x n] => match lookTok n R with
      | some cs => some (.sl (some (id, 0)) cs.length none 1, .row false cs)
      | none => none
    | _, _ => none
  eo _ _ _ := none
  tok := tokT val

theorem lookT_mem {k : PK} {as : List AV} {v : AV} : ∀ {T : Tab}, lookT k as T = some v → (k, as, v) ∈ T
  | [], h => by cases h
  | (k', bs, u) :: r, h => by
    simp only [lookT, bool_cond] at h
    split at h
    · rename_i hh
      simp only [Bool.and_eq_true, decide_eq_true_eq] at hh
      cases h
      rw [hh.1, likes_eq _ _ hh.2]; exact List.mem_cons_self ..
    · exact List.mem_cons_of_mem _ (lookT_mem h)
theorem lookRow_mem {cs : List AV} {n : Nat} : ∀ {R : RowTab}, lookRow cs R = some n → (cs, n) ∈ R
  | [], h => by cases h
  | (l, m) :: r, h => by
    simp only [lookRow, bool_cond] at h
    split at h
    · rename_i hh; cases h; rw [likes_eq _ _ hh]; exact List.mem_cons_self ..
    · exact List.mem_cons_of_mem _ (lookRow_mem h)
theorem lookTok_mem {cs : List AV} {n : Nat} : ∀ {R : RowTab}, lookTok n R = some cs → (cs, n) ∈ R
  | [], h => by cases h
  | (l, m) :: r, h => by
    simp only [lookTok, bool_cond] at h
    split at h
    · rename_i hh; rw [nat_beq] at hh; cases h; rw [of_decide_eq_true hh]; exact List.mem_cons_self ..
    · exact List.mem_cons_of_mem _ (lookTok_mem h)
theorem toBytes_ofBytes : ∀ l, toBytes (ofBytes l) = some l
  | [] => rfl
  | c :: r => by simp [ofBytes, toBytes, toBytes_ofBytes r]
theorem b2s_run {val : Vals} {j : J} {h : AH} {B : Nat} {w : World} (hT : j.tok.cell = (tokT val).cell) (r : Rep j h B w) (hg : GlobOk P j) {e : Env} {a : Act} (he : ER j e a.tmps) {o : Oper} {x : AX} {cs : List AV} {l : List UInt8}
    (hc : compOp P o = some (.R (.b2s x))) (hcs : rowOf h 1 (x.ev e) = some cs) (hb : toBytes (concs val cs) = some l) : (execOp a.eval o).run P w = .ok (.value (.string ⟨⟨l⟩⟩)) w := by
  obtain ⟨dst, op, type, pos, after, gd⟩ := o
  cases op with
  | convert src dst' y =>
    simp only [compOp] at hc
    split at hc
    · cases hc
    · cases hc
    · cases hc
    · split at hc
      · rw [bool_cond] at hc; split at hc <;> cases hc
      · cases hc
    · split at hc <;> cases hc
    · rename_i el x' h1 h2 h3
      split at hc
      · rename_i h4
        cases hc
        have hx := cx_VR hg he h3
        obtain ⟨ad, len, c, xs, hx', hlc, hxs, hlen, hnil, hcell, _⟩ := r.rowOf hx hcs
        obtain ⟨ns, hns, hl⟩ := toBytes_ok ((VRs_conc hT _ _).2 hxs) hb
        have hrun : (Conv.bytesToString (.slice ad len c)).run P w = .ok (.string ⟨⟨l⟩⟩) w := by
          cases ad with
          | none =>
            obtain ⟨hx0, hl0⟩ := hnil rfl
            have : ns = [] := by rw [hx0] at hns; simpa using hns.symm
            subst this
            simp only [List.map_nil] at hl; subst hl
            simp [Conv.bytesToString]; rfl
          | some ad =>
            have hlc := run_loadCells_list (P := P) w ad xs (hcell ad rfl)
            have hlx : xs.length = len := by rw [← hxs.length, hlen, Nat.mul_one]
            rw [hlx, hns] at hlc
            rw [run_bytesToString w ad len c ns hlc]
            have := fold_push ns []
            simp only [List.nil_append] at this
            rw [show (ByteArray.empty : ByteArray) = ⟨⟨[]⟩⟩ from rfl, this, hl]
        simp only [execOp, Sem.run_bind, hx']
        rw [run_convert_bytes_string w src dst' el ad len c h1 h4 h2, hrun]
        rfl
      · cases hc
    · cases hc
    · cases hc
    · cases hc
  | call c =>
    obtain ⟨callee, args, argTypes⟩ := c
    simp only [compOp] at hc
    cases callee with
    | value g => simp only at hc; split at hc <;> cases hc
    | invoke r n => simp only at hc; cases hc
    | builtin b =>
      cases b <;> simp only at hc <;> repeat' (first | (cases hc; done) | (obtain ⟨_, hc'⟩ := bif_none hc; cases hc'; done) | split at hc)
  | makeMap t rr => cases rr <;> (simp only [compOp] at hc; cases hc)
  | next it st => cases st <;> simp only [compOp] at hc <;> repeat' (first | (cases hc; done) | split at hc)
  | _ =>
    simp only [compOp] at hc
    repeat' (first | (cases hc; done) | (obtain ⟨_, hc'⟩ := bif_none hc; cases hc'; done) | split at hc)
theorem s2b_inv {o : Oper} {t : Nat} {x : AX} (h : compOp P o = some (.A (.s2b t x))) : ∃ s d y, o.op = .convert s d y ∧ cx P y = some x := by
  obtain ⟨dst, op, type, pos, after, gd⟩ := o
  cases op with
  | convert s d y =>
    refine ⟨s, d, y, rfl, ?_⟩
    simp only [compOp] at h
    repeat' (first | (cases h; done) | (cases h; assumption) | (obtain ⟨_, hc'⟩ := bif_none h; cases hc'; done) | split at h)
  | call c =>
    obtain ⟨callee, args, argTypes⟩ := c
    simp only [compOp] at h
    cases callee with
    | value g => simp only at h; split at h <;> cases h
    | invoke r n => simp only at h; cases h
    | builtin b =>
      cases b <;> simp only at h <;> repeat' (first | (cases h; done) | (obtain ⟨_, hc'⟩ := bif_none h; cases hc'; done) | split at h)
  | makeMap t rr => cases rr <;> (simp only [compOp] at h; cases h)
  | next it st => cases st <;> simp only [compOp] at h <;> repeat' (first | (cases h; done) | split at h)
  | _ =>
    simp only [compOp] at h
    repeat' (first | (cases h; done) | (obtain ⟨_, hc'⟩ := bif_none h; cases hc'; done) | split at h)

theorem allOne_conc (val : Vals) : ∀ l, allOne l = true → allOne (concs val l) = true
  | [], _ => rfl
  | v :: r, h => by
    simp only [allOne, concs, Bool.and_eq_true] at h ⊢
    refine ⟨?_, allOne_conc val r h.2⟩
    cases v with
    | x n => simp only [conc]; cases val n with
      | none => rfl
      | some c => cases c <;> rfl
    | g l => simp [AV.one] at h
    | t l => simp [AV.one] at h
    | _ => rfl
theorem concs_get (val : Vals) (l : List AV) (i : Nat) : (concs val l)[i]? = (l[i]?).map (conc val) := by rw [concs_map]; simp
theorem tab_ops {l : List (FuncId × Nat1)} {T : Tab} {R : RowTab} {val : Vals} (hT : TabOk val T) (hR : RowOk val R) : OpsOk P (tabS l T R val) := by
  refine ⟨tokT_wf val, fun po v e a j oper h hj0 hg he hc => ?_, fun ro v e a j h B w oper hS hj0 hr hg he hc => ?_, fun o v ob e a j B w id oper h hj0 hB hg he hid hc => ?_, fun _ _ _ _ _ _ _ _ _ _ h => by simp [tabS] at h⟩
  · have hj : j.tok.cell = (tokT val).cell := by rw [hj0]; rfl
    simp only [tabS] at h
    split at h
    · rename_i k hk
      have h1 := hT _ (lookT_mem h)
      rw [← evAll_conc val e po.axs (key_noTok val hc hk)] at h1
      have h2 := pk_pev hk h1
      obtain ⟨x, g1, g2⟩ := pev_sound hg (ER_conc hj he) hc h2
      exact ⟨x, (VR_conc hj _ _).1 g1, g2⟩
    · cases h
  · have hj : j.tok.cell = (tokT val).cell := by rw [hj0]; rfl
    simp only [tabS] at hS
    split at hS
    · rename_i x v0 heq
      simp only [RO.axs, evAll, List.cons.injEq, and_true] at heq
      split at hS
      · rename_i cs hcs
        split at hS
        · rename_i n hn
          cases hS
          obtain ⟨l, h1, h2⟩ := hR _ (lookRow_mem hn)
          simp only at h1 h2
          subst heq
          have hrun := b2s_run hj hr hg he hc hcs (l := l) (by rw [concs_map, h2, toBytes_ofBytes])
          refine ⟨.string ⟨⟨l⟩⟩, w, ?_, hrun, hr, RowKit.Below.refl _ _⟩
          have : conc val (.x n) = .s l := by simp only [conc, h1]; rfl
          exact (VR_conc hj _ _).1 (by rw [this]; simp only [VR])
        · cases hS
      · cases hS
    · cases hS
  · have hj : j.tok.cell = (tokT val).cell := by rw [hj0]; rfl
    simp only [tabS] at h
    split at h
    · rename_i ty x n heq
      simp only [AO.axs, evAll, List.cons.injEq, and_true] at heq
      split at h
      · rename_i cs hcs
        cases h
        obtain ⟨l, h1, h2⟩ := hR _ (lookTok_mem hcs)
        simp only at h1 h2
        obtain ⟨s, d, y, hop, hy⟩ := s2b_inv hc
        have hx : x.ev (concE val e) = .s l := by
          rw [cx_noTok val hy e, heq]; simp only [conc, h1]; rfl
        have hev : aev (concE val e) id (.s2b ty x) = some (.sl (some (id, 0)) l.length none 1, .row false (ofBytes l)) := by simp only [aev, hx]
        obtain ⟨xv, w', obj, t, g1, g2, g3, g4, g5, g6, g7, g8⟩ := aev_sound hB hg (ER_conc hj he) hid hc hev
        have hlen : cs.length = l.length := by
          have := congrArg List.length h2
          rw [List.length_map, ofBytes_length] at this; exact this
        refine ⟨xv, w', obj, t, g1, g2, g3, g4, g5, by rw [hlen]; exact g6, ?_, g8⟩
        rw [← h2] at g7
        obtain ⟨k0, k1, c, ee, fr, k2, k3, k4, k5, k6⟩ := g7
        refine ⟨k0, ?_, c, ee, fr, k2, k3, by rw [hlen]; rw [h2, ofBytes_length] at k4; exact k4, fun i v hv => ?_, k6⟩
        · exact allOne_of fun i v hv => by
            have := one_of_allOne k1 i (conc val v) (by simp [hv])
            cases v <;> first | rfl | (simp [conc, AV.one] at this)
        · obtain ⟨xx, m1, m2⟩ := k5 i (conc val v) (by simp [hv])
          exact ⟨xx, m1, (VR_conc (show (j.put id (w.heap.size, 0, t)).tok.cell = (tokT val).cell from hj) _ _).1 m2⟩
      · cases h
    · cases h

/- Values that look at no memory. -/
def scal : AV → Bool
  | .i _ _ | .s _ | .b _ => true
  | _ => false
theorem scal_VR {j j' : J} {a : AV} (h : scal a = true) {x : Value} (hx : VR j a x) : VR j' a x := by
  cases a <;> simp only [scal] at h <;> first | (simp only [VR] at hx ⊢; exact hx; done) | cases h
theorem scal_VRs {j j' : J} : ∀ {l : List AV}, l.all scal = true → ∀ {xs : List Value}, VRs j l xs → VRs j' l xs
  | [], _, xs, h => h
  | a :: l, ha, xs, h => by
    simp only [List.all_cons, Bool.and_eq_true] at ha
    simp only [VRs] at h ⊢
    obtain ⟨v, r, e, h1, h2⟩ := h
    exact ⟨v, r, e, scal_VR ha.1 h1, scal_VRs ha.2 h2⟩
theorem size_le_of_glob {j : J} {h : AH} {B : Nat} {w : World} (hr : Rep j h B w) (hg : GlobOk P j) : P.globals.size ≤ w.heap.size := by
  cases hz : P.globals.size with
  | zero => omega
  | succ m =>
    obtain ⟨t, ht⟩ := hg m (by omega)
    have := hr.lt _ _ _ _ ht
    omega
/-- What a closed run at plain values tells, it tells in whatever world. -/
theorem closed_any {S : Sums} (hmix : P.follows .mixedOrders = true) (hfp : fitsP P = true) (hO : OpsOk P S) (hsum : SumsOk P S) {n : Nat} {f : FuncId} {as : List AV} {r : AV} {h1 : AH}
    (hev : evF P S n f as (h0 P.globals.size) = some (r, h1)) (he : entersB P f = true) (ha : as.all scal = true) (hs : scal r = true)
    {j : J} {h : AH} {B : Nat} {w : World} {xs : List Value} (hr : Rep j h B w) (hg : GlobOk P j) (hx : VRs j as xs) : Invokes P f ⟨xs⟩ w (Answers j h B w r h) := by
  have hw := size_le_of_glob hr hg
  have hi := evF_sound (j := jG P.globals.size S hO.wf) hmix hfp hO hsum hev rfl (jG_rep (Nat.le_refl _) hw) jG_glob (scal_VRs ha hx)
  refine .inl ⟨?_, (hi.calls' he).mono fun e w' hA => ?_⟩
  · rcases hi with ⟨h, _⟩ | ⟨x, w', h, _⟩
    · exact h
    · unfold entersB at he
      split at he
      · rename_i fn hf
        simp only [Bool.and_eq_true, Bool.not_eq_true'] at he
        obtain ⟨c, hc⟩ := Option.isSome_iff_exists.1 he.1
        rw [callFunc_enter hf hc he.2] at h; cases h
      · cases he
  · obtain ⟨x, j', rfl, hv, _, _, _, hb⟩ := hA
    refine ⟨x, j, rfl, scal_VR hs hv, ?_, J.ext_refl _ _, Nat.le_refl _, hb.mono hr.base⟩
    refine ⟨hr.fresh, fun id ob b o t q1 q2 => (hr.objs id ob b o t q1 q2).keep (J.le_refl j) (hb.block b (hr.lt id b o t q2)), hr.sep, fun id b o t hl => ?_, ?_, fun id e b o t q1 q2 => by
        obtain ⟨q3, c, fr, q4⟩ := hr.tys id e b o t q1 q2
        exact ⟨q3, c, fr, by rw [hb.block b (hr.lt id b o t q2)]; exact q4⟩⟩
    · exact Nat.lt_of_lt_of_le (hr.lt id b o t hl) hb.size
    · exact Nat.le_trans hr.base hb.size
/-- Does a run answer this plain value? -/
def answers (v : AV) : Option (AV × AH) → Bool
  | some (u, _) => like u v
  | none => false
theorem answers_spec {v : AV} {r : Option (AV × AH)} (h : answers v r = true) : ∃ h', r = some (v, h') := by
  unfold answers at h
  split at h
  · rename_i u k; exact ⟨k, by rw [like_eq _ _ h]⟩
  · cases h

/-- A summary of tokens out of one of plain values. -/
theorem NatOk.tok {val : Vals} {T : Toks} (hTc : T.cell = (tokT val).cell) {f : FuncId} {g g' : Nat1} (h : NatOk P T f g')
    (hg : ∀ as m v m', g as m = some (v, m') → g' (concs val as) m = some (conc val v, m')) : NatOk P T f g := by
  intro as m v m' j B w xs hs hT0 hr hgl hx
  have hT : j.tok.cell = (tokT val).cell := by rw [hT0]; exact hTc
  have := h _ _ _ _ j B w xs (hg _ _ _ _ hs) hT0 hr hgl ((VRs_conc hT _ _).2 hx)
  have mono : ∀ e w', Answers j m B w (conc val v) m' e w' → Answers j m B w v m' e w' := fun e w' ⟨x, j', e1, h1, h2, h3, h4, h5⟩ =>
    ⟨x, j', e1, (VR_conc (show j'.tok.cell = (tokT val).cell by rw [h3.tok]; exact hT) _ _).1 h1, h2, h3, h4, h5⟩
  rcases this with ⟨h1, h2⟩ | ⟨x, w', h1, h2⟩
  · exact .inl ⟨h1, h2.mono mono⟩
  · exact .inr ⟨x, w', h1, mono _ _ h2⟩

/- Tables, piece by piece. -/
theorem TabOk.app {val : Vals} {A B : Tab} (h : TabOk val A) (k : TabOk val B) : TabOk val (A ++ B) := fun q hq => by
  rcases List.mem_append.1 hq with hq | hq
  · exact h q hq
  · exact k q hq
theorem TabOk.flat {α : Type} {val : Vals} {f : α → Tab} : ∀ {l : List α}, (∀ x ∈ l, TabOk val (f x)) → TabOk val (l.flatMap f) := fun h q hq => by
  obtain ⟨x, hx, hq⟩ := List.mem_flatMap.1 hq
  exact h x hx q hq
theorem TabOk.nil {val : Vals} : TabOk val [] := fun q hq => by cases hq
theorem TabOk.cons {val : Vals} {k : PK} {as : List AV} {v : AV} {T : Tab} (h : pk k (as.map (conc val)) = some (conc val v)) (ht : TabOk val T) : TabOk val ((k, as, v) :: T) := fun q hq => by
  rcases List.mem_cons.1 hq with rfl | hq
  · exact h
  · exact ht q hq
/-- How one number stands to another one. -/
def cmpT (x y : AV) (o : Ordering) : Tab :=
  [(.bin .lss, [x, y], .b (match o with | .lt => true | _ => false)), (.bin .leq, [x, y], .b (match o with | .gt => false | _ => true)), (.bin .gtr, [x, y], .b (match o with | .gt => true | _ => false)),
    (.bin .geq, [x, y], .b (match o with | .lt => false | _ => true)), (.bin .eql, [x, y], .b (match o with | .eq => true | _ => false)), (.bin .neq, [x, y], .b (match o with | .eq => false | _ => true))]
theorem cmpT_ok {val : Vals} {x y : AV} {o : Ordering} {k : IntKind} {n m : Int} (hx : conc val x = .i k n) (hy : conc val y = .i k m) (h : match o with | .lt => n < m | .eq => n = m | .gt => m < n) : TabOk val (cmpT x y o) := by
  have e : ∀ op : BinOp, ∀ t : Bool, binA op (.i k n) (.i k m) = some (.b t) → pk (.bin op) ([x, y].map (conc val)) = some (conc val (.b t)) := by
    intro op t ht
    simp only [List.map_cons, List.map_nil, pk, hx, hy, conc, binR, ht]
  unfold cmpT
  cases o <;> simp only at h <;> refine .cons (e _ _ ?_) (.cons (e _ _ ?_) (.cons (e _ _ ?_) (.cons (e _ _ ?_) (.cons (e _ _ ?_) (.cons (e _ _ ?_) .nil))))) <;>
    simp only [binA, if_true, Option.some.injEq, AV.b.injEq, decide_eq_true_eq, decide_eq_false_iff_not, beq_iff_eq, bne_iff_ne, beq_eq_false_iff_ne, bne_eq_false_iff_eq] <;> omega
/-- Two texts are one, or not. -/
def eqT (b : Bool) (x y : AV) : Tab := [(.bin .eql, [x, y], .b b), (.bin .neq, [x, y], .b !b)]
theorem eqT_ok {val : Vals} {x y : AV} {b : Bool} {l m : List UInt8} (hx : conc val x = .s l) (hy : conc val y = .s m) (h : (l == m) = b) : TabOk val (eqT b x y) := by
  unfold eqT
  refine .cons ?_ (.cons ?_ .nil) <;> simp only [List.map_cons, List.map_nil, pk, hx, hy, conc, binR, binA, h]
end
end Ab
end Go.Proofs.YtcoobajkgioflaaGreatDoor
