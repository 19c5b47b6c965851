/- The operations that read memory, and those that make an object. -/
import Derived.Test.YtcoobajkgioflaaGreatDoorAbHeap
set_option linter.unusedSimpArgs false
set_option linter.unusedVariables false
namespace Go.Proofs.YtcoobajkgioflaaGreatDoor
namespace Ab
section
variable {P : Program}

/-- A slice's cells. -/
theorem Rep.rowOf {j : J} {h : AH} {B : Nat} {w : World} (r : Rep j h B w) {n : Nat} {v : AV} {x : Value} {cs : List AV} (hx : VR j v x) (hr : rowOf h n v = some cs) :
    ∃ ad len c xs, x = .slice ad len c ∧ len ≤ c ∧ VRs j cs xs ∧ cs.length = len * n ∧ (ad = none → xs = [] ∧ len = 0) ∧ (∀ a, ad = some a → ∀ (i : Nat) (y : Value), xs[i]? = some y → w.cell? (a.add i) = some y) ∧ (∃ a' c' e', v = .sl a' len c' e') := by
  unfold Ab.rowOf at hr
  split at hr
  · cases hr
    simp only [VR] at hx
    obtain ⟨_, hc, hx⟩ := hx
    exact ⟨none, 0, 0, [], hx, Nat.le_refl _, by simp [VRs], by simp, fun _ => ⟨rfl, rfl⟩, fun a ha => (by cases ha), ⟨_, _, _, rfl⟩⟩
  · rename_i id o len cap es
    simp only [VR] at hx
    obtain ⟨a, c, hx, hlc, _, hor⟩ := hx
    rw [nat_beq] at hr
    by_cases hl : len = 0
    · subst hl
      simp only [decide_true, cond_true] at hr
      cases hr
      exact ⟨some a, 0, c, [], hx, hlc, by simp [VRs], by simp, fun h => (by cases h), fun a' _ i y hy => (by simp at hy), ⟨_, _, _, rfl⟩⟩
    · simp only [hl, decide_false, cond_false] at hr
      split at hr
      · rename_i ro l hrow
        obtain ⟨hle, hr⟩ := bif_none hr
        rw [nat_ble] at hle
        simp only [decide_eq_true_eq] at hle
        cases hr
        rcases hor with h0 | ⟨b, o', t, hj, had, _⟩
        · omega
        · have hc := r.cells hrow hj
          obtain ⟨xs, h1, h2⟩ := cells_list (j := j) (w := w) (b := b) (sub l o (len * n)) (o' + o) (fun i v hv => by
              rw [Nat.add_assoc]; exact hc (o + i) v (sub_cells hv))
          refine ⟨some a, len, c, xs, hx, hlc, h1, sub_length _ _ _ hle, fun h => (by cases h), fun a' ha' => ?_, ⟨_, _, _, rfl⟩⟩
          cases ha'
          rw [had]; exact h2
      · cases hr
  · cases hr

theorem toBytes_ok {j : J} : ∀ {cs : List AV} {xs : List Value} {l : List UInt8}, VRs j cs xs → toBytes cs = some l → ∃ ns : List Int, xs = ns.map (Value.int .u8) ∧ l = ns.map fun n => UInt8.ofNat n.toNat
  | [], xs, l, h, hb => by
    simp only [VRs] at h; subst h
    simp only [toBytes] at hb; cases hb
    exact ⟨[], rfl, rfl⟩
  | a :: cs, xs, l, h, hb => by
    simp only [VRs] at h
    obtain ⟨v, r, rfl, hv, h⟩ := h
    unfold toBytes at hb
    split at hb
    · rename_i heq; cases heq
    · rename_i n r' heq
      injection heq with h1 h2
      subst h1; subst h2
      split at hb
      · rename_i l' hl'
        cases hb
        obtain ⟨ns, h1, h2⟩ := toBytes_ok h hl'
        have hv := r_int hv
        subst hv
        exact ⟨n :: ns, by simp [h1], by simp [h2]⟩
      · cases hb
    · cases hb

theorem fold_push : ∀ (ns : List Int) (acc : List UInt8), ns.foldl (fun (r : ByteArray) n => r.push (UInt8.ofNat n.toNat)) ⟨⟨acc⟩⟩ = ⟨⟨acc ++ ns.map fun n => UInt8.ofNat n.toNat⟩⟩
  | [], acc => by simp
  | n :: ns, acc => by
    simp only [List.foldl_cons, List.map_cons]
    rw [show (⟨⟨acc⟩⟩ : ByteArray).push (UInt8.ofNat n.toNat) = ⟨⟨acc ++ [UInt8.ofNat n.toNat]⟩⟩ from ?_, fold_push ns]
    · simp
    · apply ByteArray.ext; simp [ByteArray.push]

/-- Maps. -/
def descOf (P : Program) (str : Bool) (k : TypeId) : Prop := if str then P.underlying k = some .string else ∃ ik, P.underlying k = some (.int ik)

theorem keyEq_ok {j : J} {str : Bool} {k : TypeId} {d : TypeDesc} {a b : AV} {x y : Value} {z : Bool} (hd : P.underlying k = some d) (hk : descOf P str k) (hx : VR j a x) (hy : VR j b y) (h : keyEq str a b = some z) :
    Instr.sameNow d x y = some z := by
  unfold keyEq at h
  split at h
  · obtain ⟨hs, h⟩ := bif_none h
    subst hs
    simp only [descOf, if_true] at hk
    rw [hk] at hd; cases hd
    simp only [VR] at hx hy; subst hx; subst hy
    cases h
    simp [Instr.sameNow, bytes_beq]
  · obtain ⟨hs, h⟩ := bif_none' h
    subst hs
    simp only [descOf, Bool.false_eq_true, if_false] at hk
    obtain ⟨ik, hk⟩ := hk
    rw [hk] at hd; cases hd
    obtain ⟨he, h'⟩ := ite_none h
    subst he
    cases h'
    have hx := r_int hx; have hy := r_int hy
    subst hx; subst hy
    simp [Instr.sameNow]
  · cases h

theorem findA_ok {j : J} {str : Bool} {k : TypeId} {d : TypeDesc} (hd : P.underlying k = some d) (hk : descOf P str k) {a : AV} {x : Value} (hx : VR j a x) : ∀ (l : List (AV × AV × Nat)) (es : List MapEntry) (i : Nat) (z : Option AV),
    MR j l es → findA str a l = some z → (z = none ∧ Instr.findNow d x es i = some none) ∨ (∃ v n y, z = some v ∧ Instr.findNow d x es i = some (some (n, y)) ∧ VR j v y)
  | [], es, i, z, h, hz => by
    simp only [MR] at h; subst h
    simp only [findA] at hz; cases hz
    exact .inl ⟨rfl, rfl⟩
  | (kk, v, n) :: l, es, i, z, h, hz => by
    simp only [MR] at h
    obtain ⟨e, q, rfl, h1, h2, h3, h4⟩ := h
    simp only [findA] at hz
    cases hq : keyEq str a kk with
    | none => rw [hq] at hz; cases hz
    | some b =>
      rw [hq] at hz
      have hs := keyEq_ok hd hk hx h1 hq
      cases b with
      | true =>
        simp only at hz; cases hz
        exact .inr ⟨v, i, e.val, rfl, by simp [Instr.findNow, hs], h2⟩
      | false =>
        simp only at hz
        rcases findA_ok hd hk hx l q (i + 1) z h4 hz with ⟨h5, h6⟩ | ⟨v', n', y, h5, h6, h7⟩
        · exact .inl ⟨h5, by simp [Instr.findNow, hs, h6]⟩
        · exact .inr ⟨v', n', y, h5, by simp [Instr.findNow, hs, h6], h7⟩

theorem checkKey_ok {j : J} {str : Bool} {k : TypeId} (hk : descOf P str k) {a : AV} {x : Value} (hx : VR j a x) (ha : keyOk str a = true) (emp : Bool) (d : Nat) (w : World) : (Instr.checkKey emp (d + 1) k x).run P w = .ok () w := by
  unfold keyOk at ha
  split at ha
  · subst ha
    simp only [descOf, if_true] at hk
    simp only [VR] at hx; subst hx
    simp [Instr.checkKey, run_underlying hk]
  · simp only [Bool.not_eq_true'] at ha
    subst ha
    simp only [descOf, Bool.false_eq_true, if_false] at hk
    obtain ⟨ik, hk⟩ := hk
    have hx := r_int hx; subst hx
    simp [Instr.checkKey, run_underlying hk]
  · cases ha

theorem Rep.mapAt {j : J} {h : AH} {B : Nat} {w : World} (r : Rep j h B w) {id : Nat} {es : List (AV × AV × Nat)} {clock : Nat} {x : Value} (hg : h.objs.get id = some (.map es clock)) (hx : VR j (.m (some id)) x) :
    ∃ b t es', x = .map (some b) ∧ j id = some (b, 0, t) ∧ B ≤ b ∧ w.heap[b]? = some (.map es' clock) ∧ MR j es es'.toList ∧ (∀ e ∈ es, e.2.2 < clock) ∧ (getObj b).run P w = .ok (.map es' clock) w := by
  simp only [VR] at hx
  obtain ⟨b, o, t, hj, hx⟩ := hx
  obtain ⟨h0, h1, es', h2, h3, h4⟩ := r.objs id _ b o t hg hj
  subst h1
  exact ⟨b, t, es', hx, hj, h0, h2, h3, h4, by simp [getObj, Sem.run, h2]⟩

def RAns (P : Program) (j : J) (h : AH) (B : Nat) (a : Act) (w : World) (o : Oper) (v : AV) : Prop :=
  ∃ x w', VR j v x ∧ (execOp a.eval o).run P w = .ok (.value x) w' ∧ Rep j h B w' ∧ Bel B w w'

theorem Rep.own {j : J} {h : AH} {B : Nat} {w : World} (r : Rep j h B w) {id b o t : Nat} {cs : List AV} (hr : h.row? id = some (false, cs)) (hl : j id = some (b, o, t)) :
    h.objs.get id = some (.row false cs) ∧ B ≤ b ∧ allOne cs = true ∧ ∃ c e fr, w.heap[b]? = some (.cells c e fr) ∧ c.size = o + t ∧ cs.length ≤ t ∧ (∀ (i : Nat) (v : AV), cs[i]? = some v → ∃ x, c[o + i]? = some x ∧ VR j v x) ∧ (fr.1 = fr.2 ∨ c.size ≤ fr.1) := by
  have hg : h.objs.get id = some (.row false cs) := by
    unfold AH.row? at hr
    split at hr
    · rename_i h1; cases hr; exact h1
    · cases hr
  exact ⟨hg, r.objs id _ b o t hg hl⟩

theorem heap_freeze (w : World) (b n : Nat) (c : Array Value) (e : TypeId) (fr : Nat × Nat) (hb : w.heap[b]? = some (.cells c e fr)) :
    (w.freeze ⟨b, n, none⟩ 1).heap[b]? = some (.cells c e (if fr.1 == fr.2 then (n, n + 1) else (min fr.1 n, max fr.2 (n + 1)))) ∧ (∀ k, k ≠ b → (w.freeze ⟨b, n, none⟩ 1).heap[k]? = w.heap[k]?) ∧ (w.freeze ⟨b, n, none⟩ 1).heap.size = w.heap.size := by
  refine ⟨?_, fun k hk => ?_, ?_⟩
  · simp [World.freeze, Array.getElem?_modify, hb]
  · simp only [World.freeze, Nat.one_ne_zero, if_false, Array.getElem?_modify]
    rw [if_neg (by omega)]
  · simp [World.freeze]

theorem MR.find {j : J} {b : Nat} : ∀ {l : List (AV × AV × Nat)} {es : List MapEntry} {p : AV × AV × Nat}, MR j l es → l.find? (fun e => Nat.beq e.2.2 b) = some p → ∃ e, es.find? (fun e => e.born == b) = some e ∧ VR j p.1 e.key ∧ VR j p.2.1 e.val
  | [], es, p, _, h => by simp at h
  | (k, v, n) :: l, es, p, hm, h => by
    simp only [MR] at hm
    obtain ⟨e, q, rfl, h1, h2, h3, h4⟩ := hm
    rw [List.find?_cons] at h ⊢
    by_cases hb : n = b
    · subst hb
      simp only [nat_beq, decide_true] at h
      cases h
      exact ⟨e, by simp [h3], h1, h2⟩
    · have e1 : Nat.beq n b = false := by rw [nat_beq]; exact decide_eq_false hb
      simp only [e1] at h
      obtain ⟨e', g1, g2⟩ := MR.find h4 h
      refine ⟨e', ?_, g2⟩
      have : (e.born == b) = false := by rw [h3]; simpa using hb
      rw [this]; exact g1
theorem rev_sound {j : J} {h : AH} {B : Nat} {w : World} (r : Rep j h B w) (hg : GlobOk P j) {e : Env} {a : Act} (he : ER j e a.tmps) {o : Oper} {ro : RO} {v : AV}
    (hc : compOp P o = some (.R ro)) (hv : rev e h ro = some v) : RAns P j h B a w o v := by
  obtain ⟨dst, op, type, pos, after, gd⟩ := o
  cases op with
  | load t x =>
    simp only [compOp] at hc
    split at hc
    · rename_i g n y h1 h2 h3
      cases hc
      have hx := cx_VR hg he h3
      simp only [rev] at hv
      split at hv
      · rename_i id o hid
        split at hv
        · rename_i ro cs hrow
          rw [hid] at hx
          obtain ⟨u, ad, had, hu, hrun⟩ := r.part h1 h2 hrow hv hx
          refine ⟨u, w, hu, ?_, r, RowKit.Below.refl _ _⟩
          simp [execOp, Instr.loadAt, had, Instr.sureAddr, hrun]
        · cases hv
      · cases hv
    · cases hc
  | convert src dst' x =>
    simp only [compOp] at hc
    split at hc
    · cases hc
    · cases hc
    · cases hc
    · rename_i el el' x' h1 h2 h3
      split at hc
      · rename_i h4
        obtain ⟨hsd, hc⟩ := bif_none hc
        cases hc
        have hx := cx_VR hg he h3
        simp only [rev] at hv
        split at hv
        · rename_i id o len cap es hid
          obtain ⟨hl0, hv⟩ := bif_none' hv
          rw [nat_beq] at hl0
          simp only [decide_eq_false_iff_not] at hl0
          split at hv
          · rename_i cs hrow
            cases hv
            rw [hid] at hx
            have hx' := hx
            simp only [VR] at hx'
            obtain ⟨ad, c, hx', hlc, _, hor⟩ := hx'
            rcases hor with h0 | ⟨b, o', t, hj, had, _⟩
            · omega
            · obtain ⟨hg0, hB, hone, cc, ee, fr, hb, hsz, hle, hcells, hfr⟩ := r.own hrow hj
              obtain ⟨f1, f2, f3⟩ := heap_freeze w b cc.size cc ee fr hb
              refine ⟨_, w.freeze ⟨b, cc.size, none⟩ 1, hx, ?_, ?_, ?_⟩
              · have hsh : w.shape? b = some (ee, cc.size) := by simp [World.shape?, hb]
                simp only [execOp, convert, Sem.run_bind, run_underlying h1, run_underlying h2, Result.andThen_ok, hx', run_underlying h4, hsd]
                simp [markStringish, had, hsh]
              · refine ⟨r.fresh, fun id' ob b' o1 t1 h5 h6 => ?_, r.sep, fun id' b' o1 t1 h5 => by rw [f3]; exact r.lt id' b' o1 t1 h5, by rw [f3]; exact r.base, r.tysKept (.one f2 fun c1 e1 q1 h1 => by rw [hb] at h1; cases h1; exact ⟨_, _, f1⟩)⟩
                by_cases hbb : b' = b
                · subst hbb
                  by_cases hii : id' = id
                  · subst hii
                    rw [hg0] at h5; cases h5
                    rw [hj] at h6; cases h6
                    refine ⟨hB, hone, cc, ee, _, f1, hsz, hle, hcells, ?_⟩
                    rcases hfr with hfr | hfr
                    · right; simp [hfr]
                    · by_cases h7 : fr.1 == fr.2
                      · right; simp [h7]
                      · right; simp [h7]; omega
                  · exact absurd rfl (r.sep id id' _ ob b' _ _ b' o1 t1 (Ne.symm hii) hg0 hj h5 h6 rfl)
                · exact (r.objs id' ob b' o1 t1 h5 h6).keep (J.le_refl j) (f2 b' hbb)
              · refine ⟨rfl, rfl, rfl, by rw [f3]; exact Nat.le_refl _, fun k hk => f2 k (by omega)⟩
                all_goals (simp [World.freeze])
          · cases hv
        · cases hv
      · cases hc
    · split at hc
      · cases hc
      · cases hc
    · rename_i el x' h1 h2 h3
      split at hc
      · rename_i h4
        cases hc
        have hx := cx_VR hg he h3
        simp only [rev] at hv
        split at hv
        · rename_i cs hcs
          cases hb : toBytes cs with
          | none => rw [hb] at hv; cases hv
          | some l =>
          rw [hb] at hv; simp only [Option.map_some] at hv; cases hv
          obtain ⟨ad, len, c, xs, hx', hlc, hxs, hlen, hnil, hcell, _⟩ := r.rowOf hx hcs
          obtain ⟨ns, hns, hl⟩ := toBytes_ok hxs hb
          refine ⟨.string ⟨⟨l⟩⟩, w, rfl, ?_, r, RowKit.Below.refl _ _⟩
          have hrun : (Conv.bytesToString (.slice ad len c)).run P w = .ok (.string ⟨⟨l⟩⟩) w := by
            cases ad with
            | none =>
              obtain ⟨hx0, hl0⟩ := hnil rfl
              have : ns = [] := by rw [hx0] at hns; simpa using hns.symm
              subst this
              simp only [List.map_nil] at hl; subst hl
              simp [Conv.bytesToString]; rfl
            | some ad =>
              have hlc := run_loadCells_list (P := P) w ad xs (hcell ad rfl)
              have hlx : xs.length = len := by rw [← hxs.length, hlen, Nat.mul_one]
              rw [hlx, hns] at hlc
              rw [run_bytesToString w ad len c ns hlc]
              have := fold_push ns []
              simp only [List.nil_append] at this
              rw [show (ByteArray.empty : ByteArray) = ⟨⟨[]⟩⟩ from rfl, this, hl]
          simp only [execOp, Sem.run_bind, hx']
          rw [run_convert_bytes_string w src dst' el ad len c h1 h4 h2, hrun]
          rfl
        · cases hv
      · cases hc
    · cases hc; simp only [rev] at hv; cases hv
    · cases hc; simp only [rev] at hv; cases hv
    · cases hc
  | lookup t x i ok =>
    simp only [compOp] at hc
    split at hc
    · rename_i k el x' i' hu hx' hi'
      have key : ∀ (str : Bool) (z : AV) (hz : zeroT P el = some z) (hk : descOf P str k) (d : TypeDesc) (hd : P.underlying k = some d) (hc' : RO.look str z x' i' ok = ro), RAns P j h B a w ⟨dst, .lookup t x i ok, type, pos, after, gd⟩ v := by
        intro str z hz hk d hd hc'
        subst hc'
        have hx := cx_VR hg he hx'
        have hi := cx_VR hg he hi'
        obtain ⟨zv, hzv, hzr⟩ := r_zero hz
        simp only [rev] at hv
        obtain ⟨hko, hv⟩ := bif_none hv
        have hck := fun emp => checkKey_ok (P := P) hk hi hko emp 9999 w
        have main : ∀ (la : List (AV × AV × Nat)) (es : Array MapEntry), MR j la es.toList → (match findA str (AX.ev e i') la with
            | some (some v) => some (bif ok then AV.t [v, .b true] else v)
            | some none => some (bif ok then AV.t [z, .b false] else z)
            | none => none) = some v → ∃ y, VR j v y ∧ (((Instr.findKey k (a.eval i) es.toList).run P w = .ok none w ∧ y = (if ok then .tuple #[zv, .bool false] else zv)) ∨ (∃ n u, (Instr.findKey k (a.eval i) es.toList).run P w = .ok (some (n, u)) w ∧ y = (if ok then .tuple #[u, .bool true] else u))) := by
          intro la es hm hf
          cases hq : findA str (AX.ev e i') la with
          | none => rw [hq] at hf; cases hf
          | some q =>
            rw [hq] at hf
            rcases findA_ok hd hk hi la es.toList 0 q hm hq with ⟨h1, h2⟩ | ⟨u, n, y, h1, h2, h3⟩
            · subst h1
              simp only at hf
              have hfk : (Instr.findKey k (a.eval i) es.toList).run P w = .ok none w := by
                simp [Instr.findKey, run_underlying hd, h2]
              refine ⟨_, ?_, .inl ⟨hfk, rfl⟩⟩
              cases ok with
              | true => rw [cond_true] at hf; cases hf; simp [VR, VRs]; exact ofV_VR hzv
              | false => rw [cond_false] at hf; cases hf; simpa using ofV_VR hzv
            · subst h1
              simp only at hf
              have hfk : (Instr.findKey k (a.eval i) es.toList).run P w = .ok (some (n, y)) w := by
                simp [Instr.findKey, run_underlying hd, h2]
              refine ⟨_, ?_, .inr ⟨n, y, hfk, rfl⟩⟩
              cases ok with
              | true => rw [cond_true] at hf; cases hf; simp [VR, VRs]; exact h3
              | false => rw [cond_false] at hf; cases hf; simpa using h3
        have hck' : ∀ emp, (Instr.checkKey emp 10000 k (a.eval i)).run P w = .ok () w := hck
        split at hv
        · rename_i la hla
          split at hla
          · rename_i hxe
            cases hla
            rw [hxe] at hx
            simp only [VR] at hx
            obtain ⟨y, hy, hrun⟩ := main [] #[] (by simp [MR]) hv
            refine ⟨y, w, hy, ?_, r, RowKit.Below.refl _ _⟩
            rcases hrun with ⟨h1, rfl⟩ | ⟨n, u, h1, rfl⟩ <;> cases ok <;>
              simp [execOp, Instr.lookup, run_underlying hu, hx, hck', h1, hzr]
          · rename_i id hxe
            split at hla
            · rename_i es clock hobj
              cases hla
              rw [hxe] at hx
              obtain ⟨b, tt, es', hx', hj, hB, hb, hm, _, hget⟩ := r.mapAt (P := P) hobj hx
              obtain ⟨y, hy, hrun⟩ := main _ es' hm hv
              refine ⟨y, w, hy, ?_, r, RowKit.Below.refl _ _⟩
              rcases hrun with ⟨h1, rfl⟩ | ⟨n, u, h1, rfl⟩ <;> cases ok <;>
                simp [execOp, Instr.lookup, run_underlying hu, hx', hget, hck', h1, hzr]
            · cases hla
          · cases hla
        · cases hv
      split at hc
      · rename_i z h1 h2
        cases hc
        exact key true z h2 (by simp [descOf, h1]) _ h1 rfl
      · rename_i ik z h1 h2
        cases hc
        exact key false z h2 (by simp [descOf, h1]) _ h1 rfl
      · cases hc
    · cases hc
  | call c =>
    obtain ⟨callee, args, argTypes⟩ := c
    simp only [compOp] at hc
    split at hc
    · split at hc <;> cases hc
    · split at hc
      · cases hc
      · cases hc
      · cases hc
      · rename_i kt et x h1 h2
        cases hc
        obtain ⟨t, ht, hu⟩ := argTy h1
        obtain ⟨z, rfl, hx⟩ := cxs_one hg he h2
        simp only [rev] at hv
        split at hv
        · rename_i hxe
          cases hv
          rw [hxe] at hx; simp only [VR] at hx
          refine ⟨_, w, rfl, ?_, r, RowKit.Below.refl _ _⟩
          simp [execOp, resolve, invoke, builtin, Builtin.len_, ht, hx, run_underlying hu, goInt]
        · rename_i id hxe
          split at hv
          · rename_i es clock hobj
            cases hv
            rw [hxe] at hx
            obtain ⟨b, tt, es', hx', hj, hB, hb, hm, _, hget⟩ := r.mapAt (P := P) hobj hx
            have hlen : es.length = es'.size := by
              have : ∀ (l : List (AV × AV × Nat)) (q : List MapEntry), MR j l q → l.length = q.length := by
                intro l
                induction l with
                | nil => intro q hq; simp only [MR] at hq; subst hq; rfl
                | cons p l ih => intro q hq; obtain ⟨p1, p2, p3⟩ := p; simp only [MR] at hq; obtain ⟨e1, q1, rfl, _, _, _, hq⟩ := hq; simp [ih q1 hq]
              simpa using this _ _ hm
            refine ⟨_, w, rfl, ?_, r, RowKit.Below.refl _ _⟩
            simp [execOp, resolve, invoke, builtin, Builtin.len_, ht, hx', run_underlying hu, goInt, hget, hlen]
          · cases hv
        · cases hv
      · cases hc
    · repeat' (first | (cases hc; done) | (obtain ⟨_, hc'⟩ := bif_none hc; cases hc'; done) | split at hc)
    · repeat' (first | (cases hc; done) | (obtain ⟨_, hc'⟩ := bif_none hc; cases hc'; done) | split at hc)
    · repeat' (first | (cases hc; done) | (obtain ⟨_, hc'⟩ := bif_none hc; cases hc'; done) | split at hc)
    · repeat' (first | (cases hc; done) | (obtain ⟨_, hc'⟩ := bif_none hc; cases hc'; done) | split at hc)
    · repeat' (first | (cases hc; done) | (obtain ⟨_, hc'⟩ := bif_none hc; cases hc'; done) | split at hc)
    · repeat' (first | (cases hc; done) | (obtain ⟨_, hc'⟩ := bif_none hc; cases hc'; done) | split at hc)
    · repeat' (first | (cases hc; done) | (obtain ⟨_, hc'⟩ := bif_none hc; cases hc'; done) | split at hc)
    · repeat' (first | (cases hc; done) | (obtain ⟨_, hc'⟩ := bif_none hc; cases hc'; done) | split at hc)
    · repeat' (first | (cases hc; done) | (obtain ⟨_, hc'⟩ := bif_none hc; cases hc'; done) | split at hc)
  | entry x =>
    simp only [compOp] at hc
    split at hc
    case h_2 => cases hc
    rename_i y hy
    cases hc
    have hx := cx_VR hg he hy
    simp only [rev] at hv
    split at hv
    case h_2 => cases hv
    rename_i id hid
    rw [hid] at hx
    split at hv
    case h_2 => cases hv
    rename_i m since seen stepped hmit
    split at hv
    case h_2 => cases hv
    rename_i es clock b hmap hlast
    obtain ⟨hck, hv'⟩ := bif_none hv
    rw [nat_beq] at hck
    have hck := of_decide_eq_true hck
    split at hv'
    case h_2 => cases hv'
    rename_i k v' n hf
    cases hv'
    simp only [VR] at hx
    obtain ⟨bb, oo, tt, hl, hx⟩ := hx
    obtain ⟨_, ho, rr, hb, bm, om, tm, hjm, hrr⟩ := r.objs id _ bb oo tt hmit hl
    obtain ⟨_, _, es', hbm, hMR, _⟩ := r.objs m _ bm om tm hmap hjm
    subst ho; subst hrr; subst hck
    obtain ⟨e', g1, g2, g3⟩ := hMR.find hf
    refine ⟨.tuple #[e'.key, e'.val], w, ?_, ?_, r, RowKit.Below.refl _ _⟩
    · simp only [VR, VRs]; exact ⟨_, rfl, _, _, rfl, g2, _, _, rfl, g3, rfl⟩
    · have hback : (⟨seen⟩ : Array Nat).back? = some b := by rw [← hlast]; simp [Array.back?_eq_getElem?, List.getLast?_eq_getElem?]
      have hfind : es'.find? (fun e => e.born == b) = some e' := by rw [← Array.find?_toList]; exact g1
      simp [execOp, Instr.entry, hx, getObj, Sem.run, hb, hbm, hback, hfind]
  | makeMap t rr => cases rr <;> (simp only [compOp] at hc; cases hc)
  | next x b =>
    cases b with
    | false => simp only [compOp] at hc; split at hc <;> cases hc
    | true => simp only [compOp] at hc; split at hc <;> cases hc
  | _ =>
    simp only [compOp] at hc
    repeat' (first | (cases hc; done) | (obtain ⟨_, hc'⟩ := bif_none hc; cases hc'; done) | split at hc)
end
end Ab
end Go.Proofs.YtcoobajkgioflaaGreatDoor
