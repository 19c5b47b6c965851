/- Every operation that writes memory, but calls. -/
import Derived.Test.YtcoobajkgioflaaGreatDoorAbEff
set_option linter.unusedSimpArgs false
set_option linter.unusedVariables false
namespace Go.Proofs.YtcoobajkgioflaaGreatDoor
namespace Ab
section
variable {P : Program}

theorem cxs_two {j : J} (hg : GlobOk P j) {e : Env} {a : Act} (he : ER j e a.tmps) {xs : Array Operand} {x y : AX} (h : cxs P xs.toList = some [x, y]) : ∃ z u, xs = #[z, u] ∧ VR j (x.ev e) (a.eval z) ∧ VR j (y.ev e) (a.eval u) := by
  have hv := cxs_ok hg he _ _ h
  obtain ⟨xs⟩ := xs
  simp only [evAll, VRs] at hv
  obtain ⟨v, r, h1, h2, v', r', h3, h4, h5⟩ := hv
  subst h5; subst h3
  match xs, h1 with
  | [z, u], h1 =>
    simp only [List.map_cons, List.map_nil, List.cons.injEq, and_true] at h1
    exact ⟨z, u, rfl, h1.1 ▸ h2, h1.2 ▸ h4⟩

theorem run_setObj' (w : World) (b : Nat) (o o' : Obj) (h : w.heap[b]? = some o) (hn : ∀ c e f, o ≠ .cells c e f) : (setObj b o').run P w = .ok () (putBlk w b o') := by
  simp only [setObj, Sem.run, h]
  cases o <;> first | (exact absurd rfl (hn _ _ _)) | rfl

theorem sameBits_int (n : Nat) (k : IntKind) (a : Int) : Instr.sameBits n (.int k a) (.int k a) = true := by cases n <;> simp [Instr.sameBits]
theorem sameBits_str (n : Nat) (a : ByteArray) (h : (a == a) = true) : Instr.sameBits n (.string a) (.string a) = true := by cases n <;> simp [Instr.sameBits, h]

theorem keyEq_same {j : J} {str : Bool} {a b : AV} {x y : Value} (hx : VR j a x) (hy : VR j b y) (h : keyEq str a b = some true) (n : Nat) : Instr.sameBits n y x = true := by
  unfold keyEq at h
  split at h
  · obtain ⟨hs, h⟩ := bif_none h
    simp only [VR] at hx hy; subst hx; subst hy
    have h' := Option.some.inj h
    rw [beq_iff_eq] at h'; subst h'
    exact sameBits_str n _ (by rw [bytes_beq]; simp)
  · obtain ⟨hs, h⟩ := bif_none' h
    obtain ⟨he, h'⟩ := ite_none h
    subst he
    have h' := Option.some.inj h'
    rw [beq_iff_eq] at h'; subst h'
    have hx := r_int hx; have hy := r_int hy
    subst hx; subst hy
    exact sameBits_int n _ _
  · cases h

theorem setA_ok {j : J} {str : Bool} {k : TypeId} {d : TypeDesc} (hd : P.underlying k = some d) (hk : descOf P str k) {a v : AV} {x y : Value} (hx : VR j a x) (hy : VR j v y) (clock : Nat) : ∀ (l : List (AV × AV × Nat)) (es : List MapEntry) (n : Nat) (l' : List (AV × AV × Nat)) (fresh : Bool),
    MR j l es → setA str a v clock l = some (l', fresh) → (∀ e ∈ l, e.2.2 < clock) →
    (fresh = true ∧ Instr.findNow d x es n = some none ∧ MR j l' (es ++ [{ key := x, val := y, born := clock }]) ∧ ∀ e ∈ l', e.2.2 < clock + 1) ∨
    (fresh = false ∧ ∃ i u e, Instr.findNow d x es n = some (some (n + i, u)) ∧ es[i]? = some e ∧ (∀ m, Instr.sameBits m e.key x = true) ∧ MR j l' (es.set i { e with key := x, val := y }) ∧ ∀ e ∈ l', e.2.2 < clock)
  | [], es, n, l', fresh, h, hs, hc => by
    simp only [MR] at h; subst h
    simp only [setA] at hs; cases hs
    refine .inl ⟨rfl, rfl, ?_, ?_⟩
    · simp only [MR, List.nil_append]; exact ⟨_, [], rfl, hx, hy, rfl, rfl⟩
    · intro e he; simp only [List.mem_singleton] at he; subst he; exact Nat.lt_succ_self _
  | (kk, vv, bn) :: l, es, n, l', fresh, h, hs, hc => by
    simp only [MR] at h
    obtain ⟨e, q, rfl, h1, h2, h3, h4⟩ := h
    simp only [setA] at hs
    cases hq : keyEq str a kk with
    | none => rw [hq] at hs; cases hs
    | some b =>
      rw [hq] at hs
      have hsn := keyEq_ok hd hk hx h1 hq
      cases b with
      | true =>
        simp only at hs; cases hs
        refine .inr ⟨rfl, 0, e.val, e, by simp [Instr.findNow, hsn], rfl, fun m => keyEq_same hx h1 hq m, ?_, ?_⟩
        · simp only [MR, List.set_cons_zero]; exact ⟨_, q, rfl, hx, hy, h3, h4⟩
        · intro e' he'
          rcases List.mem_cons.1 he' with rfl | he'
          · exact hc (kk, vv, bn) (by simp)
          · exact hc e' (by simp [he'])
      | false =>
        simp only at hs
        split at hs
        · rename_i l2 f2 hr
          cases hs
          rcases setA_ok hd hk hx hy clock l q (n + 1) _ _ h4 hr (fun e he => hc e (by simp [he])) with ⟨g1, g2, g3, g4⟩ | ⟨g1, i, u, e', g2, g3, g4, g5, g6⟩
          · refine .inl ⟨g1, by simp [Instr.findNow, hsn, g2], ?_, ?_⟩
            · simp only [MR, List.cons_append]; exact ⟨e, _, rfl, h1, h2, h3, g3⟩
            · intro e' he'
              rcases List.mem_cons.1 he' with rfl | he'
              · have := hc (kk, vv, bn) (by simp); simp only at this ⊢; omega
              · exact g4 e' he'
          · refine .inr ⟨g1, i + 1, u, e', by simp [Instr.findNow, hsn, g2]; omega, by simpa using g3, g4, ?_, ?_⟩
            · simp only [MR, List.set_cons_succ]; exact ⟨e, _, rfl, h1, h2, h3, g5⟩
            · intro e'' he''
              rcases List.mem_cons.1 he'' with rfl | he''
              · exact hc (kk, vv, bn) (by simp)
              · exact g6 e'' he''
        · cases hs

theorem delA_ok {j : J} {str : Bool} {k : TypeId} {d : TypeDesc} (hd : P.underlying k = some d) (hk : descOf P str k) {a : AV} {x : Value} (hx : VR j a x) : ∀ (l : List (AV × AV × Nat)) (es : List MapEntry) (n : Nat) (l' : List (AV × AV × Nat)),
    MR j l es → delA str a l = some l' → (∀ e ∈ l', e ∈ l) ∧
    ((Instr.findNow d x es n = some none ∧ MR j l' es) ∨ (∃ i u, Instr.findNow d x es n = some (some (n + i, u)) ∧ MR j l' (es.eraseIdx i)))
  | [], es, n, l', h, hs => by
    simp only [MR] at h; subst h
    simp only [delA] at hs; cases hs
    exact ⟨fun e he => he, .inl ⟨rfl, by simp [MR]⟩⟩
  | (kk, vv, bn) :: l, es, n, l', h, hs => by
    simp only [MR] at h
    obtain ⟨e, q, rfl, h1, h2, h3, h4⟩ := h
    simp only [delA] at hs
    cases hq : keyEq str a kk with
    | none => rw [hq] at hs; cases hs
    | some b =>
      rw [hq] at hs
      have hsn := keyEq_ok hd hk hx h1 hq
      cases b with
      | true =>
        simp only at hs; cases hs
        exact ⟨fun e he => by simp [he], .inr ⟨0, e.val, by simp [Instr.findNow, hsn], by simpa using h4⟩⟩
      | false =>
        simp only at hs
        split at hs
        · rename_i l2 hr
          cases hs
          obtain ⟨hm, hrest⟩ := delA_ok hd hk hx l q (n + 1) l2 h4 hr
          refine ⟨fun e' he' => ?_, ?_⟩
          · rcases List.mem_cons.1 he' with rfl | he'
            · simp
            · simp [hm e' he']
          · rcases hrest with ⟨g1, g2⟩ | ⟨i, u, g1, g2⟩
            · exact .inl ⟨by simp [Instr.findNow, hsn, g1], by simp only [MR]; exact ⟨e, q, rfl, h1, h2, h3, g2⟩⟩
            · refine .inr ⟨i + 1, u, by simp [Instr.findNow, hsn, g1]; omega, ?_⟩
              simp only [List.eraseIdx_cons_succ, MR]; exact ⟨e, _, rfl, h1, h2, h3, g2⟩
        · cases hs

/-- A map's block is written. -/
theorem Rep.mapWrite {j : J} {h : AH} {B : Nat} {w : World} (r : Rep j h B w) {id b t : Nat} {es es2 : List (AV × AV × Nat)} {clock c2 : Nat} {q : Array MapEntry} (hg : h.objs.get id = some (.map es clock)) (hj : j id = some (b, 0, t)) (hB : B ≤ b)
    (hb : b < w.heap.size) (hm : MR j es2 q.toList) (hc : ∀ e ∈ es2, e.2.2 < c2) : Rep j { h with objs := h.objs.set id (some (.map es2 c2)) } B (putBlk w b (.map q c2)) :=
  r.write hg rfl hj rfl (fun k hk => putBlk_other w b _ k hk) (putBlk_size w b _) (fun c1 e1 q1 h1 => by
    obtain ⟨_, _, es', h2, _⟩ := r.objs id _ b 0 t hg hj
    rw [h2] at h1; cases h1) ⟨hB, rfl, q, putBlk_get w b _ hb, hm, hc⟩

theorem mupd_sound {j : J} {h : AH} {B : Nat} {w : World} (r : Rep j h B w) {t kt et : TypeId} {str : Bool} {m k v v' : AV} {mx kx vx : Value} {h' : AH} (hu : P.underlying t = some (.map kt et)) (hk : descOf P str kt)
    (hm : VR j m mx) (hkx : VR j k kx) (hvx : VR j v vx)
    (ha : mupdA h str m k v = some (v', h')) :
    ∃ w', (Instr.mapUpdate t mx kx vx).run P w = .ok () w' ∧ v' = undefA ∧ Rep j h' B w' ∧ h'.next = h.next ∧ Bel B w w' := by
  unfold mupdA at ha
  split at ha
  case h_2 => cases ha
  rename_i id hm
  obtain ⟨hko, ha⟩ := bif_none ha
  split at ha
  case h_2 => cases ha
  rename_i es clock hobj
  split at ha
  case h_2 => cases ha
  rename_i es' fresh hset
  cases ha
  obtain ⟨b, tt, q, hmx, hj, hB, hb, hmr, hcl, hget⟩ := r.mapAt (P := P) hobj hm
  have hbl : b < w.heap.size := (Array.getElem?_eq_some_iff.1 hb).1
  have hck : (Instr.checkKey false 10000 kt kx).run P w = .ok () w := checkKey_ok (P := P) hk hkx hko false 9999 w
  have hdd : ∃ d, P.underlying kt = some d := by
    unfold descOf at hk
    cases str with
    | true => simp only [if_true] at hk; exact ⟨_, hk⟩
    | false => simp only [Bool.false_eq_true, if_false] at hk; obtain ⟨ik, hk⟩ := hk; exact ⟨_, hk⟩
  obtain ⟨d, hd⟩ := hdd
  rcases setA_ok hd hk hkx hvx clock es q.toList 0 es' fresh hmr hset hcl with ⟨hf, g2, g3, g4⟩ | ⟨hf, i, u, e, g2, g3, g4, g5, g6⟩
  · subst hf
    have hfk : (Instr.findKey kt kx q.toList).run P w = .ok none w := by simp [Instr.findKey, run_underlying hd, g2]
    refine ⟨putBlk w b (.map (q.push { key := kx, val := vx, born := clock }) (clock + 1)), ?_, rfl, ?_, rfl, putBlk_bel w b _ hB⟩
    · simp only [Instr.mapUpdate, Sem.run_bind, run_underlying hu, Result.andThen_ok, hmx, hget, hck, hfk]
      exact run_setObj' w b _ _ hb (fun _ _ _ h => by cases h)
    · exact r.mapWrite hobj hj hB hbl (by simpa using g3) g4
  · subst hf
    rw [Nat.zero_add] at g2
    have hfk : (Instr.findKey kt kx q.toList).run P w = .ok (some (i, u)) w := by simp [Instr.findKey, run_underlying hd, g2]
    have hqi : q[i]? = some e := by simpa using g3
    have hst : (Instr.keyThatStays e.key kx).run P w = .ok kx w := by
      unfold Instr.keyThatStays
      rw [if_pos (g4 10000)]; rfl
    refine ⟨putBlk w b (.map (q.modify i fun e => { e with key := kx, val := vx }) clock), ?_, rfl, ?_, rfl, putBlk_bel w b _ hB⟩
    · simp only [Instr.mapUpdate, Sem.run_bind, run_underlying hu, Result.andThen_ok, hmx, hget, hck, hfk]
      simp only [hqi, Option.map_some, Option.getD_some, hst, Result.andThen_ok]
      exact run_setObj' w b _ _ hb (fun _ _ _ h => by cases h)
    · refine r.mapWrite hobj hj hB hbl ?_ g6
      have : (q.modify i fun e => { e with key := kx, val := vx }).toList = q.toList.set i { e with key := kx, val := vx } := by
        apply List.ext_getElem?
        intro n
        rw [List.getElem?_set, Array.getElem?_toList, Array.getElem?_modify, Array.getElem?_toList]
        by_cases hn : i = n
        · subst hn
          have hlt : i < q.toList.length := by rw [Array.length_toList]; exact (Array.getElem?_eq_some_iff.1 hqi).1
          rw [if_pos rfl, if_pos rfl, if_pos hlt, hqi]; rfl
        · rw [if_neg hn, if_neg hn]
      rw [this]; exact g5

theorem del_sound {j : J} {h : AH} {B : Nat} {w : World} (r : Rep j h B w) {t kt et ty : TypeId} {str : Bool} {m k v' : AV} {mx kx : Value} {h' : AH} {ts : Array TypeId} (ht : ts[0]? = some t) (hu : P.underlying t = some (.map kt et)) (hk : descOf P str kt)
    (hm : VR j m mx) (hkx : VR j k kx)
    (ha : delH h str m k = some (v', h')) :
    ∃ w', (Builtin.delete_ ts ty #[mx, kx]).run P w = .ok (.tuple #[]) w' ∧ v' = .t [] ∧ Rep j h' B w' ∧ h'.next = h.next ∧ Bel B w w' := by
  have hdd : ∃ d, P.underlying kt = some d := by
    unfold descOf at hk
    cases str with
    | true => simp only [if_true] at hk; exact ⟨_, hk⟩
    | false => simp only [Bool.false_eq_true, if_false] at hk; obtain ⟨ik, hk⟩ := hk; exact ⟨_, hk⟩
  obtain ⟨d, hd⟩ := hdd
  unfold delH at ha
  split at ha
  · rename_i hm
    obtain ⟨hko, ha⟩ := bif_none ha
    cases ha
    simp only [VR] at hm; subst hm
    have hck : (Instr.checkKey true 10000 kt kx).run P w = .ok () w := checkKey_ok (P := P) hk hkx hko true 9999 w
    refine ⟨w, ?_, rfl, r, rfl, RowKit.Below.refl _ _⟩
    simp [Builtin.delete_, ht, run_underlying hu, hck]
  · rename_i id hm
    obtain ⟨hko, ha⟩ := bif_none ha
    split at ha
    case h_2 => cases ha
    rename_i es clock hobj
    split at ha
    case h_2 => cases ha
    rename_i es' hdel
    cases ha
    obtain ⟨b, tt, q, hmx, hj, hB, hb, hmr, hcl, hget⟩ := r.mapAt (P := P) hobj hm
    have hbl : b < w.heap.size := (Array.getElem?_eq_some_iff.1 hb).1
    have hck : ∀ emp, (Instr.checkKey emp 10000 kt kx).run P w = .ok () w := fun emp => checkKey_ok (P := P) hk hkx hko emp 9999 w
    obtain ⟨hsub, hrest⟩ := delA_ok hd hk hkx es q.toList 0 es' hmr hdel
    have hcl' : ∀ e ∈ es', e.2.2 < clock := fun e he => hcl e (hsub e he)
    rcases hrest with ⟨g1, g2⟩ | ⟨i, u, g1, g2⟩
    · have hfk : (Instr.findKey kt kx q.toList).run P w = .ok none w := by simp [Instr.findKey, run_underlying hd, g1]
      refine ⟨putBlk w b (.map q clock), ?_, rfl, r.mapWrite hobj hj hB hbl g2 hcl', rfl, putBlk_bel w b _ hB⟩
      have hso := run_setObj' (P := P) w b _ (.map q clock) hb (fun _ _ _ h => by cases h)
      simp [Builtin.delete_, ht, run_underlying hu, hmx, hget, hck, hfk, hso]
    · rw [Nat.zero_add] at g1
      have hfk : (Instr.findKey kt kx q.toList).run P w = .ok (some (i, u)) w := by simp [Instr.findKey, run_underlying hd, g1]
      refine ⟨putBlk w b (.map (q.eraseIdxIfInBounds i) clock), ?_, rfl, r.mapWrite hobj hj hB hbl ?_ hcl', rfl, putBlk_bel w b _ hB⟩
      · have hso := run_setObj' (P := P) w b _ (.map (q.eraseIdxIfInBounds i) clock) hb (fun _ _ _ h => by cases h)
        simp [Builtin.delete_, ht, run_underlying hu, hmx, hget, hck, hfk, hso]
      · have : (q.eraseIdxIfInBounds i).toList = q.toList.eraseIdx i := by simp
        rw [this]; exact g2
  · cases ha

theorem lies_u8 {el t : TypeId} (hu : P.underlying el = some (.int .u8)) (hs : sizeT P el = some 1) (count off n : Nat) (h : off + n ≤ count) : liesAt P P.depth el count off el n = true := by
  have hc : P.cellsOf el = 1 := by
    unfold sizeT at hs
    unfold Program.cellsOf
    split at hs
    · rename_i i hi; rw [hi]; simpa using hs
    · cases hs
  obtain ⟨d, hd⟩ : ∃ d, P.depth = d + 2 := ⟨_, rfl⟩
  rw [hd]
  simp only [liesAt, rowAt, hd, hc, Nat.one_ne_zero, if_false, Nat.div_one, Nat.mod_one, beq_self_eq_true, Bool.true_and, sameLayout, Bool.true_or, Bool.and_true, decide_eq_true h]
theorem loadBytes_run (w : World) (b : Nat) : ∀ (ns : List Int) (o : Nat) (acc : ByteArray), (∀ (i : Nat) (n : Int), ns[i]? = some n → w.cell? ⟨b, o + i, none⟩ = some (.int .u8 n)) →
    (loadBytes ⟨b, o, none⟩ acc ns.length).run P w = .ok (ns.foldl (fun r n => r.push n.toNat.toUInt8) acc) w
  | [], o, acc, h => rfl
  | n :: ns, o, acc, h => by
    have h0 := h 0 n rfl
    rw [Nat.add_zero] at h0
    simp only [List.length_cons, loadBytes, Sem.run_bind, run_load, h0, Result.andThen_ok, addr_add, List.foldl_cons]
    exact loadBytes_run w b ns (o + 1) _ fun i m hm => by
      have := h (i + 1) m (by simpa using hm)
      rw [show o + 1 + i = o + (i + 1) by omega]; exact this
theorem heap_freeze' (w : World) (b o n : Nat) (hn : n ≠ 0) (c : Array Value) (e : TypeId) (fr : Nat × Nat) (hb : w.heap[b]? = some (.cells c e fr)) :
    (∃ fr', (w.freeze ⟨b, o, none⟩ n).heap[b]? = some (.cells c e fr')) ∧ (∀ k, k ≠ b → (w.freeze ⟨b, o, none⟩ n).heap[k]? = w.heap[k]?) ∧ (w.freeze ⟨b, o, none⟩ n).heap.size = w.heap.size := by
  refine ⟨?_, fun k hk => ?_, ?_⟩
  · simp only [World.freeze, hn, if_false, Array.getElem?_modify, if_true, hb, Option.map_some]
    exact ⟨_, rfl⟩
  · simp only [World.freeze, hn, if_false, Array.getElem?_modify]
    rw [if_neg (by omega)]
  · simp [World.freeze, hn]
theorem run_ustr_zero {ts : Array TypeId} {ty pt : TypeId} (ht : ts[0]? = some pt) (p : Option Addr) (k : IntKind) (w : World) : (Builtin.unsafeString_ ts ty #[.pointer p, .int k 0]).run P w = .ok (.string .empty) w := by
  show (asInt (Value.int k 0) >>= _ : Sem Value).run P w = _
  rw [Sem.run_bind]
  simp only [asInt, asIntOf, Sem.run_bind, Sem.run_pure, Result.andThen_ok, ht]
  have e1 : ¬ ((0 : Int) > IntKind.i64.max) := by decide
  cases p <;> simp [e1]
theorem run_ustr_some {ts : Array TypeId} {ty pt el : TypeId} (ht : ts[0]? = some pt) (hu : P.underlying pt = some (.pointer el)) (a : Addr) (k : IntKind) (m : Nat) (hm0 : m ≠ 0) (hbig : m ≤ 16777216) (w : World) (l : List UInt8)
    (hv : (variablesAt a el m).run P w = .ok true w) (hl : (loadBytes a .empty m).run P w = .ok ⟨⟨l⟩⟩ w) : (Builtin.unsafeString_ ts ty #[.pointer (some a), .int k m]).run P w = .ok (.string ⟨⟨l⟩⟩) (w.freeze a m) := by
  show (asInt (Value.int k m) >>= _ : Sem Value).run P w = _
  rw [Sem.run_bind]
  simp only [asInt, asIntOf, Sem.run_bind, Sem.run_pure, Result.andThen_ok, ht]
  have e1 : IntKind.i64.max = 9223372036854775807 := by decide
  have hmax : ¬ ((9223372036854775807 : Int) < (m : Int)) := by omega
  have hneg' : ¬ ((m : Int) < 0) := by omega
  simp [e1, hmax, hneg', hm0, elemOf, run_underlying hu, hv, hl]
theorem ustr_sound {j : J} {h : AH} {B : Nat} {w : World} (r : Rep j h B w) {a : Act} {e : Env} {dst : Option Tmp} {x k : Operand} {argTypes : Array TypeId} {type : TypeId} {pos : String} {after : Array Edge} {gd : Option (Nat × Bool)} {pp nn : AX} {pt el : TypeId} {v : AV} {h' : AH}
    (ht : argTypes[0]? = some pt) (hu : P.underlying pt = some (.pointer el)) (h3 : P.underlying el = some (.int .u8)) (h4 : sizeT P el = some 1) (hx : VR j (pp.ev e) (a.eval x)) (hk : VR j (nn.ev e) (a.eval k))
    (hv : eev e h (.ustr el pp nn) = some (v, h')) : EAns P j h B a w ⟨dst, .call ⟨.builtin .unsafeString, #[x, k], argTypes⟩, type, pos, after, gd⟩ v h' := by
  simp only [eev] at hv
  split at hv
  · rename_i kk n hp hn
    obtain ⟨h0, hv⟩ := ite_none hv
    cases hv; subst h0
    rw [hp] at hx; rw [hn] at hk; simp only [VR] at hx hk
    refine ⟨.string .empty, w, j, .inl ?_, by simp only [VR]; rfl, r, J.ext_refl _ _, Nat.le_refl _, RowKit.Below.refl _ _⟩
    simp [execOp, resolve, invoke, builtin, hx, hk, run_ustr_zero ht]
  · rename_i id o kk n hp hn
    rw [hp] at hx; rw [hn] at hk; simp only [VR] at hx hk
    obtain ⟨b, o', tt, hl, hx⟩ := hx
    by_cases h0 : n = 0
    · rw [if_pos h0] at hv
      cases hv; subst h0
      refine ⟨.string .empty, w, j, .inl ?_, by simp only [VR]; rfl, r, J.ext_refl _ _, Nat.le_refl _, RowKit.Below.refl _ _⟩
      simp [execOp, resolve, invoke, builtin, hx, hk, run_ustr_zero ht]
    · rw [if_neg h0] at hv
      have hq0 := ite_none' hv
      clear hv
      obtain ⟨hneg, hv⟩ := hq0
      split at hv
      case h_2 => cases hv
      rename_i t cs hty hrow
      have hq := bif_none hv
      clear hv
      obtain ⟨hchk, hv⟩ := hq
      simp only [Bool.and_eq_true, nat_ble, decide_eq_true_eq] at hchk
      obtain ⟨⟨hte, hle⟩, hbig⟩ := hchk
      have hte := Nat.eq_of_beq_eq_true hte
      subst hte
      cases hb : toBytes (sub cs o n.toNat) with
      | none => rw [hb] at hv; cases hv
      | some l =>
      rw [hb] at hv
      cases hv
      obtain ⟨rfl, _⟩ := r.tys id t b o' tt hty hl
      obtain ⟨hob, hB, hone, c, e2, fr, hbb, hsz, hlen, hcells, hfr⟩ := r.own hrow hl
      obtain ⟨_, c3, fr3, hb3⟩ := r.tys id t b 0 tt hty hl
      rw [hbb] at hb3; cases hb3
      obtain ⟨m, rfl⟩ := Int.eq_ofNat_of_zero_le (show 0 ≤ n by omega)
      simp only [Int.toNat_natCast] at hle hb hbig
      have hle : o + m ≤ cs.length := hle
      have hm0 : m ≠ 0 := by intro hm; apply h0; simp [hm]
      -- the bytes
      have hc := r.cells hrow hl
      obtain ⟨ys, g1, g2⟩ := cells_list (j := j) (w := w) (b := b) (sub cs o m) (0 + o) (fun q v hv => by
        rw [Nat.add_assoc]; exact hc (o + q) v (sub_cells hv))
      obtain ⟨ns, hns, hl'⟩ := toBytes_ok g1 hb
      have hnl : ns.length = m := by
        have := g1.length
        rw [sub_length _ _ _ hle, hns, List.length_map] at this; exact this.symm
      have hload : (loadBytes ⟨b, 0 + o, none⟩ .empty m).run P w = .ok ⟨⟨l⟩⟩ w := by
        have := loadBytes_run (P := P) w b ns (0 + o) .empty (fun i q hq => by
          have := g2 i (.int .u8 q) (by rw [hns, List.getElem?_map, hq]; rfl)
          simpa [addr_add] using this)
        rw [hnl] at this
        rw [this, show (ByteArray.empty : ByteArray) = ⟨⟨[]⟩⟩ from rfl, fold_push ns [], hl', List.nil_append]
      obtain ⟨⟨fr', f1⟩, f2, f3⟩ := heap_freeze' w b (0 + o) m hm0 c t fr hbb
      have hshape : w.shape? b = some (t, c.size) := by simp [World.shape?, hbb]
      have hlies : liesAt P P.depth t (c.size / P.cellsOf t) (0 + o) t m = true := by
        have hct : P.cellsOf t = 1 := by
          unfold sizeT at h4
          unfold Program.cellsOf
          split at h4
          · rename_i i hi; rw [hi]; simpa using h4
          · cases h4
        rw [hct, Nat.div_one]
        exact lies_u8 (t := t) h3 h4 _ _ _ (by omega)
      have hrk := r.killed hob rfl hl f2 f3 (fun c1 e1 q1 h1 => by rw [hbb] at h1; cases h1; exact ⟨_, _, f1⟩)
      refine ⟨.string ⟨⟨l⟩⟩, w.freeze ⟨b, 0 + o, none⟩ m, j, .inl ?_, by simp only [VR], hrk, J.ext_refl _ _, Nat.le_refl _, ⟨?_, ?_, ?_, by rw [f3]; exact Nat.le_refl _, fun q hq => f2 q (by omega)⟩⟩
      · have hva : (variablesAt ⟨b, 0 + o, none⟩ t m).run P w = .ok true w := by rw [Nat.zero_add] at hlies ⊢; simp [variablesAt, hshape, hlies]
        have hrun := run_ustr_some (P := P) (ty := type) ht hu ⟨b, 0 + o, none⟩ kk m hm0 hbig w l hva hload
        rw [Nat.zero_add] at hx hrun ⊢
        simp [execOp, resolve, invoke, builtin, hx, hk, hrun]
      all_goals (simp [World.freeze, hm0])
  · cases hv

theorem eev_sound {j : J} {h : AH} {B : Nat} {w : World} (r : Rep j h B w) (hg : GlobOk P j) {e : Env} {a : Act} (he : ER j e a.tmps) {o : Oper} {eo : EO} {v : AV} {h' : AH}
    (hc : compOp P o = some (.E eo)) (hv : eev e h eo = some (v, h')) : EAns P j h B a w o v h' := by
  obtain ⟨dst, op, type, pos, after, gd⟩ := o
  cases op with
  | store t x y =>
    simp only [compOp] at hc
    split at hc
    · rename_i n x' y' h1 h2 h3
      cases hc
      have hx := cx_VR hg he h2
      have hy := cx_VR hg he h3
      simp only [eev] at hv
      split at hv
      · rename_i id o hid
        obtain ⟨hn, hv⟩ := bif_none hv
        rw [nat_beq] at hn
        simp only [decide_eq_true_eq] at hn
        split at hv
        · rename_i h2' hw
          cases hv
          unfold AH.write at hw
          split at hw
          · rename_i old hrow
            obtain ⟨hle, hw⟩ := bif_none hw
            rw [nat_ble] at hle
            simp only [Bool.and_eq_true, decide_eq_true_eq] at hle
            cases hw
            rw [hid] at hx
            simp only [VR] at hx
            obtain ⟨b, o', tt, hj, hx⟩ := hx
            have hcs := VR.cells hy
            obtain ⟨w', hst, hrep, hbel⟩ := r.rowWrite (P := P) hrow hj hcs hle.2 hle.1
            have hsz : (a.eval y).cells.size = n := by have := hcs.length; simp at this; omega
            refine ⟨Go.undef, w', j, .inr ⟨?_, rfl⟩, VR.undef j, hrep, J.ext_refl _ _, Nat.le_refl _, hbel⟩
            simp [execOp, Instr.storeAt, hx, Instr.sureAddr, storeVar, r_size h1, hsz, hst]
          · cases hw
        · cases hv
      · cases hv
    · cases hc
  | next x b =>
    cases b with
    | false =>
      simp only [compOp] at hc
      split at hc
      · cases hc; simp only [eev] at hv; cases hv
      · cases hc
    | true =>
      simp only [compOp] at hc
      split at hc
      · rename_i x' hx'
        cases hc
        have hx := cx_VR hg he hx'
        simp only [eev] at hv
        split at hv
        · rename_i id hid
          rw [hid] at hx
          simp only [VR] at hx
          obtain ⟨b, o', tt, hj, hx⟩ := hx
          split at hv
          · rename_i l pos' hobj
            obtain ⟨hB, ho, hb⟩ := r.objs id _ b o' tt hobj hj
            subst ho
            have hget : (getObj b).run P w = .ok (.stringIter ⟨⟨l⟩⟩ pos') w := by simp [getObj, Sem.run, hb]
            have hbl : b < w.heap.size := (Array.getElem?_eq_some_iff.1 hb).1
            rw [nat_ble] at hv
            by_cases hle : l.length ≤ pos'
            · simp only [hle, decide_true, cond_true] at hv
              cases hv
              refine ⟨.tuple #[.bool false], w, j, .inl ?_, by simp [VR, VRs], r, J.ext_refl _ _, Nat.le_refl _, RowKit.Below.refl _ _⟩
              have : ¬ pos' < (⟨⟨l⟩⟩ : ByteArray).size := by rw [bytes_size]; omega
              simp [execOp, Instr.next, hx, hget, this]
            · simp only [hle, decide_false, cond_false] at hv
              cases hdec : Utf8.decode ⟨⟨l⟩⟩ pos' with
              | mk c wd =>
              rw [hdec] at hv
              cases hv
              have hlt : pos' < (⟨⟨l⟩⟩ : ByteArray).size := by rw [bytes_size]; omega
              have hso := run_setObj' (P := P) w b _ (.stringIter ⟨⟨l⟩⟩ (pos' + wd)) hb (fun _ _ _ h => by cases h)
              refine ⟨.tuple #[.bool true, .int .i64 pos', .int .i32 c], putBlk w b (.stringIter ⟨⟨l⟩⟩ (pos' + wd)), j, .inl ?_, by simp [VR, VRs], ?_, J.ext_refl _ _, Nat.le_refl _, putBlk_bel w b _ hB⟩
              · simp [execOp, Instr.next, hx, hget, hlt, hdec, hso, goInt]
              · exact r.write hobj rfl hj rfl (fun k hk => putBlk_other w b _ k hk) (putBlk_size w b _) (fun c1 e1 q1 h1 => by rw [hb] at h1; cases h1) ⟨hB, rfl, putBlk_get w b _ hbl⟩
          · cases hv
        · cases hv
      · cases hc
  | mapUpdate t x k y =>
    simp only [compOp] at hc
    split at hc
    · rename_i kt et x' k' y' hu hx' hk' hy'
      have key : ∀ (str : Bool), descOf P str kt → eo = .mupd str x' k' y' → EAns P j h B a w ⟨dst, .mapUpdate t x k y, type, pos, after, gd⟩ v h' := by
        intro str hk heo
        subst heo
        simp only [eev] at hv
        obtain ⟨w', h1, h2, h3, h4, h5⟩ := mupd_sound (P := P) r hu hk (cx_VR hg he hx') (cx_VR hg he hk') (cx_VR hg he hy') hv
        subst h2
        exact ⟨Go.undef, w', j, .inr ⟨by simp [execOp, h1], rfl⟩, VR.undef j, h3, J.ext_refl _ _, by omega, h5⟩
      split at hc
      · rename_i h1; cases hc; exact key true (by simp [descOf, h1]) rfl
      · rename_i ik h1; cases hc; exact key false (by simp [descOf, h1]) rfl
      · cases hc
    · cases hc
  | insert t x k y =>
    simp only [compOp] at hc
    split at hc
    · rename_i kt et x' k' y' hu hx' hk' hy'
      have key : ∀ (str : Bool), descOf P str kt → eo = .mupd str x' k' y' → EAns P j h B a w ⟨dst, .insert t x k y, type, pos, after, gd⟩ v h' := by
        intro str hk heo
        subst heo
        simp only [eev] at hv
        obtain ⟨w', h1, h2, h3, h4, h5⟩ := mupd_sound (P := P) r hu hk (cx_VR hg he hx') (cx_VR hg he hk') (cx_VR hg he hy') hv
        subst h2
        exact ⟨Go.undef, w', j, .inr ⟨by simp [execOp, h1], rfl⟩, VR.undef j, h3, J.ext_refl _ _, by omega, h5⟩
      split at hc
      · rename_i h1; cases hc; exact key true (by simp [descOf, h1]) rfl
      · rename_i ik h1; cases hc; exact key false (by simp [descOf, h1]) rfl
      · cases hc
    · cases hc
  | call c =>
    obtain ⟨callee, args, argTypes⟩ := c
    simp only [compOp] at hc
    split at hc
    · split at hc
      · cases hc; simp only [eev] at hv; cases hv
      · cases hc
    · repeat' (first | (cases hc; done) | (obtain ⟨_, hc'⟩ := bif_none hc; cases hc'; done) | split at hc)
    · split at hc
      · rename_i el s x h1 h2 h3 h4
        split at hc
        · rename_i i z hi hz
          obtain ⟨hchk, hc⟩ := bif_none hc
          rw [nat_beq, nat_beq, nat_beq] at hchk
          simp only [Bool.and_eq_true, Bool.not_eq_true', decide_eq_true_eq, decide_eq_false_iff_not] at hchk
          obtain ⟨⟨hzn, hn0⟩, hb0⟩ := hchk
          cases hc
          obtain ⟨t, ht, hu⟩ := argTy h1
          obtain ⟨s', x', rfl, hs, hx⟩ := cxs_two hg he h4
          have hts : ∃ t2, argTypes = #[t, t2] ∧ ((∃ e2, P.underlying t2 = some (.slice e2)) ∨ P.underlying t2 = some .string) := by
            obtain ⟨ts⟩ := argTypes
            match ts, h3 with
            | [t1, t2], h3 =>
              have : t1 = t := by simpa using ht
              subst this
              refine ⟨t2, rfl, ?_⟩
              simp only [List.getElem?_cons_succ, List.getElem?_cons_zero, Option.bind_some] at h2
              unfold appTy at h2
              split at h2
              · rename_i hq; exact .inl ⟨_, hq⟩
              · rename_i hq; exact .inr hq
              · cases h2
          obtain ⟨t2, rfl, hu2⟩ := hts
          simp only [eev] at hv
          split at hv
          · rename_i new k hsrc
            obtain ⟨y, w', j', hrun, h5, h6, h7, h8, h9⟩ := app_sound (P := P) (ty := type) r hu hu2 hi hz hzn hn0 hb0 hs (r.src (P := P) hx hsrc) hv
            refine ⟨y, w', j', .inl ?_, h5, h6, h7, h8, h9⟩
            simp [execOp, resolve, invoke, builtin, hrun]
          · cases hv
        · cases hc
      · cases hc
    · split at hc
      · rename_i el d x h1 h2
        split at hc
        · rename_i n hn
          cases hc
          obtain ⟨t, ht, hu⟩ := argTy h1
          obtain ⟨d', x', rfl, hd, hx⟩ := cxs_two hg he h2
          simp only [eev] at hv
          split at hv
          · rename_i ad len cap es new k hde hsrc
            obtain ⟨xs, hxs, hnew, hlen, hfirst⟩ := r.src (P := P) hx hsrc
            rw [hde] at hd
            rw [nat_ble] at hv
            have hmin : (bif decide (k ≤ len) then k else len) = Nat.min k len := by
              by_cases h : k ≤ len
              · rw [decide_eq_true h, cond_true]; exact (Nat.min_eq_left h).symm
              · rw [decide_eq_false h, cond_false]; exact (Nat.min_eq_right (by omega)).symm
            rw [hmin, nat_beq] at hv
            have hdv : ∃ b c, a.eval d' = .slice b len c := by
              cases ad with
              | none => simp only [VR] at hd; obtain ⟨rfl, _, hd⟩ := hd; exact ⟨_, _, hd⟩
              | some p => obtain ⟨p, q⟩ := p; simp only [VR] at hd; obtain ⟨_, c, hd, _⟩ := hd; exact ⟨_, c, hd⟩
            have hf := hfirst (Nat.min k len) (Nat.min_le_left _ _) w rfl
            by_cases hc0 : Nat.min k len = 0
            · simp only [hc0, decide_true, cond_true] at hv
              cases hv
              obtain ⟨b, c, hdv⟩ := hdv
              rw [hc0] at hf
              simp only [Nat.zero_mul, List.take_zero] at hf
              refine ⟨.int .i64 0, w, j, .inl ?_, rfl, r, J.ext_refl _ _, Nat.le_refl _, RowKit.Below.refl _ _⟩
              have hc0' : Nat.min k len = 0 := hc0
              cases b with
              | none => simp [execOp, resolve, invoke, builtin, Builtin.copy_, ht, run_underlying hu, hdv, hlen, hc0', r_size hn, hf, goInt]
              | some b =>
                have hst : (storeCells b ([] : List Value)).run P w = .ok () w := rfl
                simp [execOp, resolve, invoke, builtin, Builtin.copy_, ht, run_underlying hu, hdv, hlen, hc0', r_size hn, hf, goInt, hst]
            · simp only [hc0, decide_false, cond_false] at hv
              split at hv
              · rename_i id o
                split at hv
                · rename_i h2' hw
                  cases hv
                  unfold AH.write at hw
                  split at hw
                  · rename_i old hrow
                    obtain ⟨hle, hw⟩ := bif_none hw
                    rw [nat_ble] at hle
                    simp only [Bool.and_eq_true, decide_eq_true_eq] at hle
                    cases hw
                    simp only [VR] at hd
                    obtain ⟨ad, c, hd, hlc, _, hor⟩ := hd
                    rcases hor with h0 | ⟨b, o', tt, hj, had, _⟩
                    · have : Nat.min k len ≤ len := Nat.min_le_right _ _
                      omega
                    · have hxs2 := hxs.take (Nat.min k len * n)
                      obtain ⟨w', hst, hrep, hbel⟩ := r.rowWrite (P := P) hrow hj hxs2 hle.2 hle.1
                      refine ⟨.int .i64 (Nat.min k len : Nat), w', j, .inl ?_, rfl, hrep, J.ext_refl _ _, Nat.le_refl _, hbel⟩
                      rw [← had] at hst
                      simp [execOp, resolve, invoke, builtin, Builtin.copy_, ht, run_underlying hu, hd, hlen, r_size hn, hf, goInt, hst]
                  · cases hw
                · cases hv
              · cases hv
          · cases hv
        · cases hc
      · cases hc
    · split at hc
      · rename_i kt et x k h1 h2
        obtain ⟨t, ht, hu⟩ := argTy h1
        obtain ⟨x', k', rfl, hx, hk'⟩ := cxs_two hg he h2
        have key : ∀ (str : Bool), descOf P str kt → eo = .del str x k → EAns P j h B a w ⟨dst, .call ⟨.builtin .delete, #[x', k'], argTypes⟩, type, pos, after, gd⟩ v h' := by
          intro str hk heo
          subst heo
          simp only [eev] at hv
          obtain ⟨w', h1, h2, h3, h4, h5⟩ := del_sound (P := P) (ty := type) r ht hu hk hx hk' hv
          subst h2
          refine ⟨.tuple #[], w', j, .inl ?_, by simp [VR, VRs], h3, J.ext_refl _ _, by omega, h5⟩
          simp [execOp, resolve, invoke, builtin, h1]
        split at hc
        · rename_i h1; cases hc; exact key true (by simp [descOf, h1]) rfl
        · rename_i ik h1; cases hc; exact key false (by simp [descOf, h1]) rfl
        · cases hc
      · cases hc
    · repeat' (first | (cases hc; done) | (obtain ⟨_, hc'⟩ := bif_none hc; cases hc'; done) | split at hc)
    · repeat' (first | (cases hc; done) | (obtain ⟨_, hc'⟩ := bif_none hc; cases hc'; done) | split at hc)
    · split at hc
      · rename_i el pp nn h1 h2
        split at hc
        · rename_i h3 h4
          cases hc
          obtain ⟨t, ht, hu⟩ := argTy h1
          obtain ⟨x', k', rfl, hx, hk'⟩ := cxs_two hg he h2
          exact ustr_sound r ht hu h3 h4 hx hk' hv
        · cases hc
      · cases hc
    · repeat' (first | (cases hc; done) | (obtain ⟨_, hc'⟩ := bif_none hc; cases hc'; done) | split at hc)
    · repeat' (first | (cases hc; done) | (obtain ⟨_, hc'⟩ := bif_none hc; cases hc'; done) | split at hc)
    · repeat' (first | (cases hc; done) | (obtain ⟨_, hc'⟩ := bif_none hc; cases hc'; done) | split at hc)
  | range t x =>
    simp only [compOp] at hc
    split at hc
    · cases hc
    · rename_i kt et y hu hy
      cases hc
      have hx := cx_VR hg he hy
      have key : ∀ (ob : AObj) (o' : Obj), (Instr.range t (a.eval x)).run P w = .ok (.pointer (some ⟨w.heap.size, 0, none⟩)) (w.alloc o') → ORel (j.put h.next (w.heap.size, 0, 0)) (w.alloc o') B w.heap.size 0 0 ob →
          EAns P j h B a w ⟨dst, .range t x, type, pos, after, gd⟩ (.p (some (h.next, 0))) (h.add ob) := by
        intro ob o' hrun hrel
        have hnone : j h.next = none := r.fresh _ (Nat.le_refl _)
        refine ⟨.pointer (some ⟨w.heap.size, 0, none⟩), w.alloc o', j.put h.next (w.heap.size, 0, 0), .inl (by simp [execOp, hrun]), ?_, ?_, J.put_ext (Nat.le_refl _), Nat.le_succ _, ⟨rfl, rfl, rfl, by simp, fun q hq => ?_⟩⟩
        · simp only [VR]; exact ⟨_, _, _, J.put_self _ _ _, rfl⟩
        · exact (r.addDead ob).born hnone (show h.next < (h.add ob).next from Nat.lt_succ_self _) (by simp [AH.add, Tr.get_set]) rfl (fun e2 he2 => by simp [AH.add, Tr.get_set] at he2) hrel
        · have := r.base
          show (w.heap.push o')[q]? = _
          rw [Array.getElem?_push, if_neg (by omega)]
      simp only [eev] at hv
      split at hv
      · rename_i hm
        cases hv
        rw [hm] at hx; simp only [VR] at hx
        refine key (.mit none 0 [] 0) (.mapIter none 0 #[] 0) (by simp [Instr.range, hx, run_underlying hu]) ⟨r.base, rfl, none, ?_, rfl⟩
        show (w.heap.push _)[w.heap.size]? = _
        simp
      · rename_i m hm
        split at hv
        · rename_i es clock hmap
          cases hv
          rw [hm] at hx; simp only [VR] at hx
          obtain ⟨bm, om, tm, hjm, hx⟩ := hx
          obtain ⟨_, _, es', hbm, _, _⟩ := r.objs m _ bm om tm hmap hjm
          have hne : m ≠ h.next := fun e => by rw [e, r.fresh _ (Nat.le_refl _)] at hjm; cases hjm
          refine key (.mit (some m) clock [] clock) (.mapIter (some bm) clock #[] clock) (by simp [Instr.range, hx, run_underlying hu, getObj, Sem.run, hbm]) ⟨r.base, rfl, some bm, ?_, bm, om, tm, by rw [J.put_at, if_neg hne]; exact hjm, rfl⟩
          show (w.heap.push _)[w.heap.size]? = _
          simp
        · cases hv
      · cases hv
    · cases hc
  | makeMap t rr => cases rr <;> (simp only [compOp] at hc; cases hc)
  | _ =>
    simp only [compOp] at hc
    repeat' (first | (cases hc; done) | (obtain ⟨_, hc'⟩ := bif_none hc; cases hc'; done) | split at hc)
end
end Ab
end Go.Proofs.YtcoobajkgioflaaGreatDoor
