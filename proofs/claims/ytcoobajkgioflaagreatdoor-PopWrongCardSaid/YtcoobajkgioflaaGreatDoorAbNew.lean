/- The operations that make an object. -/
import Derived.Test.YtcoobajkgioflaaGreatDoorAbMem
import Derived.Laws.NewFold
set_option linter.unusedSimpArgs false
set_option linter.unusedVariables false
namespace Go.Proofs.YtcoobajkgioflaaGreatDoor
namespace Ab
section
variable {P : Program}

theorem rep_length : ∀ (n : Nat) (z : List AV), (rep n z).length = n * z.length
  | 0, z => by simp [rep]
  | n + 1, z => by simp only [rep, List.length_append, rep_length n z]; rw [Nat.add_mul]; omega
theorem rep_get : ∀ (n : Nat) (z : List AV) (i : Nat), i < n * z.length → (rep n z)[i]? = z[i % z.length]?
  | 0, z, i, h => by simp at h
  | n + 1, z, i, h => by
    simp only [rep]
    by_cases hi : i < z.length
    · rw [List.getElem?_append_left hi, Nat.mod_eq_of_lt hi]
    · rw [List.getElem?_append_right (by omega), rep_get n z _ (by rw [Nat.add_mul] at h; omega)]
      rw [← Nat.mod_eq_sub_mod (by omega)]
theorem zeros_ok {j : J} {z : List AV} {zs : Array Value} (h : VRs j z zs.toList) (len n : Nat) (hn : z.length = n) :
    VRs j (rep len z) ((Array.range (len * n)).map (fun i => zs[i % zs.size]!)).toList := by
  have hl := h.length
  have hsz : zs.size = n := by rw [← hn, hl]; simp
  refine VRs.mk (by rw [rep_length]; simp [hn]) fun i a ha => ?_
  have hi : i < len * z.length := by
    rw [← rep_length]
    rcases Nat.lt_or_ge i (rep len z).length with h | h
    · exact h
    · rw [List.getElem?_eq_none h] at ha; cases ha
  rw [rep_get _ _ _ hi] at ha
  obtain ⟨v, hv, hr⟩ := h.get _ _ ha
  refine ⟨v, ?_, hr⟩
  have hi' : i < len * n := by rw [← hn]; exact hi
  have hmod : i % n < n := Nat.mod_lt _ (by
    rcases Nat.eq_zero_or_pos n with h0 | h0
    · subst h0; simp at hi'
    · exact h0)
  rw [hn] at hv
  simp [hi', hsz]
  have hv' : zs[i % n]? = some v := by simpa using hv
  have : i % n < zs.size := by omega
  rw [getElem!_pos zs (i % n) this]
  rw [getElem?_pos zs (i % n) this] at hv'
  exact Option.some.inj hv'

def AAns (P : Program) (j : J) (B : Nat) (a : Act) (w : World) (o : Oper) (id : Nat) (v : AV) (ob : AObj) (ty : Option Nat) : Prop :=
  ∃ x w' obj t, (execOp a.eval o).run P w = .ok (.value x) w' ∧ w'.heap = w.heap.push obj ∧ w'.os = w.os ∧ w'.tape = w.tape ∧ w'.output = w.output ∧
    VR (j.put id (w.heap.size, 0, t)) v x ∧ ORel (j.put id (w.heap.size, 0, t)) w' B w.heap.size 0 t ob ∧ ∀ e, ty = some e → ∃ c fr, obj = .cells c e fr

theorem row_born {j : J} {w w' : World} {B : Nat} {cs : List AV} {c : Array Value} {e : TypeId} {fr : Nat × Nat} (hB : B ≤ w.heap.size) (hw : w'.heap = w.heap.push (.cells c e fr)) (hone : allOne cs = true)
    {t : Nat} (ht : c.size = t) (hle : cs.length ≤ t) (hc : ∀ (i : Nat) (v : AV), cs[i]? = some v → ∃ x, c[i]? = some x ∧ VR j v x) (hfr : fr.1 = fr.2 ∨ c.size ≤ fr.1) : ORel j w' B w.heap.size 0 t (.row false cs) := by
  refine ⟨hB, hone, c, e, fr, by rw [hw]; simp, by omega, hle, fun i v hv => ?_, hfr⟩
  rw [Nat.zero_add]; exact hc i v hv

theorem VRs.arr {j : J} {l : List AV} {c : Array Value} (h : VRs j l c.toList) : ∀ (i : Nat) (v : AV), l[i]? = some v → ∃ x, c[i]? = some x ∧ VR j v x := by
  intro i v hv
  obtain ⟨x, hx, hr⟩ := h.get i v hv
  exact ⟨x, by simpa using hx, hr⟩

theorem ofBytes_length : ∀ (l : List UInt8), (ofBytes l).length = l.length
  | [] => rfl
  | c :: r => by simp [ofBytes, ofBytes_length r]
theorem ofBytes_get : ∀ (l : List UInt8) (i : Nat), (ofBytes l)[i]? = (l[i]?).map fun c => AV.i .u8 c.toNat
  | [], i => by simp [ofBytes]
  | c :: r, 0 => by simp [ofBytes]
  | c :: r, i + 1 => by simp [ofBytes, ofBytes_get r i]
theorem ofBytes_one (l : List UInt8) : allOne (ofBytes l) = true := allOne_of fun i v hv => by
  rw [ofBytes_get] at hv
  cases h : l[i]? with
  | none => rw [h] at hv; cases hv
  | some c => rw [h] at hv; cases hv; rfl

def s2bCells (l : List UInt8) (cap : Nat) : Array Value := ((⟨l⟩ : Array UInt8).map fun b => Value.int .u8 b.toNat) ++ Array.replicate (cap - l.length) (.int .u8 0)
theorem heap_alloc (w : World) (o : Obj) : (w.alloc o).heap = w.heap.push o := rfl
theorem heap_drew (w : World) : w.drew.heap = w.heap := rfl
theorem stringToBytes_run (el : TypeId) (l : List UInt8) (w : World) : ∃ cap w', l.length ≤ cap ∧ (Conv.stringToBytes el ⟨⟨l⟩⟩).run P w = .ok (.slice (some ⟨w.heap.size, 0, none⟩) l.length cap) w' ∧
    w'.heap = w.heap.push (.cells (s2bCells l cap) el (cap, cap + 1)) ∧ w'.os = w.os ∧ w'.tape = w.tape ∧ w'.output = w.output := by
  have hle : l.length ≤ Question.cut (.appendCap l.length 0 el) (w.tape w.drawn (.appendCap l.length 0 el)) := by simp [Question.cut]
  have hrun : (choose (.appendCap l.length 0 el)).run P w = .ok (Question.cut (.appendCap l.length 0 el) (w.tape w.drawn (.appendCap l.length 0 el))) w.drew := by
    rw [run_choose_drew]; simp [Question.forced]
  generalize Question.cut (.appendCap l.length 0 el) (w.tape w.drawn (.appendCap l.length 0 el)) = cap at hle hrun
  have hcs : (s2bCells l cap).size = cap := by simp [s2bCells]; omega
  have hsh : (w.drew.alloc (.cells (s2bCells l cap) el)).shape? w.heap.size = some (el, cap) := by
    have : (w.drew.alloc (.cells (s2bCells l cap) el)).heap[w.heap.size]? = some (.cells (s2bCells l cap) el (0, 0)) := by rw [heap_alloc, heap_drew]; simp
    unfold World.shape?
    rw [this]
    simp only [hcs]
  refine ⟨cap, (w.drew.alloc (.cells (s2bCells l cap) el)).freeze ⟨w.heap.size, cap, none⟩ 1, hle, ?_, ?_, rfl, rfl, rfl⟩
  · have hnew : (newObj (.cells (s2bCells l cap) el)).run P w.drew = .ok w.heap.size (w.drew.alloc (.cells (s2bCells l cap) el)) := rfl
    unfold Conv.stringToBytes
    simp only [Sem.run_bind, bytes_size, hrun, Result.andThen_ok]
    show ((newRow el (s2bCells l cap)).run P w.drew).andThen _ = _
    simp only [newRow, Sem.run_bind, hnew, Result.andThen_ok, Sem.run_pure, markStringish, run_shape, hsh, run_freeze]
  · apply Array.ext_getElem?
    intro k
    simp only [World.freeze, Nat.one_ne_zero, if_false, heap_alloc, heap_drew]
    rw [Array.getElem?_modify, Array.getElem?_push, Array.getElem?_push]
    by_cases hk : w.heap.size = k
    · subst hk; simp
    · rw [if_neg hk]
      by_cases hk2 : k = w.heap.size
      · exact absurd hk2.symm hk
      · rw [if_neg hk2, if_neg hk2]

set_option maxHeartbeats 1000000 in
theorem aev_sound {j : J} {B : Nat} {w : World} (hB : B ≤ w.heap.size) (hg : GlobOk P j) {e : Env} {a : Act} (he : ER j e a.tmps) {o : Oper} {ao : AO} {v : AV} {id : Nat} {ob : AObj} (hid : j id = none)
    (hc : compOp P o = some (.A ao)) (hv : aev e id ao = some (v, ob)) : AAns P j B a w o id v ob (aty ao) := by
  obtain ⟨dst, op, type, pos, after, gd⟩ := o
  cases op with
  | alloc t =>
    simp only [compOp] at hc
    split at hc
    · rename_i z hz
      cases hc
      simp only [aev] at hv
      obtain ⟨hone, hv⟩ := bif_none hv
      cases hv
      obtain ⟨zv, hzv, hzr⟩ := r_zero hz
      have hcells := VR.cells (ofV_VR (j := j.put id (w.heap.size, 0, zv.cells.size)) hzv)
      refine ⟨.pointer (some ⟨w.heap.size, 0, none⟩), w.alloc (.cells zv.cells t), .cells zv.cells t, zv.cells.size, ?_, rfl, rfl, rfl, rfl, ?_, ?_, fun e he => by cases he <;> exact ⟨_, _, rfl⟩⟩
      · simp [execOp, Instr.alloc, hzr, newVar, newRow]
      · simp only [VR]; exact ⟨_, _, _, J.put_self _ _ _, rfl⟩
      · exact row_born hB rfl hone rfl (by rw [hcells.length]; simp) hcells.arr (.inl rfl)
    · cases hc
  | box t x =>
    simp only [compOp] at hc
    split at hc
    · rename_i y hy
      cases hc
      have hx := VR.mono (J.put_le (loc := (w.heap.size, 0, (a.eval x).cells.size)) hid) _ _ (cx_VR hg he hy)
      have hcells := VR.cells hx
      simp only [aev] at hv
      have hv' : allOne (y.ev e).cells = true ∧ v = .p (some (id, 0)) ∧ ob = .row false (y.ev e).cells := by
        split at hv
        · cases hv
        · obtain ⟨hone, hv⟩ := bif_none hv
          cases hv; exact ⟨hone, rfl, rfl⟩
      obtain ⟨hone, rfl, rfl⟩ := hv'
      refine ⟨.pointer (some ⟨w.heap.size, 0, none⟩), w.alloc (.cells (a.eval x).cells t), .cells (a.eval x).cells t, (a.eval x).cells.size, ?_, rfl, rfl, rfl, rfl, ?_, ?_, fun e he => by cases he <;> exact ⟨_, _, rfl⟩⟩
      · simp [execOp, Instr.box, newVar, newRow]
      · simp only [VR]; exact ⟨_, _, _, J.put_self _ _ _, rfl⟩
      · exact row_born hB rfl hone rfl (by rw [hcells.length]; simp) hcells.arr (.inl rfl)
    · cases hc
  | buildSlice t len parts =>
    simp only [compOp] at hc
    split at hc
    · rename_i el hu
      split at hc
      · rename_i n z hn hz
        split at hc
        · rename_i q hq
          obtain ⟨hchk, hc⟩ := bif_none hc
          rw [nat_ble, nat_beq] at hchk
          simp only [Bool.and_eq_true, decide_eq_true_eq] at hchk
          obtain ⟨hbig, hzn⟩ := hchk
          have hbig : len * n ≤ 1000000 := hbig
          cases hc
          simp only [aev] at hv
          split at hv
          · rename_i l hl
            obtain ⟨hone, hv⟩ := bif_none hv
            cases hv
            obtain ⟨zv, hzv, hzr⟩ := r_zero hz
            have hz0 : VRs j z.cells zv.cells.toList := VR.cells (ofV_VR hzv)
            have fin : ∀ (zc : Array Value), VRs j (rep len z.cells) ((Array.range (len * n)).map (fun i => zc[i % zc.size]!)).toList →
                (∀ cells', Instr.fill (fun i => some (i * n, n)) ((Array.range (len * n)).map (fun i => zc[i % zc.size]!)) (parts.toList.map fun p => (p.1, a.eval p.2)) = some cells' →
                  (execOp a.eval ⟨dst, .buildSlice t len parts, type, pos, after, gd⟩).run P w = .ok (.value (.slice (some ⟨w.heap.size, 0, none⟩) len len)) (w.alloc (.cells cells' el))) →
                AAns P j B a w ⟨dst, .buildSlice t len parts, type, pos, after, gd⟩ id (.sl (some (id, 0)) len (some len) n) (.row false l) (some el) := by
              intro zc hzvr hrun
              obtain ⟨cells', hfill, hv'⟩ := fill_ok hg he parts.toList q _ l _ hq hl hzvr
              have hlen : l.length = len * n := by
                have : ∀ (ps : List (Nat × Nat × AV)) (cs l : List AV), fillA cs ps = some l → l.length = cs.length := by
                  intro ps
                  induction ps with
                  | nil => intro cs l h; simp only [fillA] at h; cases h; rfl
                  | cons p ps ih =>
                    obtain ⟨p1, p2, p3⟩ := p
                    intro cs l h
                    simp only [fillA] at h
                    obtain ⟨hc, h⟩ := bif_none h
                    rw [nat_beq, nat_ble] at hc
                    simp only [Bool.and_eq_true, decide_eq_true_eq] at hc
                    have h2 : p1 + p2 ≤ cs.length := hc.2
                    rw [ih _ _ h, over_length _ _ _ (by omega)]; omega
                rw [this _ _ _ hl, rep_length, hzn]
              have hv2 := VRs.mono (J.put_le (loc := (w.heap.size, 0, len * n)) hid) _ _ hv'
              refine ⟨.slice (some ⟨w.heap.size, 0, none⟩) len len, w.alloc (.cells ⟨cells'⟩ el), .cells ⟨cells'⟩ el, len * n, hrun _ hfill, rfl, rfl, rfl, rfl, ?_, ?_, fun e he => by cases he <;> exact ⟨_, _, rfl⟩⟩
              · simp only [VR]
                exact ⟨_, len, rfl, Nat.le_refl _, fun c' hc => (Option.some.inj hc).symm, .inr ⟨_, _, _, J.put_self _ _ _, rfl, fun _ => by omega⟩⟩
              · exact row_born hB rfl hone (by have := hv'.length; simp at this ⊢; omega) (by omega) (VRs.arr (c := ⟨cells'⟩) hv2) (.inl rfl)
            have hb : ¬ (len * n > 2 ^ 24) := by omega
            have hmap : (parts.map fun x => (x.1, a.eval x.2)).toList = parts.toList.map fun p => (p.1, a.eval p.2) := by simp
            by_cases h0 : len * n = 0
            · refine fin #[] ?_ ?_
              · have : rep len z.cells = [] := List.eq_nil_of_length_eq_zero (by rw [rep_length, hzn]; exact h0)
                rw [this, h0]; simp [VRs]
              · intro cells' hfill
                simp only [execOp, Instr.buildSlice, Sem.run_bind, run_underlying hu, Result.andThen_ok, r_size hn]
                rw [if_neg hb, if_pos h0]
                simp only [Sem.run_bind, Sem.run_pure, Result.andThen_ok]
                have hmap2 : (Array.map (fun x => match x with | (i, x) => (i, a.eval x)) parts).toList = parts.toList.map fun p => (p.1, a.eval p.2) := by simp
                rw [hmap2, hfill]
                simp [newRow]
            · refine fin zv.cells (zeros_ok hz0 len n hzn) ?_
              intro cells' hfill
              simp only [execOp, Instr.buildSlice, Sem.run_bind, run_underlying hu, Result.andThen_ok, r_size hn]
              rw [if_neg hb, if_neg h0]
              simp only [Sem.run_bind, Sem.run_pure, Result.andThen_ok, hzr]
              have hmap2 : (Array.map (fun x => match x with | (i, x) => (i, a.eval x)) parts).toList = parts.toList.map fun p => (p.1, a.eval p.2) := by simp
              rw [hmap2, hfill]
              simp [newRow]
          · cases hv
        · cases hc
      · cases hc
    · cases hc
  | makeSlice t l c =>
    simp only [compOp] at hc
    split at hc
    · rename_i el hu
      split at hc
      · rename_i i z l' c' hi hz hl hcc
        obtain ⟨hzn, hc⟩ := bif_none hc
        rw [nat_beq] at hzn
        simp only [decide_eq_true_eq] at hzn
        cases hc
        have hlv := cx_VR hg he hl
        have hcv := cx_VR hg he hcc
        simp only [aev] at hv
        split at hv
        · rename_i k1 ln k2 cn h1 h2
          obtain ⟨hcond, hv⟩ := ite_none hv
          obtain ⟨hone, hv⟩ := bif_none hv
          cases hv
          rw [h1] at hlv; rw [h2] at hcv
          have hlv := r_int hlv
          have hcv := r_int hcv
          obtain ⟨g1, g2, g3, g4⟩ := hcond
          obtain ⟨zv, hzv, hzr⟩ := r_zero hz
          have hz0 : VRs j z.cells zv.cells.toList := VR.cells (ofV_VR hzv)
          have hsz : sizeT P el = some i.size := by simp [sizeT, hi]
          have hwl : IntKind.i64.wrap ln = ln := by simp only [IntKind.wrap, IntKind.bits, IntKind.signed]; simp; omega
          have hwc : IntKind.i64.wrap cn = cn := by simp only [IntKind.wrap, IntKind.bits, IntKind.signed]; simp; omega
          have fin : ∀ (zc : Array Value), VRs j (rep cn.toNat z.cells) ((Array.range (cn.toNat * i.size)).map (fun q => zc[q % zc.size]!)).toList →
              (execOp a.eval ⟨dst, .makeSlice t l c, type, pos, after, gd⟩).run P w = .ok (.value (.slice (some ⟨w.heap.size, 0, none⟩) ln.toNat cn.toNat)) (w.alloc (.cells ((Array.range (cn.toNat * i.size)).map (fun q => zc[q % zc.size]!)) el)) →
              AAns P j B a w ⟨dst, .makeSlice t l c, type, pos, after, gd⟩ id (.sl (some (id, 0)) ln.toNat (some cn.toNat) i.size) (.row false (rep cn.toNat z.cells)) (some el) := by
            intro zc hzvr hrun
            have hv2 := VRs.mono (J.put_le (loc := (w.heap.size, 0, cn.toNat * i.size)) hid) _ _ hzvr
            refine ⟨_, _, _, cn.toNat * i.size, hrun, rfl, rfl, rfl, rfl, ?_, ?_, fun e he => by cases he <;> exact ⟨_, _, rfl⟩⟩
            · simp only [VR]
              exact ⟨_, cn.toNat, rfl, by omega, fun c' hc => (Option.some.inj hc).symm, .inr ⟨_, _, _, J.put_self _ _ _, rfl, fun _ => by omega⟩⟩
            · refine row_born hB rfl ?_ (by simp) (by rw [rep_length, hzn]; exact Nat.le_refl _) (VRs.arr hv2) (.inl rfl)
              refine allOne_of fun q v hq => ?_
              have hlt : q < cn.toNat * z.cells.length := by
                rw [← rep_length]
                rcases Nat.lt_or_ge q (rep cn.toNat z.cells).length with h | h
                · exact h
                · rw [List.getElem?_eq_none h] at hq; cases hq
              rw [rep_get _ _ _ hlt] at hq
              exact one_of_allOne hone _ _ hq
          have hroom : ∀ n w, (askRoom n).run P w = .ok () w := fun n w => run_askRoom P w n
          have hbytes : (0 : Int) ≤ i.bytes := by omega
          have htl : ∀ q : Int, 0 ≤ q → q ≤ cn → (decide (q < 0) || decide ((i.bytes : Int) * q > 2 ^ 48)) = false := by
            intro q hq0 hqc
            have : (i.bytes : Int) * q ≤ 1099511627776 := by
              have h5 : (i.bytes : Int) * q ≤ i.bytes * cn := Int.mul_le_mul_of_nonneg_left hqc hbytes
              have h6 : cn * (i.bytes : Int) = i.bytes * cn := Int.mul_comm _ _
              omega
            simp; omega
          have htc := htl cn (by omega) (Int.le_refl _)
          by_cases h0 : cn.toNat * i.size = 0
          · refine fin #[] ?_ ?_
            · have : rep cn.toNat z.cells = [] := List.eq_nil_of_length_eq_zero (by rw [rep_length, hzn]; exact h0)
              rw [this, h0]; simp [VRs]
            · simp only [execOp, Instr.makeSlice, Sem.run_bind, run_underlying hu, Result.andThen_ok, hlv, hcv, asInt, asIntOf, Sem.run_pure, r_info hi, hwl, hwc]
              rw [if_neg (by rw [htc]; simp; omega)]
              simp only [Sem.run_bind, hroom, Result.andThen_ok, r_size hsz]
              rw [if_pos h0]
              simp [newRow]
          · refine fin zv.cells (zeros_ok hz0 cn.toNat i.size hzn) ?_
            simp only [execOp, Instr.makeSlice, Sem.run_bind, run_underlying hu, Result.andThen_ok, hlv, hcv, asInt, asIntOf, Sem.run_pure, r_info hi, hwl, hwc]
            rw [if_neg (by rw [htc]; simp; omega)]
            simp only [Sem.run_bind, hroom, Result.andThen_ok, r_size hsz]
            rw [if_neg h0]
            simp [newRow, hzr]
        · cases hv
      · cases hc
    · cases hc
  | convert src dst' x =>
    simp only [compOp] at hc
    split at hc
    · cases hc
    · cases hc
    · cases hc
    · split at hc
      · obtain ⟨_, hc'⟩ := bif_none hc; cases hc'
      · cases hc
    · rename_i el x' h1 h2 h3
      split at hc
      · rename_i h4
        cases hc
        have hx := cx_VR hg he h3
        simp only [aev] at hv
        split at hv
        · rename_i l hl
          cases hv
          rw [hl] at hx
          simp only [VR] at hx
          obtain ⟨cap, w', hle, hrun, hheap, e1, e2, e3⟩ := stringToBytes_run (P := P) el l w
          have hcs : (s2bCells l cap).size = cap := by simp [s2bCells]; omega
          refine ⟨.slice (some ⟨w.heap.size, 0, none⟩) l.length cap, w', _, cap, ?_, hheap, e1, e2, e3, ?_, ?_, fun e he => by cases he; exact ⟨_, _, rfl⟩⟩
          · simp only [execOp, convert, Sem.run_bind, run_underlying h1, run_underlying h2, Result.andThen_ok, hx, run_underlying h4, hrun, Sem.run_pure]
          · simp only [VR]
            exact ⟨_, cap, rfl, hle, fun c' hc => (by cases hc), .inr ⟨_, _, _, J.put_self _ _ _, rfl, fun _ => by omega⟩⟩
          · refine row_born hB hheap (ofBytes_one l) hcs (by rw [ofBytes_length]; exact hle) (fun i v hv => ?_) (.inr (by omega))
            rw [ofBytes_get] at hv
            cases hq : l[i]? with
            | none => rw [hq] at hv; cases hv
            | some q =>
              rw [hq] at hv; simp only [Option.map_some] at hv; cases hv
              refine ⟨.int .u8 q.toNat, ?_, rfl⟩
              have hi : i < l.length := by
                rcases Nat.lt_or_ge i l.length with h | h
                · exact h
                · rw [List.getElem?_eq_none h] at hq; cases hq
              unfold s2bCells
              rw [Array.getElem?_append_left (by simp; exact hi)]
              have hq' : l[i] = q := by rw [List.getElem?_eq_getElem hi] at hq; exact Option.some.inj hq
              simp [hi, hq']
        · cases hv
      · cases hc
    · split at hc <;> cases hc
    · cases hc
    · cases hc
    · cases hc
  | makeMap t rr =>
    cases rr with
    | some rr => simp only [compOp] at hc; cases hc
    | none =>
      simp only [compOp] at hc; cases hc
      simp only [aev] at hv; cases hv
      refine ⟨.map (some w.heap.size), w.alloc (.map #[] 0), .map #[] 0, 0, ?_, rfl, rfl, rfl, rfl, ?_, ?_, fun e he => by cases he <;> exact ⟨_, _, rfl⟩⟩
      · simp [execOp, Instr.makeMap]
      · simp only [VR]; exact ⟨_, _, _, J.put_self _ _ _, rfl⟩
      · exact ⟨hB, rfl, #[], by rw [heap_alloc]; simp, by simp [MR], fun e he => by cases he⟩
  | range t x =>
    simp only [compOp] at hc
    split at hc
    · rename_i x' hu hx'
      cases hc
      have hx := cx_VR hg he hx'
      simp only [aev] at hv
      split at hv
      · rename_i l hl
        cases hv
        rw [hl] at hx; simp only [VR] at hx
        refine ⟨.pointer (some ⟨w.heap.size, 0, none⟩), w.alloc (.stringIter ⟨⟨l⟩⟩ 0), .stringIter ⟨⟨l⟩⟩ 0, 0, ?_, rfl, rfl, rfl, rfl, ?_, ?_, fun e he => by cases he <;> exact ⟨_, _, rfl⟩⟩
        · simp [execOp, Instr.range, run_underlying hu, hx]
        · simp only [VR]; exact ⟨_, _, _, J.put_self _ _ _, rfl⟩
        · exact ⟨hB, rfl, by rw [heap_alloc]; simp⟩
      · cases hv
    · cases hc
    · cases hc
  | call c =>
    obtain ⟨callee, args, argTypes⟩ := c
    simp only [compOp] at hc
    split at hc
    · repeat' (first | (cases hc; done) | (obtain ⟨_, hc'⟩ := bif_none hc; cases hc'; done) | split at hc)
    · repeat' (first | (cases hc; done) | (obtain ⟨_, hc'⟩ := bif_none hc; cases hc'; done) | split at hc)
    · repeat' (first | (cases hc; done) | (obtain ⟨_, hc'⟩ := bif_none hc; cases hc'; done) | split at hc)
    · repeat' (first | (cases hc; done) | (obtain ⟨_, hc'⟩ := bif_none hc; cases hc'; done) | split at hc)
    · repeat' (first | (cases hc; done) | (obtain ⟨_, hc'⟩ := bif_none hc; cases hc'; done) | split at hc)
    · repeat' (first | (cases hc; done) | (obtain ⟨_, hc'⟩ := bif_none hc; cases hc'; done) | split at hc)
    · repeat' (first | (cases hc; done) | (obtain ⟨_, hc'⟩ := bif_none hc; cases hc'; done) | split at hc)
    · repeat' (first | (cases hc; done) | (obtain ⟨_, hc'⟩ := bif_none hc; cases hc'; done) | split at hc)
    · repeat' (first | (cases hc; done) | (obtain ⟨_, hc'⟩ := bif_none hc; cases hc'; done) | split at hc)
    · repeat' (first | (cases hc; done) | (obtain ⟨_, hc'⟩ := bif_none hc; cases hc'; done) | split at hc)
    · repeat' (first | (cases hc; done) | (obtain ⟨_, hc'⟩ := bif_none hc; cases hc'; done) | split at hc)
  | next x b =>
    cases b with
    | false => simp only [compOp] at hc; split at hc <;> cases hc
    | true => simp only [compOp] at hc; split at hc <;> cases hc
  | _ =>
    simp only [compOp] at hc
    repeat' (first | (cases hc; done) | (obtain ⟨_, hc'⟩ := bif_none hc; cases hc'; done) | split at hc)
end
end Ab
end Go.Proofs.YtcoobajkgioflaaGreatDoor
