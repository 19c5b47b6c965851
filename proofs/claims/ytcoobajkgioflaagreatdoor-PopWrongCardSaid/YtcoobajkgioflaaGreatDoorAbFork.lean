/- Steps of an iterator over a map: one of several ends; many ends told as one. -/
import Derived.Test.YtcoobajkgioflaaGreatDoorAbDraw
import Derived.Laws.IdiomRangeMap
set_option linter.unusedSimpArgs false
set_option linter.unusedVariables false
namespace Go.Proofs.YtcoobajkgioflaaGreatDoor
namespace Ab
section
variable {P : Program} {S : Sums}

/-- A use of an operation that may come to several ends. -/
def DoesL (P : Program) (j : J) (h : AH) (B : Nat) (a : Act) (w : World) (o : Oper) (l : List (AV × AH)) : Prop :=
  ∀ (K : Act → World → Prop) (Q : Exit → Act → World → Prop), (∀ p ∈ l, ∀ x w' j', VR j' p.1 x → Rep j' p.2 B w' → j.ext h.next j' → h.next ≤ p.2.next → Bel B w w' → K (a.put o.dst x) w') → o.wp P a w K Q

theorem bif_else {α : Type} {c : Bool} {x : Option α} {v : α} (h : (bif c then none else x) = some v) : c = false ∧ x = some v := by
  cases c with
  | true => cases h
  | false => exact ⟨rfl, h⟩
theorem hasN_iff (n : Nat) : ∀ l : List Nat, hasN n l = l.contains n
  | [] => rfl
  | m :: r => by simp only [hasN, nat_beq, hasN_iff n r, List.contains_cons]; rfl
theorem nat_blt (a b : Nat) : Nat.blt a b = decide (a < b) := by
  by_cases h : a < b
  · simp [h]
  · simp only [h, decide_false]; exact Bool.eq_false_iff.2 fun hh => h (by simpa using hh)
theorem MR.left {j : J} {seen : List Nat} : ∀ {l : List (AV × AV × Nat)} {es : List MapEntry}, MR j l es → MR j (leftA seen l) (es.filter fun e => !(⟨seen⟩ : Array Nat).contains e.born)
  | [], es, h => by simp only [MR] at h; subst h; simp [leftA, MR]
  | (k, v, n) :: r, es, h => by
    simp only [MR] at h
    obtain ⟨e, q, rfl, h1, h2, h3, h4⟩ := h
    have ih := h4.left (seen := seen)
    simp only [leftA, hasN_iff, List.filter_cons]
    have hc : (⟨seen⟩ : Array Nat).contains e.born = seen.contains n := by rw [h3]; simp
    rw [hc]
    cases seen.contains n with
    | true => simpa using ih
    | false => simp only [cond_false, Bool.not_false, if_true, MR]; exact ⟨e, _, rfl, h1, h2, h3, ih⟩
theorem MR.old {j : J} {since : Nat} : ∀ {l : List (AV × AV × Nat)} {es : List MapEntry}, MR j l es → MR j (oldA since l) (es.filter fun e => decide (e.born < since))
  | [], es, h => by simp only [MR] at h; subst h; simp [oldA, MR]
  | (k, v, n) :: r, es, h => by
    simp only [MR] at h
    obtain ⟨e, q, rfl, h1, h2, h3, h4⟩ := h
    have ih := h4.old (since := since)
    simp only [oldA, List.filter_cons]
    have hc : Nat.blt n since = decide (e.born < since) := by rw [h3, nat_blt]
    rw [hc]
    cases decide (e.born < since) with
    | false => simpa using ih
    | true => simp only [cond_true, if_true, MR]; exact ⟨e, _, rfl, h1, h2, h3, ih⟩
theorem MR.new {j : J} {since : Nat} : ∀ {l : List (AV × AV × Nat)} {es : List MapEntry}, MR j l es → MR j (newA since l) (es.filter fun e => decide (e.born ≥ since))
  | [], es, h => by simp only [MR] at h; subst h; simp [newA, MR]
  | (k, v, n) :: r, es, h => by
    simp only [MR] at h
    obtain ⟨e, q, rfl, h1, h2, h3, h4⟩ := h
    have ih := h4.new (since := since)
    simp only [newA, List.filter_cons]
    have hc : Nat.blt n since = !decide (e.born ≥ since) := by
      rw [h3, nat_blt, ← decide_not, decide_eq_decide]; omega
    rw [hc]
    cases decide (e.born ≥ since) with
    | false => simpa using ih
    | true => simp only [Bool.not_true, cond_false, if_true, MR]; exact ⟨e, _, rfl, h1, h2, h3, ih⟩
theorem MR.append {j : J} : ∀ {l : List (AV × AV × Nat)} {es : List MapEntry} {l' : List (AV × AV × Nat)} {es' : List MapEntry}, MR j l es → MR j l' es' → MR j (l ++ l') (es ++ es')
  | [], es, l', es', h, h' => by simp only [MR] at h; subst h; simpa using h'
  | (k, v, n) :: r, es, l', es', h, h' => by
    simp only [MR] at h
    obtain ⟨e, q, rfl, h1, h2, h3, h4⟩ := h
    simp only [List.cons_append, MR]
    exact ⟨e, _, rfl, h1, h2, h3, h4.append h'⟩
theorem MR.isNil {j : J} {l : List (AV × AV × Nat)} {es : List MapEntry} (h : MR j l es) : es = [] ↔ l = [] := by
  cases l with
  | nil => simp only [MR] at h; simp [h]
  | cons p r =>
    obtain ⟨k, v, n⟩ := p
    simp only [MR] at h
    obtain ⟨e, q, rfl, _⟩ := h
    simp
theorem MR.mem {j : J} : ∀ {l : List (AV × AV × Nat)} {es : List MapEntry}, MR j l es → ∀ e ∈ es, ∃ k v n, (k, v, n) ∈ l ∧ VR j k e.key ∧ VR j v e.val ∧ e.born = n
  | [], es, h, e, he => by simp only [MR] at h; subst h; cases he
  | (k, v, n) :: r, es, h, e, he => by
    simp only [MR] at h
    obtain ⟨e0, q, rfl, h1, h2, h3, h4⟩ := h
    rcases List.mem_cons.1 he with rfl | he
    · exact ⟨k, v, n, by simp, h1, h2, h3⟩
    · obtain ⟨k', v', n', g1, g2⟩ := h4.mem e he
      exact ⟨k', v', n', List.mem_cons_of_mem _ g1, g2⟩
theorem outsA_mem {h : AH} {id m since clock : Nat} {seen : List Nat} : ∀ {l : List (AV × AV × Nat)} {k v : AV} {b : Nat}, (k, v, b) ∈ l →
    (AV.t [.b true, k, v], ({ h with objs := h.objs.set id (some (.mit (some m) since (seen ++ [b]) clock)) } : AH)) ∈ outsA h id m since clock seen l
  | [], _, _, _, he => by cases he
  | (k', v', b') :: r, k, v, b, he => by
    simp only [outsA]
    rcases List.mem_cons.1 he with he | he
    · cases he; exact List.mem_cons_self ..
    · exact List.mem_cons_of_mem _ (outsA_mem he)

theorem nextm_inv {o : Oper} {x : AX} (h : compOp P o = some (.E (.nextm x))) : ∃ it, o.op = .next it false ∧ cx P it = some x := by
  obtain ⟨dst, op, type, pos, after, gd⟩ := o
  cases op with
  | next it st =>
    cases st with
    | false =>
      simp only [compOp] at h
      split at h
      · rename_i y hy; cases h; exact ⟨it, rfl, hy⟩
      · cases h
    | true => simp only [compOp] at h; split at h <;> cases h
  | call c =>
    obtain ⟨callee, args, argTypes⟩ := c
    simp only [compOp] at h
    cases callee with
    | value g => simp only at h; split at h <;> cases h
    | invoke r n => simp only at h; cases h
    | builtin b =>
      cases b <;> simp only at h <;> repeat' (first | (cases h; done) | (obtain ⟨_, hc'⟩ := bif_none h; cases hc'; done) | split at h)
  | makeMap t rr => cases rr <;> (simp only [compOp] at h; cases h)
  | _ =>
    simp only [compOp] at h
    repeat' (first | (cases h; done) | (obtain ⟨_, hc'⟩ := bif_none h; cases hc'; done) | split at h)

theorem choose_next (w : World) (n : Nat) (hn : 0 < n) : ∃ (k : Nat) (w1 : World), k < n ∧ w1.heap = w.heap ∧ w1.os = w.os ∧ w1.tape = w.tape ∧ w1.output = w.output ∧ (choose (.mapNext n)).run P w = .ok k w1 := by
  by_cases hf : n ≤ 1
  · exact ⟨0, w, by omega, rfl, rfl, rfl, rfl, by simp [choose, Sem.run, Question.forced, hf]⟩
  · refine ⟨Question.cut (.mapNext n) (w.tape w.drawn (.mapNext n)), w.drew, ?_, rfl, rfl, rfl, rfl, ?_⟩
    · simp only [Question.cut]; exact Nat.mod_lt _ hn
    · rw [run_choose_drew]; simp [Question.forced, hf]

/-- What stands at a place among the candidates. -/
theorem cand_get {old new : Array MapEntry} {k : Nat} (hk : k < ((if old.isEmpty then #[none] else #[]) ++ (old ++ new).map some).size) :
    (old = #[] ∧ ((if old.isEmpty then #[none] else #[]) ++ (old ++ new).map some)[k]? = some none) ∨ ∃ e ∈ old.toList ++ new.toList, ((if old.isEmpty then #[none] else #[]) ++ (old ++ new).map some)[k]? = some (some e) := by
  have key : ∀ i, i < (old ++ new).size → ∃ e ∈ old.toList ++ new.toList, ((old ++ new).map some)[i]? = some (some e) := by
    intro i hi
    refine ⟨(old ++ new)[i], ?_, by rw [Array.getElem?_map, Array.getElem?_eq_getElem hi]; rfl⟩
    rw [← Array.toList_append]
    exact Array.getElem_mem_toList hi
  by_cases h0 : old.isEmpty = true
  · rw [if_pos h0] at hk ⊢
    have he : old = #[] := by simpa using h0
    cases k with
    | zero => left; exact ⟨he, by rw [Array.getElem?_append_left (by simp)]; rfl⟩
    | succ k =>
      right
      obtain ⟨e, g1, g2⟩ := key k (by simp at hk ⊢; omega)
      refine ⟨e, g1, ?_⟩
      rw [Array.getElem?_append_right (by simp)]
      simpa using g2
  · rw [if_neg h0] at hk ⊢
    right
    obtain ⟨e, g1, g2⟩ := key k (by simpa using hk)
    exact ⟨e, g1, by simpa using g2⟩

theorem nextm_sound {j : J} {h : AH} {B : Nat} {w : World} (r : Rep j h B w) (hg : GlobOk P j) {e : Env} {a : Act} (he : ER j e a.tmps) {o : Oper} {x : AX} {l : List (AV × AH)}
    (hc : compOp P o = some (.E (.nextm x))) (hv : nextmA h (x.ev e) = some l) : DoesL P j h B a w o l := by
  obtain ⟨it, hop, hit⟩ := nextm_inv hc
  obtain ⟨dst, op, type, pos, after, gd⟩ := o
  simp only at hop; subst hop
  have hx := cx_VR hg he hit
  unfold nextmA at hv
  split at hv
  case h_2 => cases hv
  rename_i id hid
  rw [hid] at hx; simp only [VR] at hx
  obtain ⟨bb, oo, tt, hl, hx⟩ := hx
  intro K Q hK
  split at hv
  · rename_i a1 a2 a3 hob
    cases hv
    obtain ⟨_, ho, rr, hb, hrr⟩ := r.objs id _ bb oo tt hob hl
    subst ho; subst hrr
    refine wp_value (x := .tuple #[.bool false]) (w' := w) ?_ (hK _ (List.mem_singleton.2 rfl) _ w j (by simp only [VR, VRs]; exact ⟨_, rfl, _, _, rfl, rfl, rfl⟩) r (J.ext_refl _ _) (Nat.le_refl _) (RowKit.Below.refl _ _))
    simp [execOp, Instr.next, hx, getObj, Sem.run, hb]
  · rename_i m since seen last hob
    split at hv
    case h_2 => cases hv
    rename_i es clock hmap
    obtain ⟨htest, hv⟩ := bif_else hv
    cases hv
    obtain ⟨hBb, ho, rr, hb, bm, om, tm, hjm, hrr⟩ := r.objs id _ bb oo tt hob hl
    obtain ⟨_, _, es', hbm, hMR, _⟩ := r.objs m _ bm om tm hmap hjm
    subst ho; subst hrr
    have hOld := hMR.old (since := last)
    have hL := hMR.left (seen := seen)
    have hO := hL.old (since := since)
    have hN := hL.new (since := since)
    -- the test
    have ht : (!(⟨seen⟩ : Array Nat).isEmpty && !es'.isEmpty && es'.all (fun x => decide (x.born ≥ last))) = false := by
      rw [Bool.eq_false_iff]
      intro hh
      rw [Bool.eq_false_iff] at htest
      apply htest
      simp only [Bool.and_eq_true, Bool.not_eq_true'] at hh
      obtain ⟨⟨h1, h2⟩, h3⟩ := hh
      have e1 : seen ≠ [] := by intro hz; subst hz; simp at h1
      have e2 : es ≠ [] := by
        intro hz
        have := hMR.isNil.2 hz
        have : es' = #[] := by simpa using this
        rw [this] at h2; simp at h2
      have e3 : oldA last es = [] := by
        apply hOld.isNil.1
        rw [List.filter_eq_nil_iff]
        intro q hq
        rw [Array.all_eq_true_iff_forall_mem] at h3
        have := h3 q (by simpa using hq)
        simp at this ⊢
        omega
      cases seen with
      | nil => exact absurd rfl e1
      | cons _ _ => cases es with
        | nil => exact absurd rfl e2
        | cons _ _ => rw [e3]; rfl
    generalize hleft : es'.filter (fun e => !(⟨seen⟩ : Array Nat).contains e.born) = left
    have hleft' : es'.toList.filter (fun e => !(⟨seen⟩ : Array Nat).contains e.born) = left.toList := by rw [← hleft]; simp
    rw [hleft'] at hO hN
    generalize hold : left.filter (fun x => decide (x.born < since)) = old
    generalize hnew : left.filter (fun x => decide (x.born ≥ since)) = new
    have hold' : left.toList.filter (fun x => decide (x.born < since)) = old.toList := by rw [← hold]; simp
    have hnew' : left.toList.filter (fun x => decide (x.born ≥ since)) = new.toList := by rw [← hnew]; simp
    rw [hold'] at hO; rw [hnew'] at hN
    have hpos : 0 < ((if old.isEmpty then #[none] else #[]) ++ (old ++ new).map some).size := by
      by_cases h0 : old.isEmpty = true
      · rw [if_pos h0]; simp; omega
      · rw [if_neg h0]
        have : 0 < old.size := by
          rcases Nat.eq_zero_or_pos old.size with h | h
          · exact absurd (by simpa using h) h0
          · exact h
        simp; omega
    obtain ⟨k, w1, hk, q1, q2, q3, q4, hch⟩ := choose_next (P := P) w _ hpos
    have hbel1 : Bel B w w1 := ⟨q2, q3, q4, by rw [q1]; exact Nat.le_refl _, fun _ _ => by rw [q1]⟩
    have hrun0 : (execOp a.eval ⟨dst, .next it false, type, pos, after, gd⟩).run P w =
        (match ((if old.isEmpty then #[none] else #[]) ++ (old ++ new).map some)[k]? with
          | some (some e) => (do
              setObj bb (.mapIter (some bm) since ((⟨seen⟩ : Array Nat).push e.born) clock)
              pure (.value (.tuple #[.bool true, e.key, e.val])) : Sem Next)
          | some none => pure (.value (.tuple #[.bool false]))
          | none => stuck "Next: no such candidate").run P w1 := by
      simp only [execOp, Instr.next, hx, getObj, Nat.add_zero, Sem.run_bind, Sem.run, hb, hbm, Result.andThen, ht, Bool.false_eq_true, if_false, hleft, hold, hnew, hch]
      rcases cand_get hk with ⟨_, hc⟩ | ⟨e, _, hc⟩
      · rw [hc]; rfl
      · rw [hc]
        simp only [Sem.run_bind]
        cases (setObj bb (.mapIter (some bm) since ((⟨seen⟩ : Array Nat).push e.born) clock)).run P w1 <;> rfl
    rcases cand_get hk with ⟨hoe, hc⟩ | ⟨e', hmem, hc⟩
    · rw [hc] at hrun0
      have hoA : oldA since (leftA seen es) = [] := hO.isNil.1 (by rw [hoe])
      refine wp_value (x := .tuple #[.bool false]) (w' := w1) hrun0 (hK (.t [.b false], h) ?_ _ w1 j (by simp only [VR, VRs]; exact ⟨_, rfl, _, _, rfl, rfl, rfl⟩) (r.same q1) (J.ext_refl _ _) (Nat.le_refl _) hbel1)
      rw [hoA]; exact List.mem_cons_self ..
    · rw [hc] at hrun0
      obtain ⟨kA, vA, nA, g1, g2, g3, g4⟩ := (hO.append hN).mem e' hmem
      have hb1 : w1.heap[bb]? = some (.mapIter (some bm) since ⟨seen⟩ last) := by rw [q1]; exact hb
      have hset := run_setObj' (P := P) w1 bb _ (.mapIter (some bm) since ((⟨seen⟩ : Array Nat).push e'.born) clock) hb1 (by intro c e f h; cases h)
      simp only [Sem.run_bind, hset, Result.andThen] at hrun0
      have hlt : bb < w1.heap.size := by rw [q1]; exact r.lt id bb 0 tt hl
      refine wp_value hrun0 (hK (.t [.b true, kA, vA], { h with objs := h.objs.set id (some (.mit (some m) since (seen ++ [nA]) clock)) }) ?_ _ _ j (by simp only [VR, VRs]; exact ⟨_, rfl, _, _, rfl, rfl, _, _, rfl, g2, _, _, rfl, g3, rfl⟩) ?_ (J.ext_refl _ _) (Nat.le_refl _) (hbel1.trans (putBlk_bel _ _ _ hBb)))
      · have := outsA_mem (h := h) (id := id) (m := m) (since := since) (clock := clock) (seen := seen) g1
        show _ ∈ (match oldA since (leftA seen es) with | [] => _ :: _ | _ => _)
        split
        · rename_i hnil
          rw [hnil] at this; exact List.mem_cons_of_mem _ (by rw [hnil]; exact this)
        · exact this
      · refine (r.same q1).write hob rfl hl rfl (fun k hk => putBlk_other _ _ _ _ hk) (putBlk_size _ _ _) (fun c1 e1 q1 h1 => by rw [hb1] at h1; cases h1) ⟨hBb, rfl, some bm, ?_, bm, om, tm, hjm, rfl⟩
        rw [putBlk_get _ _ _ hlt, g4]
        simp
  · cases hv

/- Many ends as one. -/
theorem bindA_mem {α β : Type} {f : α → Option (List β)} : ∀ {l : List α} {q : List β}, bindA f l = some q → ∀ a ∈ l, ∃ r, f a = some r ∧ ∀ x ∈ r, x ∈ q
  | [], q, _, a, ha => by cases ha
  | b :: r, q, h, a, ha => by
    simp only [bindA] at h
    split at h
    · rename_i l1 h1
      split at h
      · rename_i q1 h2
        cases h
        rcases List.mem_cons.1 ha with rfl | ha
        · exact ⟨l1, h1, fun x hx => List.mem_append_left _ hx⟩
        · obtain ⟨r', g1, g2⟩ := bindA_mem h2 a ha
          exact ⟨r', g1, fun x hx => List.mem_append_right _ (g2 x hx)⟩
      · cases h
    · cases h

mutual
theorem like_eq : ∀ (a b : AV), like a b = true → a = b
  | .r k lo hi, b, h => by
    cases b <;> simp [like, same] at h
    rw [h.1.1, h.1.2, h.2]
  | .any, b, h => by cases b <;> simp [like, same] at h; rfl
  | .u lo hi, b, h => by
    cases b <;> simp only [like, same, Bool.and_eq_true, nat_beq, decide_eq_true_eq] at h <;> first | (rw [h.1, h.2]) | cases h
  | .x n, b, h => by
    cases b <;> simp only [like, same, nat_beq, decide_eq_true_eq] at h <;> first | (rw [h]) | cases h
  | .y i n, b, h => by
    cases b <;> simp only [like, same, Bool.and_eq_true, nat_beq, decide_eq_true_eq] at h <;> first | (rw [h.1, h.2]) | cases h
  | .g l, b, h => by cases b <;> simp only [like, same] at h <;> first | (rw [likes_eq _ _ h]) | cases h
  | .t l, b, h => by cases b <;> simp only [like, same] at h <;> first | (rw [likes_eq _ _ h]) | cases h
  | .i k n, b, h => by cases b <;> first | exact same_eq _ _ h | simp [like, same] at h
  | .b k, b, h => by cases b <;> first | exact same_eq _ _ h | simp [like, same] at h
  | .s k, b, h => by cases b <;> first | exact same_eq _ _ h | simp [like, same] at h
  | .p k, b, h => by cases b <;> first | exact same_eq _ _ h | simp [like, same] at h
  | .sl _ _ _ _, b, h => by cases b <;> first | exact same_eq _ _ h | simp [like, same] at h
  | .m k, b, h => by cases b <;> first | exact same_eq _ _ h | simp [like, same] at h
  | .f _ _ _, b, h => by cases b <;> first | exact same_eq _ _ h | simp [like, same] at h
  | .nf, b, h => by cases b <;> first | exact same_eq _ _ h | simp [like, same] at h
  | .ni, b, h => by cases b <;> first | exact same_eq _ _ h | simp [like, same] at h
  | .ifc _ _, b, h => by cases b <;> first | exact same_eq _ _ h | simp [like, same] at h
theorem likes_eq : ∀ (a b : List AV), likes a b = true → a = b
  | [], b, h => by cases b <;> simp only [likes] at h <;> first | rfl | cases h
  | x :: l, b, h => by
    cases b <;> simp only [likes] at h <;> first | cases h | skip
    simp only [Bool.and_eq_true] at h
    rw [like_eq _ _ h.1, likes_eq _ _ h.2]
end
theorem sameEs_eq : ∀ (a b : List (AV × AV × Nat)), sameEs a b = true → a = b
  | [], b, h => by cases b <;> simp only [sameEs] at h <;> first | rfl | cases h
  | (x, y, n) :: l, b, h => by
    cases b with
    | nil => simp [sameEs] at h
    | cons p q =>
      obtain ⟨c, d, m⟩ := p
      simp only [sameEs, Bool.and_eq_true, nat_beq, decide_eq_true_eq] at h
      rw [like_eq _ _ h.1.1.1, like_eq _ _ h.1.1.2, h.1.2, sameEs_eq _ _ h.2]
theorem sameAny_eq {a b : AObj} (h : sameAny a b = true) : a = b := by
  unfold sameAny at h
  split at h
  · rw [likes_eq _ _ h]
  · rw [likes_eq _ _ h]
  · simp only [Bool.and_eq_true, nat_beq, decide_eq_true_eq, beq_iff_eq] at h; rw [h.1, h.2]
  · simp only [Bool.and_eq_true, nat_beq, decide_eq_true_eq] at h; rw [h.1, sameEs_eq _ _ h.2]
  · simp only [Bool.and_eq_true, nat_beq, decide_eq_true_eq] at h; rw [h.1, h.2]
  · cases h

theorem mergeT_get : ∀ (a b : Tr AObj) (n : Nat) (o : AObj), (mergeT a b).get n = some o → a.get n = some o ∧ b.get n = some o
  | .nil, b, n, o, h => by simp only [mergeT, Tr.get_nil] at h; cases h
  | .node v l r, .nil, n, o, h => by simp only [mergeT, Tr.get_nil] at h; cases h
  | .node v l r, .node v' l' r', n, o, h => by
    simp only [mergeT] at h
    cases n with
    | zero =>
      rw [Tr.get_zero] at h
      rw [Tr.get_zero, Tr.get_zero]
      split at h
      · rw [bool_cond] at h
        split at h
        · rename_i hs
          cases h
          rw [sameAny_eq hs]; exact ⟨rfl, rfl⟩
        · cases h
      · cases h
    | succ n =>
      rw [Tr.get_succ] at h
      rw [Tr.get_succ, Tr.get_succ]
      split at h
      · rename_i hn; rw [if_pos hn, if_pos hn]; exact mergeT_get l l' _ o h
      · rename_i hn; rw [if_neg hn, if_neg hn]; exact mergeT_get r r' _ o h

theorem mergeN_get : ∀ (a b : Tr Nat) (n : Nat) (o : Nat), (mergeN a b).get n = some o → a.get n = some o ∧ b.get n = some o
  | .nil, b, n, o, h => by simp only [mergeN, Tr.get_nil] at h; cases h
  | .node v l r, .nil, n, o, h => by simp only [mergeN, Tr.get_nil] at h; cases h
  | .node v l r, .node v' l' r', n, o, h => by
    simp only [mergeN] at h
    cases n with
    | zero =>
      rw [Tr.get_zero] at h
      rw [Tr.get_zero, Tr.get_zero]
      split at h
      · rw [bool_cond] at h
        split at h
        · rename_i hs
          cases h
          rw [Nat.eq_of_beq_eq_true hs]; exact ⟨rfl, rfl⟩
        · cases h
      · cases h
    | succ n =>
      rw [Tr.get_succ] at h
      rw [Tr.get_succ, Tr.get_succ]
      split at h
      · rename_i hn; rw [if_pos hn, if_pos hn]; exact mergeN_get l l' _ o h
      · rename_i hn; rw [if_neg hn, if_neg hn]; exact mergeN_get r r' _ o h
/-- A heap tells no more than another one. -/
structure AH.sub (h k : AH) : Prop where
  objs : ∀ id o, h.objs.get id = some o → k.objs.get id = some o
  next : k.next ≤ h.next
  tys : ∀ id o, h.tys.get id = some o → k.tys.get id = some o
theorem AH.sub_refl (h : AH) : h.sub h := ⟨fun _ _ x => x, Nat.le_refl _, fun _ _ x => x⟩
theorem AH.sub.trans {a b c : AH} (p : a.sub b) (q : b.sub c) : a.sub c := ⟨fun id o h => q.objs id o (p.objs id o h), Nat.le_trans q.next p.next, fun id o h => q.tys id o (p.tys id o h)⟩
theorem mergeH_left (h k : AH) : (mergeH h k).sub h := ⟨fun id o hh => (mergeT_get _ _ id o hh).1, by
  show h.next ≤ bif Nat.ble h.next k.next then k.next else h.next
  rw [bool_cond, nat_ble]; split <;> simp_all, fun id o hh => (mergeN_get _ _ id o hh).1⟩
theorem mergeH_right (h k : AH) : (mergeH h k).sub k := ⟨fun id o hh => (mergeT_get _ _ id o hh).2, by
  show k.next ≤ bif Nat.ble h.next k.next then k.next else h.next
  rw [bool_cond, nat_ble]; split <;> simp_all; omega, fun id o hh => (mergeN_get _ _ id o hh).2⟩
theorem Rep.weak {j : J} {h k : AH} {B : Nat} {w : World} (r : Rep j k B w) (hs : h.sub k) : Rep j h B w :=
  ⟨fun id hi => r.fresh id (Nat.le_trans hs.next hi), fun id ob b o t h1 h2 => r.objs id ob b o t (hs.objs _ _ h1) h2,
    fun id id' ob ob' b o t b' o' t' hn h1 h2 h3 h4 h5 => r.sep id id' ob ob' b o t b' o' t' hn (hs.objs _ _ h1) h2 (hs.objs _ _ h3) h4 h5, r.lt, r.base, fun id e b o t h1 h2 => r.tys id e b o t (hs.tys _ _ h1) h2⟩
theorem mergeAll_mem : ∀ {l : List (AV × AH)} {v : AV} {h : AH}, mergeAll l = some (v, h) → ∀ p ∈ l, p.1 = v ∧ h.sub p.2
  | [], v, h, hm, _, _ => by simp [mergeAll] at hm
  | [q], v, h, hm, p, hp => by
    simp only [mergeAll, Option.some.injEq] at hm
    rw [List.mem_singleton] at hp
    subst hp; rw [hm]; exact ⟨rfl, AH.sub_refl _⟩
  | (v0, h0) :: q :: r, v, h, hm, p, hp => by
    simp only [mergeAll] at hm
    split at hm
    · rename_i u k hk
      rw [bool_cond] at hm
      split at hm
      · rename_i hs
        cases hm
        rcases List.mem_cons.1 hp with rfl | hp
        · exact ⟨rfl, mergeH_left _ _⟩
        · obtain ⟨g1, g2⟩ := mergeAll_mem hk p hp
          exact ⟨by rw [g1, like_eq _ _ hs], (mergeH_right _ _).trans g2⟩
      · cases hm
    · cases hm
end
end Ab
end Go.Proofs.YtcoobajkgioflaaGreatDoor
