/- The sorted keys of a map, as a summary. -/
import Derived.Test.YtcoobajkgioflaaGreatDoorAbLaw
import Derived.Shelf.SlIter.Nil
import Derived.Shelf.SortM.Plain
import Derived.Shelf.SortM.SortNone
set_option linter.unusedSimpArgs false
set_option linter.unusedVariables false
namespace Go.Proofs.YtcoobajkgioflaaGreatDoor
namespace Ab
open Go.RowKit Go.Maps Go.Sort Go.Shelf
section
variable {P : Program} {ρ σ : Ren}

theorem Rep.below {j : J} {h : AH} {B : Nat} {w w' : World} (hr : Rep j h B w) (hb : RowKit.Below w.heap.size w w') : Rep j h B w' := by
  refine ⟨hr.fresh, fun id ob b o t q1 q2 => (hr.objs id ob b o t q1 q2).keep (J.le_refl j) (hb.block b (hr.lt id b o t q2)), hr.sep, fun id b o t hl => Nat.lt_of_lt_of_le (hr.lt id b o t hl) hb.size, Nat.le_trans hr.base hb.size, fun id e b o t q1 q2 => ?_⟩
  obtain ⟨q3, c, fr, q4⟩ := hr.tys id e b o t q1 q2
  exact ⟨q3, c, fr, by rw [hb.block b (hr.lt id b o t q2)]; exact q4⟩

/-- Texts in order. -/
def leS : List UInt8 → List UInt8 → Bool
  | [], _ => true
  | _ :: _, [] => false
  | a :: l, b :: m => bif Nat.blt a.toNat b.toNat then true else bif Nat.beq a.toNat b.toNat then leS l m else false
theorem leS_eq : ∀ (a b : List UInt8), leS a b = decide (a ≤ b)
  | [], b => by simp [leS]
  | _ :: _, [] => by simp [leS]
  | a :: l, b :: m => by
    simp only [leS, leS_eq l m, bool_cond]
    by_cases h : a < b
    · have : Nat.blt a.toNat b.toNat = true := by simpa using UInt8.lt_iff_toNat_lt.1 h
      rw [if_pos this]
      simp [List.cons_le_cons_iff, h]
    · have h1 : ¬ Nat.blt a.toNat b.toNat = true := fun e => h (UInt8.lt_iff_toNat_lt.2 (by simpa using e))
      rw [if_neg h1]
      by_cases h2 : a = b
      · subst h2
        have : Nat.beq a.toNat a.toNat = true := by simp
        rw [if_pos this]
        simp [List.cons_le_cons_iff]
      · have h3 : ¬ Nat.beq a.toNat b.toNat = true := fun e => h2 (UInt8.toNat_inj.1 (Nat.eq_of_beq_eq_true e))
        rw [if_neg h3]
        simp [List.cons_le_cons_iff, h, h2]
def insS (x : List UInt8) : List (List UInt8) → List (List UInt8)
  | [] => [x]
  | y :: r => bif leS x y then x :: y :: r else y :: insS x r
def sortS : List (List UInt8) → List (List UInt8)
  | [] => []
  | x :: r => insS x (sortS r)
theorem insS_perm (x : List UInt8) : ∀ l, (insS x l).Perm (x :: l)
  | [] => .refl _
  | y :: r => by
    simp only [insS, bool_cond]
    split
    · exact .refl _
    · exact ((insS_perm x r).cons y).trans (.swap x y r)
theorem sortS_perm : ∀ l, (sortS l).Perm l
  | [] => .refl _
  | x :: r => (insS_perm x _).trans ((sortS_perm r).cons x)
theorem leS_trans {a b c : List UInt8} (h : leS a b = true) (k : leS b c = true) : leS a c = true := by
  rw [leS_eq, decide_eq_true_eq] at *; exact List.le_trans h k
theorem leS_total (a b : List UInt8) : leS a b = true ∨ leS b a = true := by
  rw [leS_eq, leS_eq, decide_eq_true_eq, decide_eq_true_eq]; exact List.le_total a b
theorem insS_sorted (x : List UInt8) : ∀ l, l.Pairwise (fun a b => leS a b = true) → (insS x l).Pairwise (fun a b => leS a b = true)
  | [], _ => by simp [insS]
  | y :: r, h => by
    simp only [insS, bool_cond]
    have h' := List.pairwise_cons.1 h
    split
    · rename_i hxy
      exact List.pairwise_cons.2 ⟨fun z hz => by
        rcases List.mem_cons.1 hz with rfl | hz
        · exact hxy
        · exact leS_trans hxy (h'.1 z hz), h⟩
    · rename_i hxy
      refine List.pairwise_cons.2 ⟨fun z hz => ?_, insS_sorted x r h'.2⟩
      rcases List.mem_cons.1 ((insS_perm x r).mem_iff.1 hz) with rfl | hz
      · rcases leS_total z y with h | h
        · exact absurd h hxy
        · exact h
      · exact h'.1 z hz
theorem sortS_sorted : ∀ l, (sortS l).Pairwise (fun a b => leS a b = true)
  | [] => .nil
  | x :: r => insS_sorted x _ (sortS_sorted r)
theorem sortS_eq {ss l : List (List UInt8)} (h : ss.Perm l) : ss.mergeSort (fun x y => decide (x ≤ y)) = sortS l := by
  have e : (fun x y : List UInt8 => decide (x ≤ y)) = leS := by funext x y; exact (leS_eq x y).symm
  rw [e]
  refine List.Perm.eq_of_pairwise (le := fun a b => leS a b = true) (fun a b _ _ h1 h2 => ?_) ?_ (sortS_sorted l) ?_
  · rw [leS_eq, decide_eq_true_eq] at h1 h2; exact List.le_antisymm h1 h2
  · exact List.pairwise_mergeSort (le := leS) (fun a b c h1 h2 => leS_trans h1 h2) (fun a b => by rcases leS_total a b with h | h <;> simp [h]) ss
  · exact (List.mergeSort_perm ss leS).trans (h.trans (sortS_perm l).symm)

def keysA : List (AV × AV × Nat) → Option (List (List UInt8))
  | [] => some []
  | (.s k, _, _) :: r => match keysA r with
    | some l => some (k :: l)
    | none => none
  | _ => none
def stampsA : List (AV × AV × Nat) → List Nat
  | [] => []
  | (_, _, n) :: r => n :: stampsA r
def freeN : List Nat → Bool
  | [] => true
  | n :: r => notIn n r && freeN r
def hasK (k : List UInt8) : List (List UInt8) → Bool
  | [] => false
  | x :: r => (k == x) || hasK k r
def freeK : List (List UInt8) → Bool
  | [] => true
  | k :: r => Nat.ble k.length 1000000 && (!(hasK k r) && freeK r)
theorem freeN_nodup : ∀ {l : List Nat}, freeN l = true → l.Nodup
  | [], _ => .nil
  | n :: r, h => by
    simp only [freeN, Bool.and_eq_true] at h
    exact List.nodup_cons.2 ⟨notIn_iff.1 h.1, freeN_nodup h.2⟩
theorem hasK_mem {k : List UInt8} : ∀ {l : List (List UInt8)}, k ∈ l → hasK k l = true
  | [], h => by cases h
  | x :: r, h => by
    simp only [hasK, Bool.or_eq_true, beq_iff_eq]
    rcases List.mem_cons.1 h with h | h
    · exact .inl h
    · exact .inr (hasK_mem h)
theorem freeK_nodup : ∀ {l : List (List UInt8)}, freeK l = true → l.Nodup
  | [], _ => .nil
  | k :: r, h => by
    simp only [freeK, Bool.and_eq_true, Bool.not_eq_true'] at h
    exact List.nodup_cons.2 ⟨fun hm => by rw [hasK_mem hm] at h; exact absurd h.2.1 (by decide), freeK_nodup h.2.2⟩
theorem freeK_len : ∀ {l : List (List UInt8)}, freeK l = true → ∀ k ∈ l, k.length ≤ 1000000
  | [], _, k, hk => by cases hk
  | x :: r, h, k, hk => by
    simp only [freeK, Bool.and_eq_true, nat_ble, decide_eq_true_eq] at h
    rcases List.mem_cons.1 hk with rfl | hk
    · exact h.1
    · exact freeK_len h.2.2 k hk
theorem MR.keys {j : J} : ∀ {l : List (AV × AV × Nat)} {es : List MapEntry} {ks : List (List UInt8)}, MR j l es → keysA l = some ks → es.map (·.key) = ks.map encStr ∧ es.map (·.born) = stampsA l
  | [], es, ks, h, hk => by simp only [MR] at h; subst h; simp only [keysA] at hk; cases hk; exact ⟨rfl, rfl⟩
  | (k, v, n) :: r, es, ks, h, hk => by
    simp only [MR] at h
    obtain ⟨e, q, rfl, h1, h2, h3, h4⟩ := h
    unfold keysA at hk
    split at hk
    · rename_i heq; cases heq
    · rename_i heq
      cases heq
      split at hk
      · rename_i l hl
        cases hk
        obtain ⟨g1, g2⟩ := h4.keys hl
        simp only [VR] at h1
        simp only [List.map_cons, stampsA, h1, h3, g1, g2, encStr, and_self]
      · cases hk
    · cases hk

theorem enc_inj {a b : List UInt8} (h : encStr a = encStr b) : a = b := by
  simp only [encStr, Value.string.injEq, ByteArray.mk.injEq, Array.mk.injEq] at h
  exact h
theorem enc_map : ∀ {l m : List (List UInt8)}, l.map encStr = m.map encStr → l = m
  | [], [], _ => rfl
  | [], _ :: _, h => by simp at h
  | _ :: _, [], h => by simp at h
  | a :: l, b :: m, h => by
    simp only [List.map_cons, List.cons.injEq] at h
    rw [enc_inj h.1, enc_map h.2]
/-- slices.Sorted at the keys of a map. -/
def sortedG (g : FuncId) : Nat1
  | [.f (.func g') [] [.p (some (id, 0))]], h => bif Nat.beq g' g then
      (match h.row? id, h.tys.get id with
      | some (_, .m none :: _), some _ => some (.sl none 0 (some 0) 0, h)
      | some (_, .m (some m) :: _), some _ => match h.objs.get m with
        | some (.map es _) => match keysA es with
          | some [] => some (.sl none 0 (some 0) 0, h)
          | some ks => bif freeK ks && freeN (stampsA es) && Nat.ble ks.length 1000 then some (.sl (some (h.next, 0)) ks.length none 1, h.add (.row false ((sortS ks).map .s))) else none
          | none => none
        | _ => none
      | _, _ => none) else none
  | _, _ => none

theorem Rep.box {j : J} {h : AH} {B : Nat} {w : World} (r : Rep j h B w) {id : Nat} {ro : Bool} {v : AV} {cs : List AV} {x : Value} {e : Nat} (hrow : h.row? id = some (ro, v :: cs)) (ht : h.tys.get id = some e) (hx : VR j (.p (some (id, 0))) x) :
    ∃ b y, x = .pointer (some ⟨b, 0, none⟩) ∧ b < w.heap.size ∧ w.cell? ⟨b, 0, none⟩ = some y ∧ VR j v y := by
  simp only [VR] at hx
  obtain ⟨b, o, t, hl, rfl⟩ := hx
  obtain ⟨rfl, _⟩ := r.tys id e b o t ht hl
  obtain ⟨y, h1, h2⟩ := r.cells hrow hl 0 v rfl
  exact ⟨b, y, rfl, r.lt id b 0 t hl, h1, h2⟩

theorem nat_sorted (L10 : SlLaysZ.n10 P σ) (L6 : SlLaysZ.n6 P ρ) (hsort : ∀ m, AnyZ.SortsIn P ρ Fence.wide m)
    (e9 : ∀ args w, (callFunc (ρ.f 9) args).run P w = .ok (.enter (ρ.f 9) args) w) (e10 : ∀ args w, (callFunc (σ.f 10) args).run P w = .ok (.enter (σ.f 10) args) w)
    (e6 : ∀ args w, (callFunc (ρ.f 6) args).run P w = .ok (.enter (ρ.f 6) args) w) (hk : P.underlying (σ.t 26) = some .string) (T : Toks) : NatOk P T (ρ.f 6) (sortedG (σ.f 10)) := by
  intro args0 h v h' j B w xs hs hT hr hg hx
  unfold sortedG at hs
  split at hs
  case h_2 => cases hs
  rename_i g' id
  have hbn := bif_none hs
  clear hs
  obtain ⟨hgg, hs⟩ := hbn
  have hgg := Nat.eq_of_beq_eq_true hgg
  subst hgg
  simp only [VRs, VR] at hx
  obtain ⟨x0, r0, rfl, ⟨fa, ca, rfl, hfa, hca⟩, rfl⟩ := hx
  subst hfa
  obtain ⟨x1, r1, rfl, hx1, rfl⟩ := hca
  -- the run, told by what the keys are
  have main : ∀ (S : List (List UInt8) → Prop) (N : Nat) (b : Nat), x1 = .pointer (some ⟨b, 0, none⟩) → N ≤ 1000 → SeqGives Fence.wide 2 P (σ.f 10) #[.pointer (some ⟨b, 0, none⟩)] encStr S N w →
      Calls P (ρ.f 6) ⟨[.func (.func (σ.f 10)) ⟨[]⟩ ⟨[x1]⟩]⟩ w fun e w' => ∃ y ss, e = .returned y ∧ S ss ∧ w'.ownsRow w.heap.size (ρ.t 26) 1 y ss.length ((ss.mergeSort (fun x y => decide (x ≤ y))).map encStr) ∧ (y = .slice none 0 0 ↔ ss = []) ∧ RowKit.Below w.heap.size w w' := by
    intro S N b hb hN hseq
    subst hb
    exact callsIn_wide.1 (AnyZ.sorted_in L6 Fence.wide 5 trivial trivial trivial trivial rfl (by omega) (hsort _) e9 (σ.f 10) #[.pointer (some ⟨b, 0, none⟩)] trivial e10 S N (by unfold maxLen; omega) (by omega) w hseq)
  split at hs
  · -- no map
    rename_i hrow hty
    cases hs
    obtain ⟨b, y, hb, hbl, hcell, hy⟩ := hr.box hrow hty hx1
    simp only [VR] at hy; subst hy
    refine .inl ⟨e6 _ _, (main (fun ss => ss = []) 0 b hb (by omega) (AnyZ.keys_gives_nil L10 Fence.wide 2 trivial rfl b w hbl hcell)).mono fun e w' ⟨y, ss, h1, h2, _, h4, h5⟩ => ?_⟩
    subst h1; subst h2
    exact ⟨y, j, rfl, by simp only [VR, true_and]; exact h4.2 rfl, hr.below h5, J.ext_refl _ _, Nat.le_refl _, h5.mono hr.base⟩
  · rename_i m cs0 e0 hrow hty
    split at hs
    case h_2 => cases hs
    rename_i es clock hmap
    obtain ⟨b, y, hb, hbl, hcell, hy⟩ := hr.box hrow hty hx1
    simp only [VR] at hy
    obtain ⟨bm, om, tm, hjm, rfl⟩ := hy
    obtain ⟨_, _, es', hbm, hMR, hclk⟩ := hr.objs m _ bm om tm hmap hjm
    have run : ∀ ks, keysA es = some ks → freeK ks = true → freeN (stampsA es) = true → ks.length ≤ 1000 →
        Calls P (ρ.f 6) ⟨[.func (.func (σ.f 10)) ⟨[]⟩ ⟨[x1]⟩]⟩ w fun e w' => ∃ y ss, e = .returned y ∧ ss.Perm ks ∧ w'.ownsRow w.heap.size (ρ.t 26) 1 y ss.length ((ss.mergeSort (fun x y => decide (x ≤ y))).map encStr) ∧ (y = .slice none 0 0 ↔ ss = []) ∧ RowKit.Below w.heap.size w w' := by
      intro ks hks hfk hfn hlen
      obtain ⟨hk1, hk2⟩ := hMR.keys hks
      have hes : es'.toList.length = ks.length := by have := congrArg List.length hk1; simpa using this
      have hrd : ∀ x ∈ es'.toList, ∃ k ∈ ks, x.key = encStr k ∧ WideElems.rd P (σ.t 26) (fun _ => some ((DataW.nil : DataW Unit), [])) x = some (.string k, DataW.nil) := by
        intro x hx
        have : x.key ∈ es'.toList.map (·.key) := List.mem_map_of_mem hx
        rw [hk1, List.mem_map] at this
        obtain ⟨k, hkm, hke⟩ := this
        have hsz : (⟨⟨k⟩⟩ : ByteArray).size ≤ maxLen := by rw [bytes_size]; have := freeK_len hfk k hkm; unfold maxLen; omega
        refine ⟨k, hkm, hke.symm, ?_⟩
        simp only [WideElems.rd, ← hke, encStr, keyOf, hk, mapKey]
        rw [if_pos hsz]; rfl
      let D0 : DataW Unit := .map ((es'.toList.map (WideElems.rg P (σ.t 26) (fun _ => some ((DataW.nil : DataW Unit), [])))).foldr DataW.insert [])
      have hown : w.ownsMap P (σ.t 26) (fun _ => some ((DataW.nil : DataW Unit), [])) bm 1000 D0 := by
        refine ⟨es', clock, hbm, ⟨?_, ⟨fun x hx => ?_, ?_, ?_⟩, fun x hx => ?_⟩, ?_, rfl⟩
        · rw [← Array.length_toList, hes]; unfold maxLen; omega
        · have : x.born ∈ es'.toList.map (·.born) := List.mem_map_of_mem hx
          rw [hk2] at this
          have key : ∀ (l : List (AV × AV × Nat)), (∀ e ∈ l, e.2.2 < clock) → ∀ n ∈ stampsA l, n < clock := by
            intro l
            induction l with
            | nil => intro _ n hn; cases hn
            | cons p r ih =>
              obtain ⟨p1, p2, p3⟩ := p
              intro h n hn
              rcases List.mem_cons.1 hn with rfl | hn
              · exact h _ (List.mem_cons_self ..)
              · exact ih (fun e he => h e (List.mem_cons_of_mem _ he)) n hn
          exact key es hclk _ this
        · rw [hk2]; exact freeN_nodup hfn
        · rw [hk1]
          exact List.Pairwise.map (R := (· ≠ ·)) (S := (· ≠ ·)) encStr (fun a b hab h => hab (enc_inj h)) (freeK_nodup hfk)
        · obtain ⟨k, _, _, h3⟩ := hrd x hx; exact ⟨_, h3⟩
        · rw [← Array.length_toList, hes]; exact hlen
      have hkeys : strKeys D0 = (((es'.toList.map (WideElems.rg P (σ.t 26) (fun _ => some ((DataW.nil : DataW Unit), [])))).foldr DataW.insert []).map fun p => strOf p.1) := rfl
      have hperm : (strKeys D0).Perm ks := by
        rw [hkeys]
        refine ((WideShapes.sorted_perm _).map _).trans ?_
        rw [List.map_map]
        have : es'.toList.map ((fun p => strOf p.1) ∘ WideElems.rg P (σ.t 26) (fun _ => some ((DataW.nil : DataW Unit), []))) = ks := by
          have e1 : (es'.toList.map ((fun p => strOf p.1) ∘ WideElems.rg P (σ.t 26) (fun _ => some ((DataW.nil : DataW Unit), [])))).map encStr = ks.map encStr := by
            rw [← hk1, List.map_map]
            refine List.map_congr_left fun x hx => ?_
            obtain ⟨k, _, h2, h3⟩ := hrd x hx
            simp only [Function.comp_apply, WideElems.rg, h3, Option.getD_some, strOf, h2]
          exact enc_map e1
        rw [this]
      have hsize : Maps.size D0 ≤ 1000 := by
        show (List.foldr DataW.insert [] _).length ≤ 1000
        rw [(WideShapes.sorted_perm _).length_eq, List.length_map, hes]; exact hlen
      refine (main (fun ss => ss.Perm (strKeys D0)) (Maps.size D0) b hb hsize (AnyZ.keys_gives L10 Fence.wide 2 trivial rfl (by omega) b bm 1000 D0 w hbl hcell hown)).mono fun e w' ⟨y, ss, h1, h2, h3, h4, h5⟩ => ?_
      exact ⟨y, ss, h1, h2.trans hperm, h3, h4, h5⟩
    split at hs
    · -- no key
      rename_i hks
      cases hs
      have hnil : es = [] := by
        cases es with
        | nil => rfl
        | cons p r =>
          obtain ⟨p1, p2, p3⟩ := p
          unfold keysA at hks
          split at hks
          · rename_i heq; cases heq
          · split at hks <;> cases hks
          · cases hks
      subst hnil
      refine .inl ⟨e6 _ _, (run [] rfl rfl rfl (by simp)).mono fun e w' ⟨y, ss, h1, h2, _, h4, h5⟩ => ?_⟩
      subst h1
      have := List.perm_nil.1 h2
      subst this
      exact ⟨y, j, rfl, by simp only [VR, true_and]; exact h4.2 rfl, hr.below h5, J.ext_refl _ _, Nat.le_refl _, h5.mono hr.base⟩
    · rename_i ks hne hks
      obtain ⟨hchk, hs⟩ := bif_none hs
      simp only [Bool.and_eq_true, nat_ble, decide_eq_true_eq] at hchk
      obtain ⟨⟨hfk, hfn⟩, hlen⟩ := hchk
      cases hs
      refine .inl ⟨e6 _ _, (run ks hks hfk hfn hlen).mono fun e w' ⟨y, ss, h1, h2, h3, h4, h5⟩ => ?_⟩
      subst h1
      rw [sortS_eq h2] at h3
      have hssl : ss.length = ks.length := h2.length_eq
      have hsl : (sortS ks).length = ks.length := (sortS_perm ks).length_eq
      obtain ⟨hxl, hor⟩ := h3
      rcases hor with ⟨h6, h7⟩ | ⟨gb, cap, cur, h6, h7, h8, h9, h10, h11, h12⟩
      · have := h4.1 h6
        subst this
        simp at hssl
        have : ks = [] := List.eq_nil_of_length_eq_zero hssl.symm
        exact absurd this (fun h => hne h)
      · subst h6
        have hjn : j h.next = none := hr.fresh _ (Nat.le_refl _)
        have r1 : Rep j (h.add (.row false ((sortS ks).map .s))) B w' := (hr.below h5).addDead _
        have hgl : gb < w'.heap.size := (Array.getElem?_eq_some_iff.1 h8).1
        refine ⟨_, j.put h.next (gb, 0, cap), rfl, ?_, ?_, J.put_ext (Nat.le_refl _), Nat.le_succ _, h5.mono hr.base⟩
        · simp only [VR]
          exact ⟨_, cap, by rw [hssl], by omega, fun c' hc => (by cases hc), .inr ⟨_, _, _, J.put_self _ _ _, rfl, fun _ => by omega⟩⟩
        · refine r1.bear (ob := .row false ((sortS ks).map .s)) hjn (Nat.lt_succ_self _) (by simp [AH.add, Tr.get_set]) (fun id' b' o' t' ob' hne' h13 h14 => ⟨rfl, ?_⟩) (Nat.le_refl _) hgl (fun _ c e fr h => ⟨c, fr, h⟩) (fun e he => by simp [AH.add, Tr.get_set] at he) ?_
          · have := hr.lt id' b' o' t' h14
            omega
          · refine ⟨Nat.le_trans hr.base h7, ?_, cur, _, _, h8, by omega, ?_, fun i v hv => ?_, .inl rfl⟩
            · exact allOne_of fun i v hv => by
                rw [List.getElem?_map, Option.map_eq_some_iff] at hv
                obtain ⟨k, _, rfl⟩ := hv; rfl
            · rw [List.length_map, hsl]; omega
            · rw [List.getElem?_map, Option.map_eq_some_iff] at hv
              obtain ⟨k, hk1, rfl⟩ := hv
              have hi : i < (sortS ks).length := (List.getElem?_eq_some_iff.1 hk1).1
              have : (List.take (ss.length * 1) cur.toList)[i]? = some (encStr k) := by rw [h12, List.getElem?_map, hk1]; rfl
              rw [List.getElem?_take, if_pos (by omega)] at this
              exact ⟨encStr k, by rw [Nat.zero_add]; simpa using this, by simp only [VR, encStr]⟩
    · cases hs
  · cases hs
end
end Ab
end Go.Proofs.YtcoobajkgioflaaGreatDoor
