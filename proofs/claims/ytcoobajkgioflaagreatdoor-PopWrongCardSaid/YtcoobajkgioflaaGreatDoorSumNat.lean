/- The check sums as summaries. -/
import Derived.Test.YtcoobajkgioflaaGreatDoorSumR
import Derived.Test.YtcoobajkgioflaaGreatDoorAbLaw
set_option linter.unusedSimpArgs false
set_option linter.unusedVariables false
namespace Go.Proofs.YtcoobajkgioflaaGreatDoor
open Go.RowKit Crc
namespace Ab
/-- A number that is reckoned before it is used. -/
def force {α : Type} (v : Nat) (f : Nat → α) : α := match v with
  | 0 => f 0
  | n + 1 => f (Nat.succ n)
theorem force_eq {α : Type} (v : Nat) (f : Nat → α) : force v f = f v := by cases v <;> rfl
def stepK (v : Nat) : Nat := bif Nat.beq (Nat.mod v 2) 1 then Nat.xor (Nat.div v 2) 3988292384 else Nat.div v 2
def roundsK : Nat → Nat → Nat
  | 0, v => v
  | n + 1, v => force (stepK v) fun u => roundsK n u
def crcK : Nat → List Nat → Nat
  | v, [] => v
  | v, c :: r => force (Nat.xor v c) fun u => force (roundsK 8 u) fun x => crcK x r
theorem stepK_eq (v : Nat) : stepK v = Crc.step v := by
  unfold stepK Crc.step
  rw [bool_cond, nat_beq]
  by_cases h : v % 2 = 1
  · have h' : Nat.mod v 2 = 1 := h
    rw [if_pos (by simp [h']), if_pos h]; rfl
  · have h' : ¬ Nat.mod v 2 = 1 := h
    rw [if_neg (by simp [h']), if_neg h]; rfl
theorem roundsK_eq : ∀ n v, roundsK n v = rounds n v
  | 0, v => rfl
  | n + 1, v => by rw [roundsK, force_eq, stepK_eq, roundsK_eq n]; rfl
theorem crcK_eq : ∀ (l : List Nat) (v : Nat), crcK v l = crc v l
  | [], v => rfl
  | c :: r, v => by rw [crcK, force_eq, force_eq, roundsK_eq, crcK_eq r]; rfl
def natsOf : List AV → Option (List Nat)
  | [] => some []
  | .i .u8 n :: r => if 0 ≤ n ∧ n ≤ 255 then (match natsOf r with
    | some l => some (n.toNat :: l)
    | none => none) else none
  | _ => none
theorem natsOf_ok {j : J} : ∀ {cs : List AV} {xs : List Value} {l : List Nat}, VRs j cs xs → natsOf cs = some l → xs = l.map (fun n : Nat => Value.int .u8 n) ∧ ∀ n ∈ l, n ≤ 255
  | [], xs, l, h, hn => by
    simp only [VRs] at h; subst h
    simp only [natsOf] at hn; cases hn
    exact ⟨rfl, fun n hn => by cases hn⟩
  | v :: r, xs, l, h, hn => by
    simp only [VRs] at h
    obtain ⟨x, q, rfl, h1, h2⟩ := h
    unfold natsOf at hn
    split at hn
    · rename_i heq; cases heq
    · rename_i n r' heq
      cases heq
      obtain ⟨hb, hn⟩ := ite_none hn
      split at hn
      · rename_i l' hl'
        cases hn
        obtain ⟨g1, g2⟩ := natsOf_ok h2 hl'
        simp only [VR] at h1
        refine ⟨?_, fun m hm => ?_⟩
        · rw [List.map_cons, ← g1, h1, Int.toNat_of_nonneg hb.1]
        · rcases List.mem_cons.1 hm with rfl | hm
          · omega
          · exact g2 m hm
      · cases hn
    · cases hn
def crcOf (l : List Nat) : Int := Int.ofNat (Nat.xor 4294967295 (crcK 4294967295 l))
def sumOf (h : AH) : AV → Option AV
  | .sl (some (id, o)) len cap es => bif Nat.beq len 0 || !(Nat.ble len 1000000) then none else match rowOf h 1 (.sl (some (id, o)) len cap es) with
    | some cs => match natsOf cs with
      | some l => some (.i .u32 (crcOf l))
      | none => none
    | none => none
  | _ => none
def refSumG : Nat1
  | [v], h => match sumOf h v with
    | some r => some (r, h)
    | none => none
  | _, _ => none
def octSumG : Nat1
  | [.sl (some (id, o)) 1 _ _], h => match h.row? id with
    | some (_, cs) => match idx? cs o with
      | some v => match sumOf h v with
        | some r => some (r, h)
        | none => none
      | none => none
    | none => none
  | _, _ => none
section
variable {P : Program}
/-- The row that is summed. -/
theorem sum_row {j : J} {h : AH} {B : Nat} {w : World} (r : Rep j h B w) {v v' : AV} {x : Value} (hx : VR j v x) (hs : sumOf h v = some v') :
    ∃ (l : List Nat) (b off cap : Nat), x = .slice (some ⟨b, off, none⟩) l.length cap ∧ v' = .i .u32 (((4294967295 ^^^ crc 4294967295 l : Nat) : Int)) ∧ l.length ≤ 9223372036854775807 ∧
      (∀ j, j < l.length → w.cell? ⟨b, off + j, none⟩ = some (.int .u8 ((l.getD j 0 : Nat) : Int))) ∧ ∀ j : Nat, l.getD j 0 ≤ 255 := by
  unfold sumOf at hs
  split at hs
  case h_2 => cases hs
  rename_i id o len cap es
  have hq := bif_none' hs
  clear hs
  obtain ⟨h0, hs⟩ := hq
  rw [nat_beq, nat_ble] at h0
  simp only [Bool.or_eq_false_iff, decide_eq_false_iff_not, Bool.not_eq_false', decide_eq_true_eq] at h0
  cases hcs : rowOf h 1 (.sl (some (id, o)) len cap es) with
  | none => rw [hcs] at hs; cases hs
  | some cs =>
  rw [hcs] at hs
  simp only at hs
  cases hb : natsOf cs with
  | none => rw [hb] at hs; cases hs
  | some l =>
  rw [hb] at hs
  cases hs
  obtain ⟨ad, len', c', xs, hx', hlc, hxs, hlen, hnil, hcell, a', cc, e', heq⟩ := r.rowOf hx hcs
  injection heq with e1 e2 e3 e4
  subst e2
  obtain ⟨hns, hle⟩ := natsOf_ok hxs hb
  simp only [VR] at hx
  obtain ⟨a2, c2, hx2, hle2, _, hor⟩ := hx
  have hll : l.length = len := by
    have h1 := hxs.length
    rw [hlen, Nat.mul_one, hns, List.length_map] at h1
    exact h1.symm
  rcases hor with hc0 | ⟨b, o', t, hj, ha, _⟩
  · omega
  · subst ha
    have had : ad = some ⟨b, o' + o, none⟩ := by rw [hx2] at hx'; injection hx' with h1; exact h1.symm
    refine ⟨l, b, o' + o, c2, by rw [hll]; exact hx2, ?_, by omega, fun q hq => ?_, fun q => ?_⟩
    · unfold crcOf; rw [crcK_eq]; rfl
    · have hg : l.getD q 0 = l[q] := by rw [List.getD_eq_getElem?_getD, List.getElem?_eq_getElem hq]; rfl
      have h2 : xs[q]? = some (.int .u8 ((l[q] : Nat) : Int)) := by rw [hns, List.getElem?_map, List.getElem?_eq_getElem hq]; rfl
      rw [hg]
      have := hcell _ had q _ h2
      rw [addr_add] at this
      exact this
    · by_cases hq : q < l.length
      · have hg : l.getD q 0 = l[q] := by rw [List.getD_eq_getElem?_getD, List.getElem?_eq_getElem hq]; rfl
        rw [hg]; exact hle _ (List.getElem_mem hq)
      · rw [List.getD_eq_getElem?_getD, List.getElem?_eq_none (by omega)]; simp
end
theorem ref_sum_nat (he : ∀ args w, (callFunc 211 args).run Tryz.prog w = .ok (.enter 211 args) w) (T : Toks) : NatOk Tryz.prog T 211 refSumG := by
  intro args0 h v h' j B w xs hs hT hr hg hx
  unfold refSumG at hs
  split at hs
  case h_2 => cases hs
  rename_i v0
  cases hq : sumOf h v0 with
  | none => rw [hq] at hs; cases hs
  | some r =>
  rw [hq] at hs
  cases hs
  simp only [VRs] at hx
  obtain ⟨x0, r0, rfl, hx0, rfl⟩ := hx
  obtain ⟨l, b, off, cap, h1, h2, h3, h4, h5⟩ := sum_row hr hx0 hq
  subst h1; subst h2
  refine .inl ⟨he _ _, (ref_sum b off cap l w h3 h4 h5).mono fun e w' ⟨g1, g2⟩ => ?_⟩
  subst g1; subst g2
  exact ⟨_, j, rfl, by simp only [VR], hr, J.ext_refl _ _, Nat.le_refl _, RowKit.Below.refl _ _⟩
theorem oct_sum_nat (he : ∀ args w, (callFunc 199 args).run Tryz.prog w = .ok (.enter 199 args) w) (T : Toks) : NatOk Tryz.prog T 199 octSumG := by
  intro args0 h v h' j B w xs hs hT hr hg hx
  unfold octSumG at hs
  split at hs
  case h_2 => cases hs
  rename_i id o cap es
  cases hrow : h.row? id with
  | none => rw [hrow] at hs; cases hs
  | some p =>
  obtain ⟨ro, cs⟩ := p
  rw [hrow] at hs
  simp only at hs
  cases hi : idx? cs o with
  | none => rw [hi] at hs; cases hs
  | some v0 =>
  rw [hi] at hs
  simp only at hs
  cases hq : sumOf h v0 with
  | none => rw [hq] at hs; cases hs
  | some r =>
  rw [hq] at hs
  cases hs
  simp only [VRs, VR] at hx
  obtain ⟨x0, r0, rfl, ⟨a, c, rfl, hlc, _, hor⟩, rfl⟩ := hx
  rcases hor with h0 | ⟨b, o', t, hj, ha, _⟩
  · omega
  · subst ha
    rw [idx?_eq] at hi
    obtain ⟨y, hy, hvy⟩ := hr.cells hrow hj o v0 hi
    obtain ⟨l, b2, off, cap2, h1, h2, h3, h4, h5⟩ := sum_row hr hvy hq
    subst h1; subst h2
    refine .inl ⟨he _ _, (oct_sum b (o' + o) c b2 off cap2 l w h3 hy h4 h5).mono fun e w' ⟨g1, g2⟩ => ?_⟩
    subst g1; subst g2
    exact ⟨_, j, rfl, by simp only [VR], hr, J.ext_refl _ _, Nat.le_refl _, RowKit.Below.refl _ _⟩
end Ab
end Go.Proofs.YtcoobajkgioflaaGreatDoor
