/- letterboxlaw16.PopWrong: the functions told ahead. -/
import Derived.Test.YtcoobajkgioflaaGreatDoorWrongTab
import Derived.Test.YtcoobajkgioflaaGreatDoorPBase
import Derived.Test.YtcoobajkgioflaaGreatDoorFld
import Derived.WalkKit
set_option linter.unusedSimpArgs false
set_option linter.unusedVariables false
namespace Go.Proofs.YtcoobajkgioflaaGreatDoor
open Go.RowKit
theorem blank_gives (W : World) (x : Nat) : FnGives Tryz.prog 64 #[] #[.int .i32 (x : Int)] (.bool (Ab.isBlank x)) W := by
  show Calls Tryz.prog 64 #[.int .i32 (x : Int)] W fun e w' => e = .returned (.bool (Ab.isBlank x)) ∧ ∃ q, w' = W.drewN q
  go_enter Tryz.func64, Tryz.ntmps64
  go_wp2
  go_ret
  refine ⟨?_, 0, rfl⟩
  refine congrArg (fun z => Ending.returned (.bool z)) ?_
  unfold Ab.isBlank
  rw [Bool.eq_iff_iff, beq_iff_eq, beq_iff_eq]
  omega
open Ab
theorem blank_pred (w : World) : PredAt Tryz.prog 64 #[] encR isBlank w := fun W x _ => blank_gives W x
theorem fields_nat {word : List UInt8} (hl : word.length ≤ 60) : NatOk Tryz.prog (tokB (valWrong word) (wdsWrong word)) 63 fieldsWrong := by
  intro ag h v h' j B w xs hs hT hr hg hx
  unfold fieldsWrong at hs
  split at hs
  case h_2 => cases hs
  cases hs
  simp only [VRs] at hx
  obtain ⟨x, q, rfl, h1, y, q2, rfl, h2, rfl⟩ := hx
  have hx : x = .string ⟨⟨lineOf word⟩⟩ := by
    simp only [VR, hT, tokB, tokT, valWrong] at h1
    obtain ⟨u, hu, hv⟩ := h1
    cases hu
    exact hv
  have hy : y = .func (.func 64) #[] #[] := by
    simp only [VR, VRs] at h2
    obtain ⟨a, b, rfl, rfl, rfl⟩ := h2
    rfl
  subst hx; subst hy
  have hsz : (⟨⟨lineOf word⟩⟩ : ByteArray).size ≤ 4294967296 := by
    rw [bytes_size]; simp [lineOf]; omega
  refine .inl ⟨enters_at (f := 63) (by kernel_rfl) _ _, (Tryz.strings_FieldsFunc 64 #[] (enters_at (f := 64) (by kernel_rfl)) isBlank ⟨⟨lineOf word⟩⟩ w hsz (blank_pred w)).mono fun e w' ⟨A, he, hA, hown, hbel⟩ => ?_⟩
  subst he
  obtain ⟨rest, hrest⟩ := line_first word
  obtain ⟨hxl, hor⟩ := hown
  rw [hrest] at hor hxl
  rcases hor with ⟨h6, _⟩ | ⟨gb, cap, cur, h6, h7, h8, h9, h10, h11, h12⟩
  · cases h6
  · cases h6
    have hjn : j h.next = none := hr.fresh _ (Nat.le_refl _)
    have r1 : Rep j (h.add (.row false [.s passB])) B w' := (hr.below hbel).addDead _
    have hgl : A < w'.heap.size := (Array.getElem?_eq_some_iff.1 h8).1
    refine ⟨_, j.put h.next (A, 0, cur.size), rfl, ?_, ?_, J.put_ext (Nat.le_refl _), Nat.le_succ _, hbel.mono hr.base⟩
    · simp only [VR]
      refine ⟨_, J.put_self _ _ _, ?_⟩
      show (j.tok).ptr 40 _ _
      rw [hT]
      refine .inr ⟨wordsOf (lineOf word), _, rfl, ?_, Nat.le_refl _⟩
      rw [hrest]
      simp [wordsOf, hrest]
    · refine r1.bear (ob := .row false [.s passB]) hjn (Nat.lt_succ_self _) (by simp [AH.add, Tr.get_set]) (fun id' b' o' t' ob' hne' h13 h14 => ⟨rfl, ?_⟩) (Nat.le_refl _) hgl (fun _ c e fr h => ⟨c, fr, h⟩) (fun e he => by simp [AH.add, Tr.get_set] at he) ?_
      · have := hr.lt id' b' o' t' h14
        omega
      · refine ⟨Nat.le_trans hr.base h7, rfl, cur, _, _, h8, by omega, ?_, fun i v hv => ?_, .inl rfl⟩
        · rw [h11]; simp
        · have hi : i < 1 := by simpa using (List.getElem?_eq_some_iff.1 hv).1
          obtain rfl : i = 0 := by omega
          cases hv
          have : (List.take ((⟨⟨passB⟩⟩ :: rest : List ByteArray).length * 1) cur.toList)[0]? = some (Value.string ⟨⟨passB⟩⟩) := by rw [h12]; rfl
          rw [List.getElem?_take, if_pos (by simp)] at this
          exact ⟨_, by rw [Nat.zero_add]; simpa using this, by simp only [VR]⟩
def indexW : Nat1
  | [.x 3, .i .u8 32], h => some (i64 4, h)
  | xs, h => indexByteG xs h
theorem index_wrong {word : List UInt8} : NatOk Tryz.prog (tokB (valWrong word) (wdsWrong word)) 321 indexW := by
  refine NatOk.tok (val := valWrong word) (T := tokB (valWrong word) (wdsWrong word)) rfl (index_nat _) fun ag m v m' hs => ?_
  unfold indexW at hs
  split at hs
  · cases hs; rfl
  · unfold indexByteG at hs
    split at hs
    · cases hs; rfl
    · cases hs
def natsWrong : List (FuncId × Nat1) := [(16, knownG), (63, fieldsWrong), (321, indexW), (199, octSumG), (211, refSumG), (283, mnzG 5), (266, sortedG 305), (285, selfG)]
theorem natsWrong_ok {word : List UInt8} (hl : word.length ≤ 60) : ∀ x ∈ natsWrong, NatOk Tryz.prog (tokB (valWrong word) (wdsWrong word)) x.1 x.2 := fun x hx => by
  simp only [natsWrong, List.mem_cons, List.not_mem_nil, or_false] at hx
  have h16 := nats16_ok (tokB (valWrong word) (wdsWrong word))
  rcases hx with rfl | rfl | rfl | rfl | rfl | rfl | rfl | rfl
  · exact known_nat _
  · exact fields_nat hl
  · exact index_wrong
  all_goals exact h16 _ (by simp [nats16])
/-- A word that is too long is not looked at. -/
def tabLong : Tab := [(.lens, [.x 1], .x 2), (.bin .gtr, [.x 2, i64 60], .b true)]
def natsLong : List (FuncId × Nat1) := []
def bLong : BTab := ⟨tabLong, [], [], []⟩
theorem long_ok {word : List UInt8} (hl : ¬ word.length ≤ 60) : BOk (valWrong word) (wdsWrong word) bLong := by
  refine ⟨.cons rfl (.cons ?_ .nil), fun q hq => (by cases hq), fun n hn => (by cases hn), fun q hq => (by cases hq)⟩
  simp only [List.map_cons, List.map_nil, pk, conc, valWrong, Tv.av, i64, binR, binA, if_true, Option.some.injEq, AV.b.injEq, decide_eq_true_eq]; omega
theorem wrong_dis (word : List UInt8) : ∀ n s, valWrong word n = some (.s s) → wdsWrong word n = none := fun n s h => by
  unfold wdsWrong
  split
  · simp [valWrong] at h
  · rfl
end Go.Proofs.YtcoobajkgioflaaGreatDoor
