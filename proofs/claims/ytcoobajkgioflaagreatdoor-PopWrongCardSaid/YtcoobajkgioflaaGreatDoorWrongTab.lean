/- letterboxlaw16.PopWrong: what stands for a wrong pass; what is told of it ahead. -/
import Derived.Test.YtcoobajkgioflaaGreatDoorAbBlob
import Derived.Lib.FieldsP
import Derived.Laws.RangeString
set_option linter.unusedSimpArgs false
set_option linter.unusedVariables false
namespace Go.Proofs.YtcoobajkgioflaaGreatDoor
namespace Ab
/- Tokens: 1 the word, 2 its length, 3 the line, 4 the line's length; 40 the line's words. -/
def passB : List UInt8 := [112, 97, 115, 115]
def lineOf (word : List UInt8) : List UInt8 := 112 :: 97 :: 115 :: 115 :: 32 :: word
def isBlank (x : Nat) : Bool := x == 32
def wordsOf (l : List UInt8) : List (List UInt8) := (Lib.goFieldsP isBlank ⟨⟨l⟩⟩).map (·.data.toList)
def valWrong (word : List UInt8) : Vals
  | 1 => some (.s word)
  | 2 => some (.i .i64 word.length)
  | 3 => some (.s (lineOf word))
  | 4 => some (.i .i64 (lineOf word).length)
  | _ => none
def wdsWrong (word : List UInt8) : Wds
  | 40 => some (wordsOf (lineOf word))
  | _ => none
def i64 (n : Int) : AV := .i .i64 n
def tabWrong : Tab :=
  [(.lens, [.x 1], .x 2), (.bin .gtr, [.x 2, i64 60], .b false), (.bin .add, [.s [112, 97, 115, 115, 32], .x 1], .x 3), (.ixs, [.x 3, i64 0], .i .u8 112), (.lens, [.x 3], .x 4), (.sls false true, [.x 3, i64 4], .s passB), (.sls true false, [.x 3, i64 5], .x 1)] ++
  (eqT false (.x 1) (.s [112]) ++ (eqT false (.s [112]) (.x 1) ++ (eqT false (.x 3) (.s []) ++ (eqT false (.s [32]) (.x 3) ++ (cmpT (.x 4) (i64 0) .gt ++ cmpT (i64 1) (.x 4) .lt)))))
def bWrong : BTab := ⟨tabWrong, [], [3], [(40, 1, 1000)]⟩
def fieldsWrong : Nat1
  | [.x 3, .f (.func 64) [] []], h => some (.y h.next 40, h.add (.row false [.s passB]))
  | _, _ => none
def indexWrong : Nat1
  | [.x 3, .i .u8 32], h => some (i64 4, h)
  | _, _ => none

theorem spans_keep (p : Nat → Bool) (s : ByteArray) : ∀ (f pos : Nat) (st : Option Nat) (acc : List (Nat × Nat)), ∃ X st', Lib.spansFromP p s f pos st acc = (acc ++ X, st') ∧ X.length ≤ f
  | 0, pos, st, acc => ⟨[], st, by simp [Lib.spansFromP], by simp⟩
  | f + 1, pos, st, acc => by
    unfold Lib.spansFromP
    split
    · split
      · cases st with
        | some a =>
          obtain ⟨X, st', h, hl⟩ := spans_keep p s f (pos + (Utf8.decode s pos).2) none (acc ++ [(a, pos)])
          exact ⟨(a, pos) :: X, st', by simp only; rw [h]; simp, by simp; omega⟩
        | none =>
          obtain ⟨X, st', h, hl⟩ := spans_keep p s f (pos + (Utf8.decode s pos).2) none acc
          exact ⟨X, st', h, by omega⟩
      · cases st with
        | some a =>
          obtain ⟨X, st', h, hl⟩ := spans_keep p s f (pos + (Utf8.decode s pos).2) (some a) acc
          exact ⟨X, st', h, by omega⟩
        | none =>
          obtain ⟨X, st', h, hl⟩ := spans_keep p s f (pos + (Utf8.decode s pos).2) (some pos) acc
          exact ⟨X, st', h, by omega⟩
    · exact ⟨[], st, by simp, by simp⟩
theorem fields_len (p : Nat → Bool) (s : ByteArray) : (Lib.goFieldsP p s).length ≤ s.size + 1 := by
  unfold Lib.goFieldsP Lib.spansOfP
  rw [List.length_map]
  obtain ⟨X, st', h, hl⟩ := spans_keep p s s.size 0 none []
  rw [h]
  cases st' with
  | none => simp [Lib.closeSpans]; omega
  | some a => simp [Lib.closeSpans]; omega
theorem dec_ascii (l : List UInt8) (i : Nat) (c : UInt8) (h : l[i]? = some c) (hc : c.toNat < 128) : Utf8.decode ⟨⟨l⟩⟩ i = (c.toNat, 1) := by
  have hi : i < l.length := (List.getElem?_eq_some_iff.1 h).1
  have hl : l[i] = c := by rw [List.getElem?_eq_getElem hi] at h; exact Option.some.inj h
  have hs : i < (⟨⟨l⟩⟩ : ByteArray).size := hi
  have hg : (⟨⟨l⟩⟩ : ByteArray)[i] = c := hl
  have := decode_ascii ⟨⟨l⟩⟩ i hs (by rw [hg]; exact hc)
  rw [this, hg]
theorem spans_blank (p : Nat → Bool) (l : List UInt8) (f pos : Nat) (acc : List (Nat × Nat)) (a : Nat) (c : UInt8) (h : l[pos]? = some c) (hc : c.toNat < 128) (hp : p c.toNat = true) :
    Lib.spansFromP p ⟨⟨l⟩⟩ (f + 1) pos (some a) acc = Lib.spansFromP p ⟨⟨l⟩⟩ f (pos + 1) none (acc ++ [(a, pos)]) := by
  have hi : pos < (⟨⟨l⟩⟩ : ByteArray).size := (List.getElem?_eq_some_iff.1 h).1
  rw [Lib.spansFromP, if_pos hi, dec_ascii l pos c h hc, if_pos hp]
theorem spans_in (p : Nat → Bool) (l : List UInt8) (f pos : Nat) (acc : List (Nat × Nat)) (a : Nat) (c : UInt8) (h : l[pos]? = some c) (hc : c.toNat < 128) (hp : p c.toNat = false) :
    Lib.spansFromP p ⟨⟨l⟩⟩ (f + 1) pos (some a) acc = Lib.spansFromP p ⟨⟨l⟩⟩ f (pos + 1) (some a) acc := by
  have hi : pos < (⟨⟨l⟩⟩ : ByteArray).size := (List.getElem?_eq_some_iff.1 h).1
  rw [Lib.spansFromP, if_pos hi, dec_ascii l pos c h hc, if_neg (by rw [hp]; decide)]
theorem spans_new (p : Nat → Bool) (l : List UInt8) (f pos : Nat) (acc : List (Nat × Nat)) (c : UInt8) (h : l[pos]? = some c) (hc : c.toNat < 128) (hp : p c.toNat = false) :
    Lib.spansFromP p ⟨⟨l⟩⟩ (f + 1) pos none acc = Lib.spansFromP p ⟨⟨l⟩⟩ f (pos + 1) (some pos) acc := by
  have hi : pos < (⟨⟨l⟩⟩ : ByteArray).size := (List.getElem?_eq_some_iff.1 h).1
  rw [Lib.spansFromP, if_pos hi, dec_ascii l pos c h hc, if_neg (by rw [hp]; decide)]
theorem line_first (word : List UInt8) : ∃ rest, Lib.goFieldsP isBlank ⟨⟨lineOf word⟩⟩ = ⟨⟨passB⟩⟩ :: rest := by
  have hsz : (⟨⟨lineOf word⟩⟩ : ByteArray).size = word.length + 5 := by simp [lineOf, bytes_size]
  unfold Lib.goFieldsP Lib.spansOfP
  rw [hsz]
  rw [spans_new isBlank (lineOf word) _ 0 [] 112 rfl (by decide) (by decide), spans_in isBlank (lineOf word) _ _ [] _ 97 rfl (by decide) (by decide), spans_in isBlank (lineOf word) _ _ [] _ 115 rfl (by decide) (by decide),
    spans_in isBlank (lineOf word) _ _ [] _ 115 rfl (by decide) (by decide), spans_blank isBlank (lineOf word) _ _ [] _ 32 rfl (by decide) (by decide)]
  obtain ⟨X, st', h, hl⟩ := spans_keep isBlank ⟨⟨lineOf word⟩⟩ word.length (0 + 1 + 1 + 1 + 1 + 1) none ([] ++ [(0, 0 + 1 + 1 + 1 + 1)])
  rw [h]
  have hx : (⟨⟨lineOf word⟩⟩ : ByteArray).extract 0 (0 + 1 + 1 + 1 + 1) = ⟨⟨passB⟩⟩ := by
    rw [bytes_extract]; rfl
  cases st' with
  | none => exact ⟨X.map fun x => (⟨⟨lineOf word⟩⟩ : ByteArray).extract x.1 x.2, by simp [Lib.closeSpans, hx]⟩
  | some a => exact ⟨(X ++ [(a, (⟨⟨lineOf word⟩⟩ : ByteArray).size)]).map fun x => (⟨⟨lineOf word⟩⟩ : ByteArray).extract x.1 x.2, by simp [Lib.closeSpans, hx]⟩

theorem wrong_ok {word : List UInt8} (hl : word.length ≤ 60) (hp : word ≠ [112]) : BOk (valWrong word) (wdsWrong word) bWrong := by
  have hlen : (lineOf word).length = word.length + 5 := by simp [lineOf]
  have e : IntKind.i64.max = 9223372036854775807 := by decide
  refine ⟨?_, fun q hq => (by cases hq), fun n hn => ?_, fun q hq k hk => ?_⟩
  · show TabOk _ tabWrong
    unfold tabWrong
    refine .app ?_ (.app (eqT_ok rfl rfl (beq_eq_false_iff_ne.2 hp)) (.app (eqT_ok rfl rfl (beq_eq_false_iff_ne.2 (Ne.symm hp))) (.app (eqT_ok rfl rfl (by rw [beq_eq_false_iff_ne]; simp [lineOf])) (.app (eqT_ok rfl rfl (by rw [beq_eq_false_iff_ne]; simp [lineOf])) (.app (cmpT_ok rfl rfl ?_) (cmpT_ok rfl rfl ?_))))))
    · refine .cons ?_ (.cons ?_ (.cons ?_ (.cons ?_ (.cons ?_ (.cons ?_ (.cons ?_ .nil))))))
      · rfl
      · simp only [List.map_cons, List.map_nil, pk, conc, valWrong, Tv.av, i64, binR, binA, if_true, Option.some.injEq, AV.b.injEq, decide_eq_false_iff_not]; omega
      · simp only [List.map_cons, List.map_nil, pk, conc, valWrong, Tv.av, binR, binA, e]
        rw [if_neg (by simp only [List.length_cons, List.length_nil]; omega)]; rfl
      · rfl
      · rfl
      · simp only [List.map_cons, List.map_nil, pk, conc, valWrong, Tv.av, i64, slsV, bndA, hlen]
        rw [if_pos (by constructor <;> omega)]; rfl
      · simp only [List.map_cons, List.map_nil, pk, conc, valWrong, Tv.av, i64, slsV, bndA, hlen]
        rw [if_pos (by constructor <;> omega)]
        show some (AV.s (sub (lineOf word) 5 (word.length + 5 - 5))) = _
        simp [sub, lineOf]
    · simp only [hlen]; omega
    · simp only [hlen]; omega
  · have : n = 3 := by simpa [bWrong] using hn
    subst this; exact ⟨_, rfl⟩
  · have : q = (40, 1, 1000) := by simpa [bWrong] using hq
    subst this
    rcases hk with ⟨s, hs, _⟩ | ⟨ws, hs, rfl⟩
    · simp [valWrong] at hs
    · simp only [wdsWrong, Option.some.injEq] at hs
      subst hs
      obtain ⟨rest, hr⟩ := line_first word
      have hfl := fields_len isBlank ⟨⟨lineOf word⟩⟩
      rw [bytes_size, hlen] at hfl
      refine ⟨by simp [wordsOf, hr], ?_⟩
      simp only [wordsOf, List.length_map]; omega
end Ab
end Go.Proofs.YtcoobajkgioflaaGreatDoor
