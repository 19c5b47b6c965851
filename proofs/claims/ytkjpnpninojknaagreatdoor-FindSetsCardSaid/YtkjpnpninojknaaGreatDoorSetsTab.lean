/- letterboxlaw18.FindSets: what stands for a place, a UID and a set's two numbers; what is told of them ahead. -/
import Derived.Test.YtkjpnpninojknaaGreatDoorAbTok
import Derived.Test.YtkjpnpninojknaaGreatDoorAbExt
set_option linter.unusedSimpArgs false
set_option linter.unusedVariables false
namespace Go.Proofs.YtkjpnpninojknaaGreatDoor
namespace Ab
/- 1 the place, 2 the UID, 20 and 21 the set's numbers, 22 the less of them, 23 the greater; 10 and 11 their digits, 31 to 34 these bytes; 13 the digits and a colon, 3 the set, 12 its first two bytes. -/
def i64 (n : Int) : AV := .i .i64 n
def bytesA (da : Nat) : List AV := match da with | 1 => [.x 31] | _ => [.x 31, .x 32]
def bytesB (db : Nat) : List AV := match db with | 1 => [.x 33] | _ => [.x 33, .x 34]
def rowS (da db : Nat) : List AV := bytesA da ++ (.i .u8 58 :: bytesB db)
def words18 : List (List UInt8) := [[115, 101, 101, 110], [97, 110, 115, 119, 101, 114, 101, 100], [102, 108, 97, 103, 103, 101, 100], [100, 101, 108, 101, 116, 101, 100], [100, 114, 97, 102, 116], [97, 108, 108], [108, 97, 114, 103, 101, 114], [115, 109, 97, 108, 108, 101, 114], [116, 101, 120, 116], [115, 117, 98, 106, 101, 99, 116], [102, 114, 111, 109], [116, 111], [117, 105, 100], [110, 111, 116], [111, 114], [117, 110], [], [42]]
/-- What is at least, at most. -/
def atLeast (x y : AV) : Tab := [(.bin .lss, [x, y], .b false), (.bin .geq, [x, y], .b true)]
def atMost (x y : AV) : Tab := [(.bin .gtr, [x, y], .b false), (.bin .leq, [x, y], .b true)]
def tabSets (da db : Nat) (lo hi lo' hi' : Bool) : Tab :=
  ([1, 2, 20, 21].flatMap fun t => atLeast (.x t) (i64 1) ++ atMost (.x t) (i64 99)) ++
  ([(.bin .add, [.x 10, .s [58]], .x 13), (.bin .add, [.x 13, .x 11], .x 3), (.lens, [.x 3], i64 (Int.ofNat (da + 1 + db)))] ++
  (((bytesA da ++ bytesB db).flatMap fun t => cmpT t (.i .u8 65) .lt) ++
  ((words18.flatMap fun w => eqT false (.x 3) (.s w)) ++
  ([(.sls false true, [.x 3, i64 (Int.ofNat da)], .x 10), (.sls false true, [.x 3, i64 2], .x 12), (.sls true false, [.x 3, i64 (Int.ofNat (da + 1))], .x 11)] ++
  ((eqT false (.x 10) (.s [117, 110]) ++ (eqT false (.x 12) (.s [117, 110]) ++ (eqT false (.s [44]) (.x 3) ++ eqT false (.s [58]) (.x 3)))) ++
  (([20, 21].flatMap fun t => cmpT (.x t) (i64 0) .gt ++ cmpT (.x t) (i64 1073741824) .lt) ++
  [(.mm false, [.x 20, .x 21], .x 22), (.mm true, [.x 20, .x 21], .x 23), (.bin .geq, [.x 1, .x 22], .b lo), (.bin .leq, [.x 1, .x 23], .b hi), (.bin .geq, [.x 2, .x 22], .b lo'), (.bin .leq, [.x 2, .x 23], .b hi')]))))))
def indexSets (da : Nat) : Nat1
  | [.x 3, .i .u8 44], h => some (i64 (-1), h)
  | [.x 3, .i .u8 58], h => some (i64 (Int.ofNat da), h)
  | as, h => indexByteG as h
def numSets : Nat1
  | [.x 20], h => some (.x 10, h)
  | [.x 21], h => some (.x 11, h)
  | _, _ => none
def numberSets : Nat1
  | [.x 10], h => some (.x 20, h)
  | [.x 11], h => some (.x 21, h)
  | _, _ => none
def setsS (val : Vals) (da db : Nat) (lo hi lo' hi' : Bool) : Sums :=
  tabS [(12, knownG), (119, indexSets da), (15, numSets), (101, numberSets)] (tabSets da db lo hi lo' hi') [(rowS da db, 3)] val

/-- A number below 100 in digits. -/
def dig (n : Nat) : List UInt8 := if n < 10 then [UInt8.ofNat (48 + n)] else [UInt8.ofNat (48 + n / 10), UInt8.ofNat (48 + n % 10)]
def setOf (a b : Nat) : List UInt8 := dig a ++ (58 :: dig b)
def byte1 (n : Nat) : Nat := if n < 10 then 48 + n else 48 + n / 10
def byte2 (n : Nat) : Nat := 48 + n % 10
def valSets (p u a b : Nat) : Vals
  | 1 => some (.i .i64 p)
  | 2 => some (.i .i64 u)
  | 20 => some (.i .i64 a)
  | 21 => some (.i .i64 b)
  | 22 => some (.i .i64 (Nat.min a b))
  | 23 => some (.i .i64 (Nat.max a b))
  | 10 => some (.s (dig a))
  | 11 => some (.s (dig b))
  | 13 => some (.s (dig a ++ [58]))
  | 3 => some (.s (setOf a b))
  | 12 => some (.s ((setOf a b).take 2))
  | 31 => some (.i .u8 (byte1 a))
  | 32 => some (.i .u8 (byte2 a))
  | 33 => some (.i .u8 (byte1 b))
  | 34 => some (.i .u8 (byte2 b))
  | _ => none
def digits (n : Nat) : Nat := if n < 10 then 1 else 2

theorem atLeast_ok {val : Vals} {x y : AV} {k : IntKind} {n m : Int} (hx : conc val x = .i k n) (hy : conc val y = .i k m) (h : m ≤ n) : TabOk val (atLeast x y) := by
  unfold atLeast
  refine .cons ?_ (.cons ?_ .nil) <;> simp only [List.map_cons, List.map_nil, pk, hx, hy, conc, binR, binA, if_true, Option.some.injEq, AV.b.injEq, decide_eq_true_eq, decide_eq_false_iff_not] <;> omega
theorem atMost_ok {val : Vals} {x y : AV} {k : IntKind} {n m : Int} (hx : conc val x = .i k n) (hy : conc val y = .i k m) (h : n ≤ m) : TabOk val (atMost x y) := by
  unfold atMost
  refine .cons ?_ (.cons ?_ .nil) <;> simp only [List.map_cons, List.map_nil, pk, hx, hy, conc, binR, binA, if_true, Option.some.injEq, AV.b.injEq, decide_eq_true_eq, decide_eq_false_iff_not] <;> omega

section
variable {p u a b : Nat}
theorem dig_len (n : Nat) : (dig n).length = digits n := by unfold dig digits; split <;> rfl
theorem dig_head (n : Nat) (hn : n ≤ 99) : ∃ c r, dig n = c :: r ∧ 48 ≤ c.toNat ∧ c.toNat ≤ 57 := by
  unfold dig
  split
  · exact ⟨_, _, rfl, by simp [UInt8.toNat_ofNat']; omega, by simp [UInt8.toNat_ofNat']; omega⟩
  · exact ⟨_, _, rfl, by simp [UInt8.toNat_ofNat']; omega, by simp [UInt8.toNat_ofNat']; omega⟩
theorem set_head (ha : a ≤ 99) : ∃ c r, setOf a b = c :: r ∧ 48 ≤ c.toNat ∧ c.toNat ≤ 57 := by
  obtain ⟨c, r, h1, h2, h3⟩ := dig_head a ha
  exact ⟨c, r ++ (58 :: dig b), by rw [setOf, h1]; rfl, h2, h3⟩
/-- A text that begins with a digit is none that does not. -/
theorem head_ne {l m : List UInt8} (h : ∃ c r, l = c :: r ∧ 48 ≤ c.toNat ∧ c.toNat ≤ 57) (hm : (match m with | [] => true | c :: _ => !(decide (48 ≤ c.toNat) && decide (c.toNat ≤ 57))) = true) : (l == m) = false := by
  obtain ⟨c, r, rfl, h1, h2⟩ := h
  rw [beq_eq_false_iff_ne]
  intro e
  subst e
  simp [h1, h2] at hm
theorem ne_head {l m : List UInt8} (h : ∃ c r, l = c :: r ∧ 48 ≤ c.toNat ∧ c.toNat ≤ 57) (hm : (match m with | [] => true | c :: _ => !(decide (48 ≤ c.toNat) && decide (c.toNat ≤ 57))) = true) : (m == l) = false := by
  have := head_ne h hm
  rw [beq_eq_false_iff_ne] at this ⊢
  exact fun e => this e.symm
theorem digits_cases {n : Nat} : (digits n = 1 ∧ n < 10) ∨ (digits n = 2 ∧ 10 ≤ n) := by
  unfold digits
  split
  · exact .inl ⟨rfl, by assumption⟩
  · exact .inr ⟨rfl, by omega⟩

theorem sets_row (ha : a ≤ 99) (hb : b ≤ 99) : (rowS (digits a) (digits b)).map (conc (valSets p u a b)) = ofBytes (setOf a b) := by
  rcases digits_cases (n := a) with ⟨h1, h2⟩ | ⟨h1, h2⟩ <;> rcases digits_cases (n := b) with ⟨h3, h4⟩ | ⟨h3, h4⟩ <;>
    simp only [h1, h3, rowS, bytesA, bytesB, setOf, dig, List.map_cons, List.map_nil, List.map_append, List.cons_append, List.nil_append, conc, valSets, Tv.av, byte1, byte2, h2, h4, if_true, if_pos, if_neg, Nat.not_lt.2 h2, Nat.not_lt.2 h4, if_false, ofBytes] <;>
    simp [UInt8.toNat_ofNat'] <;> omega

theorem sets_tab (hp : 1 ≤ p ∧ p ≤ 99) (hu : 1 ≤ u ∧ u ≤ 99) (ha : 1 ≤ a ∧ a ≤ 99) (hb : 1 ≤ b ∧ b ≤ 99) :
    TabOk (valSets p u a b) (tabSets (digits a) (digits b) (decide (Nat.min a b ≤ p)) (decide (p ≤ Nat.max a b)) (decide (Nat.min a b ≤ u)) (decide (u ≤ Nat.max a b))) := by
  have la := dig_len a
  have lb := dig_len b
  have hs := set_head (b := b) ha.2
  unfold tabSets
  refine .app (.flat fun t ht => ?_) (.app ?_ (.app (.flat fun t ht => ?_) (.app (.flat fun w hw => ?_) (.app ?_ (.app ?_ (.app (.flat fun t ht => ?_) ?_))))))
  · simp only [List.mem_cons, List.not_mem_nil, or_false] at ht
    rcases ht with rfl | rfl | rfl | rfl
    · exact .app (atLeast_ok rfl rfl (by omega)) (atMost_ok rfl rfl (by omega))
    · exact .app (atLeast_ok rfl rfl (by omega)) (atMost_ok rfl rfl (by omega))
    · exact .app (atLeast_ok rfl rfl (by omega)) (atMost_ok rfl rfl (by omega))
    · exact .app (atLeast_ok rfl rfl (by omega)) (atMost_ok rfl rfl (by omega))
  · have hl : (setOf a b).length = digits a + 1 + digits b := by simp only [setOf, List.length_append, List.length_cons, la, lb]; omega
    have e : IntKind.i64.max = 9223372036854775807 := by decide
    have hda : digits a ≤ 2 := by rcases digits_cases (n := a) with h | h <;> omega
    have hdb : digits b ≤ 2 := by rcases digits_cases (n := b) with h | h <;> omega
    refine .cons ?_ (.cons ?_ (.cons ?_ .nil))
    · simp only [List.map_cons, List.map_nil, pk, conc, valSets, Tv.av, binR, binA, la, e]
      rw [if_neg (by simp only [List.length_cons, List.length_nil]; omega)]
    · simp only [List.map_cons, List.map_nil, pk, conc, valSets, Tv.av, binR, binA, List.length_append, la, lb, e]
      rw [if_neg (by simp only [List.length_cons, List.length_nil]; omega)]
      simp [setOf]
    · simp only [List.map_cons, List.map_nil, pk, conc, valSets, Tv.av, i64, hl]; rfl
  · have key : ∀ (n : Nat) (m : Nat), conc (valSets p u a b) (.x n) = .i .u8 m → m < 65 → TabOk (valSets p u a b) (cmpT (.x n) (.i .u8 65) .lt) := fun n m h1 h2 => cmpT_ok h1 rfl (by simp only; omega)
    have b1 : ∀ n, n ≤ 99 → byte1 n < 65 := fun n hn => by unfold byte1; split <;> omega
    have b2 : ∀ n, byte2 n < 65 := fun n => by unfold byte2; omega
    rcases List.mem_append.1 ht with ht | ht
    · have : t = .x 31 ∨ t = .x 32 := by
        unfold bytesA at ht
        split at ht
        · left; simpa using ht
        · simpa using ht
      rcases this with rfl | rfl
      · exact key 31 _ rfl (b1 a ha.2)
      · exact key 32 _ rfl (b2 a)
    · have : t = .x 33 ∨ t = .x 34 := by
        unfold bytesB at ht
        split at ht
        · left; simpa using ht
        · simpa using ht
      rcases this with rfl | rfl
      · exact key 33 _ rfl (b1 b hb.2)
      · exact key 34 _ rfl (b2 b)
  · refine eqT_ok rfl rfl (head_ne hs ?_)
    have : ∀ w ∈ words18, (match w with | [] => true | c :: _ => !(decide (48 ≤ c.toNat) && decide (c.toNat ≤ 57))) = true := by decide
    exact this w hw
  · have hl : (setOf a b).length = digits a + 1 + digits b := by simp only [setOf, List.length_append, List.length_cons, la, lb]; omega
    refine .cons ?_ (.cons ?_ (.cons ?_ .nil))
    · simp only [List.map_cons, List.map_nil, pk, conc, valSets, Tv.av, i64, slsV, bndA, hl]
      rw [if_pos (by constructor <;> simp <;> omega)]
      simp [sub, setOf, ← la]
    · simp only [List.map_cons, List.map_nil, pk, conc, valSets, Tv.av, i64, slsV, bndA, hl]
      have hda : 1 ≤ digits a := by rcases digits_cases (n := a) with h | h <;> omega
      rw [if_pos (by constructor <;> simp <;> omega)]
      simp [sub]
    · simp only [List.map_cons, List.map_nil, pk, conc, valSets, Tv.av, i64, slsV, bndA, hl]
      rw [if_pos (by constructor <;> simp <;> omega)]
      have e1 : (setOf a b).drop (digits a + 1) = dig b := by
        rw [setOf, ← la]; simp
      have e2 : digits a + 1 + digits b - (digits a + 1) = (dig b).length := by rw [lb]; omega
      simp only [sub, Int.toNat_natCast, Int.ofNat_eq_natCast, e1]
      show some (AV.s (List.take (digits a + 1 + digits b - (digits a + 1)) (dig b))) = _
      rw [e2, List.take_length]
  · refine .app (eqT_ok rfl rfl (head_ne (dig_head a ha.2) (by decide))) (.app (eqT_ok rfl rfl (head_ne ?_ (by decide))) (.app (eqT_ok rfl rfl (ne_head hs (by decide))) (eqT_ok rfl rfl (ne_head hs (by decide)))))
    obtain ⟨c, r, h1, h2, h3⟩ := hs
    exact ⟨c, r.take 1, by rw [h1]; rfl, h2, h3⟩
  · simp only [List.mem_cons, List.not_mem_nil, or_false] at ht
    rcases ht with rfl | rfl
    · exact .app (cmpT_ok rfl rfl (by simp only; omega)) (cmpT_ok rfl rfl (by simp only; omega))
    · exact .app (cmpT_ok rfl rfl (by simp only; omega)) (cmpT_ok rfl rfl (by simp only; omega))
  · refine .cons ?_ (.cons ?_ (.cons ?_ (.cons ?_ (.cons ?_ (.cons ?_ .nil)))))
    · simp only [List.map_cons, List.map_nil, pk, conc, valSets, Tv.av, mmA, mm2, if_true, cond_false, Option.some.injEq, AV.i.injEq, true_and, Nat.min_def]
      split <;> split <;> omega
    · simp only [List.map_cons, List.map_nil, pk, conc, valSets, Tv.av, mmA, mm2, if_true, cond_true, Option.some.injEq, AV.i.injEq, true_and, Nat.max_def]
      split <;> split <;> omega
    all_goals simp only [List.map_cons, List.map_nil, pk, conc, valSets, Tv.av, binR, binA, if_true, Option.some.injEq, AV.b.injEq, ge_iff_le, Int.ofNat_le, decide_eq_decide]
end
end Ab
end Go.Proofs.YtkjpnpninojknaaGreatDoor
