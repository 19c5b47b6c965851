/- The interpreter once more, in a form that the kernel runs with less memory: what depends on the code alone is made a closure once. Equal to evF. -/
import Derived.Test.YtcoobajkgioflaaGreatDoorAbLaw
set_option linter.unusedSimpArgs false
set_option linter.unusedVariables false
set_option linter.unusedSectionVars false
namespace Go.Proofs.YtcoobajkgioflaaGreatDoor
namespace Ab
noncomputable section
structure Cl (α : Type) where
  f : α

/- Eliminators that unfold small. -/
def obind {α β : Type} (o : Option α) (f : α → Option β) : Option β := Option.rec (motive := fun _ => Option β) none (fun v => f v) o
def forceN {β : Type} (v : Nat) (f : Nat → β) : β := Nat.rec (motive := fun _ => β) (f 0) (fun n _ => f (Nat.succ n)) v
theorem forceN_eq {β : Type} (v : Nat) (f : Nat → β) : forceN v f = f v := by cases v <;> rfl
def AV.onI {β : Type} (v : AV) (f : IntKind → Int → β) (d : β) : β :=
  AV.rec (motive_1 := fun _ => β) (motive_2 := fun _ => PUnit) (fun k n => f k n) (fun _ => d) (fun _ => d) (fun _ => d) (fun _ _ _ _ => d) (fun _ => d) (fun _ _ _ _ _ => d) d d (fun _ _ _ => d) (fun _ _ => d) (fun _ _ => d) (fun _ _ _ => d) d (fun _ _ => d) (fun _ => d) (fun _ _ => d) ⟨⟩ (fun _ _ _ _ => ⟨⟩) v
def AV.onIS {β : Type} (v : AV) (f : IntKind → Int → β) (g : List UInt8 → β) (d : β) : β :=
  AV.rec (motive_1 := fun _ => β) (motive_2 := fun _ => PUnit) (fun k n => f k n) (fun _ => d) (fun l => g l) (fun _ => d) (fun _ _ _ _ => d) (fun _ => d) (fun _ _ _ _ _ => d) d d (fun _ _ _ => d) (fun _ _ => d) (fun _ _ => d) (fun _ _ _ => d) d (fun _ _ => d) (fun _ => d) (fun _ _ => d) ⟨⟩ (fun _ _ _ _ => ⟨⟩) v
def AV.onB {β : Type} (v : AV) (f : Bool → β) (d : β) : β :=
  AV.rec (motive_1 := fun _ => β) (motive_2 := fun _ => PUnit) (fun _ _ => d) (fun x => f x) (fun _ => d) (fun _ => d) (fun _ _ _ _ => d) (fun _ => d) (fun _ _ _ _ _ => d) d d (fun _ _ _ => d) (fun _ _ => d) (fun _ _ => d) (fun _ _ _ => d) d (fun _ _ => d) (fun _ => d) (fun _ _ => d) ⟨⟩ (fun _ _ _ _ => ⟨⟩) v
def AV.onP {β : Type} (v : AV) (f : Nat → Nat → β) (d : β) : β :=
  AV.rec (motive_1 := fun _ => β) (motive_2 := fun _ => PUnit) (fun _ _ => d) (fun _ => d) (fun _ => d) (fun a => Option.rec (motive := fun _ => β) d (fun q => Prod.rec (motive := fun _ => β) (fun x y => f x y) q) a) (fun _ _ _ _ => d) (fun _ => d) (fun _ _ _ _ _ => d) d d (fun _ _ _ => d) (fun _ _ => d) (fun _ _ => d) (fun _ _ _ => d) d (fun _ _ => d) (fun _ => d) (fun _ _ => d) ⟨⟩ (fun _ _ _ _ => ⟨⟩) v
def AV.onSl {β : Type} (v : AV) (f : Option (Nat × Nat) → Nat → Option Nat → Nat → β) (d : β) : β :=
  AV.rec (motive_1 := fun _ => β) (motive_2 := fun _ => PUnit) (fun _ _ => d) (fun _ => d) (fun _ => d) (fun _ => d) (fun a n c e => f a n c e) (fun _ => d) (fun _ _ _ _ _ => d) d d (fun _ _ _ => d) (fun _ _ => d) (fun _ _ => d) (fun _ _ _ => d) d (fun _ _ => d) (fun _ => d) (fun _ _ => d) ⟨⟩ (fun _ _ _ _ => ⟨⟩) v
def AV.onT {β : Type} (v : AV) (f : List AV → β) (d : β) : β :=
  AV.rec (motive_1 := fun _ => β) (motive_2 := fun _ => PUnit) (fun _ _ => d) (fun _ => d) (fun _ => d) (fun _ => d) (fun _ _ _ _ => d) (fun _ => d) (fun _ _ _ _ _ => d) d d (fun _ _ _ => d) (fun _ _ => d) (fun l _ => f l) (fun _ _ _ => d) d (fun _ _ => d) (fun _ => d) (fun _ _ => d) ⟨⟩ (fun _ _ _ _ => ⟨⟩) v
def nn {β : Type} (a b : Int) (f : Nat → Nat → β) (d : β) : β :=
  Int.rec (motive := fun _ => β) (fun m => Int.rec (motive := fun _ => β) (fun n => f m n) (fun _ => d) b) (fun _ => d) a
def yes {β : Type} (c : Bool) (a b : β) : β := Bool.rec (motive := fun _ => β) b a c
theorem yes_eq {β : Type} (c : Bool) (a b : β) : yes c a b = if c = true then a else b := by cases c <;> rfl

/- The environment. -/
def atN : Option AV → AV := fun v => Option.rec (motive := fun _ => AV) undefA (fun v => v) v
def getT : Nat → Nat → Cl (Env → AV)
  | 0, _ => ⟨fun _ => undefA⟩
  | _ + 1, 0 => ⟨fun t => Tr.rec (motive := fun _ => AV) undefA (fun v _ _ _ _ => atN v) t⟩
  | f + 1, k + 1 => bif Nat.beq (Nat.mod k 2) 0 then ⟨fun t => Tr.rec (motive := fun _ => AV) undefA (fun _ l _ _ _ => (getT f (Nat.div k 2)).f l) t⟩ else ⟨fun t => Tr.rec (motive := fun _ => AV) undefA (fun _ _ r _ _ => (getT f (Nat.div k 2)).f r) t⟩
theorem getT_eq : ∀ (f n : Nat) (t : Env), n < f → (getT f n).f t = Env.at t n
  | 0, n, t, h => by omega
  | f + 1, 0, t, h => by
    cases t with
    | nil => rfl
    | node v l r => cases v <;> rfl
  | f + 1, k + 1, t, h => by
    have hk : Nat.div k 2 < f := by show k / 2 < f; omega
    cases t with
    | nil => unfold getT; cases Nat.beq (Nat.mod k 2) 0 <;> rfl
    | node v l r =>
      have e : Env.at (.node v l r) (k + 1) = bif Nat.beq (Nat.mod k 2) 0 then Env.at l (Nat.div k 2) else Env.at r (Nat.div k 2) := by
        show (match (bif Nat.beq (Nat.mod k 2) 0 then l.get (Nat.div k 2) else r.get (Nat.div k 2)) with | some v => v | none => undefA) = _
        cases Nat.beq (Nat.mod k 2) 0 <;> rfl
      rw [e]
      unfold getT
      cases Nat.beq (Nat.mod k 2) 0
      · exact getT_eq f _ r hk
      · exact getT_eq f _ l hk
def putT {α : Type} : Nat → Nat → Cl (Tr α → Option α → Tr α)
  | 0, _ => ⟨fun t _ => t⟩
  | _ + 1, 0 => ⟨fun t x => Tr.rec (motive := fun _ => Tr α) (.node x .nil .nil) (fun _ l r _ _ => .node x l r) t⟩
  | f + 1, k + 1 => bif Nat.beq (Nat.mod k 2) 0 then
      ⟨fun t x => Tr.rec (motive := fun _ => Tr α) (.node none ((putT f (Nat.div k 2)).f .nil x) .nil) (fun v l r _ _ => .node v ((putT f (Nat.div k 2)).f l x) r) t⟩ else
      ⟨fun t x => Tr.rec (motive := fun _ => Tr α) (.node none .nil ((putT f (Nat.div k 2)).f .nil x)) (fun v l r _ _ => .node v l ((putT f (Nat.div k 2)).f r x)) t⟩
theorem putT_eq {α : Type} : ∀ (f n : Nat) (t : Tr α) (x : Option α), (putT f n).f t x = Tr.put f t n x
  | 0, n, t, x => by unfold putT Tr.put; rfl
  | f + 1, 0, t, x => by cases t <;> rfl
  | f + 1, k + 1, t, x => by
    unfold putT Tr.put
    cases t with
    | nil =>
      show _ = bif Nat.beq (Nat.mod k 2) 0 then Tr.node none (Tr.put f .nil (Nat.div k 2) x) .nil else Tr.node none .nil (Tr.put f .nil (Nat.div k 2) x)
      cases Nat.beq (Nat.mod k 2) 0
      · exact congrArg (fun z => Tr.node none Tr.nil z) (putT_eq f (Nat.div k 2) .nil x)
      · exact congrArg (fun z => Tr.node none z Tr.nil) (putT_eq f (Nat.div k 2) .nil x)
    | node v l r =>
      show _ = bif Nat.beq (Nat.mod k 2) 0 then Tr.node v (Tr.put f l (Nat.div k 2) x) r else Tr.node v l (Tr.put f r (Nat.div k 2) x)
      cases Nat.beq (Nat.mod k 2) 0
      · exact congrArg (fun z => Tr.node v l z) (putT_eq f (Nat.div k 2) r x)
      · exact congrArg (fun z => Tr.node v z r) (putT_eq f (Nat.div k 2) l x)
def putC : Option Tmp → Cl (Env → AV → Env)
  | none => ⟨fun e _ => e⟩
  | some d => ⟨fun e v => (putT (Nat.succ d) d).f e (some v)⟩
theorem putC_eq (d : Option Tmp) (e : Env) (v : AV) : (putC d).f e v = putA e d v := by
  cases d with
  | none => rfl
  | some d => exact putT_eq _ _ _ _
/-- Reading a tree of any kind. -/
def getF {α : Type} (t : Tr α) : Nat → Option α := Tr.rec (motive := fun _ => Nat → Option α) (fun _ => none)
  (fun v _ _ gl gr n => Nat.rec (motive := fun _ => Option α) v (fun k _ => yes (Nat.beq (Nat.mod k 2) 0) (gl (Nat.div k 2)) (gr (Nat.div k 2))) n) t
theorem getF_eq {α : Type} : ∀ (t : Tr α) (n : Nat), getF t n = t.get n
  | .nil, n => rfl
  | .node v l r, 0 => rfl
  | .node v l r, k + 1 => by
    show yes _ (getF l _) (getF r _) = bif _ then _ else _
    rw [getF_eq l, getF_eq r]
    cases Nat.beq (Nat.mod k 2) 0 <;> rfl
def idxF {α : Type} (l : List α) : Nat → Option α := List.rec (motive := fun _ => Nat → Option α) (fun _ => none) (fun a _ g n => Nat.rec (motive := fun _ => Option α) (some a) (fun m _ => g m) n) l
theorem idxF_eq {α : Type} : ∀ (l : List α) (n : Nat), idxF l n = idx? l n
  | [], n => by unfold idx?; rfl
  | a :: l, 0 => rfl
  | a :: l, n + 1 => idxF_eq l n

/- Operands. -/
structure Cx where
  X : AX → Cl (Env → Env → AV)
  E : Cl (Env → Env → Env)
def Cx.Ok (c : Cx) : Prop := ∀ x T V, (c.X x).f T V = x.ev (c.E.f T V)
def x0 : AX → Cl (Env → Env → AV)
  | .t n => ⟨fun T _ => (getT (Nat.succ n) n).f T⟩
  | .c v => ⟨fun _ _ => v⟩
def cx0 : Cx := ⟨x0, ⟨fun T _ => T⟩⟩
theorem cx0_ok : cx0.Ok := fun x T V => by
  cases x with
  | t n => exact getT_eq _ _ _ (Nat.lt_succ_self n)
  | c v => rfl

/- Whole numbers. -/
def kIx : IntKind → Nat
  | .i8 => 0 | .i16 => 1 | .i32 => 2 | .i64 => 3 | .u8 => 4 | .u16 => 5 | .u32 => 6 | .u64 => 7
def kEq (k l : IntKind) : Bool := Nat.beq (kIx k) (kIx l)
theorem kEq_eq {k l : IntKind} (h : kEq k l = true) : k = l := by cases k <;> cases l <;> first | rfl | exact absurd h (by decide)
theorem kEq_ne {k l : IntKind} (h : kEq k l = false) : k ≠ l := by cases k <;> cases l <;> first | (intro hh; cases hh; exact absurd h (by decide)) | (intro hh; cases hh)
def maxN : IntKind → Nat
  | .i8 => 127 | .i16 => 32767 | .i32 => 2147483647 | .i64 => 9223372036854775807 | .u8 => 255 | .u16 => 65535 | .u32 => 4294967295 | .u64 => 18446744073709551615
def modN (k : IntKind) (m : Nat) : Int := match k with
  | .u8 => Int.ofNat (Nat.mod m 256)
  | .u16 => Int.ofNat (Nat.mod m 65536)
  | .u32 => Int.ofNat (Nat.mod m 4294967296)
  | .u64 => Int.ofNat (Nat.mod m 18446744073709551616)
  | k => k.wrap (Int.ofNat m)
def wrapN (k : IntKind) (m : Nat) : Int := yes (Nat.ble m (maxN k)) (Int.ofNat m) (modN k m)
theorem wrapN_eq (k : IntKind) (m : Nat) : wrapN k m = k.wrap (Int.ofNat m) := by
  have e8 : (2 : Int) ^ 8 = 256 := rfl
  have e16 : (2 : Int) ^ 16 = 65536 := rfl
  have e32 : (2 : Int) ^ 32 = 4294967296 := rfl
  have e64 : (2 : Int) ^ 64 = 18446744073709551616 := rfl
  have f8 : (2 : Int) ^ 7 = 128 := rfl
  have f16 : (2 : Int) ^ 15 = 32768 := rfl
  have f32 : (2 : Int) ^ 31 = 2147483648 := rfl
  have f64 : (2 : Int) ^ 63 = 9223372036854775808 := rfl
  have hm : ∀ a b : Nat, Nat.mod a b = a % b := fun _ _ => rfl
  unfold wrapN
  rw [yes_eq]
  split
  · rename_i h
    have h := Nat.le_of_ble_eq_true h
    cases k <;> simp only [maxN] at h <;> simp [IntKind.wrap, IntKind.bits, IntKind.signed] <;> omega
  · cases k <;> simp [modN, IntKind.wrap, IntKind.bits, IntKind.signed, hm] <;> omega

def ii (a b : AV) (f : IntKind → Int → Int → Option AV) (d : Option AV) : Option AV := a.onI (fun k m => b.onI (fun k' n => yes (kEq k k') (f k m n) d) d) d
theorem ii_eq {a b : AV} {f : IntKind → Int → Int → Option AV} {d : Option AV} (h : ∀ k m n, a = .i k m → b = .i k n → f k m n = d) : ii a b f d = d := by
  cases a <;> try rfl
  cases b <;> try rfl
  rename_i k m k' n
  show yes (kEq k k') (f k m n) d = d
  rw [yes_eq]
  split
  · rename_i hk
    have := kEq_eq hk; subst this
    exact h k m n rfl rfl
  · rfl
def sh (a b : AV) (f : IntKind → Int → Int → Option AV) (d : Option AV) : Option AV := a.onI (fun k m => b.onI (fun _ n => f k m n) d) d
theorem sh_eq {a b : AV} {f : IntKind → Int → Int → Option AV} {d : Option AV} (h : ∀ k k' m n, a = .i k m → b = .i k' n → f k m n = d) : sh a b f d = d := by
  cases a <;> try rfl
  cases b <;> try rfl
  exact h _ _ _ _ rfl rfl
def iis (a b : AV) (f : Int → Int → Option AV) (g : List UInt8 → List UInt8 → Option AV) (d : Option AV) : Option AV :=
  a.onIS (fun k m => b.onI (fun k' n => yes (kEq k k') (f m n) d) d) (fun l => b.onIS (fun _ _ => d) (fun q => g l q) d) d
theorem iis_eq {a b : AV} {f : Int → Int → Option AV} {g : List UInt8 → List UInt8 → Option AV} {d : Option AV} (h : ∀ k m n, a = .i k m → b = .i k n → f m n = d) (h2 : ∀ l q, a = .s l → b = .s q → g l q = d) : iis a b f g d = d := by
  cases a <;> try rfl
  · cases b <;> try rfl
    rename_i k m k' n
    show yes (kEq k k') (f m n) d = d
    rw [yes_eq]
    split
    · rename_i hk
      have := kEq_eq hk; subst this
      exact h k m n rfl rfl
    · rfl
  · cases b <;> try rfl
    exact h2 _ _ rfl rfl
theorem nn_eq {β : Type} {a b : Int} {f : Nat → Nat → β} {d r : β} (h1 : ∀ m n : Nat, a = Int.ofNat m → b = Int.ofNat n → f m n = r) (h2 : d = r) : nn a b f d = r := by
  cases a <;> cases b <;> first | exact h1 _ _ rfl rfl | exact h2
def res (k : IntKind) (m : Nat) : Option AV := forceN m fun r => some (.i k (wrapN k r))
theorem res_eq (k : IntKind) (m : Nat) : res k m = some (.i k (k.wrap (Int.ofNat m))) := by unfold res; rw [forceN_eq, wrapN_eq]
def eqL : List UInt8 → List UInt8 → Bool
  | [], [] => true
  | a :: l, b :: m => yes (Nat.beq a.toNat b.toNat) (eqL l m) false
  | _, _ => false
theorem eqL_eq : ∀ l m : List UInt8, eqL l m = (l == m)
  | [], [] => rfl
  | [], b :: m => rfl
  | a :: l, [] => rfl
  | a :: l, b :: m => by
    show yes _ (eqL l m) false = (a == b && l == m)
    rw [eqL_eq l m, yes_eq, nat_beq]
    by_cases h : a = b
    · subst h; simp
    · have : ¬ a.toNat = b.toNat := fun hh => h (UInt8.toNat_inj.1 hh)
      simp [h, this]
def both (k : IntKind) (m n : Nat) : Bool := yes (Nat.ble m (maxN k)) (Nat.ble n (maxN k)) false
theorem both_eq {k : IntKind} {m n : Nat} (h : both k m n = true) : m ≤ maxN k ∧ n ≤ maxN k := by
  unfold both at h
  rw [yes_eq] at h
  split at h
  · rename_i h1
    exact ⟨Nat.le_of_ble_eq_true h1, Nat.le_of_ble_eq_true h⟩
  · cases h
def small (k : IntKind) (m : Nat) : Option AV := forceN m fun r => some (.i k (Int.ofNat r))
theorem small_eq {k : IntKind} {m : Nat} (h : m ≤ maxN k) : small k m = some (.i k (k.wrap (Int.ofNat m))) := by
  unfold small
  rw [forceN_eq, ← wrapN_eq]
  unfold wrapN
  rw [Nat.ble_eq_true_of_le h]
  rfl
theorem maxN_pow (k : IntKind) : ∃ j, maxN k = 2 ^ j - 1 ∧ j ≤ k.bits := by
  cases k <;> first | exact ⟨7, rfl, by decide⟩ | exact ⟨15, rfl, by decide⟩ | exact ⟨31, rfl, by decide⟩ | exact ⟨63, rfl, by decide⟩ | exact ⟨8, rfl, by decide⟩ | exact ⟨16, rfl, by decide⟩ | exact ⟨32, rfl, by decide⟩ | exact ⟨64, rfl, by decide⟩
theorem ofInt_small {k : IntKind} {m : Nat} (h : m ≤ maxN k) : (BitVec.ofInt k.bits (Int.ofNat m)).toNat = m := by
  obtain ⟨j, hj, hb⟩ := maxN_pow k
  have h1 : (2 : Nat) ^ j ≤ 2 ^ k.bits := Nat.pow_le_pow_right (by decide) hb
  have h2 : 0 < (2 : Nat) ^ j := Nat.pow_pos (by decide)
  show (BitVec.ofInt k.bits ((m : Nat) : Int)).toNat = m
  rw [BitVec.ofInt_natCast, BitVec.toNat_ofNat, Nat.mod_eq_of_lt (by omega)]
theorem lt_pow {k : IntKind} {m n : Nat} (h1 : m ≤ maxN k) (h2 : n ≤ maxN k) : Nat.lor m n ≤ maxN k ∧ Nat.xor m n ≤ maxN k ∧ Nat.land m n ≤ maxN k := by
  obtain ⟨j, hj, hb⟩ := maxN_pow k
  have h0 : 0 < (2 : Nat) ^ j := Nat.pow_pos (by decide)
  have hm : m < 2 ^ j := by omega
  have hn : n < 2 ^ j := by omega
  have a1 : m ||| n < 2 ^ j := Nat.or_lt_two_pow hm hn
  have a2 : m ^^^ n < 2 ^ j := Nat.xor_lt_two_pow hm hn
  have a3 : m &&& n ≤ m := Nat.and_le_left
  refine ⟨?_, ?_, ?_⟩
  · show m ||| n ≤ _; omega
  · show m ^^^ n ≤ _; omega
  · show m &&& n ≤ _; omega

def binC : BinOp → Cl (AV → AV → Option AV → Option AV)
  | .add => ⟨fun a b d => ii a b (fun k m n => nn m n (fun m n => res k (Nat.add m n)) d) d⟩
  | .sub => ⟨fun a b d => ii a b (fun k m n => nn m n (fun m n => yes (Nat.ble n m) (res k (Nat.sub m n)) d) d) d⟩
  | .mul => ⟨fun a b d => ii a b (fun k m n => nn m n (fun m n => res k (Nat.mul m n)) d) d⟩
  | .quo => ⟨fun a b d => ii a b (fun k m n => nn m n (fun m n => yes (Nat.beq n 0) d (res k (Nat.div m n))) d) d⟩
  | .rem => ⟨fun a b d => ii a b (fun k m n => nn m n (fun m n => yes (Nat.beq n 0) d (forceN (Nat.mod m n) fun r => some (.i k (Int.ofNat r)))) d) d⟩
  | .and => ⟨fun a b d => ii a b (fun k m n => nn m n (fun m n => yes (both k m n) (small k (Nat.land m n)) d) d) d⟩
  | .or => ⟨fun a b d => ii a b (fun k m n => nn m n (fun m n => yes (both k m n) (small k (Nat.lor m n)) d) d) d⟩
  | .xor => ⟨fun a b d => ii a b (fun k m n => nn m n (fun m n => yes (both k m n) (small k (Nat.xor m n)) d) d) d⟩
  | .shl => ⟨fun a b d => sh a b (fun k m n => nn m n (fun m n => yes (Nat.ble n k.bits) (res k (Nat.mul m (Nat.pow 2 n))) d) d) d⟩
  | .shr => ⟨fun a b d => sh a b (fun k m n => nn m n (fun m n => yes (Nat.ble n k.bits) (forceN (Nat.div m (Nat.pow 2 n)) fun r => some (.i k (Int.ofNat r))) d) d) d⟩
  | .eql => ⟨fun a b d => iis a b (fun m n => nn m n (fun m n => some (.b (Nat.beq m n))) d) (fun l q => some (.b (eqL l q))) d⟩
  | .neq => ⟨fun a b d => iis a b (fun m n => nn m n (fun m n => some (.b (yes (Nat.beq m n) false true))) d) (fun l q => some (.b (yes (eqL l q) false true))) d⟩
  | .lss => ⟨fun a b d => ii a b (fun k m n => nn m n (fun m n => some (.b (Nat.ble (Nat.succ m) n))) d) d⟩
  | .leq => ⟨fun a b d => ii a b (fun k m n => nn m n (fun m n => some (.b (Nat.ble m n))) d) d⟩
  | .gtr => ⟨fun a b d => ii a b (fun k m n => nn m n (fun m n => some (.b (Nat.ble (Nat.succ n) m))) d) d⟩
  | .geq => ⟨fun a b d => ii a b (fun k m n => nn m n (fun m n => some (.b (Nat.ble n m))) d) d⟩
  | .andNot => ⟨fun _ _ d => d⟩
theorem some_b {p q : Bool} (h : p = q) : some (AV.b p) = some (AV.b q) := by rw [h]
theorem ble_iff (a b : Nat) : Nat.ble a b = decide (a ≤ b) := by
  by_cases h : a ≤ b
  · rw [Nat.ble_eq_true_of_le h]; simp [h]
  · cases hb : Nat.ble a b with
    | true => exact absurd (Nat.le_of_ble_eq_true hb) h
    | false => simp [h]
theorem binC_eq {S : Sums} {e : Env} {op : BinOp} {x y : AX} : (binC op).f (x.ev e) (y.ev e) (pevS S e (.bin op x y)) = pevS S e (.bin op x y) := by
  have key : ∀ {v : AV}, binA op (x.ev e) (y.ev e) = some v → some v = pevS S e (.bin op x y) := fun h => by
    show _ = (match binR op (x.ev e) (y.ev e) with | some v => some v | none => S.op _ _)
    unfold binR; rw [h]
  cases op <;> unfold binC <;> try rfl
  · refine ii_eq fun k m n hx hy => nn_eq (fun a b ha hb => ?_) rfl
    subst ha hb
    exact (res_eq _ _).trans (key (by rw [hx, hy]; simp [binA]))
  · refine ii_eq fun k m n hx hy => nn_eq (fun a b ha hb => ?_) rfl
    subst ha hb
    rw [yes_eq]
    split
    · rename_i h
      have h := Nat.le_of_ble_eq_true h
      have e : Int.ofNat (Nat.sub a b) = Int.ofNat a - Int.ofNat b := Int.ofNat_sub h
      rw [res_eq, e]
      exact key (by rw [hx, hy]; simp [binA])
    · rfl
  · refine ii_eq fun k m n hx hy => nn_eq (fun a b ha hb => ?_) rfl
    subst ha hb
    exact (res_eq _ _).trans (key (by rw [hx, hy]; simp [binA]))
  · refine ii_eq fun k m n hx hy => nn_eq (fun a b ha hb => ?_) rfl
    subst ha hb
    rw [yes_eq]
    split
    · rfl
    · rename_i h
      have h0 : b ≠ 0 := fun hh => h (by rw [hh]; rfl)
      rw [res_eq]
      exact key (by rw [hx, hy]; simp only [binA, ite_true]; rw [if_neg (show ¬ Int.ofNat b = (0 : Int) from fun hh => h0 (Int.ofNat.inj hh))]; rfl)
  · refine ii_eq fun k m n hx hy => nn_eq (fun a b ha hb => ?_) rfl
    subst ha hb
    rw [yes_eq]
    split
    · rfl
    · rename_i h
      have h0 : b ≠ 0 := fun hh => h (by rw [hh]; rfl)
      rw [forceN_eq]
      exact key (by rw [hx, hy]; simp only [binA, ite_true]; rw [if_neg (show ¬ Int.ofNat b = (0 : Int) from fun hh => h0 (Int.ofNat.inj hh))]; rfl)
  · refine ii_eq fun k m n hx hy => nn_eq (fun a b ha hb => ?_) rfl
    subst ha hb
    rw [yes_eq]
    split
    · rename_i h
      obtain ⟨h1, h2⟩ := both_eq h
      rw [small_eq (lt_pow h1 h2).2.2]
      refine key ?_
      rw [hx, hy]
      simp only [binA, ite_true, BitVec.toNat_and, ofInt_small h1, ofInt_small h2]
      rfl
    · rfl
  · refine ii_eq fun k m n hx hy => nn_eq (fun a b ha hb => ?_) rfl
    subst ha hb
    rw [yes_eq]
    split
    · rename_i h
      obtain ⟨h1, h2⟩ := both_eq h
      rw [small_eq (lt_pow h1 h2).1]
      refine key ?_
      rw [hx, hy]
      simp only [binA, ite_true, BitVec.toNat_or, ofInt_small h1, ofInt_small h2]
      rfl
    · rfl
  · refine ii_eq fun k m n hx hy => nn_eq (fun a b ha hb => ?_) rfl
    subst ha hb
    rw [yes_eq]
    split
    · rename_i h
      obtain ⟨h1, h2⟩ := both_eq h
      rw [small_eq (lt_pow h1 h2).2.1]
      refine key ?_
      rw [hx, hy]
      simp only [binA, ite_true, BitVec.toNat_xor, ofInt_small h1, ofInt_small h2]
      rfl
    · rfl
  · refine sh_eq fun k k' m n hx hy => nn_eq (fun a b ha hb => ?_) rfl
    subst ha hb
    rw [yes_eq]
    split
    · rename_i h
      have h := Nat.le_of_ble_eq_true h
      rw [res_eq]
      refine key ?_
      rw [hx, hy]
      simp only [binA]
      rw [if_neg (by simp), show min (Int.ofNat b).toNat k.bits = b from by simp; omega]
      have : Int.ofNat (Nat.mul a (Nat.pow 2 b)) = Int.ofNat a * 2 ^ b := by
        show ((a * 2 ^ b : Nat) : Int) = (a : Int) * 2 ^ b
        rw [Int.natCast_mul, Int.natCast_pow]; rfl
      rw [this]
    · rfl
  · refine sh_eq fun k k' m n hx hy => nn_eq (fun a b ha hb => ?_) rfl
    subst ha hb
    rw [yes_eq]
    split
    · rename_i h
      have h := Nat.le_of_ble_eq_true h
      rw [forceN_eq]
      refine key ?_
      rw [hx, hy]
      simp only [binA]
      rw [if_neg (by simp), show min (Int.ofNat b).toNat k.bits = b from by simp; omega]
      have : (2 : Int) ^ b = Int.ofNat (2 ^ b) := by
        show (2 : Int) ^ b = ((2 ^ b : Nat) : Int)
        rw [Int.natCast_pow]; rfl
      rw [this]
      exact congrArg (fun z => some (AV.i k z)) (Int.ofNat_fdiv a (2 ^ b)).symm
    · rfl
  · refine iis_eq (fun k m n hx hy => nn_eq (fun a b ha hb => ?_) rfl) fun l q hx hy => ?_
    · subst ha hb
      refine Eq.trans (some_b ?_) (key (v := .b (Int.ofNat a == Int.ofNat b)) (by rw [hx, hy]; simp only [binA, ite_true]))
      rw [nat_beq]
      by_cases h : a = b <;> simp [h]
      exact fun hh => h (Int.ofNat.inj hh)
    · exact (some_b (eqL_eq l q)).trans (key (by rw [hx, hy]; simp only [binA]))
  · refine iis_eq (fun k m n hx hy => nn_eq (fun a b ha hb => ?_) rfl) fun l q hx hy => ?_
    · subst ha hb
      refine Eq.trans (some_b ?_) (key (v := .b (Int.ofNat a != Int.ofNat b)) (by rw [hx, hy]; simp only [binA, ite_true]))
      rw [nat_beq, yes_eq]
      by_cases h : a = b <;> simp [h]
      exact fun hh => h (Int.ofNat.inj hh)
    · refine Eq.trans (some_b ?_) (key (v := .b (!(l == q))) (by rw [hx, hy]; simp only [binA]))
      rw [eqL_eq, yes_eq]
      cases l == q <;> rfl
  · refine ii_eq fun k m n hx hy => nn_eq (fun a b ha hb => ?_) rfl
    subst ha hb
    refine Eq.trans (some_b ?_) (key (v := .b (decide (Int.ofNat a < Int.ofNat b))) (by rw [hx, hy]; simp only [binA, ite_true]))
    rw [ble_iff]
    simp
    omega
  · refine ii_eq fun k m n hx hy => nn_eq (fun a b ha hb => ?_) rfl
    subst ha hb
    refine Eq.trans (some_b ?_) (key (v := .b (decide (Int.ofNat a ≤ Int.ofNat b))) (by rw [hx, hy]; simp only [binA, ite_true]))
    rw [ble_iff]
    simp
  · refine ii_eq fun k m n hx hy => nn_eq (fun a b ha hb => ?_) rfl
    subst ha hb
    refine Eq.trans (some_b ?_) (key (v := .b (decide (Int.ofNat a > Int.ofNat b))) (by rw [hx, hy]; simp only [binA, ite_true]))
    rw [ble_iff]
    simp
    omega
  · refine ii_eq fun k m n hx hy => nn_eq (fun a b ha hb => ?_) rfl
    subst ha hb
    refine Eq.trans (some_b ?_) (key (v := .b (decide (Int.ofNat a ≥ Int.ofNat b))) (by rw [hx, hy]; simp only [binA, ite_true]))
    rw [ble_iff]
    simp

/- Operations that look at no memory. -/
def orS (S : Sums) (e : Env) (o : PO) (r : Option AV) : Option AV := Option.rec (motive := fun _ => Option AV) (S.op o (evAll e o.axs)) (fun v => some v) r
theorem orS_eq {S : Sums} {e : Env} {o : PO} {r : Option AV} (h : r = pev e o) : orS S e o r = pevS S e o := by
  subst h
  unfold pevS
  cases pev e o <;> rfl
def iadsK (n : Nat) (x i : AV) (d : Option AV) : Option AV :=
  x.onSl (fun a len _ _ => i.onI (fun _ k => Int.rec (motive := fun _ => Option AV) (fun j => yes (Nat.ble (Nat.succ j) len)
    (Option.rec (motive := fun _ => Option AV) d (fun q => Prod.rec (motive := fun _ => Option AV) (fun id o => forceN (Nat.add o (Nat.mul j n)) fun r => some (.p (some (id, r)))) q) a) d) (fun _ => d) k) d) d
def ixsK (x i : AV) (d : Option AV) : Option AV :=
  x.onIS (fun _ _ => d) (fun l => i.onI (fun _ k => Int.rec (motive := fun _ => Option AV) (fun j => Option.rec (motive := fun _ => Option AV) d (fun c => some (.i .u8 (Int.ofNat (UInt8.toNat c)))) (idxF l j)) (fun _ => d) k) d) d
def pC (S : Sums) (c : Cx) : PO → Cl (Env → Env → Option AV)
  | .mv x => ⟨fun T V => some ((c.X x).f T V)⟩
  | .bin op x y => ⟨fun T V => (binC op).f ((c.X x).f T V) ((c.X y).f T V) (pevS S (c.E.f T V) (.bin op x y))⟩
  | .fad off x => ⟨fun T V => ((c.X x).f T V).onP (fun id o => forceN (Nat.add o off) fun r => some (.p (some (id, r)))) (pevS S (c.E.f T V) (.fad off x))⟩
  | .nilc x => ⟨fun T V => ((c.X x).f T V).onP (fun id o => some (.p (some (id, o)))) (pevS S (c.E.f T V) (.nilc x))⟩
  | .iads n x i => ⟨fun T V => iadsK n ((c.X x).f T V) ((c.X i).f T V) (pevS S (c.E.f T V) (.iads n x i))⟩
  | .ixs x i => ⟨fun T V => ixsK ((c.X x).f T V) ((c.X i).f T V) (pevS S (c.E.f T V) (.ixs x i))⟩
  | .lens x => ⟨fun T V => ((c.X x).f T V).onIS (fun _ _ => pevS S (c.E.f T V) (.lens x)) (fun l => forceN l.length fun n => some (.i .i64 (Int.ofNat n))) (pevS S (c.E.f T V) (.lens x))⟩
  | .lenl x => ⟨fun T V => ((c.X x).f T V).onSl (fun _ n _ _ => some (.i .i64 (Int.ofNat n))) (pevS S (c.E.f T V) (.lenl x))⟩
  | .ext x i => ⟨fun T V => ((c.X x).f T V).onT (fun l => Option.rec (motive := fun _ => Option AV) (pevS S (c.E.f T V) (.ext x i)) (fun v => some v) (idxF l i)) (pevS S (c.E.f T V) (.ext x i))⟩
  | .ci k x => ⟨fun T V => ((c.X x).f T V).onI (fun _ n => Int.rec (motive := fun _ => Option AV) (fun m => res k m) (fun _ => pevS S (c.E.f T V) (.ci k x)) n) (pevS S (c.E.f T V) (.ci k x))⟩
  | .pick a x y => ⟨fun T V => ((c.X a).f T V).onB (fun t => some (yes t ((c.X x).f T V) ((c.X y).f T V))) (pevS S (c.E.f T V) (.pick a x y))⟩
  | .mkif t x => ⟨fun T V => some (.ifc t ((c.X x).f T V))⟩
  | .un op x => ⟨fun T V => orS S (c.E.f T V) (.un op x) (unA op ((c.X x).f T V))⟩
  | .eqk k neg x y => ⟨fun T V => orS S (c.E.f T V) (.eqk k neg x y) ((eqA k ((c.X x).f T V) ((c.X y).f T V)).map (fun z => .b (z != neg)))⟩
  | .isni neg x => ⟨fun T V => orS S (c.E.f T V) (.isni neg x) (match (c.X x).f T V with
    | .ni => some (.b !neg)
    | .ifc _ _ => some (.b neg)
    | _ => none)⟩
  | .fld agg off n x => ⟨fun T V => orS S (c.E.f T V) (.fld agg off n x) (match (c.X x).f T V with
    | .g cs => partA agg cs off n
    | _ => none)⟩
  | .iada len n x i => ⟨fun T V => orS S (c.E.f T V) (.iada len n x i) (match (c.X x).f T V, (c.X i).f T V with
    | .p (some (id, o)), .i _ k => if 0 ≤ k ∧ k < len then some (.p (some (id, Nat.add o (Nat.mul k.toNat n)))) else none
    | _, _ => none)⟩
  | .sls x lo hi => ⟨fun T V => orS S (c.E.f T V) (.sls x lo hi) (match (c.X x).f T V with
    | .s l => match bnds (c.E.f T V) l.length (some l.length) lo hi none with
      | some (a, h, _) => some (.s (sub l a (Nat.sub h a)))
      | none => none
    | _ => none)⟩
  | .sll n x lo hi mx => ⟨fun T V => orS S (c.E.f T V) (.sll n x lo hi mx) (match (c.X x).f T V with
    | .sl a len cap es => bif Nat.beq es n || Nat.beq es 0 then
      (match bnds (c.E.f T V) len cap lo hi mx with
      | some (l, h, m) => some (.sl (sllA a m l n) (Nat.sub h l) (capA m l) es)
      | none => none) else none
    | _ => none)⟩
  | o => ⟨fun T V => pevS S (c.E.f T V) o⟩
theorem pev_some {S : Sums} {e : Env} {o : PO} {v : AV} (h : pev e o = some v) : some v = pevS S e o := by unfold pevS; rw [h]
def iadsB (n : Nat) (x i : AV) : Option AV := match x, i with
    | .sl (some (id, o)) len _ _, .i _ k => if 0 ≤ k ∧ k < len then some (AV.p (some (id, Nat.add o (Nat.mul k.toNat n)))) else none
    | _, _ => none
theorem iadsK_eq {n : Nat} {x i : AV} {d : Option AV} (h : ∀ v, iadsB n x i = some v → some v = d) : iadsK n x i d = d := by
  cases x <;> try rfl
  cases i <;> try rfl
  rename_i a len cap es k z
  cases z with
  | negSucc z => rfl
  | ofNat j =>
    show yes _ _ d = d
    rw [yes_eq]
    split
    · rename_i hj
      have hj := Nat.le_of_ble_eq_true hj
      cases a with
      | none => rfl
      | some q =>
        obtain ⟨id, o⟩ := q
        show forceN _ _ = d
        rw [forceN_eq]
        refine h _ ?_
        show (if 0 ≤ Int.ofNat j ∧ Int.ofNat j < (len : Int) then _ else none) = _
        rw [if_pos ⟨Int.natCast_nonneg j, Int.ofNat_lt.2 hj⟩]
        rfl
    · rfl
def ixsB (x i : AV) : Option AV := match x, i with
    | .s l, .i _ k => if 0 ≤ k then (idx? l k.toNat).map (fun c => AV.i .u8 c.toNat) else none
    | _, _ => none
theorem ixsK_eq {x i : AV} {d : Option AV} (h : ∀ v, ixsB x i = some v → some v = d) : ixsK x i d = d := by
  cases x <;> try rfl
  cases i <;> try rfl
  rename_i l k z
  cases z with
  | negSucc z => rfl
  | ofNat j =>
    show Option.rec d _ (idxF l j) = d
    rw [idxF_eq]
    cases hj : idx? l j with
    | none => rfl
    | some c =>
      refine h _ ?_
      show (if 0 ≤ Int.ofNat j then Option.map _ (idx? l j) else none) = _
      rw [if_pos (show 0 ≤ Int.ofNat j from Int.natCast_nonneg j), hj]
      rfl
theorem pC_eq {S : Sums} {c : Cx} (hc : c.Ok) (o : PO) (T V : Env) : (pC S c o).f T V = pevS S (c.E.f T V) o := by
  have hq : ∀ x T V, (c.X x).f T V = x.ev (c.E.f T V) := hc
  cases o <;> try rfl
  case mv x => exact pev_some (by rw [hc]; rfl)
  case bin op x y =>
    show (binC op).f ((c.X x).f T V) ((c.X y).f T V) _ = _
    rw [hc, hc]; exact binC_eq
  case fad off x =>
    simp only [pC, hq]
    cases hx : x.ev (c.E.f T V) <;> try rfl
    rename_i a
    cases a with
    | none => rfl
    | some q =>
      simp only [AV.onP, forceN_eq]
      exact pev_some (by simp only [pev, hx])
  case nilc x =>
    simp only [pC, hq]
    cases hx : x.ev (c.E.f T V) <;> try rfl
    rename_i a
    cases a with
    | none => rfl
    | some q => exact pev_some (by simp only [pev, hx])
  case iads n x i =>
    simp only [pC, hq]
    exact iadsK_eq fun v h => pev_some h
  case ixs x i =>
    simp only [pC, hq]
    exact ixsK_eq fun v h => pev_some h
  case lens x =>
    simp only [pC, hq]
    cases hx : x.ev (c.E.f T V) <;> try rfl
    simp only [AV.onIS, forceN_eq]
    exact pev_some (by simp only [pev, hx]; rfl)
  case lenl x =>
    simp only [pC, hq]
    cases hx : x.ev (c.E.f T V) <;> try rfl
    exact pev_some (by simp only [pev, hx]; rfl)
  case ext x i =>
    simp only [pC, hq]
    cases hx : x.ev (c.E.f T V) <;> try rfl
    rename_i l
    simp only [AV.onT, idxF_eq]
    cases hi : idx? l i with
    | none => rfl
    | some v => exact pev_some (by simp only [pev, hx, hi])
  case ci k x =>
    simp only [pC, hq]
    cases hx : x.ev (c.E.f T V) <;> try rfl
    rename_i k' n
    cases n with
    | negSucc n => rfl
    | ofNat n =>
      show res k n = _
      rw [res_eq]
      exact pev_some (by simp only [pev, hx])
  case pick a x y =>
    simp only [pC, hq]
    cases hx : a.ev (c.E.f T V) <;> try rfl
    rename_i b
    exact pev_some (by simp only [pev, hx]; cases b <;> rfl)
  case mkif t x => exact pev_some (by rw [hc]; rfl)
  case un op x => exact orS_eq (by rw [hc]; rfl)
  case eqk k neg x y => exact orS_eq (by rw [hc, hc]; rfl)
  case isni neg x => exact orS_eq (by rw [hc]; rfl)
  case fld agg off n x => exact orS_eq (by rw [hc]; rfl)
  case iada len n x i => exact orS_eq (by rw [hc, hc]; rfl)
  case sls x lo hi => exact orS_eq (by rw [hc]; rfl)
  case sll n x lo hi mx => exact orS_eq (by rw [hc]; rfl)

/- Operations that read memory. -/
def orD (d r : Option AV) : Option AV := Option.rec (motive := fun _ => Option AV) d (fun v => some v) r
def AObj.onRow {β : Type} (ob : Option AObj) (f : Bool → List AV → β) (d : β) : β :=
  Option.rec (motive := fun _ => β) d (fun ob => AObj.rec (motive := fun _ => β) (fun ro cs => f ro cs) (fun _ _ => d) (fun _ _ => d) (fun _ _ _ _ => d) (fun _ _ => d) ob) ob
def rC (S : Sums) (c : Cx) : RO → Cl (Env → Env → AH → Option AV)
  | .load false n a => ⟨fun T V h => ((c.X a).f T V).onP (fun id o => AObj.onRow (getF h.objs id) (fun _ cs => orD (revS S (c.E.f T V) h (.load false n a)) (idxF cs o)) (revS S (c.E.f T V) h (.load false n a))) (revS S (c.E.f T V) h (.load false n a))⟩
  | .load true n a => ⟨fun T V h => ((c.X a).f T V).onP (fun id o => AObj.onRow (getF h.objs id) (fun _ cs => orD (revS S (c.E.f T V) h (.load true n a)) (partA true cs o n)) (revS S (c.E.f T V) h (.load true n a))) (revS S (c.E.f T V) h (.load true n a))⟩
  | o => ⟨fun T V h => revS S (c.E.f T V) h o⟩
theorem rev_some {S : Sums} {e : Env} {h : AH} {o : RO} {v : AV} (hv : rev e h o = some v) : some v = revS S e h o := by unfold revS; rw [hv]
theorem rC_eq {S : Sums} {c : Cx} (hc : c.Ok) (o : RO) (T V : Env) (h : AH) : (rC S c o).f T V h = revS S (c.E.f T V) h o := by
  have hq : ∀ x T V, (c.X x).f T V = x.ev (c.E.f T V) := hc
  cases o <;> try rfl
  case load agg n x =>
    cases agg
    · simp only [rC, hq]
      cases hx : x.ev (c.E.f T V) <;> try rfl
      rename_i a
      cases a with
      | none => rfl
      | some q =>
        obtain ⟨id, o⟩ := q
        simp only [AV.onP, getF_eq]
        cases hb : h.objs.get id with
        | none => rfl
        | some ob =>
          cases ob <;> try rfl
          rename_i ro cs
          simp only [AObj.onRow, idxF_eq]
          cases hi : idx? cs o with
          | none => rfl
          | some v => exact rev_some (by simp only [rev, hx, AH.row?, hb, partA, cond_false, hi])
    · simp only [rC, hq]
      cases hx : x.ev (c.E.f T V) <;> try rfl
      rename_i a
      cases a with
      | none => rfl
      | some q =>
        obtain ⟨id, o⟩ := q
        simp only [AV.onP, getF_eq]
        cases hb : h.objs.get id with
        | none => rfl
        | some ob =>
          cases ob <;> try rfl
          rename_i ro cs
          simp only [AObj.onRow]
          cases hi : partA true cs o n with
          | none => rfl
          | some v => exact rev_some (by simp only [rev, hx, AH.row?, hb, hi])

/- New objects, writes. -/
def setF (h : AH) (id : Nat) (ob : Option AObj) : AH := forceN id fun id => { h with objs := (putT (Nat.succ id) id).f h.objs ob }
theorem setF_eq (h : AH) (id : Nat) (ob : Option AObj) : setF h id ob = { h with objs := h.objs.set id ob } := by unfold setF; rw [forceN_eq, putT_eq]
def addF (h : AH) (ob : AObj) (ty : Option Nat) : AH := forceN h.next fun n => { objs := (putT (Nat.succ n) n).f h.objs (some ob), next := Nat.succ n, tys := (putT (Nat.succ n) n).f h.tys ty }
theorem addF_eq (h : AH) (ob : AObj) (ty : Option Nat) : addF h ob ty = h.add ob ty := by unfold addF; rw [forceN_eq, putT_eq, putT_eq]; rfl
def over1 (l : List AV) (v : AV) : Nat → List AV := List.rec (motive := fun _ => Nat → List AV) (fun _ => [v]) (fun a l g n => Nat.rec (motive := fun _ => List AV) (v :: l) (fun m _ => a :: g m) n) l
theorem over1_eq (v : AV) : ∀ (l : List AV) (n : Nat), over1 l v n = over l n [v]
  | [], 0 => rfl
  | [], n + 1 => rfl
  | a :: l, 0 => by
    show v :: l = v :: over l 0 []
    cases l <;> rfl
  | a :: l, n + 1 => by
    show a :: over1 l v n = a :: over l n [v]
    rw [over1_eq v l n]
def AV.one1 (v : AV) : Bool :=
  AV.rec (motive_1 := fun _ => Bool) (motive_2 := fun _ => PUnit) (fun _ _ => true) (fun _ => true) (fun _ => true) (fun _ => true) (fun _ _ _ _ => true) (fun _ => true) (fun _ _ _ _ _ => true) true true (fun _ _ _ => true) (fun _ _ => false) (fun _ _ => false) (fun _ _ _ => true) true (fun _ _ => true) (fun _ => true) (fun _ _ => true) ⟨⟩ (fun _ _ _ _ => ⟨⟩) v
theorem one1_eq (v : AV) : v.one1 = v.one := by cases v <;> rfl
theorem cells_one {v : AV} (h : v.one = true) : v.cells = [v] := by cases v <;> first | rfl | cases h
/-- a write of one cell -/
def store1 (h : AH) (id o : Nat) (v : AV) (d : Option (AV × AH)) : Option (AV × AH) :=
  yes v.one1 (AObj.onRow (getF h.objs id) (fun ro cs => yes ro d (yes (Nat.ble (Nat.succ o) cs.length) (some (undefA, setF h id (some (.row false (over1 cs v o))))) d)) d) d

/- Code. -/
structure K where
  C : Code → Env → AH → Option Out3
  G : Code → Code → Env → AH → Option Out3
  E : EO → Env → AH → Option (AV × AH)
  R : List (Option Tmp) → List (Option (Nat × Bool) × Option Tmp × AOp) → Env → AH → Option Out3
  L : List (Option Tmp) → Env → Nat → List DOp → List (DOp × List DOp) → List DOp → VT → AH → Option (VT × AH)
  F : FuncId → List AV → AH → Option (AV × AH)
def argsC : List AX → Cl (Env → List AV)
  | [] => ⟨fun _ => []⟩
  | x :: r => ⟨fun e => (x0 x).f e e :: (argsC r).f e⟩
theorem argsC_eq (e : Env) : ∀ l, (argsC l).f e = evAll e l
  | [] => rfl
  | x :: r => by
    show (x0 x).f e e :: (argsC r).f e = x.ev e :: evAll e r
    rw [argsC_eq e r, show (x0 x).f e e = x.ev e from cx0_ok x e e]
def callK (k : K) (f : AX) (xs : List AX) (e : Env) (h : AH) : Option (AV × AH) := match f.ev e with
    | .f (.func f) a b => k.F f (a ++ evAll e xs ++ b) h
    | _ => none
def eC (S : Sums) : EO → Cl (K → Env → AH → Option (AV × AH))
  | .call (.c (.f (.func f) [] [])) xs => ⟨fun k e h => k.F f ((argsC xs).f e) h⟩
  | .call f xs => ⟨fun k e h => callK k f xs e h⟩
  | .store 1 a x => ⟨fun _ e h => ((x0 a).f e e).onP (fun id o => store1 h id o ((x0 x).f e e) (eevS S e h (.store 1 a x))) (eevS S e h (.store 1 a x))⟩
  | o => ⟨fun _ e h => eevS S e h o⟩
theorem eev_some {S : Sums} {e : Env} {h : AH} {o : EO} {v : AV × AH} (hv : eev e h o = some v) : some v = eevS S e h o := by unfold eevS; rw [hv]
theorem store1_eq {S : Sums} {e : Env} {h : AH} {a x : AX} : ((x0 a).f e e).onP (fun id o => store1 h id o ((x0 x).f e e) (eevS S e h (.store 1 a x))) (eevS S e h (.store 1 a x)) = eevS S e h (.store 1 a x) := by
  rw [show (x0 a).f e e = a.ev e from cx0_ok a e e, show (x0 x).f e e = x.ev e from cx0_ok x e e]
  cases hx : a.ev e <;> try rfl
  rename_i q
  cases q with
  | none => rfl
  | some q =>
    obtain ⟨id, o⟩ := q
    simp only [AV.onP, store1, one1_eq, getF_eq, yes_eq]
    split
    · rename_i h1
      cases hb : h.objs.get id with
      | none => rfl
      | some ob =>
        cases ob <;> try rfl
        rename_i ro cs
        simp only [AObj.onRow]
        cases ro
        · simp only [Bool.false_eq_true, if_false]
          split
          · rename_i h2
            rw [setF_eq, over1_eq]
            refine eev_some ?_
            simp only [eev, hx, cells_one h1, List.length_cons, List.length_nil, AH.write, AH.row?, hb]
            have h3 : Nat.ble (Nat.add o (0 + 1)) cs.length = true := h2
            simp only [h3, allOne, h1, Bool.and_true, cond_true, AH.setRow]
            rfl
          · rfl
        · rfl
    · rfl
def evEk (S : Sums) (k : K) : EO → Env → AH → Option (AV × AH)
  | .call f xs, e, h => callK k f xs e h
  | o, e, h => eevS S e h o
theorem eC_eq {S : Sums} (k : K) (o : EO) (e : Env) (h : AH) : (eC S o).f k e h = evEk S k o e h := by
  unfold eC
  split
  · rename_i f xs
    show k.F f ((argsC xs).f e) h = k.F f ([] ++ evAll e xs ++ []) h
    rw [argsC_eq, List.nil_append, List.append_nil]
  · rfl
  · exact store1_eq
  · rename_i h1 h2 h3
    cases o <;> first | rfl | exact absurd rfl (h2 _ _)

def bindF {α β : Type} (f : α → Option (List β)) (l : List α) : Option (List β) :=
  List.rec (motive := fun _ => Option (List β)) (some []) (fun a r _ => List.rec (motive := fun _ => Option (List β)) (f a) (fun _ _ _ => bindA f l) r) l
theorem bindF_eq {α β : Type} (f : α → Option (List β)) (l : List α) : bindF f l = bindA f l := by
  cases l with
  | nil => rfl
  | cons a r =>
    cases r with
    | cons b r => rfl
    | nil =>
      show f a = (match f a with | some l => (match bindA f [] with | some q => some (l ++ q) | none => none) | none => none)
      cases h : f a with
      | none => rfl
      | some l => simp [bindA]
theorem obind_eq {α β : Type} (o : Option α) (f : α → Option β) : obind o f = (match o with | some v => f v | none => none) := by cases o <;> rfl
def onNorm (g : Env → AH → Option Out3) (p : AExit × Env × AH) : Option Out3 :=
  Prod.rec (motive := fun _ => Option Out3) (fun x r => Prod.rec (motive := fun _ => Option Out3) (fun e h => AExit.rec (motive := fun _ => Option Out3) (g e h) (fun _ => some [p]) (fun _ => some [p]) (some [p]) x) r) p
theorem onNorm_eq (g : Env → AH → Option Out3) (p : AExit × Env × AH) : onNorm g p = (match p with
        | (.norm, e, h) => g e h
        | q => some [q]) := by
  obtain ⟨x, e, h⟩ := p
  cases x <;> rfl
def onGoto (body : Code) (g : Code → Env → AH → Option Out3) (p : AExit × Env × AH) : Option Out3 :=
  Prod.rec (motive := fun _ => Option Out3) (fun x r => Prod.rec (motive := fun _ => Option Out3) (fun e h => AExit.rec (motive := fun _ => Option Out3) (some [p]) (fun _ => some [p]) (fun l => Option.rec (motive := fun _ => Option Out3) (some [p]) (fun rest => g rest e h) (findLabel body l)) (some [p]) x) r) p
theorem onGoto_eq (body : Code) (g : Code → Env → AH → Option Out3) (p : AExit × Env × AH) : onGoto body g p = (match p with
      | (.goto l, e, h) => (match findLabel body l with
        | some rest => g rest e h
        | none => some [(.goto l, e, h)])
      | q => some [q]) := by
  obtain ⟨x, e, h⟩ := p
  cases x <;> try rfl
  rename_i l
  simp only [onGoto]
  cases findLabel body l <;> rfl
def onExit (id : Nat) (p : AExit × Env × AH) : AExit × Env × AH :=
  Prod.rec (motive := fun _ => AExit × Env × AH) (fun x r => AExit.rec (motive := fun _ => AExit × Env × AH) p (fun i => yes (Nat.beq i id) (.norm, r) p) (fun _ => p) p x) p
theorem onExit_eq (id : Nat) (p : AExit × Env × AH) : onExit id p = (match p with
        | (.exit id', e, h) => bif Nat.beq id' id then (.norm, e, h) else (.exit id', e, h)
        | q => q) := by
  obtain ⟨x, e, h⟩ := p
  cases x <;> try rfl
  rename_i i
  show yes _ _ _ = _
  cases hb : Nat.beq i id <;> simp [yes, hb]
def mapF {α β : Type} (f : α → β) (l : List α) : List β := List.rec (motive := fun _ => List β) [] (fun a _ r => f a :: r) l
theorem mapF_eq {α β : Type} (f : α → β) : ∀ l : List α, mapF f l = l.map f
  | [] => rfl
  | a :: l => by show f a :: mapF f l = f a :: l.map f; rw [mapF_eq f l]
def cC (P : Program) : Code → Cl (K → Env → AH → Option Out3)
  | .skip => ⟨fun _ e h => some [(.norm, e, h)]⟩
  | .label _ => ⟨fun _ e h => some [(.norm, e, h)]⟩
  | .ret => ⟨fun _ e h => some [(.ret, e, h)]⟩
  | .exit id => ⟨fun _ e h => some [(.exit id, e, h)]⟩
  | .goto l => ⟨fun _ e h => some [(.goto l, e, h)]⟩
  | .seq a b => ⟨fun k e h => obind (k.C a e h) fun l => bindF (fun p => onNorm (fun e h => k.C b e h) p) l⟩
  | .cond c a b => match cx P c with
    | some c => ⟨fun k e h => ((x0 c).f e e).onB (fun t => yes t (k.C a e h) (k.C b e h)) none⟩
    | none => ⟨fun _ _ _ => none⟩
  | .block id b => ⟨fun k e h => obind (k.C b e h) fun l => some (mapF (fun p => onExit id p) l)⟩
  | .loop b => ⟨fun k e h => obind (k.C b e h) fun l => bindF (fun p => onNorm (fun e h => k.C (.loop b) e h) p) l⟩
  | .scope b => ⟨fun k e h => k.G b b e h⟩
  | .region _ ops false => match compOps P ops.toList with
    | some l => ⟨fun k e h => k.R (dstsOf ops.toList) l e h⟩
    | none => ⟨fun _ _ _ => none⟩
  | .region _ ops true => match compD P ops.toList with
    | some d => ⟨fun k e h => obind (k.L d.ds e h.next d.seg d.lv [] .nil { h with next := Nat.add h.next d.n }) fun r => some [(.norm, outE r.1 d.D e, r.2)]⟩
    | none => ⟨fun _ _ _ => none⟩
  | _ => ⟨fun _ _ _ => none⟩
/-- One operation of a region: its gate, what it writes, itself. -/
def uC (S : Sums) (d : Option Tmp) : AOp → Cl (K → List (Option Tmp) → List (Option (Nat × Bool) × Option Tmp × AOp) → Env → AH → Option Out3)
  | .P o => ⟨fun k ds r e h => obind ((pC S cx0 o).f e e) fun v => k.R ds r ((putC d).f e v) h⟩
  | .R o => ⟨fun k ds r e h => obind ((rC S cx0 o).f e e h) fun v => k.R ds r ((putC d).f e v) h⟩
  | .A o => ⟨fun k ds r e h => forceN h.next fun n => obind (aevS S e n o) fun q => k.R ds r ((putC d).f e q.1) (addF h q.2 (aty o))⟩
  | .E (.nextm x) => ⟨fun k ds r e h => match nextmA h (x.ev e) with
        | some l => bindA (fun (p : AV × AH) => k.R ds r (putA e d p.1) p.2) l
        | none => none⟩
  | .E o => ⟨fun k ds r e h => obind (k.E o e h) fun q => k.R ds r ((putC d).f e q.1) q.2⟩
def isB (w : Bool) (v : AV) : Bool := v.onB (fun x => yes w x (yes x false true)) false
def wC (ds : List (Option Tmp)) : Option (Nat × Bool) → Cl (Env → Bool)
  | none => ⟨fun _ => true⟩
  | some (j, w) => match idx? ds j with
    | some (some t) => ⟨fun e => isB w ((getT (Nat.succ t) t).f e)⟩
    | _ => ⟨fun _ => false⟩
theorem wC_eq (ds : List (Option Tmp)) (g : Option (Nat × Bool)) (e : Env) : (wC ds g).f e = wantedA ds e g := by
  cases g with
  | none => rfl
  | some g =>
    obtain ⟨j, w⟩ := g
    show _ = (match yieldA ds e j with | some x => x == w | none => false)
    unfold wC yieldA
    simp only
    cases hj : idx? ds j with
    | none => rfl
    | some t =>
      cases t with
      | none => rfl
      | some t =>
        simp only
        rw [getT_eq _ _ _ (Nat.lt_succ_self t)]
        cases hv : Env.at e t <;> try rfl
        rename_i b
        cases w <;> cases b <;> rfl
def gC (S : Sums) (ds : List (Option Tmp)) : Option (Nat × Bool) × Option Tmp × AOp → Cl (K → List (Option Tmp) → List (Option (Nat × Bool) × Option Tmp × AOp) → Env → AH → Option Out3)
  | (none, d, o) => uC S d o
  | (some g, d, o) => ⟨fun k ds' r e h => yes ((wC ds (some g)).f e) ((uC S d o).f k ds' r e h) (k.R ds' r ((putC d).f e undefA) h)⟩
def RB (S : Sums) (k : K) (ds : List (Option Tmp)) (l : List (Option (Nat × Bool) × Option Tmp × AOp)) (e : Env) (h : AH) : Option Out3 :=
  List.rec (motive := fun _ => Option Out3) (some [(.norm, e, h)]) (fun x r _ => (gC S ds x).f k ds r e h) l
def envF (l : List AV) : Nat → Env → Env := List.rec (motive := fun _ => Nat → Env → Env) (fun _ e => e) (fun v _ g i e => forceN i fun i => g (Nat.succ i) ((putT (Nat.succ i) i).f e (some v))) l
theorem envF_eq : ∀ (l : List AV) (i : Nat) (e : Env), envF l i e = envOf l i e
  | [], i, e => rfl
  | v :: l, i, e => by
    show forceN i (fun i => envF l (Nat.succ i) ((putT (Nat.succ i) i).f e (some v))) = envOf l (Nat.succ i) (e.set i (some v))
    rw [forceN_eq, putT_eq, envF_eq l]
def finP (P : Program) (rs : List ResultVar) (p : AExit × Env × AH) : Option (List (AV × AH)) := match p with
              | (.norm, e, h) | (.ret, e, h) => (match resA P h e rs with
                | some l => some [(resV l, h)]
                | none => none)
              | _ => none
def bC (P : Program) (f : FuncId) : Cl (K → List AV → AH → Option (AV × AH)) := match P.funcs[f]? with
      | some fn => match fn.body with
        | some c => ⟨fun k args h => obind (k.C c (envF args 0 .nil) h) fun l => obind (bindF (fun p => finP P fn.results.toList p) l) mergeAll⟩
        | none => ⟨fun _ _ _ => none⟩
      | none => ⟨fun _ _ _ => none⟩
def fC (P : Program) (S : Sums) (f : FuncId) : Cl (K → List AV → AH → Option (AV × AH)) := match S.fn f with
  | none => bC P f
  | some g => ⟨fun k args h => Option.rec (motive := fun _ => Option (AV × AH)) ((bC P f).f k args h) (fun r => some r) (g args h)⟩
def LB (S : Sums) (k : K) (ds : List (Option Tmp)) (T : Env) (base : Nat) (seg : List DOp) (rest : List (DOp × List DOp)) (watch : List DOp) (V : VT) (h : AH) : Option (VT × AH) :=
    match evSeg S ds T base seg V h with
    | none => none
    | some (V, h) =>
      let watch := watch ++ seg
      bif watch.all (stays S ds T base V h) then
        (match rest with
        | [] => some (V, h)
        | (x, seg') :: rest' =>
          let e := mkE V x.src T
          let watch' := watch.filter fun y => !(Nat.testBit x.mask y.i)
          bif wantedA ds e x.g then
            (match x.op with
            | .E o => match k.E o e h with
              | some (v, h) => k.L ds T base seg' rest' watch' (V.set x.i (some v)) h
              | none => none
            | _ => none)
          else k.L ds T base seg' rest' watch' (V.set x.i (some undefA)) h)
      else none
def stepZ (P : Program) (S : Sums) (k : K) : K where
  C c e h := (cC P c).f k e h
  G body c e h := obind (k.C c e h) fun l => bindF (fun p => onGoto body (fun rest e h => k.G body rest e h) p) l
  E o e h := (eC S o).f k e h
  R ds l e h := RB S k ds l e h
  L ds T base seg rest watch V h := LB S k ds T base seg rest watch V h
  F f args h := (fC P S f).f k args h
def k0 : K := ⟨fun _ _ _ => none, fun _ _ _ _ => none, fun _ _ _ => none, fun _ _ _ _ => none, fun _ _ _ _ _ _ _ _ => none, fun _ _ _ => none⟩
def kk (P : Program) (S : Sums) (n : Nat) : K := Nat.rec (motive := fun _ => K) k0 (fun _ k => stepZ P S k) n
/-- The interpreter, in the form that is run. -/
def evK (P : Program) (S : Sums) (n : Nat) (f : FuncId) (args : List AV) (h : AH) : Option (AV × AH) := (kk P S n).F f args h

def kOf (P : Program) (S : Sums) (n : Nat) : K := ⟨evC P S n, evS P S n, evE P S n, evR P S n, evL P S n, evF P S n⟩
theorem C_eq {P : Program} {S : Sums} (n : Nat) (c : Code) (e : Env) (h : AH) : (cC P c).f (kOf P S n) e h = evC P S (n + 1) c e h := by
  unfold cC evC
  cases c <;> try rfl
  case seq a b =>
    simp only [kOf, obind_eq, bindF_eq, onNorm_eq]
    cases evC P S n a e h <;> rfl
  case cond c a b =>
    simp only
    cases hc : cx P c with
    | none => rfl
    | some x =>
      simp only
      rw [show (x0 x).f e e = x.ev e from cx0_ok x e e]
      cases hx : x.ev e <;> try rfl
      rename_i b
      cases b <;> rfl
  case block id b =>
    simp only [kOf, obind_eq, mapF_eq, onExit_eq]
    cases evC P S n b e h <;> rfl
  case loop b =>
    simp only [kOf, obind_eq, bindF_eq, onNorm_eq]
    cases evC P S n b e h <;> rfl
  case region id ops dr =>
    cases dr
    · simp only
      cases compOps P ops.toList <;> rfl
    · simp only
      cases compD P ops.toList with
      | none => rfl
      | some d =>
        simp only [kOf, obind_eq]
        cases evL P S n d.ds e h.next d.seg d.lv [] .nil { h with next := Nat.add h.next d.n } <;> rfl
theorem U_eq {P : Program} {S : Sums} (n : Nat) (ds : List (Option Tmp)) (d : Option Tmp) (o : AOp) (r : List (Option (Nat × Bool) × Option Tmp × AOp)) (e : Env) (h : AH) :
    (uC S d o).f (kOf P S n) ds r e h = (match o with
      | .P o => match pevS S e o with
        | some v => evR P S n ds r (putA e d v) h
        | none => none
      | .R o => match revS S e h o with
        | some v => evR P S n ds r (putA e d v) h
        | none => none
      | .A o => match aevS S e h.next o with
        | some (v, ob) => evR P S n ds r (putA e d v) (h.add ob (aty o))
        | none => none
      | .E (.nextm x) => match nextmA h (x.ev e) with
        | some l => bindA (fun (p : AV × AH) => evR P S n ds r (putA e d p.1) p.2) l
        | none => none
      | .E o => match evE P S n o e h with
        | some (v, h) => evR P S n ds r (putA e d v) h
        | none => none) := by
  cases o with
  | P o =>
    simp only [uC, kOf, obind_eq, putC_eq, pC_eq cx0_ok]
    rw [show cx0.E.f e e = e from rfl]
    cases pevS S e o <;> rfl
  | R o =>
    simp only [uC, kOf, obind_eq, putC_eq, rC_eq cx0_ok]
    rw [show cx0.E.f e e = e from rfl]
    cases revS S e h o <;> rfl
  | A o =>
    simp only [uC, kOf, obind_eq, putC_eq, forceN_eq, addF_eq]
    cases aevS S e h.next o <;> rfl
  | E o =>
    cases o
    case nextm x => rfl
    all_goals
      simp only [uC, kOf, obind_eq, putC_eq]
      generalize evE P S n _ e h = z
      cases z <;> rfl
theorem R_eq {P : Program} {S : Sums} (n : Nat) (ds : List (Option Tmp)) (l : List (Option (Nat × Bool) × Option Tmp × AOp)) (e : Env) (h : AH) : RB S (kOf P S n) ds l e h = evR P S (n + 1) ds l e h := by
  cases l with
  | nil => unfold evR; rfl
  | cons x r =>
    obtain ⟨g, d, o⟩ := x
    unfold evR
    cases g with
    | none =>
      show (uC S d o).f (kOf P S n) ds r e h = _
      rw [U_eq]
      simp only [wantedA, cond_true]
      cases o <;> first | rfl | (rename_i o; cases o <;> rfl)
    | some g =>
      show yes ((wC ds (some g)).f e) ((uC S d o).f (kOf P S n) ds r e h) ((kOf P S n).R ds r ((putC d).f e undefA) h) = _
      rw [U_eq, wC_eq, putC_eq]
      cases wantedA ds e (some g)
      · rfl
      · simp only [yes, cond_true]
        cases o <;> first | rfl | (rename_i o; cases o <;> rfl)
theorem B_eq {P : Program} {S : Sums} (n : Nat) (f : FuncId) (args : List AV) (h : AH) : (bC P f).f (kOf P S n) args h = (match P.funcs[f]? with
      | some fn => match fn.body with
        | some c => match evC P S n c (envOf args 0 .nil) h with
          | some l => match bindA (fun (p : AExit × Env × AH) => match p with
              | (.norm, e, h) | (.ret, e, h) => (match resA P h e fn.results.toList with
                | some l => some [(resV l, h)]
                | none => none)
              | _ => none) l with
            | some q => mergeAll q
            | none => none
          | none => none
        | none => none
      | none => none) := by
  unfold bC
  cases P.funcs[f]? with
  | none => rfl
  | some fn =>
    simp only
    cases fn.body with
    | none => rfl
    | some c =>
      have e1 : (fun p => finP P fn.results.toList p) = (fun (p : AExit × Env × AH) => match p with
              | (.norm, e, h) | (.ret, e, h) => (match resA P h e fn.results.toList with
                | some l => some [(resV l, h)]
                | none => none)
              | _ => none) := funext fun p => by
        obtain ⟨x, e, h⟩ := p
        cases x <;> rfl
      simp only [kOf, obind_eq, bindF_eq, envF_eq, e1]
      cases evC P S n c (envOf args 0 .nil) h with
      | none => rfl
      | some l =>
        simp only
        generalize bindA _ l = z
        cases z <;> rfl
theorem F_eq {P : Program} {S : Sums} (n : Nat) (f : FuncId) (args : List AV) (h : AH) : (fC P S f).f (kOf P S n) args h = evF P S (n + 1) f args h := by
  unfold fC evF natA
  cases S.fn f with
  | none => exact B_eq n f args h
  | some g =>
    simp only
    cases g args h with
    | none => exact B_eq n f args h
    | some r => rfl
theorem step_eq {P : Program} {S : Sums} (n : Nat) : stepZ P S (kOf P S n) = kOf P S (n + 1) := by
  have h1 : (stepZ P S (kOf P S n)).C = evC P S (n + 1) := funext fun c => funext fun e => funext fun h => C_eq n c e h
  have h2 : (stepZ P S (kOf P S n)).G = evS P S (n + 1) := funext fun body => funext fun c => funext fun e => funext fun h => by
    show obind _ _ = _
    unfold evS
    simp only [kOf, obind_eq, bindF_eq, onGoto_eq]
    cases evC P S n c e h <;> rfl
  have h3 : (stepZ P S (kOf P S n)).E = evE P S (n + 1) := funext fun o => funext fun e => funext fun h => by
    show (eC S o).f _ e h = _
    rw [eC_eq]
    cases o <;> first | rfl | (unfold evE; rfl)
  have h4 : (stepZ P S (kOf P S n)).R = evR P S (n + 1) := funext fun ds => funext fun l => funext fun e => funext fun h => R_eq n ds l e h
  have h5 : (stepZ P S (kOf P S n)).L = evL P S (n + 1) := funext fun ds => funext fun T => funext fun base => funext fun seg => funext fun rest => funext fun watch => funext fun V => funext fun h => by
    show LB _ _ _ _ _ _ _ _ _ _ = _
    unfold LB evL
    rfl
  have h6 : (stepZ P S (kOf P S n)).F = evF P S (n + 1) := funext fun f => funext fun args => funext fun h => F_eq n f args h
  show stepZ P S (kOf P S n) = ⟨evC P S (n + 1), evS P S (n + 1), evE P S (n + 1), evR P S (n + 1), evL P S (n + 1), evF P S (n + 1)⟩
  rw [← h1, ← h2, ← h3, ← h4, ← h5, ← h6]
theorem kk_eq {P : Program} {S : Sums} : ∀ n, kk P S n = kOf P S n
  | 0 => by
    show k0 = kOf P S 0
    unfold k0 kOf
    congr 1 <;> (first | (funext a b c d e f g h) | (funext a b c d) | (funext a b c)) <;> first | (unfold evC; rfl) | (unfold evS; rfl) | (unfold evE; rfl) | (unfold evR; rfl) | (unfold evL; rfl) | (unfold evF; rfl)
  | n + 1 => by
    show stepZ P S (kk P S n) = _
    rw [kk_eq n, step_eq]
theorem evK_eq {P : Program} {S : Sums} (n : Nat) (f : FuncId) (args : List AV) (h : AH) : evK P S n f args h = evF P S n f args h := by
  unfold evK; rw [kk_eq]; rfl
end
end Ab
end Go.Proofs.YtcoobajkgioflaaGreatDoor
