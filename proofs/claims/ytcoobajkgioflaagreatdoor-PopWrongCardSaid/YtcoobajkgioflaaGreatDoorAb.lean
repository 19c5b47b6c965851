/- An abstract interpreter of the model's code: values, heap, operations. Definitions only. -/
import GoSem.Step
namespace Go.Proofs.YtcoobajkgioflaaGreatDoor
namespace Ab

/-- Abstract values: addresses are (id, offset in cells); a slice's capacity may be unknown. -/
inductive AV where
  | i (k : IntKind) (n : Int)
  | b (x : Bool)
  | s (l : List UInt8)
  | p (a : Option (Nat × Nat))
  | sl (a : Option (Nat × Nat)) (len : Nat) (cap : Option Nat) (es : Nat)
  | m (r : Option Nat)
  | f (fn : Fn) (first caps : List AV)
  | nf
  | ni
  | ifc (t : TypeId) (v : AV)
  | g (l : List AV)
  | t (l : List AV)
  | r (k : IntKind) (lo hi : Int)
  | any
  | u (lo hi : Nat)
  | x (n : Nat)
  | y (id n : Nat)
  deriving Inhabited

def AV.one : AV → Bool
  | .g _ | .t _ => false
  | _ => true

def AV.cells : AV → List AV
  | .g l => l
  | v => [v]

/-- A finite map from numbers. -/
inductive Tr (α : Type) where
  | nil
  | node (v : Option α) (l r : Tr α)
  deriving Inhabited

def Tr.get {α : Type} : Tr α → Nat → Option α
  | .nil, _ => none
  | .node v l r, n => match n with
    | 0 => v
    | k + 1 => bif Nat.beq (Nat.mod k 2) 0 then l.get (Nat.div k 2) else r.get (Nat.div k 2)

def Tr.put {α : Type} (fuel : Nat) (t : Tr α) (n : Nat) (x : Option α) : Tr α :=
  match fuel with
  | 0 => t
  | fuel + 1 =>
    match t with
    | .nil => match n with
      | 0 => .node x .nil .nil
      | k + 1 => bif Nat.beq (Nat.mod k 2) 0 then .node none (Tr.put fuel .nil (Nat.div k 2) x) .nil else .node none .nil (Tr.put fuel .nil (Nat.div k 2) x)
    | .node v l r => match n with
      | 0 => .node x l r
      | k + 1 => bif Nat.beq (Nat.mod k 2) 0 then .node v (Tr.put fuel l (Nat.div k 2) x) r else .node v l (Tr.put fuel r (Nat.div k 2) x)

abbrev Tr.set {α : Type} (t : Tr α) (n : Nat) (x : Option α) : Tr α := Tr.put (Nat.succ n) t n x

inductive AObj where
  | row (ro : Bool) (cells : List AV)
  | map (es : List (AV × AV × Nat)) (clock : Nat)
  | sit (s : List UInt8) (pos : Nat)
  | mit (r : Option Nat) (since : Nat) (seen : List Nat) (stepped : Nat)
  | cust (ro : Bool) (n : Nat)
  deriving Inhabited

/-- The objects, the next id, and of some ids what type of element their block bears (it lies at its beginning). -/
structure AH where
  objs : Tr AObj
  next : Nat
  tys : Tr Nat := .nil
  deriving Inhabited

def AH.row? (h : AH) (id : Nat) : Option (Bool × List AV) :=
  match h.objs.get id with
  | some (.row ro cs) => some (ro, cs)
  | _ => none

def AH.setRow (h : AH) (id : Nat) (cs : List AV) : AH := { h with objs := h.objs.set id (some (.row false cs)) }
def AH.kill (h : AH) (id : Nat) : AH := { h with objs := h.objs.set id none }
def AH.add (h : AH) (o : AObj) (ty : Option Nat := none) : AH := { objs := h.objs.set h.next (some o), next := Nat.succ h.next, tys := h.tys.set h.next ty }

/-- Operands. -/
inductive AX where
  | t (n : Nat)
  | c (v : AV)
  deriving Inhabited

abbrev Env := Tr AV
def undefA : AV := .t []
def Env.at (e : Env) (n : Nat) : AV := match Tr.get e n with | some v => v | none => undefA
def AX.ev (e : Env) : AX → AV
  | .t n => Env.at e n
  | .c v => v

/-- Constants of the code as abstract values. -/
def ofS : Value → Option AV
  | .bool b => some (.b b)
  | .int k n => some (.i k n)
  | .string s => some (.s s.data.toList)
  | .pointer none => some (.p none)
  | .slice none 0 0 => some (.sl none 0 (some 0) 0)
  | .map none => some (.m none)
  | .nilFunc => some .nf
  | .nilIface => some .ni
  | .func fn ⟨[]⟩ ⟨[]⟩ => some (.f fn [] [])
  | _ => none
def allS : List Value → Option (List AV)
  | [] => some []
  | v :: vs => match ofS v with
    | some x => match allS vs with
      | some xs => some (x :: xs)
      | none => none
    | none => none
def ofV : Value → Option AV
  | .agg ⟨cs⟩ => match allS cs with
    | some l => some (.g l)
    | none => none
  | .tuple ⟨[]⟩ => some undefA
  | v => ofS v

def cx (P : Program) : Operand → Option AX
  | .tmp t => some (.t t)
  | .const v => match ofV v with
    | some x => some (.c x)
    | none => none
  | .global g => if g < P.globals.size then some (.c (.p (some (g, 0)))) else none
  | .func f => some (.c (.f (.func f) [] []))
def cxs (P : Program) : List Operand → Option (List AX)
  | [] => some []
  | x :: xs => match cx P x with
    | some y => match cxs P xs with
      | some ys => some (y :: ys)
      | none => none
    | none => none
def cxo (P : Program) : Option Operand → Option (Option AX)
  | none => some none
  | some x => match cx P x with
    | some y => some (some y)
    | none => none

inductive SK where
  | int | str | bool
  deriving Inhabited
inductive TK where
  | bool | ptr | slice | func | map
  deriving Inhabited
/-- Operations that look at no memory. -/
inductive PO where
  | mv (x : AX)
  | pick (c a b : AX)
  | build (zero : List AV) (parts : List (Nat × Nat × AX))
  | nilc (x : AX)
  | bin (op : BinOp) (x y : AX)
  | eqk (k : TK) (neg : Bool) (x y : AX)
  | isni (neg : Bool) (x : AX)
  | eqg (neg : Bool) (offs : List (Nat × SK)) (x y : AX)
  | un (op : UnOp) (x : AX)
  | ci (k : IntKind) (x : AX)
  | cs (x : AX)
  | i2s (x : AX)
  | mkif (t : TypeId) (x : AX)
  | mkfn (fn : Fn) (first caps : List AX)
  | fad (off : Nat) (x : AX)
  | fld (agg : Bool) (off n : Nat) (x : AX)
  | iads (n : Nat) (x i : AX)
  | iada (len n : Nat) (x i : AX)
  | ixa (len : Nat) (agg : Bool) (n : Nat) (x i : AX)
  | ixs (x i : AX)
  | sls (x : AX) (lo hi : Option AX)
  | sll (n : Nat) (x : AX) (lo hi mx : Option AX)
  | sla (len n : Nat) (x : AX) (lo hi mx : Option AX)
  | ext (x : AX) (i : Nat)
  | lens (x : AX)
  | lena (n : Nat)
  | lenl (x : AX)
  | mm (mx : Bool) (x : AX) (xs : List AX)
  | capl (x : AX)
  | usd (x : AX)
  deriving Inhabited
/-- Operations that read memory and write none. -/
inductive RO where
  | load (agg : Bool) (n : Nat) (a : AX)
  | b2s (x : AX)
  | lenm (x : AX)
  | mark (x : AX)
  | look (str : Bool) (zero : AV) (x i : AX) (ok : Bool)
  | entry (x : AX)
  | ucv (s d : Nat) (x : AX)
  deriving Inhabited
/-- Operations that make one new object. -/
inductive AO where
  | new (e : Nat) (cells : List AV)
  | box (e : Nat) (x : AX)
  | bsl (e n len : Nat) (zero : List AV) (parts : List (Nat × Nat × AX))
  | mks (e n bytes : Nat) (zero : List AV) (len cap : AX)
  | s2b (e : Nat) (x : AX)
  | mkm
  | rngs (x : AX)
  deriving Inhabited
inductive CO where
  | val (f : AX)
  deriving Inhabited
/-- All others. -/
inductive EO where
  | store (n : Nat) (a x : AX)
  | app (n bytes el : Nat) (s x : AX)
  | cpy (n : Nat) (d x : AX)
  | next (x : AX)
  | mupd (str : Bool) (x k v : AX)
  | del (str : Bool) (x k : AX)
  | rngm (x : AX)
  | nextm (x : AX)
  | ustr (u : Nat) (p n : AX)
  | call (f : AX) (args : List AX)
  deriving Inhabited
inductive AOp where
  | P (o : PO)
  | R (o : RO)
  | A (o : AO)
  | E (o : EO)
  deriving Inhabited

def aggT (P : Program) (t : TypeId) : Option Bool :=
  match P.underlying t with
  | some (.struct _) | some (.array _ _) => some true
  | some _ => some false
  | none => none
def sizeT (P : Program) (t : TypeId) : Option Nat := match P.info? t with | some i => some i.size | none => none
def zeroT (P : Program) (t : TypeId) : Option AV := match P.info? t with
  | some i => match i.zero with
    | some v => ofV v
    | none => none
  | none => none

def structPlaces (P : Program) : List Field → Option (List (Nat × Nat))
  | [] => some []
  | f :: fs => match sizeT P f.type with
    | some n => match structPlaces P fs with
      | some r => some ((f.offset, n) :: r)
      | none => none
    | none => none
def partsOf (P : Program) (place : Nat → Option (Nat × Nat)) : List (Nat × Operand) → Option (List (Nat × Nat × AX))
  | [] => some []
  | (i, x) :: r => match place i, cx P x, partsOf P place r with
    | some (o, n), some y, some q => some ((o, n, y) :: q)
    | _, _, _ => none

def rep (n : Nat) (z : List AV) : List AV := match n with | 0 => [] | n + 1 => z ++ rep n z

/-- a type whose values are whole numbers, bools or strings -/
def scalT (P : Program) (t : TypeId) : Option SK := match P.underlying t with
  | some .bool => some .bool
  | some (.int _) => some .int
  | some .string => some .str
  | _ => none
def scalOffs (P : Program) : List Field → Option (List (Nat × SK))
  | [] => some []
  | f :: fs => if f.name = "_" then none else match scalT P f.type with
    | some k => match scalOffs P fs with
      | some r => some ((f.offset, k) :: r)
      | none => none
    | none => none
def isNilI : Operand → Bool
  | .const .nilIface => true
  | _ => false
def eqkOp (op : BinOp) (k : TK) (a b : AX) : Option PO := match op with
  | .eql => some (.eqk k false a b)
  | .neq => some (.eqk k true a b)
  | _ => none
def isniOp (op : BinOp) (x y : Bool) (a b : AX) : Option PO := match op, x, y with
  | .eql, _, true => some (.isni false a)
  | .neq, _, true => some (.isni true a)
  | .eql, true, _ => some (.isni false b)
  | .neq, true, _ => some (.isni true b)
  | _, _, _ => none
def eqgOp (op : BinOp) (l : Option (List (Nat × SK))) (a b : AX) : Option PO := match op, l with
  | .eql, some l => some (.eqg false l a b)
  | .neq, some l => some (.eqg true l a b)
  | _, _ => none
def compBin (P : Program) (op : BinOp) (t : TypeId) (x y : Operand) : Option PO :=
  match cx P x, cx P y with
  | some a, some b =>
    match P.underlying t with
    | some (.interface _) => isniOp op (isNilI x) (isNilI y) a b
    | some (.struct fs) => bif P.eqGuardType P.depth t || P.stoodInHeld t then none else eqgOp op (scalOffs P fs.toList) a b
    | some (.int _) | some .string => some (.bin op a b)
    | some .bool => eqkOp op .bool a b
    | some (.pointer el) => (match sizeT P el with | some _ => eqkOp op .ptr a b | none => none)
    | some (.slice _) => eqkOp op .slice a b
    | some (.func _ _ _) => eqkOp op .func a b
    | some (.map _ _) => eqkOp op .map a b
    | _ => none
  | _, _ => none

def appTy : Option TypeDesc → Bool
  | some (.slice _) | some .string => true
  | _ => false
def compOp (P : Program) (o : Oper) : Option AOp :=
  match o.op with
  | .move x | .assign x => match cx P x with | some x => some (.P (.mv x)) | none => none
  | .pick c a b => match cx P c, cx P a, cx P b with | some c, some a, some b => some (.P (.pick c a b)) | _, _, _ => none
  | .alloc t => match zeroT P t with | some z => some (.A (.new t z.cells)) | none => none
  | .box t x => match cx P x with | some x => some (.A (.box t x)) | none => none
  | .build t parts => match zeroT P t, P.underlying t with
    | some z, some (.struct fs) => match structPlaces P fs.toList with
      | some pl => match partsOf P (fun i => pl[i]?) parts.toList with
        | some q => some (.P (.build z.cells q))
        | none => none
      | none => none
    | some z, some (.array _ e) => match sizeT P e with
      | some n => match partsOf P (fun i => some (Nat.mul i n, n)) parts.toList with
        | some q => some (.P (.build z.cells q))
        | none => none
      | none => none
    | _, _ => none
  | .buildSlice t len parts => match P.underlying t with
    | some (.slice e) => match sizeT P e, zeroT P e with
      | some n, some z => match partsOf P (fun i => some (Nat.mul i n, n)) parts.toList with
        | some q => bif Nat.ble (Nat.mul len n) 1000000 && Nat.beq z.cells.length n then some (.A (.bsl e n len (rep len z.cells) q)) else none
        | none => none
      | _, _ => none
    | _ => none
  | .load t a => match aggT P t, sizeT P t, cx P a with | some g, some n, some a => some (.R (.load g n a)) | _, _, _ => none
  | .store t a x => match sizeT P t, cx P a, cx P x with | some n, some a, some x => some (.E (.store n a x)) | _, _, _ => none
  | .nilCheck x => match cx P x with | some x => some (.P (.nilc x)) | none => none
  | .binOp op t x y _ => match compBin P op t x y with
    | some q => some (.P q)
    | none => none
  | .unOp op _ x => match cx P x with | some x => some (.P (.un op x)) | none => none
  | .convert src dst x => match P.underlying src, P.underlying dst, cx P x with
    | some (.int _), some (.int k), some x => some (.P (.ci k x))
    | some .string, some .string, some x => some (.P (.cs x))
    | some (.int _), some .string, some x => some (.P (.i2s x))
    | some (.slice _), some (.slice e), some x => match P.underlying e with | some (.int .u8) => (bif src == dst then some (.R (.mark x)) else none) | _ => none
    | some .string, some (.slice e), some x => match P.underlying e with | some (.int .u8) => some (.A (.s2b e x)) | _ => none
    | some (.slice e), some .string, some x => match P.underlying e with | some (.int .u8) => some (.R (.b2s x)) | _ => none
    | some (.pointer _), some .unsafePointer, some x => some (.R (.ucv src dst x))
    | some .unsafePointer, some (.pointer _), some x => some (.R (.ucv src dst x))
    | _, _, _ => none
  | .makeInterface t x => match P.underlying t, cx P x with
    | some (.interface _), _ => none
    | some _, some x => some (.P (.mkif t x))
    | _, _ => none
  | .makeFunc fn first caps => match cxs P first.toList, cxs P caps.toList with | some a, some b => some (.P (.mkfn fn a b)) | _, _ => none
  | .makeMap _ none => some (.A .mkm)
  | .makeSlice t l c => match P.underlying t with
    | some (.slice e) => match P.info? e, zeroT P e, cx P l, cx P c with
      | some i, some z, some l, some c => bif Nat.beq z.cells.length i.size then some (.A (.mks e i.size i.bytes z.cells l c)) else none
      | _, _, _, _ => none
    | _ => none
  | .slice t x lo hi mx => match P.underlying t, cx P x, cxo P lo, cxo P hi, cxo P mx with
    | some .string, some x, some lo, some hi, some none => some (.P (.sls x lo hi))
    | some (.slice e), some x, some lo, some hi, some mx => match sizeT P e with | some n => some (.P (.sll n x lo hi mx)) | none => none
    | some (.array k e), some x, some lo, some hi, some mx => match sizeT P e with | some n => some (.P (.sla k n x lo hi mx)) | none => none
    | _, _, _, _, _ => none
  | .fieldAddr t x i => match P.underlying t, cx P x with
    | some (.struct fs), some x => match fs.toList[i]? with
      | some f => match sizeT P f.type with
        | some (_ + 1) => some (.P (.fad f.offset x))
        | _ => none
      | none => none
    | _, _ => none
  | .field t x i => match P.underlying t, cx P x with
    | some (.struct fs), some x => match fs.toList[i]? with
      | some f => match aggT P f.type, sizeT P f.type with
        | some g, some n => some (.P (.fld g f.offset n x))
        | _, _ => none
      | none => none
    | _, _ => none
  | .indexAddr t x i => match P.underlying t, cx P x, cx P i with
    | some (.slice e), some x, some i => match sizeT P e with | some n => some (.P (.iads n x i)) | none => none
    | some (.array k e), some x, some i => match sizeT P e with | some n => some (.P (.iada k n x i)) | none => none
    | _, _, _ => none
  | .index t x i => match P.underlying t, cx P x, cx P i with
    | some .string, some x, some i => some (.P (.ixs x i))
    | some (.array k e), some x, some i => match aggT P e, sizeT P e with | some g, some n => some (.P (.ixa k g n x i)) | _, _ => none
    | _, _, _ => none
  | .lookup t x i ok => match P.underlying t, cx P x, cx P i with
    | some (.map k e), some x, some i => match P.underlying k, zeroT P e with
      | some .string, some z => some (.R (.look true z x i ok))
      | some (.int _), some z => some (.R (.look false z x i ok))
      | _, _ => none
    | _, _, _ => none
  | .mapUpdate t x k v | .insert t x k v => match P.underlying t, cx P x, cx P k, cx P v with
    | some (.map kt _), some x, some k, some v => match P.underlying kt with
      | some .string => some (.E (.mupd true x k v))
      | some (.int _) => some (.E (.mupd false x k v))
      | _ => none
    | _, _, _, _ => none
  | .range t x => match P.underlying t, cx P x with
    | some .string, some x => some (.A (.rngs x))
    | some (.map _ _), some x => some (.E (.rngm x))
    | _, _ => none
  | .next x true => match cx P x with | some x => some (.E (.next x)) | none => none
  | .next x false => match cx P x with | some x => some (.E (.nextm x)) | none => none
  | .entry x => match cx P x with | some x => some (.R (.entry x)) | none => none
  | .extract x i => match cx P x with | some x => some (.P (.ext x i)) | none => none
  | .call c => match c.callee with
    | .value f => match cx P f, cxs P c.args.toList with | some f, some xs => some (.E (.call f xs)) | _, _ => none
    | .builtin .len => match (c.argTypes.toList[0]?).bind P.underlying, cxs P c.args.toList with
      | some .string, some [x] => some (.P (.lens x))
      | some (.slice _), some [x] => some (.P (.lenl x))
      | some (.array n _), some [_] => some (.P (.lena n))
      | some (.map _ _), some [x] => some (.R (.lenm x))
      | _, _ => none
    | .builtin .append => match (c.argTypes.toList[0]?).bind P.underlying, appTy ((c.argTypes.toList[1]?).bind P.underlying), c.argTypes.toList.length, cxs P c.args.toList with
      | some (.slice e), true, 2, some [s, x] => match P.info? e, zeroT P e with
        | some i, some z => bif Nat.beq z.cells.length i.size && !(Nat.beq i.size 0) && !(Nat.beq i.bytes 0) then some (.E (.app i.size i.bytes e s x)) else none
        | _, _ => none
      | _, _, _, _ => none
    | .builtin .copy => match (c.argTypes.toList[0]?).bind P.underlying, cxs P c.args.toList with
      | some (.slice e), some [d, x] => match sizeT P e with | some n => some (.E (.cpy n d x)) | none => none
      | _, _ => none
    | .builtin .delete => match (c.argTypes.toList[0]?).bind P.underlying, cxs P c.args.toList with
      | some (.map kt _), some [x, k] => match P.underlying kt with
        | some .string => some (.E (.del true x k))
        | some (.int _) => some (.E (.del false x k))
        | _ => none
      | _, _ => none
    | .builtin .cap => match (c.argTypes.toList[0]?).bind P.underlying, cxs P c.args.toList with
      | some (.slice _), some [x] => some (.P (.capl x))
      | _, _ => none
    | .builtin .unsafeSliceData => match cxs P c.args.toList with
      | some [x] => some (.P (.usd x))
      | _ => none
    | .builtin .unsafeString => match (c.argTypes.toList[0]?).bind P.underlying, cxs P c.args.toList with
      | some (.pointer el), some [p, n] => match P.underlying el, sizeT P el with
        | some (.int .u8), some 1 => some (.E (.ustr el p n))
        | _, _ => none
      | _, _ => none
    | .builtin .max => match cxs P c.args.toList with | some (x :: xs) => some (.P (.mm true x xs)) | _ => none
    | .builtin .min => match cxs P c.args.toList with | some (x :: xs) => some (.P (.mm false x xs)) | _ => none
    | _ => none
  | _ => none

/- Meanings. -/

def idx? {α : Type} : List α → Nat → Option α
  | [], _ => none
  | a :: _, 0 => some a
  | _ :: l, n + 1 => idx? l n
def upd {α : Type} : List α → Nat → α → List α
  | [], _, _ => []
  | _ :: l, 0, x => x :: l
  | a :: l, n + 1, x => a :: upd l n x
def sub {α : Type} (l : List α) (i n : Nat) : List α := (l.drop i).take n
/-- 'new' laid over 'l' from place i on; it may reach past the end. -/
def over {α : Type} : List α → Nat → List α → List α
  | l, 0, [] => l
  | [], _, ys => ys
  | _ :: l, 0, y :: ys => y :: over l 0 ys
  | a :: l, i + 1, ys => a :: over l i ys
def allOne : List AV → Bool
  | [] => true
  | v :: l => v.one && allOne l

def fillA (cells : List AV) : List (Nat × Nat × AV) → Option (List AV)
  | [] => some cells
  | (off, n, v) :: r =>
    let cs := v.cells
    bif Nat.beq cs.length n && Nat.ble (Nat.add off n) cells.length then fillA (over cells off cs) r else none
def evParts (e : Env) : List (Nat × Nat × AX) → List (Nat × Nat × AV)
  | [] => []
  | (o, n, x) :: r => (o, n, x.ev e) :: evParts e r
def evAll (e : Env) : List AX → List AV
  | [] => []
  | x :: r => x.ev e :: evAll e r

def isGlob : IntKind → Bool := fun _ => true

def strLess : List UInt8 → List UInt8 → Bool := Op.bytesLess

def binA (op : BinOp) (x y : AV) : Option AV :=
  match op, x, y with
  | .shl, .i k a, .i _ b => if b < 0 then none else some (.i k (k.wrap (a * 2 ^ (min b.toNat k.bits))))
  | .shr, .i k a, .i _ b => if b < 0 then none else some (.i k (a.fdiv (2 ^ (min b.toNat k.bits))))
  | .add, .i k a, .i k' b => if k = k' then some (.i k (k.wrap (a + b))) else none
  | .sub, .i k a, .i k' b => if k = k' then some (.i k (k.wrap (a - b))) else none
  | .mul, .i k a, .i k' b => if k = k' then some (.i k (k.wrap (a * b))) else none
  | .quo, .i k a, .i k' b => if k = k' then (if b = 0 then none else some (.i k (k.wrap (a.tdiv b)))) else none
  | .rem, .i k a, .i k' b => if k = k' then (if b = 0 then none else some (.i k (a.tmod b))) else none
  | .and, .i k a, .i k' b => if k = k' then some (.i k (k.wrap (BitVec.ofInt k.bits a &&& BitVec.ofInt k.bits b).toNat)) else none
  | .or, .i k a, .i k' b => if k = k' then some (.i k (k.wrap (BitVec.ofInt k.bits a ||| BitVec.ofInt k.bits b).toNat)) else none
  | .xor, .i k a, .i k' b => if k = k' then some (.i k (k.wrap (BitVec.ofInt k.bits a ^^^ BitVec.ofInt k.bits b).toNat)) else none
  | .andNot, .i k a, .i k' b => if k = k' then some (.i k (k.wrap (BitVec.ofInt k.bits a &&& ~~~(BitVec.ofInt k.bits b)).toNat)) else none
  | .eql, .i k a, .i k' b => if k = k' then some (.b (a == b)) else none
  | .neq, .i k a, .i k' b => if k = k' then some (.b (a != b)) else none
  | .lss, .i k a, .i k' b => if k = k' then some (.b (decide (a < b))) else none
  | .leq, .i k a, .i k' b => if k = k' then some (.b (decide (a ≤ b))) else none
  | .gtr, .i k a, .i k' b => if k = k' then some (.b (decide (a > b))) else none
  | .geq, .i k a, .i k' b => if k = k' then some (.b (decide (a ≥ b))) else none
  | .add, .s a, .s b => if ((a.length + b.length : Nat) : Int) > IntKind.i64.max then none else some (.s (a ++ b))
  | .eql, .s a, .s b => some (.b (a == b))
  | .neq, .s a, .s b => some (.b !(a == b))
  | .lss, .s a, .s b => some (.b (Op.bytesLess a b))
  | .leq, .s a, .s b => some (.b (Op.bytesLess a b || a == b))
  | .gtr, .s a, .s b => some (.b !(Op.bytesLess a b || a == b))
  | .geq, .s a, .s b => some (.b !(Op.bytesLess a b))
  | _, _, _ => none

/-- Numbers that are known by bounds alone. -/
def rngOf : AV → Option (IntKind × Int × Int)
  | .i k n => some (k, n, n)
  | .r k lo hi => some (k, lo, hi)
  | _ => none
def cmpR : BinOp → Int → Int → Int → Int → Option Bool
  | .lss, a, b, c, d => if b < c then some true else if d ≤ a then some false else none
  | .geq, a, b, c, d => if b < c then some false else if d ≤ a then some true else none
  | .gtr, a, b, c, d => if d < a then some true else if b ≤ c then some false else none
  | .leq, a, b, c, d => if d < a then some false else if b ≤ c then some true else none
  | .eql, a, b, c, d => if b < c then some false else if d < a then some false else none
  | .neq, a, b, c, d => if b < c then some true else if d < a then some true else none
  | _, _, _, _, _ => none
def rngA (op : BinOp) (x y : AV) : Option AV := match rngOf x, rngOf y with
  | some (k, a, b), some (k', c, d) => if k = k' then (match cmpR op a b c d with | some t => some (.b t) | none => none) else none
  | _, _ => none
def binR (op : BinOp) (x y : AV) : Option AV := match binA op x y with
  | some v => some v
  | none => rngA op x y

/-- Equality at the kinds of type that are no numbers and no strings. -/
def eqA : TK → AV → AV → Option Bool
  | .bool, .b a, .b c => some (a == c)
  | .ptr, .p none, .p a => some a.isNone
  | .ptr, .p (some _), .p none => some false
  | .ptr, .p (some (a, b)), .p (some (c, d)) => bif Nat.beq a c && Nat.beq b d then some true else none
  | .slice, .sl none _ _ _, .sl a _ _ _ => some a.isNone
  | .slice, .sl (some _) _ _ _, .sl none _ _ _ => some false
  | .func, .nf, .nf => some true
  | .func, .nf, .f _ _ _ | .func, .f _ _ _, .nf => some false
  | .map, .m none, .m a => some a.isNone
  | .map, .m (some _), .m none => some false
  | _, _, _ => none

/-- are two one-cell values of one plain type one? -/
def eqs : SK → AV → AV → Option Bool
  | .int, .i k a, .i k' b => if k = k' then some (a == b) else none
  | .str, .s a, .s b => some (a == b)
  | .bool, .b a, .b c => some (a == c)
  | _, _, _ => none
def eqgA (xs ys : List AV) : List (Nat × SK) → Option Bool
  | [] => some true
  | (o, k) :: r => match idx? xs o, idx? ys o with
    | some a, some b => match eqs k a b with
      | some true => eqgA xs ys r
      | some false => some false
      | none => none
    | _, _ => none

def unA (op : UnOp) (x : AV) : Option AV :=
  match op, x with
  | .neg, .i k n => some (.i k (k.wrap (0 - n)))
  | .xor, .i k n => binA .xor (.i k (if k.signed then -1 else k.max)) (.i k n)
  | .not, .b b => some (.b !b)
  | _, _ => none

def bndA (v : AV) (y : Nat) : Option Nat :=
  match v with
  | .i _ n => if 0 ≤ n ∧ n ≤ y then some n.toNat else none
  | _ => none

def topA (cap : Option Nat) (len : Nat) : Nat := match cap with | some c => c | none => len
def bM (e : Env) (len : Nat) (cap : Option Nat) (mx : Option AX) : Option (Option Nat) := match mx with
  | some v => match bndA (v.ev e) (topA cap len) with
    | some n => some (some n)
    | none => none
  | none => some cap
def bH (e : Env) (len : Nat) (m : Option Nat) (hi mx : Option AX) : Option Nat := match hi with
  | some v => bndA (v.ev e) (topA m len)
  | none => match mx with
    | some _ => none
    | none => some len
def bL (e : Env) (h : Nat) (lo : Option AX) : Option Nat := match lo with
  | some v => bndA (v.ev e) h
  | none => some 0
/-- lower and upper bound of a slice expression; 'cap' unknown: the upper bound must not pass the length. -/
def bnds (e : Env) (len : Nat) (cap : Option Nat) (lo hi mx : Option AX) : Option (Nat × Nat × Option Nat) :=
  match bM e len cap mx with
  | none => none
  | some m => match bH e len m hi mx with
    | none => none
    | some h => match bL e h lo with
      | none => none
      | some l => some (l, h, m)

def shA (a : Option (Nat × Nat)) (k : Nat) : Option (Nat × Nat) := match a with
  | some (id, o) => some (id, Nat.add o k)
  | none => none
def sllA (a : Option (Nat × Nat)) (m : Option Nat) (l n : Nat) : Option (Nat × Nat) := match m with
  | some c => bif Nat.beq c l then a else shA a (Nat.mul l n)
  | none => shA a (Nat.mul l n)
def capA (m : Option Nat) (l : Nat) : Option Nat := match m with
  | some c => some (Nat.sub c l)
  | none => none

def mm2 (mx : Bool) : AV → AV → Option AV
  | .i k a, .i k' b => if k = k' then some (.i k (bif mx then (if b > a then b else a) else (if b < a then b else a))) else none
  | _, _ => none
def mmA (mx : Bool) : AV → List AV → Option AV
  | x, [] => some x
  | x, c :: r => match mm2 mx x c with
    | some y => mmA mx y r
    | none => none

def partA (agg : Bool) (cs : List AV) (off n : Nat) : Option AV :=
  bif agg then (bif Nat.ble (Nat.add off n) cs.length then some (.g (sub cs off n)) else none) else idx? cs off

def pev (e : Env) : PO → Option AV
  | .mv x => some (x.ev e)
  | .pick c a b => match c.ev e with
    | .b t => some (bif t then a.ev e else b.ev e)
    | _ => none
  | .build z ps => (fillA z (evParts e ps)).map .g
  | .nilc x => match x.ev e with
    | .p (some a) => some (.p (some a))
    | .f (.func fn) a b => some (.f (.func fn) a b)
    | _ => none
  | .bin op x y => binR op (x.ev e) (y.ev e)
  | .eqk k neg x y => (eqA k (x.ev e) (y.ev e)).map (fun z => .b (z != neg))
  | .isni neg x => match x.ev e with
    | .ni => some (.b !neg)
    | .ifc _ _ => some (.b neg)
    | _ => none
  | .eqg neg offs x y => match x.ev e, y.ev e with
    | .g xs, .g ys => (eqgA xs ys offs).map (fun z => .b (z != neg))
    | _, _ => none
  | .un op x => unA op (x.ev e)
  | .ci k x => match x.ev e with
    | .i _ n => some (.i k (k.wrap n))
    | _ => none
  | .cs x => match x.ev e with
    | .s l => some (.s l)
    | _ => none
  | .i2s x => match x.ev e with
    | .i _ n => some (.s (Utf8.encode n).data.toList)
    | _ => none
  | .mkif t x => some (.ifc t (x.ev e))
  | .mkfn fn a b => some (.f fn (evAll e a) (evAll e b))
  | .fad off x => match x.ev e with
    | .p (some (id, o)) => some (.p (some (id, Nat.add o off)))
    | _ => none
  | .fld agg off n x => match x.ev e with
    | .g cs => partA agg cs off n
    | _ => none
  | .iads n x i => match x.ev e, i.ev e with
    | .sl (some (id, o)) len _ _, .i _ k => if 0 ≤ k ∧ k < len then some (.p (some (id, Nat.add o (Nat.mul k.toNat n)))) else none
    | _, _ => none
  | .iada len n x i => match x.ev e, i.ev e with
    | .p (some (id, o)), .i _ k => if 0 ≤ k ∧ k < len then some (.p (some (id, Nat.add o (Nat.mul k.toNat n)))) else none
    | _, _ => none
  | .ixa len agg n x i => match x.ev e, i.ev e with
    | .g cs, .i _ k => if 0 ≤ k ∧ k < len then partA agg cs (Nat.mul k.toNat n) n else none
    | _, _ => none
  | .ixs x i => match x.ev e, i.ev e with
    | .s l, .i _ k => if 0 ≤ k then (idx? l k.toNat).map (fun c => .i .u8 c.toNat) else none
    | _, _ => none
  | .sls x lo hi => match x.ev e with
    | .s l => match bnds e l.length (some l.length) lo hi none with
      | some (a, h, _) => some (.s (sub l a (Nat.sub h a)))
      | none => none
    | _ => none
  | .sll n x lo hi mx => match x.ev e with
    | .sl a len cap es => bif Nat.beq es n || Nat.beq es 0 then
      (match bnds e len cap lo hi mx with
      | some (l, h, m) => some (.sl (sllA a m l n) (Nat.sub h l) (capA m l) es)
      | none => none) else none
    | _ => none
  | .sla k n x lo hi mx => match x.ev e with
    | .p (some (id, o)) => match bnds e k (some k) lo hi mx with
      | some (l, h, some m) => some (.sl (some (id, bif Nat.beq m l then o else Nat.add o (Nat.mul l n))) (Nat.sub h l) (some (Nat.sub m l)) 0)
      | _ => none
    | _ => none
  | .ext x i => match x.ev e with
    | .t l => idx? l i
    | _ => none
  | .lens x => match x.ev e with
    | .s l => some (.i .i64 l.length)
    | _ => none
  | .lena n => some (.i .i64 n)
  | .lenl x => match x.ev e with
    | .u lo hi => some (.r .i64 lo hi)
    | .sl _ n _ _ => some (.i .i64 n)
    | _ => none
  | .mm mx x xs => mmA mx (x.ev e) (evAll e xs)
  | .capl x => match x.ev e with
    | .sl _ _ (some c) _ => some (.i .i64 c)
    | _ => none
  | .usd x => match x.ev e with
    | .sl none _ _ _ => some (.p none)
    | .sl (some (id, o)) len _ _ => bif Nat.beq len 0 then none else some (.p (some (id, o)))
    | _ => none

def toBytes : List AV → Option (List UInt8)
  | [] => some []
  | .i .u8 n :: r => match toBytes r with
    | some l => some (UInt8.ofNat n.toNat :: l)
    | none => none
  | _ => none
def ofBytes : List UInt8 → List AV
  | [] => []
  | c :: r => .i .u8 c.toNat :: ofBytes r

/-- the cells of a slice -/
def rowOf (h : AH) (n : Nat) : AV → Option (List AV)
  | .sl none 0 _ _ => some []
  | .sl (some (id, o)) len _ _ => bif Nat.beq len 0 then some [] else match h.row? id with
    | some (_, cs) => bif Nat.ble (Nat.add o (Nat.mul len n)) cs.length then some (sub cs o (Nat.mul len n)) else none
    | none => none
  | _ => none

def keyEq (str : Bool) : AV → AV → Option Bool
  | .s a, .s b => bif str then some (a == b) else none
  | .i k a, .i k' b => bif str then none else if k = k' then some (a == b) else none
  | _, _ => none
def findA (str : Bool) (k : AV) : List (AV × AV × Nat) → Option (Option AV)
  | [] => some none
  | (x, v, _) :: r => match keyEq str k x with
    | some true => some (some v)
    | some false => findA str k r
    | none => none
def setA (str : Bool) (k v : AV) (clock : Nat) : List (AV × AV × Nat) → Option (List (AV × AV × Nat) × Bool)
  | [] => some ([(k, v, clock)], true)
  | (x, y, n) :: r => match keyEq str k x with
    | some true => some ((k, v, n) :: r, false)
    | some false => match setA str k v clock r with
      | some (l, z) => some ((x, y, n) :: l, z)
      | none => none
    | none => none
def delA (str : Bool) (k : AV) : List (AV × AV × Nat) → Option (List (AV × AV × Nat))
  | [] => some []
  | (x, y, n) :: r => match keyEq str k x with
    | some true => some r
    | some false => match delA str k r with
      | some l => some ((x, y, n) :: l)
      | none => none
    | none => none
def keyOk (str : Bool) : AV → Bool
  | .s _ => str
  | .i _ _ => !str
  | _ => false

def rev (e : Env) (h : AH) : RO → Option AV
  | .load agg n a => match a.ev e with
    | .p (some (id, o)) => match h.row? id with
      | some (_, cs) => partA agg cs o n
      | none => none
    | _ => none
  | .b2s x => match rowOf h 1 (x.ev e) with
    | some cs => (toBytes cs).map .s
    | none => none
  | .lenm x => match x.ev e with
    | .m none => some (.i .i64 0)
    | .m (some r) => match h.objs.get r with
      | some (.map es _) => some (.i .i64 es.length)
      | _ => none
    | _ => none
  | .mark x => match x.ev e with
    | .sl (some (id, o)) len cap es => bif Nat.beq len 0 then none else match h.row? id with
      | some (false, _) => some (.sl (some (id, o)) len cap es)
      | _ => none
    | _ => none
  | .entry x => match x.ev e with
    | .p (some (id, 0)) => match h.objs.get id with
      | some (.mit (some m) _ seen stepped) => match h.objs.get m, seen.getLast? with
        | some (.map es clock), some b => bif Nat.beq clock stepped then
          (match es.find? (fun e => Nat.beq e.2.2 b) with
          | some (k, v, _) => some (.t [k, v])
          | none => none) else none
        | _, _ => none
      | _ => none
    | _ => none
  | .ucv _ _ _ => none
  | .look str z x i ok => bif keyOk str (i.ev e) then
    (match (match x.ev e with
      | .m none => some []
      | .m (some r) => (match h.objs.get r with | some (.map es _) => some es | _ => none)
      | _ => none : Option (List (AV × AV × Nat))) with
    | some es => match findA str (i.ev e) es with
      | some (some v) => some (bif ok then .t [v, .b true] else v)
      | some none => some (bif ok then .t [z, .b false] else z)
      | none => none
    | none => none) else none

/-- The type of element of what is made. -/
def aty : AO → Option Nat
  | .new e _ | .box e _ | .bsl e _ _ _ _ | .mks e _ _ _ _ _ | .s2b e _ => some e
  | .mkm | .rngs _ => none
def aev (e : Env) (id : Nat) : AO → Option (AV × AObj)
  | .new _ cs => bif allOne cs then some (.p (some (id, 0)), .row false cs) else none
  | .box _ x => match x.ev e with
    | .t _ => none
    | v => bif allOne v.cells then some (.p (some (id, 0)), .row false v.cells) else none
  | .bsl _ n len z ps => match fillA z (evParts e ps) with
    | some cs => bif allOne cs then some (.sl (some (id, 0)) len (some len) n, .row false cs) else none
    | none => none
  | .mks _ n bytes z l c => match l.ev e, c.ev e with
    | .i _ l, .i _ c => if 0 ≤ l ∧ l ≤ c ∧ c * bytes ≤ 1099511627776 ∧ c ≤ 16777216 then
      (bif allOne z then some (.sl (some (id, 0)) l.toNat (some c.toNat) n, .row false (rep c.toNat z)) else none) else none
    | _, _ => none
  | .s2b _ x => match x.ev e with
    | .s l => some (.sl (some (id, 0)) l.length none 1, .row false (ofBytes l))
    | _ => none
  | .mkm => some (.m (some id), .map [] 0)
  | .rngs x => match x.ev e with
    | .s l => some (.p (some (id, 0)), .sit l 0)
    | _ => none

/-- A write of cells into a row of the call's own. -/
def AH.write (h : AH) (id o : Nat) (cs : List AV) : Option AH :=
  match h.row? id with
  | some (false, old) => bif Nat.ble (Nat.add o cs.length) old.length && allOne cs then some (h.setRow id (over old o cs)) else none
  | _ => none

/-- The type of element of a row that was perhaps written where it lay. -/
def keepT (h : AH) (id o el : Nat) : Option Nat := bif Nat.beq o 0 then (match h.tys.get id with | some t => bif Nat.beq t el then some el else none | none => none) else none
def appA (h : AH) (n bytes el : Nat) (s : AV) (new : List AV) (k : Nat) : Option (AV × AH) :=
  match s with
  | .sl a len cap es =>
    bif Nat.beq k 0 then some (s, h) else
    bif !(Nat.ble (Nat.mul (Nat.add len k) bytes) 68719476736 && allOne new) then none else
    match cap with
    | some c =>
      bif Nat.ble (Nat.add len k) c then
        (match a with
        | some (id, o) => bif Nat.beq es n then
            (match h.row? id with
            | some (false, old) => bif Nat.ble (Nat.add o (Nat.mul len n)) old.length && Nat.ble (Nat.add o (Nat.mul c n)) old.length then some (.sl a (Nat.add len k) cap es, h.setRow id (over old (Nat.add o (Nat.mul len n)) new)) else none
            | _ => none) else none
        | none => none)
      else match rowOf h n s with
        | some old => bif allOne old then some (.sl (some (h.next, 0)) (Nat.add len k) none n, h.add (.row false (old ++ new)) (some el)) else none
        | none => none
    | none => match a with
      | some (id, o) => bif Nat.beq es n then
          (match h.row? id with
          | some (false, old) => bif Nat.ble (Nat.add o (Nat.mul len n)) old.length then some (.sl (some (h.next, 0)) (Nat.add len k) none n, (h.kill id).add (.row false (sub old o (Nat.mul len n) ++ new)) (keepT h id o el)) else none
          | _ => none) else none
      | none => none
  | _ => none

def srcOf (h : AH) (n : Nat) : AV → Option (List AV × Nat)
  | .s l => bif Nat.beq n 1 then some (ofBytes l, l.length) else none
  | .sl a len cap es => match rowOf h n (.sl a len cap es) with
    | some cs => some (cs, len)
    | none => none
  | _ => none

def mupdA (h : AH) (str : Bool) (m k v : AV) : Option (AV × AH) := match m with
  | .m (some r) => bif keyOk str k then (match h.objs.get r with
    | some (.map es clock) => match setA str k v clock es with
      | some (es', fresh) => some (undefA, { h with objs := h.objs.set r (some (.map es' (bif fresh then Nat.succ clock else clock))) })
      | none => none
    | _ => none) else none
  | _ => none
def delH (h : AH) (str : Bool) (m k : AV) : Option (AV × AH) := match m with
  | .m none => bif keyOk str k then some (.t [], h) else none
  | .m (some r) => bif keyOk str k then (match h.objs.get r with
    | some (.map es clock) => match delA str k es with
      | some es' => some (.t [], { h with objs := h.objs.set r (some (.map es' clock)) })
      | none => none
    | _ => none) else none
  | _ => none

def eev (e : Env) (h : AH) : EO → Option (AV × AH)
  | .store n a x => match a.ev e, x.ev e with
    | .p (some (id, o)), v => bif Nat.beq v.cells.length n then (match h.write id o v.cells with | some h => some (undefA, h) | none => none) else none
    | _, _ => none
  | .app n bytes el s x => match srcOf h n (x.ev e) with
    | some (new, k) => appA h n bytes el (s.ev e) new k
    | none => none
  | .cpy n d x => match d.ev e, srcOf h n (x.ev e) with
    | .sl a len _ _, some (new, k) =>
      let c := bif Nat.ble k len then k else len
      bif Nat.beq c 0 then some (.i .i64 0, h) else
      (match a with
      | some (id, o) => match h.write id o (new.take (Nat.mul c n)) with
        | some h => some (.i .i64 c, h)
        | none => none
      | none => none)
    | _, _ => none
  | .next x => match x.ev e with
    | .p (some (id, 0)) => match h.objs.get id with
      | some (.sit l pos) => bif Nat.ble l.length pos then some (.t [.b false], h) else
        (match Utf8.decode ⟨⟨l⟩⟩ pos with
        | (c, w) => some (.t [.b true, .i .i64 pos, .i .i32 c], { h with objs := h.objs.set id (some (.sit l (Nat.add pos w))) }))
      | _ => none
    | _ => none
  | .mupd str x k v => mupdA h str (x.ev e) (k.ev e) (v.ev e)
  | .del str x k => delH h str (x.ev e) (k.ev e)
  | .rngm x => match x.ev e with
    | .m none => some (.p (some (h.next, 0)), h.add (.mit none 0 [] 0))
    | .m (some m) => match h.objs.get m with
      | some (.map _ clock) => some (.p (some (h.next, 0)), h.add (.mit (some m) clock [] clock))
      | _ => none
    | _ => none
  | .nextm _ => none
  | .ustr u p n => match p.ev e, n.ev e with
    | .p none, .i _ k => if k = 0 then some (.s [], h) else none
    | .p (some (id, o)), .i _ k => if k = 0 then some (.s [], h) else if k < 0 then none else
      (match h.tys.get id, h.row? id with
      | some t, some (false, cs) => bif Nat.beq t u && Nat.ble (Nat.add o k.toNat) cs.length && Nat.ble k.toNat 16777216 then
          (match toBytes (sub cs o k.toNat) with
          | some l => some (.s l, h.kill id)
          | none => none) else none
      | _, _ => none)
    | _, _ => none
  | .call _ _ => none

def hasN (n : Nat) : List Nat → Bool
  | [] => false
  | m :: r => Nat.beq n m || hasN n r
def leftA (seen : List Nat) : List (AV × AV × Nat) → List (AV × AV × Nat)
  | [] => []
  | e :: r => bif hasN e.2.2 seen then leftA seen r else e :: leftA seen r
def oldA (since : Nat) : List (AV × AV × Nat) → List (AV × AV × Nat)
  | [] => []
  | e :: r => bif Nat.blt e.2.2 since then e :: oldA since r else oldA since r
def newA (since : Nat) : List (AV × AV × Nat) → List (AV × AV × Nat)
  | [] => []
  | e :: r => bif Nat.blt e.2.2 since then newA since r else e :: newA since r
def outsA (h : AH) (id m since clock : Nat) (seen : List Nat) : List (AV × AV × Nat) → List (AV × AH)
  | [] => []
  | (k, v, b) :: r => (.t [.b true, k, v], { h with objs := h.objs.set id (some (.mit (some m) since (seen ++ [b]) clock)) }) :: outsA h id m since clock seen r
/-- What a step of an iterator over a map may come to. -/
def nextmA (h : AH) (v : AV) : Option (List (AV × AH)) := match v with
  | .p (some (id, 0)) => match h.objs.get id with
    | some (.mit none _ _ _) => some [(.t [.b false], h)]
    | some (.mit (some m) since seen last) => match h.objs.get m with
      | some (.map es clock) =>
        bif (match seen with | [] => false | _ => true) && (match es with | [] => false | _ => true) && (match oldA last es with | [] => true | _ => false) then none else
        let l := leftA seen es
        let o := oldA since l
        let t := outsA h id m since clock seen (o ++ newA since l)
        some (match o with | [] => (.t [.b false], h) :: t | _ => t)
      | _ => none
    | _ => none
  | _ => none

inductive AExit where
  | norm
  | exit (id : Nat)
  | goto (l : Nat)
  | ret
  deriving Inhabited


def envOf : List AV → Nat → Env → Env
  | [], _, e => e
  | v :: l, i, e => envOf l (Nat.succ i) (e.set i (some v))

def putA (e : Env) (d : Option Tmp) (v : AV) : Env := match d with | some d => e.set d (some v) | none => e

def compOps (P : Program) : List Oper → Option (List (Option (Nat × Bool) × Option Tmp × AOp))
  | [] => some []
  | o :: r => match compOp P o, compOps P r with
    | some a, some q => some ((o.guard, o.dst, a) :: q)
    | _, _ => none

def yieldA (dsts : List (Option Tmp)) (e : Env) (j : Nat) : Option Bool :=
  match idx? dsts j with
  | some (some t) => match Env.at e t with
    | .b x => some x
    | _ => none
  | _ => none
def wantedA (dsts : List (Option Tmp)) (e : Env) : Option (Nat × Bool) → Bool
  | none => true
  | some (j, w) => match yieldA dsts e j with
    | some x => x == w
    | none => false

def resA (P : Program) (h : AH) (e : Env) : List ResultVar → Option (List AV)
  | [] => some []
  | .tmp t :: r => match resA P h e r with
    | some l => some (Env.at e t :: l)
    | none => none
  | .cell a t :: r => match resA P h e r, aggT P t, sizeT P t, Env.at e a with
    | some l, some g, some n, .p (some (id, o)) => match h.row? id with
      | some (_, cs) => match partA g cs o n with
        | some v => some (v :: l)
        | none => none
      | none => none
    | _, _, _, _ => none
def resV : List AV → AV
  | [v] => v
  | l => .t l

def labelled : Code → Nat → Option Code := findLabel

/- Regions whose order is drawn. -/
def AX.tmps : AX → List Nat
  | .t n => [n]
  | .c _ => []
def tmpsOf : List AX → List Nat
  | [] => []
  | x :: r => x.tmps ++ tmpsOf r
def optA : Option AX → List AX
  | some x => [x]
  | none => []
def partAX : List (Nat × Nat × AX) → List AX
  | [] => []
  | (_, _, x) :: r => x :: partAX r
def PO.axs : PO → List AX
  | .mv x | .nilc x | .un _ x | .ci _ x | .cs x | .i2s x | .mkif _ x | .fad _ x | .fld _ _ _ x | .ext x _ | .lens x | .lenl x | .isni _ x | .capl x | .usd x => [x]
  | .pick c a b => [c, a, b]
  | .build _ ps => partAX ps
  | .bin _ x y | .eqk _ _ x y | .eqg _ _ x y | .iads _ x y | .iada _ _ x y | .ixa _ _ _ x y | .ixs x y => [x, y]
  | .mkfn _ a b => a ++ b
  | .sls x lo hi => x :: (optA lo ++ optA hi)
  | .sll _ x lo hi mx | .sla _ _ x lo hi mx => x :: (optA lo ++ (optA hi ++ optA mx))
  | .lena _ => []
  | .mm _ x xs => x :: xs
def RO.axs : RO → List AX
  | .load _ _ x | .b2s x | .lenm x | .mark x | .entry x | .ucv _ _ x => [x]
  | .look _ _ x i _ => [x, i]
def AO.axs : AO → List AX
  | .new _ _ | .mkm => []
  | .box _ x | .s2b _ x | .rngs x => [x]
  | .bsl _ _ _ _ ps => partAX ps
  | .mks _ _ _ _ l c => [l, c]
def EO.axs : EO → List AX
  | .store _ a x => [a, x]
  | .app _ _ _ s x => [s, x]
  | .cpy _ d x => [d, x]
  | .next x | .rngm x | .nextm x => [x]
  | .mupd _ x k v => [x, k, v]
  | .del _ x k => [x, k]
  | .ustr _ x k => [x, k]
  | .call f xs => f :: xs
def AOp.axs : AOp → List AX
  | .P o => o.axs
  | .R o => o.axs
  | .A o => o.axs
  | .E o => o.axs
def AOp.isE : AOp → Bool
  | .E _ => true
  | _ => false

/-- What is told ahead: functions; operations on tokens; what the tokens stand for. -/
structure Toks where
  cell : Nat → Value → Prop
  ptr : Nat → Nat × Nat × Nat → Value → Prop
  ob : Nat → Option Obj → Nat → Nat → Prop
structure Sums where
  fn : FuncId → Option (List AV → AH → Option (AV × AH))
  op : PO → List AV → Option AV
  rd : RO → List AV → AH → Option AV
  ao : AO → List AV → Nat → Option (AV × AObj)
  eo : EO → List AV → AH → Option (AV × AH)
  tok : Toks
def pevS (S : Sums) (e : Env) (o : PO) : Option AV := match pev e o with
  | some v => some v
  | none => S.op o (evAll e o.axs)
def revS (S : Sums) (e : Env) (h : AH) (o : RO) : Option AV := match rev e h o with
  | some v => some v
  | none => S.rd o (evAll e o.axs) h

def aevS (S : Sums) (e : Env) (id : Nat) (o : AO) : Option (AV × AObj) := match aev e id o with
  | some v => some v
  | none => S.ao o (evAll e o.axs) id
def eevS (S : Sums) (e : Env) (h : AH) (o : EO) : Option (AV × AH) := match eev e h o with
  | some v => some v
  | none => S.eo o (evAll e o.axs) h

/-- What is told ahead of a function at arguments; else it is entered. -/
def natA (S : Sums) (f : FuncId) (args : List AV) (h : AH) : Option (AV × AH) := match S.fn f with
  | some g => g args h
  | none => none

structure DOp where
  i : Nat
  mask : Nat
  g : Option (Nat × Bool)
  dst : Option Tmp
  op : AOp
  src : List (Nat × Option Nat)
  deriving Inhabited

def idxD (l : List Nat) (n : Nat) : Nat := match idx? l n with | some x => x | none => 0
def maskE (acc : List Nat) : List Edge → Nat → Nat
  | [], s => s
  | e :: r, s => bif Region.binds .any e then maskE acc r (Nat.lor s (Nat.lor (Nat.pow 2 e.on) (idxD acc e.on))) else maskE acc r s
def masks : List Oper → List Nat → List Nat
  | [], acc => acc
  | o :: r, acc => masks r (acc ++ [maskE acc o.after.toList 0])

def isW (ds : List (Option Tmp)) (n t : Nat) : Bool := match idx? ds n with
  | some (some d) => Nat.beq d t
  | _ => false
/-- the last writer of a temporary among the first n operations that are in a set -/
def lastw (ds : List (Option Tmp)) (mask : Nat) (t : Nat) : Nat → Option Nat
  | 0 => none
  | n + 1 => bif Nat.testBit mask n && isW ds n t then some n else lastw ds mask t n

def gTmp (ds : List (Option Tmp)) : Option (Nat × Bool) → List Nat
  | some (j, _) => match idx? ds j with
    | some (some t) => [t]
    | _ => []
  | none => []
def readsOf (ds : List (Option Tmp)) (g : Option (Nat × Bool)) (o : AOp) : List Nat := gTmp ds g ++ tmpsOf o.axs
def srcs (ds : List (Option Tmp)) (mask n : Nat) : List Nat → List (Nat × Option Nat)
  | [] => []
  | t :: r => (t, lastw ds mask t n) :: srcs ds mask n r

def mkD (ds : List (Option Tmp)) (ms : List Nat) (n : Nat) : List (Option (Nat × Bool) × Option Tmp × AOp) → Nat → List DOp
  | [], _ => []
  | (g, d, o) :: r, i => ⟨i, idxD ms i, g, d, o, srcs ds (idxD ms i) n (readsOf ds g o)⟩ :: mkD ds ms n r (Nat.succ i)

/-- every other writer of what an operation reads is ordered beside it; the writers of one temporary are ordered -/
def chkPair (x y : DOp) : Bool :=
  -- y writes: what x reads of it is ordered
  (match y.dst with
  | some t => Nat.beq x.i y.i || !(x.src.any fun p => Nat.beq p.1 t) || Nat.testBit x.mask y.i || Nat.testBit y.mask x.i
  | none => true) &&
  (match x.dst, y.dst with
  | some t, some u => !(Nat.beq t u) || !(Nat.blt x.i y.i) || Nat.testBit y.mask x.i
  | _, _ => true) &&
  (!(x.op.isE && y.op.isE && Nat.blt x.i y.i) || Nat.testBit y.mask x.i)
def chkD (D : List DOp) : Bool := D.all fun x => Nat.blt x.mask (Nat.pow 2 x.i) && D.all fun y => chkPair x y

def countE (mask : Nat) : List DOp → Nat
  | [] => 0
  | x :: r => bif x.op.isE && Nat.testBit mask x.i then Nat.succ (countE mask r) else countE mask r
/-- the operations of a level: no writers of memory, and so many of these ahead -/
def segOf (D : List DOp) (m : Nat) : List DOp → List DOp
  | [] => []
  | x :: r => bif !x.op.isE && Nat.beq (countE x.mask D) m then x :: segOf D m r else segOf D m r
def levels (D : List DOp) : List DOp → Nat → List (DOp × List DOp)
  | [], _ => []
  | x :: r, m => bif x.op.isE then (x, segOf D (Nat.succ m) D) :: levels D r (Nat.succ m) else levels D r m

/-- each operation stands once, behind the writers of what it reads -/
def idxs : List DOp → List Nat
  | [] => []
  | x :: r => x.i :: idxs r
def notIn (n : Nat) : List Nat → Bool
  | [] => true
  | m :: r => !(Nat.beq n m) && notIn n r
def srcFree (l : List Nat) : List (Nat × Option Nat) → Bool
  | [] => true
  | (_, some u) :: r => notIn u l && srcFree l r
  | (_, none) :: r => srcFree l r
def ordB : List DOp → Bool
  | [] => true
  | x :: r => srcFree (x.i :: idxs r) x.src && notIn x.i (idxs r) && ordB r
def flat (seg : List DOp) : List (DOp × List DOp) → List DOp
  | [] => seg
  | (y, sg) :: r => seg ++ (y :: flat sg r)
def isIn (n : Nat) : List Nat → Bool
  | [] => false
  | m :: r => Nat.beq n m || isIn n r
def allBelow (l : List Nat) : Nat → Bool
  | 0 => true
  | n + 1 => isIn n l && allBelow l n
/-- the levels: no writer of memory but at their heads; behind a head all wait for it; each head waits for those ahead -/
def levB : List DOp → List (DOp × List DOp) → Bool
  | _, [] => true
  | hs, (y, sg) :: r => y.op.isE && (hs.all fun q => Nat.testBit y.mask q.i) && (sg.all fun x => !x.op.isE && Nat.testBit x.mask y.i) && levB (hs ++ [y]) r

structure DReg where
  n : Nat
  ds : List (Option Tmp)
  D : List DOp
  seg : List DOp
  lv : List (DOp × List DOp)
  deriving Inhabited
def dstsOf : List Oper → List (Option Tmp)
  | [] => []
  | o :: r => o.dst :: dstsOf r
def noSel : List Oper → Bool
  | [] => true
  | o :: r => (match o.op with | .select .. => false | _ => true) && noSel r
def compD (P : Program) (ops : List Oper) : Option DReg :=
  match compOps P ops with
  | none => none
  | some l =>
    let ds := dstsOf ops
    let ms := masks ops []
    let n := ops.length
    let D := mkD ds ms n l 0
    let seg := segOf D 0 D
    let lv := levels D D 0
    bif chkD D && ordB (flat seg lv) && allBelow (idxs (flat seg lv)) n && levB [] lv && seg.all (fun x => !x.op.isE) then some ⟨n, ds, D, seg, lv⟩ else none

abbrev VT := Tr AV
def mkE (V : VT) : List (Nat × Option Nat) → Env → Env
  | [], e => e
  | (t, some u) :: r, e => mkE V r (e.set t (some (Env.at V u)))
  | (_, none) :: r, e => mkE V r e
def outE (V : VT) : List DOp → Env → Env
  | [], e => e
  | x :: r, e => outE V r (putA e x.dst (Env.at V x.i))

/-- are two values surely one? -/
def sameO : Option (Nat × Nat) → Option (Nat × Nat) → Bool
  | none, none => true
  | some (a, b), some (c, d) => Nat.beq a c && Nat.beq b d
  | _, _ => false
def sameN : Option Nat → Option Nat → Bool
  | none, none => true
  | some a, some b => Nat.beq a b
  | _, _ => false
mutual
def same : AV → AV → Bool
  | .i k n, .i k' m => decide (k = k') && decide (n = m)
  | .b x, .b y => decide (x = y)
  | .s l, .s m => decide (l = m)
  | .p a, .p b => sameO a b
  | .sl a n c e, .sl b m d f => sameO a b && Nat.beq n m && sameN c d && Nat.beq e f
  | .m a, .m b => sameN a b
  | .f fn x y, .f gn z u => decide (fn = gn) && sames x z && sames y u
  | .nf, .nf => true
  | .ni, .ni => true
  | .ifc t x, .ifc u y => Nat.beq t u && same x y
  | .g l, .g m => sames l m
  | .t l, .t m => sames l m
  | _, _ => false
def sames : List AV → List AV → Bool
  | [], [] => true
  | a :: l, b :: m => same a b && sames l m
  | _, _ => false
end
def sameObj : AObj → AObj → Bool
  | .row false a, .row false b => sames a b
  | .map [] c, .map [] d => Nat.beq c d
  | .sit s p, .sit t q => decide (s = t) && Nat.beq p q
  | _, _ => false

def evSeg (S : Sums) (ds : List (Option Tmp)) (T : Env) (base : Nat) : List DOp → VT → AH → Option (VT × AH)
  | [], V, h => some (V, h)
  | x :: r, V, h =>
    let e := mkE V x.src T
    bif wantedA ds e x.g then
      (match x.op with
      | .P o => match pevS S e o with
        | some v => evSeg S ds T base r (V.set x.i (some v)) h
        | none => none
      | .R o => match revS S e h o with
        | some v => evSeg S ds T base r (V.set x.i (some v)) h
        | none => none
      | .A o => match aevS S e (Nat.add base x.i) o with
        | some (v, ob) => evSeg S ds T base r (V.set x.i (some v)) { h with objs := h.objs.set (Nat.add base x.i) (some ob), tys := h.tys.set (Nat.add base x.i) (aty o) }
        | none => none
      | .E _ => none)
    else evSeg S ds T base r (V.set x.i (some undefA)) h
def leT : Option Nat → Option Nat → Bool
  | none, _ => true
  | some a, some b => Nat.beq a b
  | some _, none => false
/-- does what was read still read so, and lie there what was made? -/
def stays (S : Sums) (ds : List (Option Tmp)) (T : Env) (base : Nat) (V : VT) (h : AH) (x : DOp) : Bool :=
  let e := mkE V x.src T
  !(wantedA ds e x.g) ||
  (match x.op with
  | .P _ => true
  | .R o => match revS S e h o with
    | some v => same v (Env.at V x.i)
    | none => false
  | .A o => match aevS S e (Nat.add base x.i) o, h.objs.get (Nat.add base x.i) with
    | some (_, ob), some ob' => sameObj ob ob' && leT (h.tys.get (Nat.add base x.i)) (aty o)
    | _, _ => false
  | .E _ => false)

/-- All outcomes of all outcomes. -/
def bindA {α β : Type} (f : α → Option (List β)) : List α → Option (List β)
  | [] => some []
  | a :: r => match f a with
    | some l => (match bindA f r with
      | some q => some (l ++ q)
      | none => none)
    | none => none
abbrev Out3 := List (AExit × Env × AH)

mutual
/-- are two abstract values one? -/
def like : AV → AV → Bool
  | .r k a b, .r k' c d => decide (k = k') && decide (a = c) && decide (b = d)
  | .any, .any => true
  | .u a b, .u c d => Nat.beq a c && Nat.beq b d
  | .x n, .x m => Nat.beq n m
  | .y a n, .y b m => Nat.beq a b && Nat.beq n m
  | .g l, .g m => likes l m
  | .t l, .t m => likes l m
  | a, b => same a b
def likes : List AV → List AV → Bool
  | [], [] => true
  | a :: l, b :: m => like a b && likes l m
  | _, _ => false
end
def sameEs : List (AV × AV × Nat) → List (AV × AV × Nat) → Bool
  | [], [] => true
  | (a, b, n) :: l, (c, d, m) :: q => like a c && like b d && Nat.beq n m && sameEs l q
  | _, _ => false
def sameAny : AObj → AObj → Bool
  | .row false a, .row false b => likes a b
  | .row true a, .row true b => likes a b
  | .cust a n, .cust b m => (a == b) && Nat.beq n m
  | .map a c, .map b d => Nat.beq c d && sameEs a b
  | .sit s p, .sit t q => decide (s = t) && Nat.beq p q
  | _, _ => false
def mergeT : Tr AObj → Tr AObj → Tr AObj
  | .node v l r, .node v' l' r' => .node (match v, v' with
    | some a, some b => bif sameAny a b then some a else none
    | _, _ => none) (mergeT l l') (mergeT r r')
  | _, _ => .nil
def mergeN : Tr Nat → Tr Nat → Tr Nat
  | .node v l r, .node v' l' r' => .node (match v, v' with
    | some a, some b => bif Nat.beq a b then some a else none
    | _, _ => none) (mergeN l l') (mergeN r r')
  | _, _ => .nil
def mergeH (h k : AH) : AH := { objs := mergeT h.objs k.objs, next := bif Nat.ble h.next k.next then k.next else h.next, tys := mergeN h.tys k.tys }
/-- One answer for many: the values are one; of the objects what all agree on. -/
def mergeAll : List (AV × AH) → Option (AV × AH)
  | [] => none
  | [p] => some p
  | (v, h) :: r => match mergeAll r with
    | some (u, k) => bif like v u then some (v, mergeH h k) else none
    | none => none

mutual
def evC (P : Program) (S : Sums) : Nat → Code → Env → AH → Option Out3
  | 0, _, _, _ => none
  | n + 1, c, e, h =>
    match c with
    | .skip => some [(.norm, e, h)]
    | .label _ => some [(.norm, e, h)]
    | .ret => some [(.ret, e, h)]
    | .exit id => some [(.exit id, e, h)]
    | .goto l => some [(.goto l, e, h)]
    | .seq a b => match evC P S n a e h with
      | some l => bindA (fun (p : AExit × Env × AH) => match p with
        | (.norm, e, h) => evC P S n b e h
        | q => some [q]) l
      | none => none
    | .cond c a b => match cx P c with
      | some c => match c.ev e with
        | .b true => evC P S n a e h
        | .b false => evC P S n b e h
        | _ => none
      | none => none
    | .block id b => match evC P S n b e h with
      | some l => some (l.map fun (p : AExit × Env × AH) => match p with
        | (.exit id', e, h) => bif Nat.beq id' id then (.norm, e, h) else (.exit id', e, h)
        | q => q)
      | none => none
    | .loop b => match evC P S n b e h with
      | some l => bindA (fun (p : AExit × Env × AH) => match p with
        | (.norm, e, h) => evC P S n (.loop b) e h
        | q => some [q]) l
      | none => none
    | .scope b => evS P S n b b e h
    | .region _ ops false => match compOps P ops.toList with
      | some l => evR P S n (dstsOf ops.toList) l e h
      | none => none
    | .region _ ops true => match compD P ops.toList with
      | some d => match evL P S n d.ds e h.next d.seg d.lv [] .nil { h with next := Nat.add h.next d.n } with
        | some (V, h) => some [(.norm, outE V d.D e, h)]
        | none => none
      | none => none
    | _ => none
def evS (P : Program) (S : Sums) : Nat → Code → Code → Env → AH → Option Out3
  | 0, _, _, _, _ => none
  | n + 1, body, c, e, h => match evC P S n c e h with
    | some l => bindA (fun (p : AExit × Env × AH) => match p with
      | (.goto g, e, h) => (match findLabel body g with
        | some rest => evS P S n body rest e h
        | none => some [(.goto g, e, h)])
      | q => some [q]) l
    | none => none
def evE (P : Program) (S : Sums) : Nat → EO → Env → AH → Option (AV × AH)
  | 0, _, _, _ => none
  | n + 1, .call f xs, e, h => match f.ev e with
    | .f (.func f) a b => evF P S n f (a ++ evAll e xs ++ b) h
    | _ => none
  | _ + 1, o, e, h => eevS S e h o
def evR (P : Program) (S : Sums) : Nat → List (Option Tmp) → List (Option (Nat × Bool) × Option Tmp × AOp) → Env → AH → Option Out3
  | 0, _, _, _, _ => none
  | _ + 1, _, [], e, h => some [(.norm, e, h)]
  | n + 1, ds, (g, d, o) :: r, e, h =>
    bif wantedA ds e g then
      (match o with
      | .P o => match pevS S e o with
        | some v => evR P S n ds r (putA e d v) h
        | none => none
      | .R o => match revS S e h o with
        | some v => evR P S n ds r (putA e d v) h
        | none => none
      | .A o => match aevS S e h.next o with
        | some (v, ob) => evR P S n ds r (putA e d v) (h.add ob (aty o))
        | none => none
      | .E (.nextm x) => match nextmA h (x.ev e) with
        | some l => bindA (fun (p : AV × AH) => evR P S n ds r (putA e d p.1) p.2) l
        | none => none
      | .E o => match evE P S n o e h with
        | some (v, h) => evR P S n ds r (putA e d v) h
        | none => none)
    else evR P S n ds r (putA e d undefA) h
def evL (P : Program) (S : Sums) : Nat → List (Option Tmp) → Env → Nat → List DOp → List (DOp × List DOp) → List DOp → VT → AH → Option (VT × AH)
  | 0, _, _, _, _, _, _, _, _ => none
  | n + 1, ds, T, base, seg, rest, watch, V, h =>
    match evSeg S ds T base seg V h with
    | none => none
    | some (V, h) =>
      let watch := watch ++ seg
      bif watch.all (stays S ds T base V h) then
        (match rest with
        | [] => some (V, h)
        | (x, seg') :: rest' =>
          let e := mkE V x.src T
          let watch' := watch.filter fun y => !(Nat.testBit x.mask y.i)
          bif wantedA ds e x.g then
            (match x.op with
            | .E o => match evE P S n o e h with
              | some (v, h) => evL P S n ds T base seg' rest' watch' (V.set x.i (some v)) h
              | none => none
            | _ => none)
          else evL P S n ds T base seg' rest' watch' (V.set x.i (some undefA)) h)
      else none
def evF (P : Program) (S : Sums) : Nat → FuncId → List AV → AH → Option (AV × AH)
  | 0, _, _, _ => none
  | n + 1, f, args, h =>
    match natA S f args h with
    | some r => some r
    | none => match P.funcs[f]? with
      | some fn => match fn.body with
        | some c => match evC P S n c (envOf args 0 .nil) h with
          | some l => match bindA (fun (p : AExit × Env × AH) => match p with
              | (.norm, e, h) | (.ret, e, h) => (match resA P h e fn.results.toList with
                | some l => some [(resV l, h)]
                | none => none)
              | _ => none) l with
            | some q => mergeAll q
            | none => none
          | none => none
        | none => none
      | none => none
end

end Ab
end Go.Proofs.YtcoobajkgioflaaGreatDoor
