/- The abstract machine 'Pi': Go code run over plain values: a slice is the list of what it holds; a variable in memory lies in a list of objects. Whatever it can't do it answers by 'fail'. -/
import Derived.Tactics
import Derived.Laws.Sem
import Derived.Deep.Quiet
import Derived.StillTail
set_option linter.unusedVariables false
namespace Go.Pi

inductive PVal where
  | int (k : IntKind) (n : Int)
  | bool (b : Bool)
  | str (s : List UInt8)
  | nilp
  | nili
  | nilf
  | sl (sz : Nat) (xs : List PVal)
  | agg (cs : List PVal)
  | tup (xs : List PVal)
  | ref (x : PVal)
  | loc (id off : Nat)
  | fn (f : Fn) (first captured : List PVal)
  | ifc (t : TypeId) (x : PVal)
  | junk
  deriving Inhabited

/-- One level of a type, as far as it is looked at. -/
inductive TD where
  | bool | int (k : IntKind) | str | slice (e : TypeId) | ptr (e : TypeId) | struct (fs : List (Nat × TypeId)) | arr (n : Nat) (e : TypeId) | iface | func | other
  deriving Inhabited

structure TI where
  d : TD
  size : Nat
  bytes : Nat
  zero : List PVal
  deriving Inhabited

def TD.isAgg : TD → Bool
  | .struct _ => true
  | .arr _ _ => true
  | _ => false

def TD.isInt : TD → Bool
  | .int _ => true
  | _ => false

structure Ob where
  t : TypeId
  cells : List PVal
  own : List Bool
  deriving Inhabited

/-- Whose value a slot holds besides: a variable's, from which it was moved; a cell's, out of which it was loaded. -/
inductive Home where
  | slot (t : Nat) | cell (id off : Nat)
  deriving Inhabited, DecidableEq

/-- The slots, which of them hold a slice's right to grow in place (a tuple: each part), the variables in memory. -/
structure St where
  v : List PVal
  o : List (List Bool)
  h : List Ob
  al : List (Option Home)
  deriving Inhabited

inductive Ex where
  | nrm | ext (id : Nat) | gto (l : Nat) | ret
  deriving Inhabited

/-- A call's answer: the value, the rights of its parts, the variables in memory behind it. -/
structure CR where
  v : PVal
  o : List Bool
  h : List Ob
  deriving Inhabited

inductive Tree (α : Type) where
  | ret (a : α)
  | fail
  | ite (c : Bool) (t e : Tree α)

namespace Tree
variable {α β : Type}
def bind : Tree α → (α → Tree β) → Tree β
  | ret a, f => f a
  | fail, _ => fail
  | ite c t e, f => ite c (t.bind f) (e.bind f)
def run : Tree α → Option α
  | ret a => some a
  | fail => none
  | ite c t e => bif c then t.run else e.run
/-- Only if. -/
def need (c : Bool) (t : Tree α) : Tree α := ite c t fail
end Tree

structure Env where
  T : TypeId → Option TI
  glob : Nat → Option PVal
  eqt : TypeId → Bool
  ext : FuncId → Option (List PVal → Option PVal)
  call : FuncId → List PVal → List Ob → Tree CR
  lp : Code → St → Tree (Ex × St)
  sc : Code → St → Tree (Ex × St)

def St.get (s : St) (t : Nat) : PVal := s.v.getD t .junk
def St.own (s : St) (t : Nat) : Bool := (s.o.getD t []).getD 0 false
def clr (d : Nat) : Option Home → Option Home
  | some (.slot x) => if x = d then none else some (.slot x)
  | e => e
def noCell : Option Home → Option Home
  | some (.cell _ _) => none
  | e => e
def St.put (s : St) (d : Option Tmp) (x : PVal) (o : List Bool := []) (al : Option Home := none) : St :=
  match d with
  | some d => { s with v := s.v.set d x, o := s.o.set d o, al := (s.al.map (clr d)).set d (clr d al) }
  | none => s
def St.unown (s : St) (t : Nat) : St := { s with o := s.o.set t [] }

def PVal.cells : PVal → List PVal
  | .agg cs => cs
  | x => [x]

/-- Is it one cell, of a kind that is known? -/
def PVal.one : PVal → Bool
  | .junk => false
  | .tup _ => false
  | .agg _ => false
  | _ => true

/-- May it lie in memory? -/
def PVal.lies : PVal → Bool
  | .agg cs => cs.all PVal.one
  | x => x.one

/-- Does it lead to no variable in memory? -/
def noLoc : Nat → PVal → Bool
  | 0, _ => false
  | _ + 1, .loc _ _ => false
  | n + 1, .agg cs => cs.all (noLoc n)
  | n + 1, .tup cs => cs.all (noLoc n)
  | n + 1, .fn _ a b => a.all (noLoc n) && b.all (noLoc n)
  | n + 1, .ifc _ x => noLoc n x
  | _ + 1, _ => true

def isU8 : PVal → Bool
  | .int .u8 _ => true
  | _ => false

def ofConst : Value → PVal
  | .int k n => .int k n
  | .bool b => .bool b
  | .string s => .str s.data.toList
  | .pointer none => .nilp
  | .nilIface => .nili
  | .nilFunc => .nilf
  | .slice none 0 0 => .sl 0 []
  | _ => .junk

/-- An operand's value. A package-level variable that is a table: what it holds. -/
def ev (E : Env) (s : St) : Operand → PVal
  | .tmp t => s.get t
  | .const v => ofConst v
  | .global g => match E.glob g with | some x => .ref x | none => .junk
  | .func f => .fn (.func f) [] []

def evOwn (s : St) : Operand → List Bool
  | .tmp t => s.o.getD t []
  | .const (.slice none 0 0) => [true]
  | _ => []

/-- What is moved leaves its right behind. -/
def takeOwn (s : St) : Operand → St
  | .tmp t => s.unown t
  | _ => s

def bitsI (op : BinOp) (k : IntKind) (x y : Int) : Int :=
  let a := BitVec.ofInt k.bits x
  let b := BitVec.ofInt k.bits y
  k.wrap ((match op with | .and => a &&& b | .or => a ||| b | .xor => a ^^^ b | _ => a &&& ~~~b) : BitVec k.bits).toNat

def eqCell : PVal → PVal → Option Bool
  | .int _ a, .int _ b => some (a == b)
  | .bool a, .bool b => some (a == b)
  | .str a, .str b => some (a == b)
  | _, _ => none

def eqCells : List PVal → List PVal → Option Bool
  | [], [] => some true
  | a :: x, b :: y => match eqCell a b, eqCells x y with | some p, some q => some (p && q) | _, _ => none
  | _, _ => none

def ibin (op : BinOp) (k : IntKind) (a b : Int) : Tree PVal :=
  match op with
  | .add => .ret (.int k (k.wrap (a + b)))
  | .sub => .ret (.int k (k.wrap (a - b)))
  | .mul => .ret (.int k (k.wrap (a * b)))
  | .quo => .ite (b == 0) .fail (.ret (.int k (k.wrap (a.tdiv b))))
  | .rem => .ite (b == 0) .fail (.ret (.int k (a.tmod b)))
  | .and => .ret (.int k (bitsI .and k a b))
  | .or => .ret (.int k (bitsI .or k a b))
  | .xor => .ret (.int k (bitsI .xor k a b))
  | .andNot => .ret (.int k (bitsI .andNot k a b))
  | .eql => .ret (.bool (a == b))
  | .neq => .ret (.bool (a != b))
  | .lss => .ret (.bool (decide (a < b)))
  | .leq => .ret (.bool (decide (a ≤ b)))
  | .gtr => .ret (.bool (decide (a > b)))
  | .geq => .ret (.bool (decide (a ≥ b)))
  | _ => .fail

def sbin (op : BinOp) (a b : List UInt8) : Tree PVal :=
  match op with
  | .add => .need (decide (a.length + b.length ≤ 9223372036854775807)) (.ret (.str (a ++ b)))
  | .eql => .ret (.bool (a == b))
  | .neq => .ret (.bool (!(a == b)))
  | .lss => .ret (.bool (Op.bytesLess a b))
  | .leq => .ret (.bool (Op.bytesLess a b || a == b))
  | .gtr => .ret (.bool (!(Op.bytesLess a b || a == b)))
  | .geq => .ret (.bool (!(Op.bytesLess a b)))
  | _ => .fail

/-- A cell of a known kind, said so that the kind is seen. -/
def intOf : PVal → Int | .int _ n => n | _ => 0
def boolOf : PVal → Bool | .bool b => b | _ => false
def strOf : PVal → List UInt8 | .str s => s | _ => []
def fitC : PVal → PVal → Bool
  | .int k _, .int k' _ => k == k'
  | .int _ _, _ => false
  | .bool _, .bool _ => true
  | .bool _, _ => false
  | .str _, .str _ => true
  | .str _, _ => false
  | _, _ => true
def viewC : PVal → PVal → PVal
  | .int k _, x => .int k (intOf x)
  | .bool _, x => .bool (boolOf x)
  | .str _, x => .str (strOf x)
  | _, x => x
def fitL : List PVal → List PVal → Bool
  | [], [] => true
  | z :: zs, x :: xs => fitC z x && fitL zs xs
  | _, _ => false
def viewL : List PVal → List PVal → List PVal
  | [], _ => []
  | z :: zs, xs => viewC z (xs.headD .junk) :: viewL zs xs.tail
/-- 'r': what '==' says. -/
def eqOut (op : BinOp) (r : Bool) : Tree PVal :=
  match op with
  | .eql => .ret (.bool r)
  | .neq => .ret (.bool (!r))
  | _ => .fail

def isIface (T : TypeId → Option TI) (t : TypeId) : Bool := match T t with | some { d := .iface, .. } => true | _ => false
def isPtr (T : TypeId → Option TI) (t : TypeId) : Bool := match T t with | some { d := .ptr _, .. } => true | _ => false
def isBool (T : TypeId → Option TI) (t : TypeId) : Bool := match T t with | some { d := .bool, .. } => true | _ => false

/-- 'x op y'. 'cst': is one of them a constant? 'eqt': may values of this type be held against each other cell by cell? -/
def bin (T : TypeId → Option TI) (eqt : TypeId → Bool) (t : TypeId) (cst : Bool) (op : BinOp) (x y : PVal) : Tree PVal :=
  match x, y with
  | .int k a, .int k' b =>
    match op with
    | .shl => .ite (decide (b < 0)) .fail (.ret (.int k (k.wrap (a * 2 ^ min b.toNat k.bits))))
    | .shr => .ite (decide (b < 0)) .fail (.ret (.int k (a.fdiv (2 ^ min b.toNat k.bits))))
    | op => if k = k' then ibin op k a b else .fail
  | .bool a, .bool b => if isBool T t then eqOut op (a == b) else .fail
  | .str a, .str b => sbin op a b
  | .agg a, .agg b =>
    if eqt t then
      match T t with
      | some i => if fitL i.zero a && fitL i.zero b then (match eqCells a b with | some r => eqOut op r | none => .fail) else .fail
      | none => .fail
    else .fail
  | .nili, .nili => if isIface T t && cst then eqOut op true else .fail
  | .ifc _ _, .nili => if isIface T t then eqOut op false else .fail
  | .nili, .ifc _ _ => if isIface T t then eqOut op false else .fail
  | .nilp, .nilp => if isPtr T t then eqOut op true else .fail
  | .loc _ _, .nilp => if isPtr T t then eqOut op false else .fail
  | .nilp, .loc _ _ => if isPtr T t then eqOut op false else .fail
  | _, _ => .fail

def un (op : UnOp) (x : PVal) : Tree PVal :=
  match op, x with
  | .neg, .int k n => .ret (.int k (k.wrap (0 - n)))
  | .xor, .int k n => .ret (.int k (bitsI .xor k (if k.signed then -1 else k.max) n))
  | .not, .bool b => .ret (.bool (!b))
  | _, _ => .fail

def byteOf : PVal → UInt8
  | .int _ n => UInt8.ofNat n.toNat
  | _ => 0

def isBytes (T : TypeId → Option TI) (t : TypeId) : Bool :=
  match T t with
  | some { d := .slice e, .. } => (match T e with | some { d := .int .u8, .. } => true | _ => false)
  | _ => false

/-- A part of an aggregate. -/
def part (T : TypeId → Option TI) (t : TypeId) (cs : List PVal) (off : Nat) : Tree PVal :=
  match T t with
  | some i => if i.d.isAgg then (if off + i.size ≤ cs.length then .ret (.agg ((cs.drop off).take i.size)) else .fail) else if off < cs.length then .ret (cs.getD off .junk) else .fail
  | none => .fail

def conv (T : TypeId → Option TI) (src dst : TypeId) (x : PVal) : Tree PVal :=
  match T src, T dst, x with
  | some _, some { d := .int k, .. }, .int _ n => .ret (.int k (k.wrap n))
  | some _, some { d := .str, .. }, .str s => .ret (.str s)
  | some _, some { d := .str, .. }, .sl _ xs => if isBytes T src then .need (xs.all isU8) (.ret (.str (xs.map byteOf))) else .fail
  | _, _, _ => .fail

/-- An element of a slice, said so that its kind is seen. -/
def fitT (i : TI) (x : PVal) : Bool := if i.d.isAgg then (match x with | .agg cs => fitL i.zero cs | _ => false) else fitC (i.zero.headD .junk) x
def fitAll (T : TypeId → Option TI) (e : TypeId) (xs : List PVal) : Bool := match T e with | some i => xs.all (fitT i) | none => false
def viewT (i : TI) (x : PVal) : PVal := if i.d.isAgg then .agg (viewL i.zero x.cells) else viewC (i.zero.headD .junk) x

def fillP (place : Nat → Option (Nat × Nat)) (cells : List PVal) : List (Nat × PVal) → Option (List PVal)
  | [] => some cells
  | (i, v) :: rest =>
    match place i with
    | none => none
    | some (off, size) =>
      if !v.lies || v.cells.length ≠ size || off + v.cells.length > cells.length then none
      else fillP place (cells.take off ++ v.cells ++ cells.drop (off + v.cells.length)) rest

def sizesOf (T : TypeId → Option TI) : List (Nat × TypeId) → Option (List (Nat × Nat))
  | [] => some []
  | (o, t) :: r => match T t, sizesOf T r with | some i, some l => some ((o, i.size) :: l) | _, _ => none

def build (T : TypeId → Option TI) (t : TypeId) (parts : List (Nat × PVal)) : Tree PVal :=
  match T t with
  | some { d := .struct fs, zero, .. } =>
    match sizesOf T fs with
    | some pl => if zero.all PVal.one then (match fillP (pl[·]?) zero parts with | some cs => .ret (.agg cs) | none => .fail) else .fail
    | none => .fail
  | some { d := .arr _ e, zero, .. } =>
    match T e with
    | some i => if zero.all PVal.one then (match fillP (fun j => some (j * i.size, i.size)) zero parts with | some cs => .ret (.agg cs) | none => .fail) else .fail
    | none => .fail
  | _ => .fail

/-- A cell's list as so many elements. -/
def group (agg : Bool) (sz : Nat) : Nat → List PVal → List PVal
  | 0, _ => []
  | n + 1, cs => (if agg then .agg (cs.take sz) else cs.getD 0 .junk) :: group agg sz n (cs.drop sz)

def repl (n : Nat) (cs : List PVal) : List PVal := match n with | 0 => [] | n + 1 => cs ++ repl n cs

def buildSl (T : TypeId → Option TI) (t : TypeId) (len : Nat) (parts : List (Nat × PVal)) : Tree PVal :=
  match T t with
  | some { d := .slice e, .. } =>
    match T e with
    | some i =>
      if i.size = 0 || len * i.size > 16777216 || !(i.zero.all PVal.one) || !(i.zero.all (noLoc 4)) || !(parts.all fun x => noLoc 4 x.2) || !(i.d.isAgg || i.size == 1) then .fail else
      match fillP (fun j => some (j * i.size, i.size)) (repl len i.zero) parts with
      | some cs => .ret (.sl i.size (group i.d.isAgg i.size len cs))
      | none => .fail
    | none => .fail
  | _ => .fail

def optInt : Option PVal → Int → Option Int
  | none, d => some d
  | some (.int _ n), _ => some n
  | _, _ => none

/-- 'x[lo:hi:mx]' at type t. The Bool: has what comes out no room behind it? -/
def slice (T : TypeId → Option TI) (t : TypeId) (x : PVal) (lo hi mx : Option PVal) : Tree (PVal × Bool) :=
  match T t, x with
  | some { d := .str, .. }, .str s =>
    match mx, optInt lo 0, optInt hi s.length with
    | none, some l, some h => .need (decide (0 ≤ h) && decide (h ≤ s.length)) (.need (decide (0 ≤ l) && decide (l ≤ h)) (.ret (.str ((s.take h.toNat).drop l.toNat), false)))
    | _, _, _ => .fail
  | some { d := .slice e, .. }, .sl sz xs =>
    match T e with
    | some ti =>
      if ti.size = sz then
        match optInt lo 0, optInt hi xs.length, mx with
        | some l, some h, none => .need (decide (0 ≤ h) && decide (h ≤ xs.length)) (.need (decide (0 ≤ l) && decide (l ≤ h)) (.ret (.sl sz ((xs.take h.toNat).drop l.toNat), false)))
        | some l, some h, some (.int _ m) =>
          if hi.isSome then .need (decide (m ≤ xs.length) && decide (m = h)) (.need (decide (0 ≤ h) && decide (h ≤ xs.length)) (.need (decide (0 ≤ l) && decide (l ≤ h)) (.ret (.sl sz ((xs.take h.toNat).drop l.toNat), true)))) else .fail
        | _, _, _ => .fail
      else .fail
    | none => .fail
  | _, _ => .fail

/-- The cells of an object from a place on. -/
def loadH (T : TypeId → Option TI) (t : TypeId) (h : List Ob) (id off : Nat) : Tree PVal :=
  match T t, h[id]? with
  | some i, some ob => if off + i.size ≤ ob.cells.length then part T t ob.cells off else .fail
  | _, _ => .fail

def loadP (T : TypeId → Option TI) (t : TypeId) (h : List Ob) (a : PVal) : Tree PVal :=
  match a with
  | .ref x => match T t with
    | some i => if i.d.isAgg then (match x with | .agg cs => if cs.length = i.size then .ret (.agg cs) else .fail | _ => .fail) else (if x.one then .ret x else .fail)
    | none => .fail
  | .loc id off => loadH T t h id off
  | _ => .fail

/-- The place of a part of what is never written again. -/
def refPart (T : TypeId → Option TI) (t : TypeId) (cs : List PVal) (off : Nat) : Tree PVal :=
  (part T t cs off).bind fun p => match T t with
    | some i => if i.d.isAgg || p.one then .ret (.ref p) else .fail
    | none => .fail

/-- A right is a slice's. -/
def ownIf (x : PVal) (o : List Bool) : List Bool :=
  match x with
  | .sl _ _ => o
  | _ => []

def setCells (cs : List PVal) (off : Nat) (new : List PVal) : List PVal := cs.take off ++ new ++ cs.drop (off + new.length)
def setOwn (n off m : Nat) (o new : List Bool) : List Bool := (List.range n).map fun j => if off ≤ j && j < off + m then new.getD (j - off) false else o.getD j false

def storeP (T : TypeId → Option TI) (t : TypeId) (s : St) (a x : PVal) (o : List Bool) : Tree St :=
  match a, T t with
  | .loc id off, some i =>
    match s.h[id]? with
    | some ob =>
      if x.lies && x.cells.length = i.size && off + i.size ≤ ob.cells.length then
        .ret { s with h := s.h.set id { ob with cells := setCells ob.cells off x.cells, own := setOwn ob.cells.length off i.size ob.own (ownIf x o) }, al := s.al.map noCell }
      else .fail
    | none => .fail
  | _, _ => .fail

/-- Who holds the right of the slice in slot t: the slot itself; the variable that it was moved from; a cell that it was loaded from. -/
def home (t : Nat) (s : St) : Option Home :=
  if s.own t then some (.slot t) else
  match s.al.getD t none with
  | some (.slot x) => if s.own x then some (.slot x) else none
  | some (.cell id off) => match s.h[id]? with | some ob => if ob.own.getD off false then some (.cell id off) else none | none => none
  | none => none

def clearHome (s : St) : Home → St
  | .slot t => s.unown t
  | .cell id off => match s.h[id]? with
    | some ob => { s with h := s.h.set id { ob with own := ob.own.set off false } }
    | none => s

/-- 'append(x, y...)' at the arguments' types. -/
def appendP (T : TypeId → Option TI) (ts : List TypeId) (x y : PVal) : Tree PVal :=
  match ts with
  | [t, t2] =>
    match T t, T t2, x with
    | some { d := .slice e, .. }, some i2, .sl sz xs =>
      match T e with
      | some i =>
        if i.size = 0 || !(sz == i.size || (sz == 0 && xs.isEmpty)) || i2.d.isInt then .fail else
        match y with
        | .sl sz2 ys =>
          if sz2 == i.size || ys.isEmpty then
            .need (decide ((xs.length + ys.length) * i.bytes ≤ 140737488355328) && decide (xs.length + ys.length ≤ 9223372036854775807)) (.ret (.sl i.size (xs ++ ys)))
          else .fail
        | .str ys =>
          if isBytes T t && i.size == 1 then
            .need (decide ((xs.length + ys.length) * i.bytes ≤ 140737488355328) && decide (xs.length + ys.length ≤ 9223372036854775807)) (.ret (.sl 1 (xs ++ ys.map fun b => .int .u8 b.toNat)))
          else .fail
        | _ => .fail
      | none => .fail
    | _, _, _ => .fail
  | _ => .fail

def rts : Bool → List Bool
  | true => [true]
  | false => []

/-- Out of which cell a slice was loaded. -/
def cellAl : PVal → PVal → Option Home
  | .loc id off, .sl _ _ => some (.cell id off)
  | _, _ => none

/-- From which slot a value was moved. -/
def slotAl : Operand → PVal → Option Home
  | .tmp t, .sl _ _ => some (.slot t)
  | _, _ => none

/-- What a call finds: its arguments. What it leaves: its answer. -/
def argSt (args : List PVal) (h : List Ob) : St := { v := args, o := args.map fun _ => [], h, al := args.map fun _ => none }
def resSt (r : CR) : St := { v := [r.v], o := [r.o], h := r.h, al := [none] }

def evs (E : Env) (s : St) (l : List Operand) : List PVal := l.map (ev E s)

def isC : Operand → Bool | .const _ => true | _ => false

/-- What is assigned: a nil slice is one of its type's elements. -/
def nilSz (T : TypeId → Option TI) (t : TypeId) : Nat :=
  match T t with
  | some { d := .slice e, .. } => (match T e with | some i => i.size | none => 0)
  | _ => 0
def evA (E : Env) (ty : TypeId) (s : St) : Operand → PVal
  | .const (.slice none 0 0) => .sl (nilSz E.T ty) []
  | x => ev E s x

/-- An operation that only yields a value. -/
def valT (E : Env) (o : Oper) (s : St) : Tree PVal :=
  match o.op with
  | .pick c a b =>
    match ev E s c with
    | .bool c => .ite c (.ret (ev E s a)) (.ret (ev E s b))
    | _ => .fail
  | .build t parts => build E.T t (parts.toList.map fun (i, x) => (i, ev E s x))
  | .nilCheck x => match ev E s x with
    | .loc id off => .ret (.loc id off)
    | .ref x => .ret (.ref x)
    | .fn (.func f) a b => .ret (.fn (.func f) a b)
    | _ => .fail
  | .binOp op t x y _ => bin E.T E.eqt t (isC x || isC y) op (ev E s x) (ev E s y)
  | .unOp op _ x => un op (ev E s x)
  | .convert a b x => conv E.T a b (ev E s x)
  | .fieldAddr t x f =>
    match E.T t with
    | some { d := .struct fs, .. } =>
      match fs[f]? with
      | some (fo, ft) =>
        match E.T ft, ev E s x with
        | some fi, .loc id off => if fi.size = 0 then .fail else .ret (.loc id (off + fo))
        | some fi, .ref (.agg cs) => if fi.size = 0 then .fail else refPart E.T ft cs fo
        | _, _ => .fail
      | none => .fail
    | _ => .fail
  | .field t x f =>
    match E.T t, ev E s x with
    | some { d := .struct fs, .. }, .agg cs => (match fs[f]? with | some fp => part E.T fp.2 cs fp.1 | none => .fail)
    | _, _ => .fail
  | .indexAddr t x ix =>
    match E.T t, ev E s x, ev E s ix with
    | some { d := .slice e, .. }, .sl sz xs, .int _ n =>
      (match E.T e with
      | some ti => if ti.size = sz then .need (decide (0 ≤ n) && decide (n < xs.length)) (.need (fitAll E.T e xs) (.ret (.ref (viewT ti (xs.getD n.toNat .junk))))) else .fail
      | none => .fail)
    | some { d := .arr len e, .. }, .loc id off, .int _ n => (match E.T e with | some ti => .need (decide (0 ≤ n) && decide (n < len)) (.ret (.loc id (off + n.toNat * ti.size))) | none => .fail)
    | some { d := .arr len e, .. }, .ref (.agg cs), .int _ n => (match E.T e with | some ti => .need (decide (0 ≤ n) && decide (n < len)) (refPart E.T e cs (n.toNat * ti.size)) | none => .fail)
    | _, _, _ => .fail
  | .index t x ix =>
    match E.T t, ev E s x, ev E s ix with
    | some { d := .str, .. }, .str b, .int _ n => .need (decide (0 ≤ n) && decide (n < b.length)) (.ret (.int .u8 (b.getD n.toNat 0).toNat))
    | some { d := .arr len e, .. }, .agg cs, .int _ n => (match E.T e with | some ti => .need (decide (0 ≤ n) && decide (n < len)) (part E.T e cs (n.toNat * ti.size)) | none => .fail)
    | _, _, _ => .fail
  | .makeFunc f a b => .ret (.fn f (evs E s a.toList) (evs E s b.toList))
  | .call c =>
    match c.callee with
    | .builtin b =>
      match b, c.args.toList with
      | .len, [x] => (match (c.argTypes.toList[0]?).bind E.T, ev E s x with
        | some { d := .str, .. }, .str a => .ret (.int .i64 a.length)
        | some { d := .slice _, .. }, .sl _ xs => .ret (.int .i64 xs.length)
        | _, _ => .fail)
      | .max, [x, y] => (match ev E s x, ev E s y with | .int k a, .int _ b => .ret (.int k (if b > a then b else a)) | _, _ => .fail)
      | .min, [x, y] => (match ev E s x, ev E s y with | .int k a, .int _ b => .ret (.int k (if b < a then b else a)) | _, _ => .fail)
      | _, _ => .fail
    | _ => .fail
  | _ => .fail

/-- One operation. -/
def opT (E : Env) (ops : List Oper) (i : Nat) (o : Oper) (s : St) : Tree St :=
  match o.op with
  | .move x => .ret (s.put o.dst (ev E s x) [] (slotAl x (ev E s x)))
  | .assign x => .ret ((takeOwn s x).put o.dst (evA E o.type s x) (evOwn s x))
  | .alloc t => match E.T t with
    | some ti => .ret { s.put o.dst (.loc s.h.length 0) with h := s.h ++ [{ t, cells := ti.zero, own := ti.zero.map fun | .sl _ _ => true | _ => false }] }
    | none => .fail
  | .box t x => match E.T t with
    | some ti => if (ev E s x).lies && (ev E s x).cells.length = ti.size then .ret { (takeOwn s x).put o.dst (.loc s.h.length 0) with h := s.h ++ [{ t, cells := (ev E s x).cells, own := ownIf (ev E s x) (evOwn s x) }] } else .fail
    | none => .fail
  | .buildSlice t len parts => (buildSl E.T t len (parts.toList.map fun (i, x) => (i, ev E s x))).bind fun x => .ret (s.put o.dst x [true])
  | .load t a => (loadP E.T t s.h (ev E s a)).bind fun x => .ret (s.put o.dst x [] (cellAl (ev E s a) x))
  | .store t a x => (storeP E.T t (takeOwn s x) (ev E s a) (ev E s x) (evOwn s x)).bind fun s => .ret (s.put o.dst .junk)
  | .slice t x lo hi mx => (slice E.T t (ev E s x) (lo.map (ev E s)) (hi.map (ev E s)) (mx.map (ev E s))).bind fun (x, e) => .ret (s.put o.dst x (rts e))
  | .extract x j =>
    match x, ev E s x with
    | .tmp t, .tup xs => if j < xs.length then (match xs.getD j .junk with
      | .sl sz ys => .ret ({ s with o := s.o.set t ((s.o.getD t []).set j false) }.put o.dst (.sl sz ys) [(s.o.getD t []).getD j false])
      | x => .ret (s.put o.dst x)) else .fail
    | _, _ => .fail
  | .call c =>
    match c.callee with
    | .value f =>
      match ev E s f with
      | .fn (.func g) first captured =>
        match E.ext g with
        | some f => (match f (first ++ evs E s c.args.toList ++ captured) with | some x => .ret (s.put o.dst x) | none => .fail)
        | none =>
          if (first ++ evs E s c.args.toList ++ captured).all (noLoc 4) then (E.call g (first ++ evs E s c.args.toList ++ captured) []).bind fun r => if r.h.isEmpty then .ret (s.put o.dst r.v r.o) else .fail
          else (E.call g (first ++ evs E s c.args.toList ++ captured) s.h).bind fun r => .ret ({ s with h := r.h, al := s.al.map noCell }.put o.dst r.v r.o)
      | _ => .fail
    | .invoke _ _ => .fail
    | .builtin .append =>
      match c.args.toList with
      | [.tmp x, y] =>
        (match home x s with
          | some hm => (appendP E.T c.argTypes.toList (s.get x) (ev E s y)).bind fun r => .ret ((clearHome s hm).put o.dst r [true])
          | none => .fail)
      | [.const (.slice none 0 0), y] => (appendP E.T c.argTypes.toList (.sl 0 []) (ev E s y)).bind fun r => .ret (s.put o.dst r [true])
      | _ => .fail
    | _ => (valT E o s).bind fun x => .ret (s.put o.dst x)
  | _ => (valT E o s).bind fun x => .ret (s.put o.dst x)

/-- Is there only one value of which it is said? -/
def scal : PVal → Bool
  | .int _ _ => true
  | .bool _ => true
  | .str _ => true
  | .nilp => true
  | .nili => true
  | .nilf => true
  | .loc _ _ => true
  | _ => false
def rigid : PVal → Bool
  | .agg cs => cs.all scal
  | .tup cs => cs.all scal
  | x => scal x

/-- An operation whose value is the same whenever it is carried out. -/
def opD (E : Env) (o : Oper) (s : St) : Tree PVal :=
  match o.op with
  | .move x => .ret (ev E s x)
  | .assign x => .ret (evA E o.type s x)
  | .load t a => loadP E.T t s.h (ev E s a)
  | .fieldAddr _ _ _ => valT E o s
  | .indexAddr _ _ _ => valT E o s
  | .slice t x lo hi mx => (slice E.T t (ev E s x) (lo.map (ev E s)) (hi.map (ev E s)) (mx.map (ev E s))).bind fun (x, _) => if rigid x then .ret x else .fail
  | .call c =>
    match c.callee with
    | .value f =>
      match ev E s f with
      | .fn (.func g) [] [] =>
        match E.ext g with
        | some _ => .fail
        | none => if (evs E s c.args.toList).all (noLoc 4) then (E.call g (evs E s c.args.toList) []).bind fun r => if rigid r.v && r.h.isEmpty then .ret r.v else .fail else .fail
      | _ => .fail
    | _ => (valT E o s).bind fun x => if rigid x then .ret x else .fail
  | _ => (valT E o s).bind fun x => if rigid x then .ret x else .fail

/-- Under its guard. A test that is not known parts the way; the slot then holds what is known. -/
def guardT (ops : List Oper) (o : Oper) (s : St) (k : St → Tree St) : Tree St :=
  match o.guard with
  | none => k s
  | some (g, b) =>
    match (ops[g]?).bind (·.dst) with
    | some t =>
      match s.get t with
      | .bool c =>
        let yes : St := { s with v := s.v.set t (.bool true) }
        let no : St := { s with v := s.v.set t (.bool false) }
        let skip (s : St) : Tree St := .ret (s.put o.dst (.tup []))
        if b then .ite c (k yes) (skip no) else .ite c (skip yes) (k no)
      | .tup [] => .ret (s.put o.dst (.tup []))
      | _ => .fail
    | none => .fail

/- A state, reckoned out (so that whoever reckons with it later need not do so again). -/
def forceN {β : Type} (n : Nat) (k : Nat → β) : β := match n with
  | 0 => k 0
  | n + 1 => k (Nat.succ n)
def forceB {β : Type} (b : Bool) (k : Bool → β) : β := match b with
  | true => k true
  | false => k false
def forceBs {β : Type} : List Bool → (List Bool → β) → β
  | [], k => k []
  | b :: l, k => forceB b fun b => forceBs l fun l => k (b :: l)
def forceC {β : Type} (x : PVal) (k : PVal → β) : β := match x with
  | .loc i o => forceN i fun i => forceN o fun o => k (.loc i o)
  | .sl sz xs => forceN sz fun sz => k (.sl sz xs)
  | x => k x
def forceCs {β : Type} : List PVal → (List PVal → β) → β
  | [], k => k []
  | x :: l, k => forceC x fun x => forceCs l fun l => k (x :: l)
def forceP {β : Type} (x : PVal) (k : PVal → β) : β := match x with
  | .loc i o => forceN i fun i => forceN o fun o => k (.loc i o)
  | .sl sz xs => forceN sz fun sz => k (.sl sz xs)
  | .agg cs => forceCs cs fun cs => k (.agg cs)
  | .tup cs => forceCs cs fun cs => k (.tup cs)
  | x => k x
def forcePs {β : Type} : List PVal → (List PVal → β) → β
  | [], k => k []
  | x :: l, k => forceP x fun x => forcePs l fun l => k (x :: l)
def forceOs {β : Type} : List (List Bool) → (List (List Bool) → β) → β
  | [], k => k []
  | x :: l, k => forceBs x fun x => forceOs l fun l => k (x :: l)
def forceA {β : Type} (a : Option Home) (k : Option Home → β) : β := match a with
  | none => k none
  | some (.slot t) => forceN t fun t => k (some (.slot t))
  | some (.cell i o) => forceN i fun i => forceN o fun o => k (some (.cell i o))
def forceAs {β : Type} : List (Option Home) → (List (Option Home) → β) → β
  | [], k => k []
  | x :: l, k => forceA x fun x => forceAs l fun l => k (x :: l)
def forceHs {β : Type} : List Ob → (List Ob → β) → β
  | [], k => k []
  | ob :: l, k => forceN ob.t fun t => forceCs ob.cells fun cells => forceBs ob.own fun own => forceHs l fun l => k (⟨t, cells, own⟩ :: l)
def forceSt {β : Type} (s : St) (k : St → β) : β := forcePs s.v fun v => forceOs s.o fun o => forceHs s.h fun h => forceAs s.al fun al => k ⟨v, o, h, al⟩

theorem forceN_eq {β : Type} (n : Nat) (k : Nat → β) : forceN n k = k n := by cases n <;> rfl
theorem forceB_eq {β : Type} (n : Bool) (k : Bool → β) : forceB n k = k n := by cases n <;> rfl
theorem forceBs_eq {β : Type} : ∀ (l : List Bool) (k : List Bool → β), forceBs l k = k l
  | [], k => rfl
  | b :: l, k => by rw [forceBs, forceB_eq, forceBs_eq l]
theorem forceC_eq {β : Type} (x : PVal) (k : PVal → β) : forceC x k = k x := by cases x <;> simp only [forceC, forceN_eq]
theorem forceCs_eq {β : Type} : ∀ (l : List PVal) (k : List PVal → β), forceCs l k = k l
  | [], k => rfl
  | b :: l, k => by rw [forceCs, forceC_eq, forceCs_eq l]
theorem forceP_eq {β : Type} (x : PVal) (k : PVal → β) : forceP x k = k x := by cases x <;> simp only [forceP, forceN_eq, forceCs_eq]
theorem forcePs_eq {β : Type} : ∀ (l : List PVal) (k : List PVal → β), forcePs l k = k l
  | [], k => rfl
  | b :: l, k => by rw [forcePs, forceP_eq, forcePs_eq l]
theorem forceOs_eq {β : Type} : ∀ (l : List (List Bool)) (k : List (List Bool) → β), forceOs l k = k l
  | [], k => rfl
  | b :: l, k => by rw [forceOs, forceBs_eq, forceOs_eq l]
theorem forceA_eq {β : Type} (a : Option Home) (k : Option Home → β) : forceA a k = k a := by
  cases a with
  | none => rfl
  | some h => cases h <;> simp only [forceA, forceN_eq]
theorem forceAs_eq {β : Type} : ∀ (l : List (Option Home)) (k : List (Option Home) → β), forceAs l k = k l
  | [], k => rfl
  | b :: l, k => by rw [forceAs, forceA_eq, forceAs_eq l]
theorem forceHs_eq {β : Type} : ∀ (l : List Ob) (k : List Ob → β), forceHs l k = k l
  | [], k => rfl
  | b :: l, k => by rw [forceHs, forceN_eq, forceCs_eq, forceBs_eq, forceHs_eq l]
theorem forceSt_eq {β : Type} (s : St) (k : St → β) : forceSt s k = k s := by rw [forceSt, forcePs_eq, forceOs_eq, forceHs_eq, forceAs_eq]

/-- The operations of a region that draws its order, one after the other. -/
def regD (E : Env) (ops : List Oper) : List Oper → St → Tree St
  | [], s => .ret s
  | o :: rest, s => (guardT ops o s fun s => (opD E o s).bind fun x => .ret (s.put o.dst x)).bind (fun s => forceSt s (regD E ops rest))

def opG (E : Env) (ops : List Oper) (i : Nat) (o : Oper) (s : St) : Tree St := guardT ops o s (opT E ops i o)

def regT (E : Env) (ops : List Oper) : Nat → List Oper → St → Tree St
  | _, [], s => .ret s
  | i, o :: rest, s => (opG E ops i o s).bind (fun s => forceSt s (regT E ops (i + 1) rest))

/-- An operation that leaves the world alone. -/
def opS (E : Env) (o : Oper) (s : St) : Tree PVal :=
  match o.op with
  | .move x => .ret (ev E s x)
  | .assign x => .ret (evA E o.type s x)
  | .load t a => loadP E.T t s.h (ev E s a)
  | .slice t x lo hi mx => (slice E.T t (ev E s x) (lo.map (ev E s)) (hi.map (ev E s)) (mx.map (ev E s))).bind fun (x, _) => .ret x
  | _ => valT E o s

/-- The operations that a tail waits for. -/
def regS (E : Env) (ops : List Oper) : List Oper → St → Tree St
  | [], s => .ret s
  | o :: rest, s => (guardT ops o s fun s => (opS E o s).bind fun x => .ret (s.put o.dst x)).bind (fun s => forceSt s (regS E ops rest))

/-- Where the tail begins. -/
def tailAt (ops : Array Oper) : Option Nat := (List.range ops.size).find? fun n => Region.lexTailB .any ops n

/-- Does it yield the same in whatever world? -/
def freeOp (E : Env) (o : Oper) : Bool :=
  match o.op with
  | .move _ => true
  | .assign _ => true
  | .slice t _ _ _ _ => (match E.T t with | some { d := .str, .. } => true | _ => false)
  | _ => false
def intOrNone : Option PVal → Bool
  | none => true
  | some (.int _ _) => true
  | _ => false
def opW (E : Env) (o : Oper) (s : St) : Tree PVal :=
  match o.op with
  | .move x => .ret (ev E s x)
  | .assign x => .ret (evA E o.type s x)
  | .slice t x lo hi mx =>
    match ev E s x with
    | .str b => if intOrNone (lo.map (ev E s)) && intOrNone (hi.map (ev E s)) && intOrNone (mx.map (ev E s)) then
        (slice E.T t (.str b) (lo.map (ev E s)) (hi.map (ev E s)) (mx.map (ev E s))).bind fun (x, _) => if scal x then .ret x else .fail
      else .fail
    | _ => .fail
  | _ => .fail

/-- A region in any order: what yields the same in whatever world first; of the others there may be one to choose from. -/
def drawG (E : Env) (ops : Array Oper) : Nat → Array Bool → St → Tree St
  | 0, listed, s => if (Region.ready .any ops listed).isEmpty then .ret s else .fail
  | f + 1, listed, s =>
    match Region.ready .any ops listed with
    | [] => .ret s
    | rs =>
      match rs.find? fun i => Region.free .any ops listed i && (match ops[i]? with | some o => freeOp E o | none => false) with
      | some i => (match ops[i]? with
        | some o => (guardT ops.toList o s fun s => (opW E o s).bind fun x => .ret (s.put o.dst x)).bind fun s => forceSt s (drawG E ops f (listed.setIfInBounds i true))
        | none => .fail)
      | none =>
        match rs with
        | [i] => (match ops[i]? with
          | some o => (opG E ops.toList i o s).bind fun s => forceSt s (drawG E ops f (listed.setIfInBounds i true))
          | none => .fail)
        | _ => .fail

def stillOp (o : Oper) : Bool :=
  match o.op with
  | .alloc _ => false
  | .box _ _ => false
  | .buildSlice _ _ _ => false
  | .store _ _ _ => false
  | .extract _ _ => false
  | .call c => (match c.callee with | .builtin .append => false | .builtin _ => true | _ => false)
  | _ => true

/-- A region that draws its order: all quiet; a tail behind what leaves the world alone; any. -/
def drawT (E : Env) (ops : Array Oper) (s : St) : Tree St :=
  if Region.lexB .any ops && (ops.toList.all fun o => match o.op with | .store _ _ _ => false | _ => true) then regD E ops.toList ops.toList s
  else match (tailAt ops).bind fun n => if (ops.toList.take n).all stillOp then some n else none with
    | some n => (regS E ops.toList (ops.toList.take n) s).bind (regT E ops.toList n (ops.toList.drop n))
    | none => if Region.noSelect ops then drawG E ops ops.size (Array.replicate ops.size false) s else .fail

/-- Only the variables are kept from round to round. -/
def forget (keep : List Nat) (s : St) : St :=
  { s with v := s.v.zipIdx.map fun (x, i) => if keep.contains i then x else .junk, o := s.o.zipIdx.map fun (x, i) => if keep.contains i then x else [], al := s.al.map fun _ => none }

def iter (f : St → Option (Ex × St)) (fg : St → St) : Nat → St → Option (Ex × St)
  | 0, _ => none
  | n + 1, s => match f (fg s) with
    | some (.nrm, s') => iter f fg n s'
    | r => r

def jumps (f : Code → St → Option (Ex × St)) (c0 : Code) (fg : St → St) : Nat → Code → St → Option (Ex × St)
  | 0, _, _ => none
  | n + 1, c, s => match f c s with
    | some (.gto l, s') => match findLabel c0 l with
      | some rest => jumps f c0 fg n rest (fg s')
      | none => some (.gto l, s')
    | r => r

def exec (E : Env) : Nat → Code → St → Tree (Ex × St)
  | 0, _, _ => .fail
  | d + 1, c, s =>
    match c with
    | .skip => .ret (.nrm, s)
    | .label _ => .ret (.nrm, s)
    | .region _ ops draw => (if draw then drawT E ops s else regT E ops.toList 0 ops.toList s).bind fun s => .ret (.nrm, s)
    | .seq a b => (exec E d a s).bind fun (e, s) => match e with | .nrm => exec E d b s | e => .ret (e, s)
    | .cond c a b =>
      match c, ev E s c with
      | .tmp t, .bool v => .ite v (exec E d a { s with v := s.v.set t (.bool true) }) (exec E d b { s with v := s.v.set t (.bool false) })
      | .const _, .bool v => if v then exec E d a s else exec E d b s
      | _, _ => .fail
    | .block id b => (exec E d b s).bind fun (e, s) => match e with
      | .ext i => if i = id then .ret (.nrm, s) else .ret (.ext i, s)
      | e => .ret (e, s)
    | .loop b => E.lp b s
    | .exit id => .ret (.ext id, s)
    | .scope b => E.sc b s
    | .goto l => .ret (.gto l, s)
    | .ret => .ret (.ret, s)
    | _ => .fail

def resOne (E : Env) (s : St) : ResultVar → Tree (PVal × Bool)
  | .tmp t => .ret (s.get t, s.own t)
  | .cell a t => (loadP E.T t s.h (s.get a)).bind fun x => .ret (x, false)

def resAll (E : Env) (s : St) : List ResultVar → Tree (List (PVal × Bool))
  | [] => .ret []
  | r :: rs => (resOne E s r).bind fun x => (resAll E s rs).bind fun l => .ret (x :: l)

def resTmps : List ResultVar → List Nat
  | [] => []
  | .tmp t :: l => t :: resTmps l
  | _ :: l => resTmps l
def noDup : List Nat → Bool
  | [] => true
  | t :: l => !(l.contains t) && noDup l

def packR : List (PVal × Bool) → PVal
  | [(x, _)] => x
  | l => .tup (l.map (·.1))

/-- What a function hands back; what it made and nobody can reach is gone. -/
def finish (E : Env) (fn : Func) (n0 : Nat) (s : St) : Tree CR :=
  (resAll E s fn.results.toList).bind fun l =>
    if noDup (resTmps fn.results.toList) then
      .ret { v := packR l, o := l.map (·.2),
             h := if (l.all fun x => noLoc 4 x.1) && ((s.h.take n0).all fun ob => ob.cells.all (noLoc 4)) then s.h.take n0 else s.h }
    else .fail

def start (fn : Func) (args : List PVal) (h : List Ob) : St :=
  { v := args ++ List.replicate (fn.ntmps - args.length) .junk, o := List.replicate (max fn.ntmps args.length) [], h, al := List.replicate (max fn.ntmps args.length) none }

/-- A function's body, run. -/
def callT (E : Env) (fn : Func) (args : List PVal) (h : List Ob) : Tree CR :=
  match fn.body with
  | none => .fail
  | some c => (exec E 200 c (start fn args h)).bind fun (e, s) => match e with
    | .nrm => finish E fn h.length s
    | .ret => finish E fn h.length s
    | _ => .fail

/-- Which loop, which scope? The first region in it tells. -/
def keyOf : Code → Nat
  | .region id _ _ => id + 1
  | .seq a b => match keyOf a with | 0 => keyOf b | k => k
  | .cond _ a b => match keyOf a with | 0 => keyOf b | k => k
  | .block _ b => keyOf b
  | .loop b => keyOf b
  | .scope b => keyOf b
  | _ => 0

def loopsOf : Code → List Code
  | .seq a b => loopsOf a ++ loopsOf b
  | .cond _ a b => loopsOf a ++ loopsOf b
  | .block _ b => loopsOf b
  | .loop b => b :: loopsOf b
  | .scope b => loopsOf b
  | _ => []

def scopesOf : Code → List Code
  | .seq a b => scopesOf a ++ scopesOf b
  | .cond _ a b => scopesOf a ++ scopesOf b
  | .block _ b => scopesOf b
  | .loop b => scopesOf b
  | .scope b => b :: scopesOf b
  | _ => []

/-- The slots that are variables. -/
def opKeep (o : Oper) : List Nat :=
  match o.op, o.dst with
  | .assign _, some d => [d]
  | .alloc _, some d => [d]
  | .box _ _, some d => [d]
  | _, _ => []

def keepOf : Code → List Nat
  | .region _ ops _ => ops.toList.flatMap opKeep
  | .seq a b => keepOf a ++ keepOf b
  | .cond _ a b => keepOf a ++ keepOf b
  | .block _ b => keepOf b
  | .loop b => keepOf b
  | .scope b => keepOf b
  | _ => []

def tdOf : TypeDesc → TD
  | .bool => .bool
  | .int k => .int k
  | .string => .str
  | .slice e => .slice e
  | .pointer e => .ptr e
  | .struct fs => .struct (fs.toList.map fun f => (f.offset, f.type))
  | .array n e => .arr n e
  | .interface _ => .iface
  | .func _ _ _ => .func
  | _ => .other

def TY (P : Program) (t : TypeId) : Option TI :=
  match P.info? t, P.underlying t with
  | some i, some d => match i.zero with
    | some z => if z.cells.size = i.size ∧ (z.cells.toList.all fun v => v.oneCell') = true then some { d := tdOf d, size := i.size, bytes := i.bytes, zero := z.cells.toList.map ofConst } else none
    | none => none
  | _, _ => none

end Go.Pi
