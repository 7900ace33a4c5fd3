/-
  A SECOND, SMALLER MACHINE: code with its types looked up beforehand, run over a heap whose blocks have names of their own; no tape: what a slice grows to is not seen, and a slot that two slices might share is given up when one of them grows. Definitions alone.
  How the second machine's heap stands to the first one's world: each name has its block; what is owned is apart.
  What the heaps' relation bears: new blocks, stores, maps' turns, a slot given up for one that has grown in place.
  From the loaded program's code to the second machine's: types looked up, what it does not take left out ('bad').
  The operations that look at their operands alone: what the second machine reckons, the first one does.
  The operations that look at their operands alone, each held against the first machine's.
  Slices, lengths; the operations that read the heap.
  The operations that read the heap, each held against the first machine's.
  The operations that turn the heap, each held against the first machine's: what makes new blocks, stores, maps.
  Maps that are written, ranges, growing slices.
  append, copy.
  copy; all the operations that turn the heap; the step of a range.
  Regions, code, calls: what the second machine comes to, the first one does, whatever its tape holds.
-/
import Derived.Calls
import Derived.Below
import Derived.Laws.IdiomCopy
import Derived.Still
import Derived.WideLaws
import Derived.Laws.Strings
import Derived.Laws.Tables
import Derived.MapKept
import Derived.Laws.BytesString
import Derived.Laws.StructEq
section
set_option linter.unusedSimpArgs false
set_option linter.unusedVariables false
set_option maxRecDepth 10000
namespace Go.Am

/-! ### what a run comes to -/
inductive Out (α : Type) where
  | ret (a : α)
  | fail
  | ask (n : Nat) (k : Nat → Out α)

def Out.bind {α β : Type} : Out α → (α → Out β) → Out β
  | .ret a, f => f a
  | .fail, _ => .fail
  | .ask n k, f => .ask n fun i => (k i).bind f

/-- every end is as said, and none fails -/
def Out.all {α : Type} : Out α → (α → Prop) → Prop
  | .ret a, p => p a
  | .fail, _ => False
  | .ask n k, p => 0 < n ∧ ∀ i, i < n → (k i).all p

def Out.ofOption {α : Type} : Option α → Out α
  | some a => .ret a
  | none => .fail

/-! ### the heap -/
inductive AObj where
  /-- cells; grown: what lies behind them is not known (0: nothing does; else the cells of an element); ro: it is not written -/
  | row (cs : List Value) (grown : Nat) (ro : Bool)
  | map (es : List (Value × Value × Nat)) (clock : Nat)
  | strIter (s : ByteArray) (pos : Nat)
  | mapIter (m : Option Nat) (since : Nat) (seen : List Nat) (last : Nat)
  deriving Inhabited

inductive Tr where
  | nil
  | nd (l : Tr) (v : Option AObj) (r : Tr)
  deriving Inhabited

def bitsGo : Nat → Nat → List Bool
  | 0, _ => []
  | f + 1, n => if n = 0 then [] else (n % 2 == 1) :: bitsGo f (n / 2)

def bits (n : Nat) : List Bool := bitsGo n n

def Tr.get : Tr → List Bool → Option AObj
  | .nil, _ => none
  | .nd _ v _, [] => v
  | .nd l _ r, b :: bs => bif b then r.get bs else l.get bs

def Tr.set (t : Tr) (bs : List Bool) (v : Option AObj) : Tr :=
  match bs with
  | [] => match t with
    | .nil => .nd .nil v .nil
    | .nd l _ r => .nd l v r
  | b :: bs => match t with
    | .nil => bif b then .nd .nil none (Tr.set .nil bs v) else .nd (Tr.set .nil bs v) none .nil
    | .nd l x r => bif b then .nd l x (Tr.set r bs v) else .nd (Tr.set l bs v) x r

structure St where
  heap : Tr
  next : Nat
  deriving Inhabited

def St.get (s : St) (i : Nat) : Option AObj := s.heap.get (bits i)
def St.put (s : St) (i : Nat) (o : Option AObj) : St := { s with heap := s.heap.set (bits i) o }
def St.new (s : St) (o : AObj) : St := { heap := s.heap.set (bits s.next) (some o), next := s.next + 1 }

/-! ### lists of cells -/
def lget : List Value → Nat → Value
  | [], _ => undef
  | v :: _, 0 => v
  | _ :: l, n + 1 => lget l n

def lset : List Value → Nat → Value → List Value
  | [], _, _ => []
  | _ :: l, 0, v => v :: l
  | x :: l, n + 1, v => x :: lset l n v

/-- the cells from a place on become these -/
def lputs (l : List Value) (o : Nat) (vs : List Value) : List Value := l.take o ++ vs ++ l.drop (o + vs.length)

def cellsOf : Value → List Value
  | .agg cs => cs.toList
  | v => [v]

def oneCell : Value → Bool
  | .agg _ | .tuple _ => false
  | _ => true

/-- one and the same (as far as it is told) -/
def cellEq : Value → Value → Bool
  | .bool a, .bool b => a == b
  | .int k a, .int k' b => decide (k = k') && decide (a = b)
  | .string a, .string b => decide (a = b)
  | .pointer a, .pointer b => decide (a = b)
  | .slice a n c, .slice a' n' c' => decide (a = a') && decide (n = n') && decide (c = c')
  | .map a, .map b => decide (a = b)
  | .nilFunc, .nilFunc => true
  | .nilIface, .nilIface => true
  | _, _ => false

theorem cellEq_eq {a b : Value} (h : cellEq a b = true) : a = b := by
  cases a <;> cases b <;> simp [cellEq] at h <;> first | rfl | (subst h; rfl) | (obtain ⟨rfl, rfl⟩ := h; rfl) | (obtain ⟨⟨rfl, rfl⟩, rfl⟩ := h; rfl) | (obtain ⟨rfl, rfl, rfl⟩ := h; rfl)

/-- int's wrap, the common case first -/
def wrapF (k : IntKind) (n : Int) : Int :=
  match k with
  | .i64 => if -9223372036854775808 ≤ n ∧ n ≤ 9223372036854775807 then n else IntKind.wrap .i64 n
  | .u8 => if 0 ≤ n ∧ n ≤ 255 then n else IntKind.wrap .u8 n
  | .i32 => if -2147483648 ≤ n ∧ n ≤ 2147483647 then n else IntKind.wrap .i32 n
  | .u32 => if 0 ≤ n ∧ n ≤ 4294967295 then n else IntKind.wrap .u32 n
  | .u64 => if 0 ≤ n ∧ n ≤ 18446744073709551615 then n else IntKind.wrap .u64 n
  | k => IntKind.wrap k n

/-! ### operands, operations -/
inductive Arg where
  | t (n : Nat)
  | c (v : Value)
  | g (n : Nat)
  deriving Inhabited

def Arg.ev (l : List Value) : Arg → Value
  | .t n => lget l n
  | .c v => v
  | .g n => .pointer (some ⟨n, 0, none⟩)

/-- kinds of values that may be nil -/
inductive NilK where
  | ptr | slice | map | func | iface
  deriving Inhabited

/-- what looks at its operands alone -/
inductive POp where
  | move
  | pick
  | build (zero : List Value) (parts : List (Nat × Nat))
  | nilCheck
  | bin (op : BinOp)
  | binB (neg : Bool)
  | nilEq (k : NilK) (neg : Bool)
  | un (op : UnOp)
  | convInt (k : IntKind)
  | mkIface (t : TypeId)
  | mkFunc (fn : Fn) (first : Nat)
  | fieldAddr (off : Nat)
  | field (agg : Bool) (off size : Nat)
  | indexAddr (esz : Nat)
  | indexAddrArr (n esz : Nat)
  | indexStr
  | indexArr (n esz : Nat) (agg : Bool)
  | slStr (lo hi : Bool)
  | extract (i : Nat)
  | assertT (t : TypeId) (zero : Value) (ok : Bool)
  | lenStr
  | lenSl
  | lenArr (n : Nat)
  | min
  | max
  | push
  deriving Inhabited

/-- kinds of keys -/
inductive KeyK where
  | int | str | bool
  deriving Inhabited

/-- what reads the heap besides -/
inductive ROp where
  | load1
  | loadN (n : Nat)
  | lookup (k : KeyK) (zero : Value) (ok : Bool)
  | lenMap
  | bytesToStr
  | entry
  | sl (esz : Nat) (lo hi : Bool)
  | slArr (n esz : Nat) (lo hi : Bool)
  | same1
  deriving Inhabited

/-- what turns the heap -/
inductive WOp where
  | new (cells : List Value)
  | box (n : Nat)
  | sliceLit (cells : List Value) (len : Nat) (parts : List (Nat × Nat))
  | store (n : Nat)
  | mkMap
  | mkSlice (zero : List Value) (bytes : Nat)
  | sl3
  | strToBytes
  | mapSet (k : KeyK)
  | append (esz bytes : Nat)
  | copy (esz : Nat)
  | delete (k : KeyK)
  | range (str : Bool)
  deriving Inhabited

inductive AOp where
  | p (o : POp)
  | r (o : ROp)
  | w (o : WOp)
  | next (str : Bool)
  | call (f : FuncId)
  | callV
  | invoke (name : String)
  deriving Inhabited

structure AOper where
  dst : Option Nat
  op : AOp
  args : List Arg
  guard : Option (Nat × Bool)
  deriving Inhabited

inductive AC where
  | skip
  | region (ops : List AOper)
  | seq (a b : AC)
  | cond (c : Arg) (thn els : AC)
  | block (id : Nat) (body : AC)
  | loop (body : AC)
  | exit (id : Nat)
  | ret
  | bad
  deriving Inhabited

/-! ### operations on values -/
def binInt (op : BinOp) (k : IntKind) (a b : Int) : Option Value :=
  match op with
  | .add => some (.int k (wrapF k (a + b)))
  | .sub => some (.int k (wrapF k (a - b)))
  | .mul => some (.int k (wrapF k (a * b)))
  | .quo => if b = 0 then none else some (.int k (wrapF k (a.tdiv b)))
  | .rem => if b = 0 then none else some (.int k (a.tmod b))
  | .and => some (.int k (k.wrap (BitVec.ofInt k.bits a &&& BitVec.ofInt k.bits b).toNat))
  | .or => some (.int k (k.wrap (BitVec.ofInt k.bits a ||| BitVec.ofInt k.bits b).toNat))
  | .xor => some (.int k (k.wrap (BitVec.ofInt k.bits a ^^^ BitVec.ofInt k.bits b).toNat))
  | .andNot => some (.int k (k.wrap (BitVec.ofInt k.bits a &&& ~~~ BitVec.ofInt k.bits b).toNat))
  | .eql => some (.bool (a == b))
  | .neq => some (.bool (a != b))
  | .lss => some (.bool (a < b))
  | .leq => some (.bool (a ≤ b))
  | .gtr => some (.bool (a > b))
  | .geq => some (.bool (a ≥ b))
  | _ => none

def shiftInt (op : BinOp) (k : IntKind) (a y : Int) : Option Value :=
  if y < 0 then none else
  match op with
  | .shl => some (.int k (k.wrap (a * 2 ^ (Nat.min y.toNat k.bits))))
  | .shr => some (.int k (a.fdiv (2 ^ (Nat.min y.toNat k.bits))))
  | _ => none

def binStr (op : BinOp) (x y : ByteArray) : Option Value :=
  match op with
  | .add => if ((x.size + y.size : Nat) : Int) > 9223372036854775807 then none else some (.string (x ++ y))
  | .eql => some (.bool (x.data.toList == y.data.toList))
  | .neq => some (.bool !(x.data.toList == y.data.toList))
  | .lss => some (.bool (Op.bytesLess x.data.toList y.data.toList))
  | .leq => some (.bool (Op.bytesLess x.data.toList y.data.toList || x.data.toList == y.data.toList))
  | .gtr => some (.bool !(Op.bytesLess x.data.toList y.data.toList || x.data.toList == y.data.toList))
  | .geq => some (.bool !(Op.bytesLess x.data.toList y.data.toList))
  | _ => none

def binV (op : BinOp) (x y : Value) : Option Value :=
  match x, y with
  | .int k a, .int k' b =>
    match op with
    | .shl | .shr => shiftInt op k a b
    | _ => if k = k' then binInt op k a b else none
  | .string a, .string b => binStr op a b
  | _, _ => none

def isNil : NilK → Value → Option Bool
  | .ptr, .pointer a => some a.isNone
  | .slice, .slice a _ _ => some a.isNone
  | .map, .map a => some a.isNone
  | .func, .nilFunc => some true
  | .func, .func _ _ _ => some false
  | .iface, .nilIface => some true
  | .iface, .iface _ _ => some false
  | _, _ => none

/-- an operand held against nil -/
def nilEqV (k : NilK) (neg : Bool) (x y : Value) : Option Value :=
  match isNil k x, isNil k y with
  | some a, some b => if a || b then some (.bool (xor neg (a && b))) else none
  | _, _ => none

def unV (op : UnOp) (x : Value) : Option Value :=
  match op, x with
  | .neg, .int k n => some (.int k (wrapF k (0 - n)))
  | .xor, .int k n => some (.int k (k.wrap (BitVec.ofInt k.bits (if k.signed then -1 else k.max) ^^^ BitVec.ofInt k.bits n).toNat))
  | .not, .bool b => some (.bool !b)
  | _, _ => none

/-- a bound of a slice: at least lo, at most hi -/
def bound (lo hi : Nat) : Value → Option Nat
  | .int _ n => if (lo : Int) ≤ n ∧ n ≤ (hi : Int) then some n.toNat else none
  | _ => none

/-- the two bounds of x[lo:hi] out of the operands: the upper one first -/
def bounds (len cap : Nat) (lo hi : Bool) (vs : List Value) : Option (Nat × Nat) :=
  match lo, hi, vs with
  | false, false, [] => some (0, len)
  | true, false, [a] => (bound 0 len a).map fun l => (l, len)
  | false, true, [b] => (bound 0 cap b).map fun h => (0, h)
  | true, true, [a, b] => (bound 0 cap b).bind fun h => (bound 0 h a).map fun l => (l, h)
  | _, _, _ => none

def addA (a : Addr) (n : Nat) : Addr := if n = 0 then a else { block := a.block, off := a.off + n }

def fillL (cells : List Value) : List (Nat × Nat) → List Value → Option (List Value)
  | [], [] => some cells
  | (off, size) :: ps, v :: vs =>
    if (cellsOf v).length = size ∧ off + size ≤ cells.length then fillL (lputs cells off (cellsOf v)) ps vs else none
  | _, _ => none

def minV : List Value → Option Value
  | [.int k a, .int _ b] => some (.int k (if b < a then b else a))
  | [.int k a, .int _ b, .int _ c] => some (.int k (if c < (if b < a then b else a) then c else (if b < a then b else a)))
  | _ => none
def maxV : List Value → Option Value
  | [.int k a, .int _ b] => some (.int k (if b > a then b else a))
  | [.int k a, .int _ b, .int _ c] => some (.int k (if c > (if b > a then b else a) then c else (if b > a then b else a)))
  | _ => none

def pop (o : POp) (vs : List Value) : Option Value :=
  match o, vs with
  | .move, [x] => some x
  | .pick, [.bool c, a, b] => some (bif c then a else b)
  | .build zero parts, vs => (fillL zero parts vs).map fun cs => .agg cs.toArray
  | .nilCheck, [.pointer (some a)] => some (.pointer (some a))
  | .nilCheck, [.iface t v] => some (.iface t v)
  | .nilCheck, [.func (.func f) x y] => some (.func (.func f) x y)
  | .bin op, [x, y] => binV op x y
  | .binB neg, [.bool a, .bool b] => some (.bool (xor neg (a == b)))
  | .nilEq k neg, [x, y] => nilEqV k neg x y
  | .un op, [x] => unV op x
  | .convInt k, [.int _ n] => some (.int k (wrapF k n))
  | .mkIface t, [x] => some (.iface t x)
  | .mkFunc fn n, vs => some (.func fn (vs.take n).toArray (vs.drop n).toArray)
  | .fieldAddr off, [.pointer (some a)] => some (.pointer (some (addA a off)))
  | .field true off size, [.agg cs] => some (.agg ((cs.toList.drop off).take size).toArray)
  | .field false off _, [.agg cs] => cs.toList[off]?
  | .indexAddr esz, [.slice (some a) len _, .int _ i] => if 0 ≤ i ∧ i < (len : Int) then some (.pointer (some (addA a (i.toNat * esz)))) else none
  | .indexAddrArr n esz, [.pointer (some a), .int _ i] => if 0 ≤ i ∧ i < (n : Int) then some (.pointer (some (addA a (i.toNat * esz)))) else none
  | .indexStr, [.string s, .int _ i] => if 0 ≤ i then (s.data.toList[i.toNat]?).map fun b => .int .u8 b.toNat else none
  | .indexArr n esz agg, [.agg cs, .int _ i] =>
    if 0 ≤ i ∧ i < (n : Int) then (if agg then some (.agg ((cs.toList.drop (i.toNat * esz)).take esz).toArray) else cs.toList[i.toNat * esz]?) else none
  | .slStr lo hi, .string s :: vs => (bounds s.size s.size lo hi vs).map fun (l, h) => .string (s.extract l h)
  | .extract i, [.tuple vs] => vs.toList[i]?
  | .assertT t zero ok, [.iface u v] =>
    if u = t then some (bif ok then .tuple #[v, .bool true] else v) else bif ok then some (.tuple #[zero, .bool false]) else none
  | .assertT _ zero true, [.nilIface] => some (.tuple #[zero, .bool false])
  | .lenStr, [.string s] => some (.int .i64 s.size)
  | .lenSl, [.slice _ n _] => some (.int .i64 n)
  | .lenArr n, _ => some (.int .i64 n)
  | .min, vs => minV vs
  | .max, vs => maxV vs
  | .push, .tuple es :: .func (.func f) first cap :: vs => if es.toList.isEmpty then none else some (.tuple (.func (.func f) (first.toList ++ vs).toArray cap :: es.toList).toArray)
  | _, _ => none

/-! ### operations that read -/
def sameV : KeyK → Value → Value → Option Bool
  | .int, .int k a, .int k' b => if k = k' then some (a == b) else none
  | .str, .string a, .string b => some (a.data.toList == b.data.toList)
  | .bool, .bool a, .bool b => some (a == b)
  | _, _, _ => none

def findV (kk : KeyK) (k : Value) : List (Value × Value × Nat) → Nat → Option (Option (Nat × Value))
  | [], _ => some none
  | e :: es, i =>
    match sameV kk k e.1 with
    | some true => some (some (i, e.2.1))
    | some false => findV kk k es (i + 1)
    | none => none

/-- the cells of a row from a place on -/
def St.cells (s : St) (a : Addr) (n : Nat) : Option (List Value) :=
  match s.get a.block with
  | some (.row cs _ _) => if a.off + n ≤ cs.length then some ((cs.drop a.off).take n) else none
  | _ => none

def u8s : List Value → Option (List UInt8)
  | [] => some []
  | .int .u8 n :: l => (u8s l).map fun r => UInt8.ofNat n.toNat :: r
  | _ => none

def keyOk : KeyK → Value → Bool
  | .int, .int _ _ | .str, .string _ | .bool, .bool _ => true
  | _, _ => false

def rop (o : ROp) (vs : List Value) (s : St) : Option Value :=
  match o, vs with
  | .load1, [.pointer (some a)] =>
    match s.get a.block with
    | some (.row cs _ _) => cs[a.off]?
    | _ => none
  | .loadN n, [.pointer (some a)] => (s.cells a n).map fun cs => .agg cs.toArray
  | .same1, [v, .pointer (some a)] =>
    match s.get a.block with
    | some (.row cs _ _) => match cs[a.off]? with
      | some u => if cellEq u v then some undef else none
      | none => none
    | _ => none
  | .lookup kk zero ok, [.map none, k] => if keyOk kk k then some (bif ok then .tuple #[zero, .bool false] else zero) else none
  | .lookup kk zero ok, [.map (some r), k] =>
    match s.get r with
    | some (.map es _) => if keyOk kk k then
        match findV kk k es 0 with
        | some (some (_, v)) => some (bif ok then .tuple #[v, .bool true] else v)
        | some none => some (bif ok then .tuple #[zero, .bool false] else zero)
        | none => none
      else none
    | _ => none
  | .lenMap, [.map none] => some (.int .i64 0)
  | .lenMap, [.map (some r)] =>
    match s.get r with
    | some (.map es _) => some (.int .i64 es.length)
    | _ => none
  | .sl _ lo hi, .slice none 0 0 :: vs => (bounds 0 0 lo hi vs).map fun _ => .slice none 0 0
  | .sl esz lo hi, .slice (some a) len cap :: vs =>
    if cap = 0 then (bounds len cap lo hi vs).map fun (l, h) => .slice (some a) (h - l) (cap - l) else
    match s.get a.block with
    | some (.row _ g _) => if g = 0 ∨ g = esz then
        (bounds len cap lo hi vs).map fun (l, h) => .slice (some (if cap = l then a else addA a (l * esz))) (h - l) (cap - l)
      else none
    | _ => none
  | .slArr n esz lo hi, .pointer (some a) :: vs =>
    match s.get a.block with
    | some (.row _ 0 _) => (bounds n n lo hi vs).map fun (l, h) => .slice (some (if n = l then a else addA a (l * esz))) (h - l) (n - l)
    | _ => none
  | .bytesToStr, [.slice none _ _] => some (.string .empty)
  | .bytesToStr, [.slice (some a) len _] => (s.cells a len).bind fun cs => (u8s cs).map fun l => .string ⟨l.toArray⟩
  | .entry, [.pointer (some a)] =>
    match s.get a.block with
    | some (.mapIter (some m) _ seen last) =>
      match s.get m with
      | some (.map es clock) => if clock = last ∧ a.off = 0 then
          match seen.getLast? with
          | some st => (es.find? (·.2.2 == st)).map fun e => .tuple #[e.1, e.2.1]
          | none => none
        else none
      | _ => none
    | _ => none
  | _, _ => none

/-! ### operations that turn the heap -/
def St.newPtr (s : St) (cells : List Value) : Option (Value × St) :=
  some (.pointer (some ⟨s.next, 0, none⟩), s.new (.row cells 0 false))

/-- a slice's, a string's cells -/
def St.srcCells (s : St) (esz : Nat) : Value → Option (List Value)
  | .slice none _ _ => some []
  | .slice (some a) n _ => if n = 0 then some [] else s.cells a (n * esz)
  | .string b => if esz = 1 then some (b.data.toList.map fun c => .int .u8 c.toNat) else none
  | _ => none
def srcLen : Value → Option Nat
  | .slice _ n _ => some n
  | .string b => some b.size
  | _ => none

def St.storeAt (s : St) (a : Addr) (vs : List Value) : Option St :=
  match s.get a.block with
  | some (.row cs g false) => if a.off + vs.length ≤ cs.length ∧ vs.all oneCell then some (s.put a.block (some (.row (lputs cs a.off vs) g false))) else none
  | _ => none

def St.grow (s : St) (esz n : Nat) (cells : List Value) : Value × St :=
  (.slice (some ⟨s.next, 0, none⟩) n n, s.new (.row cells esz false))

def appendV (esz bytes : Nat) (dst src : Value) (s : St) : Option (Value × St) :=
  match srcLen src, s.srcCells esz src with
  | some n, some new =>
    if n = 0 then
      match dst with
      | .slice a len cap => some (.slice a len cap, s)
      | _ => none
    else if esz = 0 ∨ ¬ new.all oneCell then none
    else match dst with
      | .slice none 0 0 => if n * bytes ≤ 1099511627776 ∧ n ≤ 1099511627776 then some (s.grow esz n new) else none
      | .slice (some ⟨bk, of, none⟩) len cap =>
        if (len + n) * bytes ≤ 1099511627776 ∧ len + n ≤ 1099511627776 then
          match s.get bk, s.cells ⟨bk, of, none⟩ (len * esz) with
          | some (.row cs g ro), some old =>
            if g = 0 then
              if len + n ≤ cap then (s.storeAt (addA ⟨bk, of, none⟩ (len * esz)) new).map fun s' => (.slice (some ⟨bk, of, none⟩) (len + n) cap, s')
              else some (s.grow esz (len + n) (old ++ new))
            else if g = esz ∧ ro = false ∧ of ≤ cs.length then some ((s.put bk none).grow esz (len + n) (old ++ new))
            else none
          | _, _ => none
        else none
      | _ => none
  | _, _ => none

def replicateL (n : Nat) (zero : List Value) : List Value :=
  match n with
  | 0 => []
  | n + 1 => zero ++ replicateL n zero

def wop (o : WOp) (vs : List Value) (s : St) : Option (Value × St) :=
  match o, vs with
  | .new cells, [] => s.newPtr cells
  | .box n, [v] => if (cellsOf v).length = n then s.newPtr (cellsOf v) else none
  | .sliceLit cells len parts, vs => (fillL cells parts vs).map fun cs => (.slice (some ⟨s.next, 0, none⟩) len len, s.new (.row cs 0 false))
  | .store n, [.pointer (some a), v] => if (cellsOf v).length = n then (s.storeAt a (cellsOf v)).map fun s' => (undef, s') else none
  | .mkMap, [] => some (.map (some s.next), s.new (.map [] 0))
  | .mkSlice zero bytes, [.int _ l, .int _ c] =>
    if 0 ≤ l ∧ l ≤ c ∧ c * bytes ≤ 1099511627776 ∧ c ≤ 1099511627776 then
      some (.slice (some ⟨s.next, 0, none⟩) l.toNat c.toNat, s.new (.row (replicateL c.toNat zero) 0 false))
    else none
  | .sl3, [.slice (some a) _ cap, .int _ h, .int _ m] =>
    if h = 0 ∧ m = 0 ∧ 0 < cap then
      match s.get a.block with
      | some (.row _ _ _) => some (.slice (some ⟨s.next, 0, none⟩) 0 0, s.new (.row [] 0 true))
      | _ => none
    else none
  | .sl3, [.slice none 0 0, .int _ h, .int _ m] => if h = 0 ∧ m = 0 then some (.slice none 0 0, s) else none
  | .strToBytes, [.string b] =>
    some (s.grow 1 b.size (b.data.toList.map fun c => .int .u8 c.toNat))
  | .mapSet kk, [.map (some r), k, v] =>
    match s.get r with
    | some (.map es clock) => if keyOk kk k then
        match findV kk k es 0 with
        | some (some (i, _)) => some (undef, s.put r (some (.map (es.modify i fun e => (k, v, e.2.2)) clock)))
        | some none => some (undef, s.put r (some (.map (es ++ [(k, v, clock)]) (clock + 1))))
        | none => none
      else none
    | _ => none
  | .append esz bytes, [dst, src] => appendV esz bytes dst src s
  | .copy esz, [.slice base dLen _, src] =>
    match srcLen src, s.srcCells esz src with
    | some n, some cs =>
      match base with
      | none => some (.int .i64 0, s)
      | some ⟨bk, of, none⟩ => (s.storeAt ⟨bk, of, none⟩ (cs.take (Nat.min n dLen * esz))).map fun s' => (.int .i64 (Nat.min n dLen), s')
      | some _ => none
    | _, _ => none
  | .delete kk, [.map none, k] => if keyOk kk k then some (.tuple #[], s) else none
  | .delete kk, [.map (some r), k] =>
    match s.get r with
    | some (.map es clock) => if keyOk kk k then
        match findV kk k es 0 with
        | some (some (i, _)) => some (.tuple #[], s.put r (some (.map (es.eraseIdx i) clock)))
        | some none => some (.tuple #[], s)
        | none => none
      else none
    | _ => none
  | .range true, [.string b] => some (.pointer (some ⟨s.next, 0, none⟩), s.new (.strIter b 0))
  | .range false, [.map none] => some (.pointer (some ⟨s.next, 0, none⟩), s.new (.mapIter none 0 [] 0))
  | .range false, [.map (some r)] =>
    match s.get r with
    | some (.map _ clock) => some (.pointer (some ⟨s.next, 0, none⟩), s.new (.mapIter (some r) clock [] clock))
    | _ => none
  | _, _ => none

/-- a step of a range -/
def nextV (str : Bool) (vs : List Value) (s : St) : Out (Value × St) :=
  match vs with
  | [.pointer (some a)] =>
    if a.off ≠ 0 then .fail else
    match s.get a.block with
    | some (.strIter b pos) =>
      if str = false then .fail else
      if pos < b.size then
        .ret (.tuple #[.bool true, .int .i64 pos, .int .i32 (Utf8.decode b pos).1], s.put a.block (some (.strIter b (pos + (Utf8.decode b pos).2))))
      else .ret (.tuple #[.bool false], s)
    | some (.mapIter none _ _ _) => if str then .fail else .ret (.tuple #[.bool false], s)
    | some (.mapIter (some m) since seen last) =>
      match s.get m with
      | some (.map es clock) =>
        if str = true ∨ clock ≠ since ∨ clock ≠ last then .fail else
        match es.filter fun e => !seen.contains e.2.2 with
        | [] => .ret (.tuple #[.bool false], s)
        | l => .ask l.length fun i =>
          match l[i]? with
          | some e => .ret (.tuple #[.bool true, e.1, e.2.1], s.put a.block (some (.mapIter (some m) since (seen ++ [e.2.2]) clock)))
          | none => .fail
      | _ => .fail
    | _ => .fail
  | _ => .fail

/-! ### code -/
structure AFn where
  ntmps : Nat
  body : AC
  results : List (Nat × Nat)
  /-- it defers: its last slot holds what -/
  defs : Bool
  deriving Inhabited

inductive Res where
  | norm (l : List Value) (s : St)
  | exit (id : Nat) (l : List Value) (s : St)
  | ret (l : List Value) (s : St)

abbrev CallF := FuncId → List Value → St → Out (Value × St)

def yieldedL (l : List Value) (g : Nat) : Option Bool :=
  match lget l g with
  | .bool b => some b
  | _ => none

def wantedL (o : AOper) (l : List Value) : Bool :=
  match o.guard with
  | none => true
  | some (g, want) => yieldedL l g == some want

def putL (l : List Value) (d : Option Nat) (v : Value) : List Value :=
  match d with
  | some d => lset l d v
  | none => l

/-- the methods that a program's values have: type, name, function (the receiver is handed over as it is); and what calls that are deferred come to, where the function's text is not at hand -/
structure Tab where
  meth : TypeId → String → Option FuncId
  dfr : CallF := fun _ _ _ => .fail

def opStep (T : Tab) (F : CallF) (o : AOp) (vs : List Value) (s : St) : Out (Value × St) :=
  match o with
  | .p o => match pop o vs with
    | some v => .ret (v, s)
    | none => .fail
  | .r o => match rop o vs s with
    | some v => .ret (v, s)
    | none => .fail
  | .w o => Out.ofOption (wop o vs s)
  | .next str => nextV str vs s
  | .call f => F f vs s
  | .callV => match vs with
    | .func (.func f) first captured :: vs => F f (first.toList ++ vs ++ captured.toList) s
    | _ => .fail
  | .invoke name => match vs with
    | .iface t v :: vs => match T.meth t name with
      | some f => F f (v :: vs) s
      | none => .fail
    | _ => .fail

def runOps (T : Tab) (F : CallF) : List AOper → List Value → St → Out (List Value × St)
  | [], l, s => .ret (l, s)
  | o :: rest, l, s =>
    if wantedL o l then (opStep T F o.op (o.args.map (Arg.ev l)) s).bind fun r => runOps T F rest (putL l o.dst r.1) r.2
    else runOps T F rest (putL l o.dst undef) s

def iter (body : List Value → St → Out Res) : Nat → List Value → St → Out Res
  | 0, _, _ => .fail
  | m + 1, l, s => (body l s).bind fun
    | .norm l s => iter body m l s
    | r => .ret r

def code (T : Tab) (F : CallF) (m : Nat) : AC → List Value → St → Out Res
  | .skip, l, s => .ret (.norm l s)
  | .region ops, l, s => (runOps T F ops l s).bind fun r => .ret (.norm r.1 r.2)
  | .seq a b, l, s => (code T F m a l s).bind fun
    | .norm l s => code T F m b l s
    | r => .ret r
  | .cond c x y, l, s => match c.ev l with
    | .bool b => bif b then code T F m x l s else code T F m y l s
    | _ => .fail
  | .block id b, l, s => (code T F m b l s).bind fun
    | .exit id' l s => if id' = id then .ret (.norm l s) else .ret (.exit id' l s)
    | r => .ret r
  | .loop b, l, s => iter (code T F m b) m l s
  | .exit id, l, s => .ret (.exit id l s)
  | .ret, l, s => .ret (.ret l s)
  | .bad, _, _ => .fail

/-- the results: each a slot (0), or n cells that a slot points to (n + 1) -/
def results1 (l : List Value) (s : St) : Nat × Nat → Option Value
  | (t, 0) => some (lget l t)
  | (t, 1) => rop .load1 [lget l t] s
  | (t, n + 2) => rop (.loadN n) [lget l t] s

def resultsL (l : List Value) (s : St) : List (Nat × Nat) → Option (List Value)
  | [] => some []
  | r :: rs => (results1 l s r).bind fun v => (resultsL l s rs).map (v :: ·)

def resultV (l : List Value) (s : St) (rs : List (Nat × Nat)) : Option Value :=
  match resultsL l s rs with
  | some [v] => some v
  | some vs => some (.tuple vs.toArray)
  | none => none

def padded (args : List Value) (n : Nat) : List Value := args ++ List.replicate (n - args.length) undef

/-- a function's call: n: how deep, m: how many rounds of a loop -/
def callN (T : Tab) (fns : FuncId → Option AFn) (m : Nat) : Nat → CallF
  | 0, _, _, _ => .fail
  | n + 1, f, args, s => match fns f with
    | none => .fail
    | some fn => (code T (callN T fns m n) m fn.body (padded args fn.ntmps) s).bind fun
      | .norm l s | .ret l s => match resultV l s fn.results with
        | some v => .ret (v, s)
        | none => .fail
      | .exit _ _ _ => .fail

end Go.Am
end
section
set_option linter.unusedSimpArgs false
set_option linter.unusedVariables false
set_option maxRecDepth 10000
namespace Go.Am
open Go.RowKit (Below)

structure Spot where
  block : Nat
  base : Nat
  limit : Nat
  grown : Nat

mutual
/-- a value of the second machine stands for one of the first; n: names below it are known -/
inductive VR (μ : Nat → Spot) (n : Nat) : Value → Value → Prop where
  | bool (b : Bool) : VR μ n (.bool b) (.bool b)
  | int (k : IntKind) (i : Int) : VR μ n (.int k i) (.int k i)
  | float (k : FloatKind) (b : Nat) : VR μ n (.float k b) (.float k b)
  | complex (k : FloatKind) (a b : Nat) : VR μ n (.complex k a b) (.complex k a b)
  | string (s : ByteArray) : VR μ n (.string s) (.string s)
  | nilPtr : VR μ n (.pointer none) (.pointer none)
  | ptr (i o : Nat) (h : i < n) : VR μ n (.pointer (some ⟨i, o, none⟩)) (.pointer (some ⟨(μ i).block, (μ i).base + o, none⟩))
  | nilSlice : VR μ n (.slice none 0 0) (.slice none 0 0)
  | slice (i o o' len cap cap' : Nat) (h : i < n) (h0 : len ≤ cap) (h1 : cap ≤ cap') (h2 : (μ i).grown = 0 → cap' = cap) (h3 : 0 < cap ∨ (μ i).grown = 0 → o' = (μ i).base + o) (h4 : (μ i).base ≤ o')
      (h5 : (μ i).grown ≠ 0 → o' + cap' * (μ i).grown ≤ (μ i).limit) : VR μ n (.slice (some ⟨i, o, none⟩) len cap) (.slice (some ⟨(μ i).block, o', none⟩) len cap')
  | nilMap : VR μ n (.map none) (.map none)
  | map (i : Nat) (h : i < n) : VR μ n (.map (some i)) (.map (some (μ i).block))
  | nilChan : VR μ n (.chan none) (.chan none)
  | func (fn : Fn) (x y x' y' : Array Value) (h1 : VRs μ n x.toList x'.toList) (h2 : VRs μ n y.toList y'.toList) : VR μ n (.func fn x y) (.func fn x' y')
  | nilFunc : VR μ n .nilFunc .nilFunc
  | iface (t : TypeId) (v v' : Value) (h : VR μ n v v') : VR μ n (.iface t v) (.iface t v')
  | nilIface : VR μ n .nilIface .nilIface
  | agg (x x' : Array Value) (h : VRs μ n x.toList x'.toList) : VR μ n (.agg x) (.agg x')
  | tuple (x x' : Array Value) (h : VRs μ n x.toList x'.toList) : VR μ n (.tuple x) (.tuple x')
  | void (a : Addr) : VR μ n (.slice (some ⟨0, 0, some 0⟩) 0 0) (.slice (some a) 0 0)
inductive VRs (μ : Nat → Spot) (n : Nat) : List Value → List Value → Prop where
  | nil : VRs μ n [] []
  | cons (v v' : Value) (l l' : List Value) (h : VR μ n v v') (hs : VRs μ n l l') : VRs μ n (v :: l) (v' :: l')
end

/-- more is known, and of what was known nothing has turned -/
def Agree (μ : Nat → Spot) (n : Nat) (μ' : Nat → Spot) (n' : Nat) : Prop := n ≤ n' ∧ ∀ i, i < n → μ' i = μ i

theorem Agree.refl (μ : Nat → Spot) (n : Nat) : Agree μ n μ n := ⟨Nat.le_refl _, fun _ _ => rfl⟩
theorem Agree.trans {μ μ' μ'' : Nat → Spot} {n n' n'' : Nat} (h : Agree μ n μ' n') (k : Agree μ' n' μ'' n'') : Agree μ n μ'' n'' :=
  ⟨Nat.le_trans h.1 k.1, fun i hi => (k.2 i (Nat.lt_of_lt_of_le hi h.1)).trans (h.2 i hi)⟩

theorem VR.mono {μ μ' : Nat → Spot} {n n' : Nat} (ha : Agree μ n μ' n') {v v' : Value} (h : VR μ n v v') : VR μ' n' v v' := by
  refine VR.rec (motive_1 := fun v v' _ => VR μ' n' v v') (motive_2 := fun l l' _ => VRs μ' n' l l') ?_ ?_ ?_ ?_ ?_ ?_ ?_ ?_ ?_ ?_ ?_ ?_ ?_ ?_ ?_ ?_ ?_ ?_ ?_ ?_ ?_ h
  all_goals intros
  case refine_7 i o h => rw [← ha.2 i h]; exact .ptr i o (Nat.lt_of_lt_of_le h ha.1)
  case refine_9 i o o' len cap cap' h h0 h1 h2 h3 h4 h5 => rw [← ha.2 i h] at h2 h3 h4 h5 ⊢; exact .slice i o o' len cap cap' (Nat.lt_of_lt_of_le h ha.1) h0 h1 h2 h3 h4 h5
  case refine_11 i h => rw [← ha.2 i h]; exact .map i (Nat.lt_of_lt_of_le h ha.1)
  all_goals constructor <;> assumption

theorem VRs.mono {μ μ' : Nat → Spot} {n n' : Nat} (ha : Agree μ n μ' n') : ∀ {l l' : List Value}, VRs μ n l l' → VRs μ' n' l l'
  | [], [], _ => .nil
  | _ :: _, _ :: _, .cons _ _ _ _ h hs => .cons _ _ _ _ (h.mono ha) (hs.mono ha)

section lists
variable {μ : Nat → Spot} {n : Nat}
theorem VRs.length {l l' : List Value} (h : VRs μ n l l') : l'.length = l.length := by
  induction l generalizing l' with
  | nil => cases h; rfl
  | cons v l ih => cases h with | cons _ _ _ _ h hs => simp [ih hs]
theorem VRs.get {l l' : List Value} (h : VRs μ n l l') : ∀ {j : Nat} {v : Value}, l[j]? = some v → ∃ v', l'[j]? = some v' ∧ VR μ n v v' := by
  induction l generalizing l' with
  | nil => intro j v hj; simp at hj
  | cons x l ih =>
    cases h with
    | cons _ x' _ l' h hs =>
      intro j v hj
      cases j with
      | zero => simp at hj; subst hj; exact ⟨x', rfl, h⟩
      | succ j => simpa using ih hs (by simpa using hj)
theorem VRs.of_get : ∀ {l l' : List Value}, l'.length = l.length → (∀ (j : Nat) (v : Value), l[j]? = some v → ∃ v', l'[j]? = some v' ∧ VR μ n v v') → VRs μ n l l'
  | [], [], _, _ => .nil
  | [], _ :: _, h, _ => by simp at h
  | _ :: _, [], h, _ => by simp at h
  | x :: l, x' :: l', h, hg => by
    obtain ⟨y, hy, hr⟩ := hg 0 x rfl
    simp at hy; subst hy
    exact .cons _ _ _ _ hr (VRs.of_get (by simpa using h) fun j v hj => by simpa using hg (j + 1) v (by simpa using hj))
theorem VRs.append {a a' b b' : List Value} (h : VRs μ n a a') (k : VRs μ n b b') : VRs μ n (a ++ b) (a' ++ b') := by
  induction a generalizing a' with
  | nil => cases h; exact k
  | cons x a ih => cases h with | cons _ _ _ _ h hs => exact .cons _ _ _ _ h (ih hs)
theorem VRs.take {l l' : List Value} (h : VRs μ n l l') : ∀ k, VRs μ n (l.take k) (l'.take k) := by
  induction l generalizing l' with
  | nil => cases h; intro k; simp; exact .nil
  | cons x l ih =>
    cases h with
    | cons _ _ _ _ h hs =>
      intro k
      cases k with
      | zero => exact .nil
      | succ k => exact .cons _ _ _ _ h (ih hs k)
theorem VRs.drop {l l' : List Value} (h : VRs μ n l l') : ∀ k, VRs μ n (l.drop k) (l'.drop k) := by
  induction l generalizing l' with
  | nil => cases h; intro k; simp; exact .nil
  | cons x l ih =>
    cases h with
    | cons _ _ _ _ h hs =>
      intro k
      cases k with
      | zero => exact .cons _ _ _ _ h hs
      | succ k => exact ih hs k
theorem VRs.lget {l l' : List Value} (h : VRs μ n l l') : ∀ k, VR μ n (lget l k) (l'.getD k undef) := by
  induction l generalizing l' with
  | nil => cases h; intro k; simp [Am.lget, undef]; exact .tuple _ _ .nil
  | cons x l ih =>
    cases h with
    | cons _ _ _ _ h hs =>
      intro k
      cases k with
      | zero => exact h
      | succ k => simpa [Am.lget] using ih hs k
theorem VRs.lset {l l' : List Value} (h : VRs μ n l l') {v v' : Value} (hv : VR μ n v v') : ∀ k, VRs μ n (lset l k v) (l'.set k v') := by
  induction l generalizing l' with
  | nil => cases h; intro k; simp [Am.lset]; exact .nil
  | cons x l ih =>
    cases h with
    | cons _ _ _ _ h hs =>
      intro k
      cases k with
      | zero => exact .cons _ _ _ _ hv hs
      | succ k => exact .cons _ _ _ _ h (ih hs k)
theorem VRs.replicate_undef : ∀ k, VRs μ n (List.replicate k undef) (List.replicate k undef)
  | 0 => .nil
  | k + 1 => .cons _ _ _ _ (.tuple _ _ .nil) (VRs.replicate_undef k)
theorem VR.cellsOf {v v' : Value} (h : VR μ n v v') : VRs μ n (cellsOf v) v'.cells.toList := by
  cases h <;> first | assumption | exact .cons _ _ _ _ (by constructor <;> assumption) .nil
theorem VR.oneCell {v v' : Value} (h : VR μ n v v') : oneCell v' = oneCell v := by cases h <;> rfl
end lists

/-- no address in it -/
def plainV : Value → Bool
  | .bool _ | .int _ _ | .float _ _ | .complex _ _ _ | .string _ | .pointer none | .slice none 0 0 | .map none | .chan none | .nilFunc | .nilIface => true
  | .func _ x y => x.isEmpty && y.isEmpty
  | .agg cs => cs.toList.all fun
    | .bool _ | .int _ _ | .float _ _ | .complex _ _ _ | .string _ | .pointer none | .slice none 0 0 | .map none | .chan none | .nilFunc | .nilIface => true
    | _ => false
  | .tuple vs => vs.isEmpty
  | _ => false

theorem plainV_rel {μ : Nat → Spot} {n : Nat} {v : Value} (h : plainV v = true) : VR μ n v v := by
  cases v with
  | pointer a => cases a with | none => exact .nilPtr | some a => simp [plainV] at h
  | slice a l c =>
    cases a with
    | none => cases l <;> cases c <;> first | exact .nilSlice | simp [plainV] at h
    | some a => simp [plainV] at h
  | map r => cases r with | none => exact .nilMap | some a => simp [plainV] at h
  | chan r => cases r with | none => exact .nilChan | some a => simp [plainV] at h
  | func fn x y =>
    simp [plainV] at h
    obtain ⟨rfl, rfl⟩ := h
    exact .func _ _ _ _ _ .nil .nil
  | agg cs =>
    refine .agg _ _ ?_
    have h : cs.toList.all _ = true := h
    revert h
    generalize cs.toList = l
    intro h
    induction l with
    | nil => exact .nil
    | cons x l ih =>
      rw [List.all_cons, Bool.and_eq_true] at h
      refine .cons _ _ _ _ ?_ (ih h.2)
      have h1 := h.1
      split at h1 <;> first | constructor | cases h1
  | tuple vs =>
    simp [plainV] at h
    subst h
    exact .tuple _ _ .nil
  | iface t v => simp [plainV] at h
  | _ => constructor

/-! ### the heap -/
theorem bitsGo_inj : ∀ (f g m k : Nat), m ≤ f → k ≤ g → bitsGo f m = bitsGo g k → m = k
  | 0, 0, m, k, h1, h2, _ => by omega
  | 0, g + 1, m, k, h1, h2, h => by
    by_cases hk : k = 0
    · omega
    · simp [bitsGo, hk] at h
  | f + 1, 0, m, k, h1, h2, h => by
    by_cases hk : m = 0
    · omega
    · simp [bitsGo, hk] at h
  | f + 1, g + 1, m, k, h1, h2, h => by
    by_cases hm : m = 0 <;> by_cases hk : k = 0
    · omega
    · simp [bitsGo, hk, hm] at h
    · simp [bitsGo, hk, hm] at h
    · simp only [bitsGo, hk, hm, if_false, List.cons.injEq] at h
      have := bitsGo_inj f g (m / 2) (k / 2) (by omega) (by omega) h.2
      have h1 := h.1
      rw [Bool.eq_iff_iff] at h1
      simp at h1
      omega
theorem bits_inj {m k : Nat} (h : bits m = bits k) : m = k := bitsGo_inj m k m k (Nat.le_refl _) (Nat.le_refl _) h

theorem Tr.get_nil (bs : List Bool) : Tr.nil.get bs = none := by cases bs <;> rfl
theorem Tr.get_set_same : ∀ (bs : List Bool) (t : Tr) (v : Option AObj), (t.set bs v).get bs = v
  | [], t, v => by cases t <;> rfl
  | b :: bs, t, v => by cases t <;> cases b <;> simp [Tr.set, Tr.get, Tr.get_set_same bs]
theorem Tr.get_set_other : ∀ (bs cs : List Bool) (t : Tr) (v : Option AObj), bs ≠ cs → (t.set bs v).get cs = t.get cs
  | [], [], _, _, h => absurd rfl h
  | [], c :: cs, t, v, _ => by cases t <;> cases c <;> simp [Tr.set, Tr.get]
  | b :: bs, [], t, v, _ => by cases t <;> cases b <;> simp [Tr.set, Tr.get]
  | b :: bs, c :: cs, t, v, h => by
    by_cases hb : bs = cs
    · have hbc : b ≠ c := fun e => h (by rw [e, hb])
      cases t <;> cases b <;> cases c <;> simp_all [Tr.set, Tr.get]
    · cases t <;> cases b <;> cases c <;> simp [Tr.set, Tr.get, Tr.get_set_other bs cs _ v hb]

theorem St.get_put_same (s : St) (i : Nat) (o : Option AObj) : (s.put i o).get i = o := Tr.get_set_same _ _ _
theorem St.get_put_other (s : St) {i j : Nat} (o : Option AObj) (h : i ≠ j) : (s.put i o).get j = s.get j := Tr.get_set_other _ _ _ _ fun e => h (bits_inj e)
theorem St.get_put (s : St) (i j : Nat) (o : Option AObj) : (s.put i o).get j = if i = j then o else s.get j := by
  split
  · rename_i h; rw [h, St.get_put_same]
  · rename_i h; rw [St.get_put_other _ _ h]
theorem St.get_new (s : St) (j : Nat) (o : AObj) : (s.new o).get j = if s.next = j then some o else s.get j := by
  show (s.put s.next (some o)).get j = _
  rw [St.get_put]
@[simp] theorem St.next_put (s : St) (i : Nat) (o : Option AObj) : (s.put i o).next = s.next := rfl
@[simp] theorem St.next_new (s : St) (o : AObj) : (s.new o).next = s.next + 1 := rfl

def AObj.owned : AObj → Bool
  | .row _ _ true => false
  | _ => true

/-- entries of a map -/
def ER (μ : Nat → Spot) (n clock : Nat) : List (Value × Value × Nat) → List MapEntry → Prop
  | [], [] => True
  | e :: es, e' :: es' => VR μ n e.1 e'.key ∧ VR μ n e.2.1 e'.val ∧ e'.born = e.2.2 ∧ e.2.2 < clock ∧ ER μ n clock es es'
  | _, _ => False

/-- what a name stands for is there -/
def IdOk (B0 : Nat) (μ : Nat → Spot) (n : Nat) (w : World) (i : Nat) : AObj → Prop
  | .row cs g ro => (μ i).grown = g ∧ (μ i).base + cs.length ≤ (μ i).limit ∧
      (∀ j v, cs[j]? = some v → ∃ v', w.cell? ⟨(μ i).block, (μ i).base + j, none⟩ = some v' ∧ VR μ n v v') ∧
      (ro = true → (μ i).block < B0 ∨ cs = []) ∧
      (ro = false → B0 ≤ (μ i).block ∧ (∀ x, (μ i).base ≤ x → x < (μ i).limit → (w.cell? ⟨(μ i).block, x, none⟩).isSome = true ∧ w.frozen? ⟨(μ i).block, x, none⟩ = false) ∧ (g = 0 → (μ i).base = 0))
  | .map es clock => B0 ≤ (μ i).block ∧ ∃ es', w.heap[(μ i).block]? = some (.map es' clock) ∧ ER μ n clock es es'.toList
  | .strIter s pos => B0 ≤ (μ i).block ∧ (μ i).base = 0 ∧ w.heap[(μ i).block]? = some (.stringIter s pos)
  | .mapIter m since seen last => B0 ≤ (μ i).block ∧ (μ i).base = 0 ∧ (∀ r, m = some r → r < n) ∧ w.heap[(μ i).block]? = some (.mapIter (m.map fun r => (μ r).block) since seen.toArray last)

structure Rel (B0 : Nat) (W0 : World) (μ : Nat → Spot) (s : St) (w : World) : Prop where
  low : B0 ≤ W0.heap.size
  below : Below B0 W0 w
  known : ∀ i o, s.get i = some o → i < s.next ∧ (μ i).block < w.heap.size ∧ IdOk B0 μ s.next w i o
  apart : ∀ i j oi oj, i ≠ j → s.get i = some oi → s.get j = some oj → oi.owned = true → oj.owned = true → (μ i).block ≠ (μ j).block

end Go.Am
end
section
set_option linter.unusedSimpArgs false
set_option linter.unusedVariables false
set_option maxRecDepth 10000
namespace Go.Am
open Go.RowKit (Below)

variable {B0 : Nat} {W0 : World} {μ : Nat → Spot} {s : St} {w : World}

def upd (μ : Nat → Spot) (i : Nat) (sp : Spot) : Nat → Spot := fun j => if j = i then sp else μ j

theorem upd_same (i : Nat) (sp : Spot) : upd μ i sp i = sp := by simp [upd]
theorem upd_agree (sp : Spot) (n : Nat) : Agree μ n (upd μ n sp) (n + 1) := ⟨by omega, fun i hi => by simp [upd]; omega⟩

theorem ER.mono {μ' : Nat → Spot} {n n' c c' : Nat} (ha : Agree μ n μ' n') (hc : c ≤ c') : ∀ {es : List (Value × Value × Nat)} {es' : List MapEntry}, ER μ n c es es' → ER μ' n' c' es es'
  | [], [], _ => trivial
  | _ :: _, _ :: _, ⟨h1, h2, h3, h4, h5⟩ => ⟨h1.mono ha, h2.mono ha, h3, by omega, h5.mono ha hc⟩

theorem IdOk.mono {μ' : Nat → Spot} {n n' : Nat} {w' : World} {i : Nat} {o : AObj} (ha : Agree μ n μ' n') (hi : i < n) (hb : w'.heap[(μ i).block]? = w.heap[(μ i).block]?) (h : IdOk B0 μ n w i o) : IdOk B0 μ' n' w' i o := by
  have hm := ha.2 i hi
  cases o with
  | row cs g ro =>
    obtain ⟨h1, h2, h3, h4, h5⟩ := h
    refine ⟨by rw [hm]; exact h1, by rw [hm]; exact h2, fun j v hj => ?_, by rw [hm]; exact h4, fun hr => ?_⟩
    · obtain ⟨v', hv, hr⟩ := h3 j v hj
      exact ⟨v', by rw [hm, World.cell?_of_block (w := w) hb]; exact hv, hr.mono ha⟩
    · obtain ⟨h6, h7, h8⟩ := h5 hr
      refine ⟨by rw [hm]; exact h6, fun x hx1 hx2 => ?_, by rw [hm]; exact h8⟩
      rw [hm] at hx1 hx2 ⊢
      rw [World.cell?_of_block (w := w) hb, World.frozen?_of_block (w := w) hb]
      exact h7 x hx1 hx2
  | map es clock =>
    obtain ⟨h1, es', h2, h3⟩ := h
    exact ⟨by rw [hm]; exact h1, es', by rw [hm, hb]; exact h2, h3.mono ha (Nat.le_refl _)⟩
  | strIter b pos =>
    obtain ⟨h1, h2, h3⟩ := h
    exact ⟨by rw [hm]; exact h1, by rw [hm]; exact h2, by rw [hm, hb]; exact h3⟩
  | mapIter m since seen last =>
    obtain ⟨h1, h2, h3, h4⟩ := h
    refine ⟨by rw [hm]; exact h1, by rw [hm]; exact h2, fun r hr => Nat.lt_of_lt_of_le (h3 r hr) ha.1, ?_⟩
    rw [hm, hb, h4]
    cases m with
    | none => rfl
    | some r => simp [ha.2 r (h3 r rfl)]

/-- the worlds' heaps are one -/
theorem Rel.heap {w' : World} (h : Rel B0 W0 μ s w) (hh : w'.heap = w.heap) (ho : w'.os = w.os) (ht : w'.tape = w.tape) (hu : w'.output = w.output) : Rel B0 W0 μ s w' :=
  ⟨h.low, ⟨ho.trans h.below.os, ht.trans h.below.tape, hu.trans h.below.output, by rw [hh]; exact h.below.size, fun k hk => by rw [hh]; exact h.below.block k hk⟩,
    fun i o hi => by
      obtain ⟨h1, h2, h3⟩ := h.known i o hi
      exact ⟨h1, by rw [hh]; exact h2, h3.mono (Agree.refl _ _) h1 (by rw [hh])⟩, h.apart⟩

theorem Rel.drew (h : Rel B0 W0 μ s w) (k : Nat) : Rel B0 W0 μ s { w with drawn := k } := h.heap rfl rfl rfl rfl

theorem Rel.size (h : Rel B0 W0 μ s w) : B0 ≤ w.heap.size := Nat.le_trans h.low h.below.size

theorem heap_alloc_lt (w : World) (c : Obj) {k : Nat} (h : k < w.heap.size) : (w.alloc c).heap[k]? = w.heap[k]? := Below.heap_alloc w c k h

/-- a new block -/
theorem Rel.new (h : Rel B0 W0 μ s w) (o : AObj) (c : Obj) (sp : Spot) (hsp : sp.block = w.heap.size) (hid : IdOk B0 (upd μ s.next sp) (s.next + 1) (w.alloc c) s.next o) :
    Rel B0 W0 (upd μ s.next sp) (s.new o) (w.alloc c) := by
  have ha := upd_agree (μ := μ) sp s.next
  refine ⟨h.low, h.below.alloc h.size c, fun i x hi => ?_, fun i j oi oj hij hi hj h1 h2 => ?_⟩
  · rw [St.get_new] at hi
    by_cases hn : s.next = i
    · subst hn
      simp at hi
      subst hi
      exact ⟨by simp, by rw [upd_same, hsp]; simp, hid⟩
    · simp [hn] at hi
      obtain ⟨k1, k2, k3⟩ := h.known i x hi
      refine ⟨by simp; omega, ?_, k3.mono ha k1 (heap_alloc_lt _ _ k2)⟩
      rw [ha.2 i k1]
      simp
      omega
  · rw [St.get_new] at hi hj
    have old : ∀ (k : Nat) (x : AObj), s.get k = some x → k < s.next ∧ (upd μ s.next sp k).block < w.heap.size := fun k x hk => by
      obtain ⟨k1, k2, _⟩ := h.known k x hk
      exact ⟨k1, by rw [ha.2 k k1]; exact k2⟩
    by_cases hn : s.next = i
    · subst hn
      simp [hij] at hj
      have := old j oj hj
      rw [upd_same, hsp]
      omega
    · by_cases hm : s.next = j
      · subst hm
        simp [hn] at hi
        have := old i oi hi
        rw [upd_same, hsp]
        omega
      · simp [hn] at hi
        simp [hm] at hj
        rw [ha.2 i (old i oi hi).1, ha.2 j (old j oj hj).1]
        exact h.apart i j oi oj hij hi hj h1 h2

/-- a new row of cells, all of it known, or with more behind it -/
theorem Rel.newRow (h : Rel B0 W0 μ s w) (cs : List Value) (g : Nat) (c : Array Value) (t : TypeId) (fr : Nat × Nat)
    (hc : ∀ (j : Nat) (v : Value), cs[j]? = some v → ∃ v', c[j]? = some v' ∧ VR μ s.next v v') (hl : cs.length ≤ c.size) (hf : ∀ x, x < c.size → ¬ (fr.1 ≤ x ∧ x < fr.2)) :
    Rel B0 W0 (upd μ s.next ⟨w.heap.size, 0, c.size, g⟩) (s.new (.row cs g false)) (w.alloc (.cells c t fr)) := by
  have ha := upd_agree (μ := μ) ⟨w.heap.size, 0, c.size, g⟩ s.next
  have hcell : ∀ x, (w.alloc (.cells c t fr)).cell? ⟨w.heap.size, x, none⟩ = c[x]? := fun x => by
    have : (w.alloc (.cells c t fr)).heap[w.heap.size]? = some (.cells c t fr) := by show (w.heap.push _)[w.heap.size]? = _; simp
    simp only [World.cell?, this]; rfl
  refine h.new _ _ _ rfl ?_
  unfold IdOk
  rw [upd_same]
  refine ⟨rfl, by simpa using hl, fun j v hj => ?_, fun hr => by simp at hr, fun _ => ⟨h.size, fun x _ hx => ?_, fun _ => rfl⟩⟩
  · obtain ⟨v', h1, h2⟩ := hc j v hj
    exact ⟨v', by simp only [Nat.zero_add]; rw [hcell]; exact h1, h2.mono ha⟩
  · simp only at hx
    refine ⟨by rw [hcell]; simp [hx], ?_⟩
    have hh : (w.alloc (.cells c t fr)).heap[w.heap.size]? = some (.cells c t fr) := by show (w.heap.push _)[w.heap.size]? = _; simp
    have := hf x hx
    simp only [World.frozen?, hh]
    simpa using this

/-- what owns its block owns it alone: another name in that block has no cells -/
theorem Rel.alone (h : Rel B0 W0 μ s w) {i j : Nat} {oi oj : AObj} (hij : j ≠ i) (hi : s.get i = some oi) (hj : s.get j = some oj) (hown : oi.owned = true) (hb : (μ j).block = (μ i).block) :
    ∃ g, oj = .row [] g true := by
  cases hoj : oj.owned with
  | true => exact absurd hb (h.apart j i oj oi hij hj hi hoj hown)
  | false =>
    cases oj with
    | row cs g ro =>
      cases ro with
      | false => simp [AObj.owned] at hoj
      | true =>
        have k := (h.known j _ hj).2.2.2.2.2.1 rfl
        have hB : B0 ≤ (μ i).block := by
          have := (h.known i oi hi).2.2
          cases oi with
          | row cs' g' ro' =>
            cases ro' with
            | true => simp [AObj.owned] at hown
            | false => exact (this.2.2.2.2 rfl).1
          | map es c => exact this.1
          | strIter b p => exact this.1
          | mapIter a b c d => exact this.1
        rcases k with k | k
        · omega
        · subst k; exact ⟨g, rfl⟩
    | _ => simp [AObj.owned] at hoj

/-- the block of one name turns; the others stay -/
theorem Rel.turn (h : Rel B0 W0 μ s w) {i : Nat} {oi : AObj} (hi : s.get i = some oi) (hown : oi.owned = true) (o' : AObj) {w' : World}
    (hos : w'.os = w.os) (htape : w'.tape = w.tape) (hout : w'.output = w.output) (hsize : w'.heap.size = w.heap.size)
    (hblk : ∀ k, k ≠ (μ i).block → w'.heap[k]? = w.heap[k]?) (hid : IdOk B0 μ s.next w' i o') : Rel B0 W0 μ (s.put i (some o')) w' := by
  have hB : B0 ≤ (μ i).block := by
    have := (h.known i oi hi).2.2
    cases oi with
    | row cs' g' ro' =>
      cases ro' with
      | true => simp [AObj.owned] at hown
      | false => exact (this.2.2.2.2 rfl).1
    | map es c => exact this.1
    | strIter b p => exact this.1
    | mapIter a b c d => exact this.1

  refine ⟨h.low, h.below.trans ⟨hos, htape, hout, by omega, fun k hk => hblk k (by omega)⟩, fun j x hj => ?_, fun j k oj ok hjk hj hk h1 h2 => ?_⟩
  · rw [St.get_put] at hj
    by_cases hij : i = j
    · subst hij
      simp at hj
      subst hj
      exact ⟨(h.known i oi hi).1, by rw [hsize]; exact (h.known i oi hi).2.1, hid⟩
    · simp [hij] at hj
      obtain ⟨k1, k2, k3⟩ := h.known j x hj
      refine ⟨k1, by rw [hsize]; exact k2, ?_⟩
      by_cases hb : (μ j).block = (μ i).block
      · obtain ⟨g, rfl⟩ := h.alone (fun e => hij e.symm) hi hj hown hb
        obtain ⟨m1, m2, _, _, _⟩ := k3
        exact ⟨m1, m2, fun j v hj => by simp at hj, fun _ => Or.inr rfl, fun hr => by simp at hr⟩
      · exact k3.mono (Agree.refl _ _) k1 (hblk _ hb)
  · rw [St.get_put] at hj hk
    have own : ∀ (y : Nat) (x : AObj), i ≠ y → s.get y = some x → x.owned = true → (μ y).block ≠ (μ i).block := fun y x hy hx ho => h.apart y i x oi (fun e => hy e.symm) hx hi ho hown
    by_cases hij : i = j
    · subst hij
      simp [hjk] at hk
      exact fun e => own k ok hjk hk h2 e.symm
    · by_cases hik : i = k
      · subst hik
        simp [hij] at hj
        exact own j oj hij hj h1
      · simp [hij] at hj
        simp [hik] at hk
        exact h.apart j k oj ok hjk hj hk h1 h2

theorem setCells_fields (b : Nat) : ∀ (vs : List Value) (o : Nat) (w : World), (w.setCells b o vs).os = w.os ∧ (w.setCells b o vs).tape = w.tape ∧ (w.setCells b o vs).output = w.output ∧ (w.setCells b o vs).heap.size = w.heap.size ∧
    ∀ k, k ≠ b → (w.setCells b o vs).heap[k]? = w.heap[k]?
  | [], _, _ => ⟨rfl, rfl, rfl, rfl, fun _ _ => rfl⟩
  | v :: r, o, w => by
    obtain ⟨h1, h2, h3, h4, h5⟩ := setCells_fields b r (o + 1) (w.setCell ⟨b, o, none⟩ v)
    exact ⟨h1, h2, h3, by rw [World.setCells, h4]; simp, fun k hk => by rw [World.setCells, h5 k hk]; exact Below.heap_setCell _ _ _ _ hk⟩

theorem lputs_get (l vs : List Value) (o j : Nat) (h : o + vs.length ≤ l.length) : (lputs l o vs)[j]? = if j < o then l[j]? else if j < o + vs.length then vs[j - o]? else l[j]? := by
  unfold lputs
  split
  · rename_i h1
    rw [List.append_assoc, List.getElem?_append_left (by simp; omega)]
    simp [h1]
  · rename_i h1
    split
    · rename_i h2
      rw [List.append_assoc, List.getElem?_append_right (by simp; omega), List.getElem?_append_left (by simp; omega)]
      congr 1
      simp; omega
    · rename_i h2
      rw [List.getElem?_append_right (by simp; omega)]
      simp only [List.getElem?_drop, List.length_append, List.length_take]
      congr 1
      omega
theorem lputs_length (l vs : List Value) (o : Nat) (h : o + vs.length ≤ l.length) : (lputs l o vs).length = l.length := by
  unfold lputs
  simp
  omega

/-- the cells of a row, as the first machine has them -/
theorem IdOk.cellAt {i : Nat} {cs : List Value} {g : Nat} {ro : Bool} {n : Nat} (h : IdOk B0 μ n w i (.row cs g ro)) {j : Nat} {v : Value} (hj : cs[j]? = some v) :
    ∃ v', w.cell? ⟨(μ i).block, (μ i).base + j, none⟩ = some v' ∧ VR μ n v v' := h.2.2.1 j v hj

/-- a store of cells into a row that is owned, from a place on; perhaps beyond what is known of it -/
theorem IdOk.stored {i : Nat} {cs : List Value} {g n : Nat} (h : IdOk B0 μ n w i (.row cs g false)) (o : Nat) (vs vs' : List Value) (hv : VRs μ n vs vs') (ho : o + vs.length ≤ cs.length) :
    IdOk B0 μ n (w.setCells (μ i).block ((μ i).base + o) vs') i (.row (lputs cs o vs) g false) := by
  obtain ⟨h1, h2, h3, _, h5⟩ := h
  obtain ⟨h6, h7, h8⟩ := h5 rfl
  have hlen := hv.length
  refine ⟨h1, by rw [lputs_length _ _ _ ho]; exact h2, fun j v hj => ?_, fun hr => by simp at hr, fun _ => ⟨h6, fun x hx1 hx2 => ?_, h8⟩⟩
  · rw [lputs_get _ _ _ _ ho] at hj
    by_cases c1 : j < o
    · simp only [c1, if_true] at hj
      obtain ⟨v', k1, k2⟩ := h3 j v hj
      exact ⟨v', by rw [World.cell?_setCells_out _ _ _ _ _ (fun _ _ => Or.inl (by simp; omega))]; exact k1, k2⟩
    · by_cases c2 : j < o + vs.length
      · simp only [c1, c2, if_false, if_true] at hj
        obtain ⟨v', k1, k2⟩ := hv.get hj
        refine ⟨v', ?_, k2⟩
        have hin := World.cell?_setCells_in (μ i).block vs' ((μ i).base + o) w (fun k hk => (h7 _ (by omega) (by omega)).1) (j - o) (by omega)
        rw [show (μ i).base + j = (μ i).base + o + (j - o) by omega, hin, ← k1]
        simp [show j - o < vs'.length by omega]
      · simp only [c1, c2, if_false] at hj
        obtain ⟨v', k1, k2⟩ := h3 j v hj
        exact ⟨v', by rw [World.cell?_setCells_out _ _ _ _ _ (fun _ _ => Or.inr (by simp; omega))]; exact k1, k2⟩
  · obtain ⟨k1, k2⟩ := h7 x hx1 hx2
    refine ⟨?_, by rw [World.frozen?_setCells]; exact k2⟩
    by_cases c : (μ i).base + o ≤ x ∧ x < (μ i).base + o + vs'.length
    · have hin := World.cell?_setCells_in (μ i).block vs' ((μ i).base + o) w (fun k hk => (h7 _ (by omega) (by omega)).1) (x - ((μ i).base + o)) (by omega)
      rw [show (μ i).base + o + (x - ((μ i).base + o)) = x by omega] at hin
      rw [hin]; rfl
    · rw [World.cell?_setCells_out _ _ _ _ _ (fun _ _ => by simp; omega)]
      exact k1

theorem Rel.stored (h : Rel B0 W0 μ s w) {i : Nat} {cs : List Value} {g : Nat} (hi : s.get i = some (.row cs g false)) (o : Nat) (vs vs' : List Value) (hv : VRs μ s.next vs vs') (ho : o + vs.length ≤ cs.length) :
    Rel B0 W0 μ (s.put i (some (.row (lputs cs o vs) g false))) (w.setCells (μ i).block ((μ i).base + o) vs') := by
  obtain ⟨f1, f2, f3, f4, f5⟩ := setCells_fields (μ i).block vs' ((μ i).base + o) w
  exact h.turn hi rfl _ f1 f2 f3 f4 f5 ((h.known i _ hi).2.2.stored o vs vs' hv ho)

/-- a store into the block of a map, an iterator -/
theorem Rel.setObj (h : Rel B0 W0 μ s w) {i : Nat} {oi : AObj} (hi : s.get i = some oi) (hown : oi.owned = true) (o' : AObj) (c : Obj)
    (hid : IdOk B0 μ s.next { w with heap := w.heap.setIfInBounds (μ i).block c } i o') : Rel B0 W0 μ (s.put i (some o')) { w with heap := w.heap.setIfInBounds (μ i).block c } :=
  h.turn hi hown o' rfl rfl rfl (by simp) (fun k hk => by simp [Ne.symm hk]) hid

/-- a name is given up -/
theorem Rel.kill (h : Rel B0 W0 μ s w) (i : Nat) : Rel B0 W0 μ (s.put i none) w :=
  ⟨h.low, h.below, fun j x hj => by
      rw [St.get_put] at hj
      by_cases hij : i = j
      · simp [hij] at hj
      · simp [hij] at hj; exact h.known j x hj,
    fun j k oj ok hjk hj hk h1 h2 => by
      rw [St.get_put] at hj hk
      by_cases hij : i = j
      · simp [hij] at hj
      · by_cases hik : i = k
        · simp [hik] at hk
        · simp [hij] at hj; simp [hik] at hk
          exact h.apart j k oj ok hjk hj hk h1 h2⟩

/-- a new name for cells that are there, in a block that no other name owns -/
theorem Rel.rename (h : Rel B0 W0 μ s w) (o : AObj) (sp : Spot) (hb : sp.block < w.heap.size) (hid : IdOk B0 (upd μ s.next sp) (s.next + 1) w s.next o)
    (hal : o.owned = true → ∀ j oj, s.get j = some oj → oj.owned = true → (μ j).block ≠ sp.block) : Rel B0 W0 (upd μ s.next sp) (s.new o) w := by
  have ha := upd_agree (μ := μ) sp s.next
  refine ⟨h.low, h.below, fun i x hi => ?_, fun i j oi oj hij hi hj h1 h2 => ?_⟩
  · rw [St.get_new] at hi
    by_cases hn : s.next = i
    · subst hn
      simp at hi
      subst hi
      exact ⟨by simp, by rw [upd_same]; exact hb, hid⟩
    · simp [hn] at hi
      obtain ⟨k1, k2, k3⟩ := h.known i x hi
      exact ⟨by simp; omega, by rw [ha.2 i k1]; exact k2, k3.mono ha k1 rfl⟩
  · rw [St.get_new] at hi hj
    by_cases hn : s.next = i
    · subst hn
      simp at hi; subst hi
      simp [hij] at hj
      rw [upd_same, ha.2 j (h.known j oj hj).1]
      exact fun e => hal h1 j oj hj h2 e.symm
    · by_cases hm : s.next = j
      · subst hm
        simp at hj; subst hj
        simp [hn] at hi
        rw [upd_same, ha.2 i (h.known i oi hi).1]
        exact hal h2 i oi hi h1
      · simp [hn] at hi
        simp [hm] at hj
        rw [ha.2 i (h.known i oi hi).1, ha.2 j (h.known j oj hj).1]
        exact h.apart i j oi oj hij hi hj h1 h2

end Go.Am
end
section
set_option linter.unusedSimpArgs false
set_option linter.unusedVariables false
set_option maxRecDepth 10000
namespace Go.Am

/-- b: how many slots the function has -/
def argOf (P : Program) (b : Nat) : Operand → Option Arg
  | .tmp t => if t < b then some (.t t) else none
  | .const v => if plainV v then some (.c v) else none
  | .global g => if g < P.globals.size then some (.g g) else none
  | .func f => some (.c (.func (.func f) #[] #[]))

def argsOf (P : Program) (b : Nat) : List Operand → Option (List Arg)
  | [] => some []
  | x :: xs => (argOf P b x).bind fun a => (argsOf P b xs).map (a :: ·)

def aggT (P : Program) (t : TypeId) : Option Bool :=
  match P.underlying t with
  | some (.struct _) | some (.array _ _) => some true
  | some _ => some false
  | none => none

def sizeT (P : Program) (t : TypeId) : Option Nat := (P.info? t).map (·.size)
def bytesT (P : Program) (t : TypeId) : Option Nat := (P.info? t).map (·.bytes)
/-- a type's zero value, where it has no address in it -/
def zeroT (P : Program) (t : TypeId) : Option Value :=
  match P.info? t with
  | some i => match i.zero with
    | some v => if plainV v then some v else none
    | none => none
  | none => none

/-- where the parts of a struct, an array lie -/
def placeFn (P : Program) (t : TypeId) : Option (Nat → Option (Nat × Nat)) :=
  match P.underlying t with
  | some (.struct fields) => (fields.toList.mapM fun f => (P.info? f.type).map fun i => (f.offset, i.size)).map fun ps i => ps[i]?
  | some (.array _ elem) | some (.slice elem) => (sizeT P elem).map fun n i => some (i * n, n)
  | _ => none

def placesBy (f : Nat → Option (Nat × Nat)) : List Nat → Option (List (Nat × Nat))
  | [] => some []
  | i :: is => (f i).bind fun p => (placesBy f is).map (p :: ·)

def placesOf (P : Program) (t : TypeId) (is : List Nat) : Option (List (Nat × Nat)) := (placeFn P t).bind fun f => placesBy f is

def keyT (P : Program) (t : TypeId) : Option KeyK :=
  match P.underlying t with
  | some (.int _) => some .int
  | some .string => some .str
  | some .bool => some .bool
  | _ => none

def isConst : Operand → Bool
  | .const _ => true
  | _ => false

def nilKOf : TypeDesc → Option NilK
  | .pointer _ => some .ptr
  | .slice _ => some .slice
  | .map _ _ => some .map
  | .func _ _ _ => some .func
  | .interface _ => some .iface
  | _ => none

def compCall (P : Program) (c : Call) : Option (AOp × List Operand) :=
  match c.callee with
  | .value (.func f) => some (.call f, c.args.toList)
  | .value x => some (.callV, x :: c.args.toList)
  | .invoke r name => some (.invoke name, r :: c.args.toList)
  | .builtin b =>
    match b, c.argTypes.toList, c.args.toList with
    | .len, [t], [x] => match P.underlying t with
      | some .string => some (.p .lenStr, [x])
      | some (.slice _) => some (.p .lenSl, [x])
      | some (.map _ _) => some (.r .lenMap, [x])
      | some (.array n _) => some (.p (.lenArr n), [x])
      | _ => none
    | .append, [t, u], [x, y] => match P.underlying t, P.underlying u with
      | some (.slice e), some (.slice _) | some (.slice e), some .string =>
        (sizeT P e).bind fun n => (bytesT P e).bind fun b => (zeroT P e).bind fun z => if (cellsOf z).length = n then some (.w (.append n b), [x, y]) else none
      | _, _ => none
    | .copy, [t, _], [x, y] => match P.underlying t with
      | some (.slice e) => (sizeT P e).map fun n => (.w (.copy n), [x, y])
      | _ => none
    | .delete, [t, _], [x, y] => match P.underlying t with
      | some (.map k _) => (keyT P k).map fun kk => (.w (.delete kk), [x, y])
      | _ => none
    | .min, _, xs => some (.p .min, xs)
    | .max, _, xs => some (.p .max, xs)
    | _, _, _ => none

def compOp (P : Program) (o : Op) : Option (AOp × List Operand) :=
  match o with
  | .move x | .assign x => some (.p .move, [x])
  | .pick c a b => some (.p .pick, [c, a, b])
  | .alloc e => (zeroT P e).bind fun z => if (cellsOf z).all oneCell then some (.w (.new (cellsOf z)), []) else none
  | .box e x => (sizeT P e).map fun n => (.w (.box n), [x])
  | .build t parts => match P.underlying t with
    | some (.struct _) | some (.array _ _) => (zeroT P t).bind fun z => (placesOf P t (parts.toList.map (·.1))).map fun ps => (.p (.build (cellsOf z) ps), parts.toList.map (·.2))
    | _ => none
  | .buildSlice t len parts => match P.underlying t with
    | some (.slice e) => (zeroT P e).bind fun z => (sizeT P e).bind fun n => (placesOf P t (parts.toList.map (·.1))).bind fun ps =>
      if len * n ≤ 16777216 ∧ (cellsOf z).length = n then some (.w (.sliceLit (replicateL len (cellsOf z)) len ps), parts.toList.map (·.2)) else none
    | _ => none
  | .load t a => (aggT P t).bind fun b => if b then (sizeT P t).map fun n => (.r (.loadN n), [a]) else some (.r .load1, [a])
  | .store t a x => (sizeT P t).map fun n => (.w (.store n), [a, x])
  | .nilCheck x => some (.p .nilCheck, [x])
  | .binOp op t x y _ => match P.underlying t with
    | some (.int _) | some .string => some (.p (.bin op), [x, y])
    | some .bool => match op with
      | .eql => some (.p (.binB false), [x, y])
      | .neq => some (.p (.binB true), [x, y])
      | _ => none
    | some d => match nilKOf d with
      | some k => if isConst x || isConst y then match op with
        | .eql => some (.p (.nilEq k false), [x, y])
        | .neq => some (.p (.nilEq k true), [x, y])
        | _ => none else none
      | none => none
    | none => none
  | .unOp op _ x => some (.p (.un op), [x])
  | .convert src dst x => match P.underlying src, P.underlying dst with
    | some (.int _), some (.int k) => some (.p (.convInt k), [x])
    | some .string, some (.slice e) => match P.underlying e with
      | some (.int .u8) => some (.w .strToBytes, [x])
      | _ => none
    | some (.slice e), some .string => match P.underlying e with
      | some (.int .u8) => some (.r .bytesToStr, [x])
      | _ => none
    | _, _ => none
  | .makeInterface t x => match P.underlying t with
    | some (.interface _) | none => none
    | some _ => some (.p (.mkIface t), [x])
  | .makeFunc fn first captured => some (.p (.mkFunc fn first.size), first.toList ++ captured.toList)
  | .makeMap _ none => some (.w .mkMap, [])
  | .makeSlice t l c => match P.underlying t with
    | some (.slice e) => (zeroT P e).bind fun z => (sizeT P e).bind fun n => (bytesT P e).bind fun b => if (cellsOf z).length = n ∧ 0 < n then some (.w (.mkSlice (cellsOf z) b), [l, c]) else none
    | _ => none
  | .slice t x lo hi mx => match P.underlying t, mx with
    | some .string, none => some (.p (.slStr lo.isSome hi.isSome), x :: (lo.toList ++ hi.toList))
    | some (.slice e), none => (sizeT P e).map fun n => (.r (.sl n lo.isSome hi.isSome), x :: (lo.toList ++ hi.toList))
    | some (.array n e), none => (sizeT P e).map fun z => (.r (.slArr n z lo.isSome hi.isSome), x :: (lo.toList ++ hi.toList))
    | some (.slice e), some m => match lo, hi with
      | none, some h => (sizeT P e).map fun _ => (.w .sl3, [x, h, m])
      | _, _ => none
    | _, _ => none
  | .fieldAddr t x f => match P.underlying t with
    | some (.struct fields) => match fields[f]? with
      | some fd => match sizeT P fd.type with
        | some (_ + 1) => some (.p (.fieldAddr fd.offset), [x])
        | _ => none
      | none => none
    | _ => none
  | .field t x f => match P.underlying t with
    | some (.struct fields) => match fields[f]? with
      | some fd => (aggT P fd.type).bind fun b => (sizeT P fd.type).map fun n => (.p (.field b fd.offset n), [x])
      | none => none
    | _ => none
  | .indexAddr t x i => match P.underlying t with
    | some (.array n e) => (sizeT P e).map fun z => (.p (.indexAddrArr n z), [x, i])
    | some (.slice e) => (sizeT P e).map fun z => (.p (.indexAddr z), [x, i])
    | _ => none
  | .index t x i => match P.underlying t with
    | some .string => some (.p .indexStr, [x, i])
    | some (.array n e) => (aggT P e).bind fun b => (sizeT P e).map fun z => (.p (.indexArr n z b), [x, i])
    | _ => none
  | .lookup t x i ok => match P.underlying t with
    | some (.map k e) => (keyT P k).bind fun kk => (zeroT P e).map fun z => (.r (.lookup kk z ok), [x, i])
    | _ => none
  | .mapUpdate t m k x | .insert t m k x => match P.underlying t with
    | some (.map kt _) => (keyT P kt).map fun kk => (.w (.mapSet kk), [m, k, x])
    | _ => none
  | .range t x => match P.underlying t with
    | some .string => some (.w (.range true), [x])
    | some (.map _ _) => some (.w (.range false), [x])
    | _ => none
  | .next it str => some (.next str, [it])
  | .entry it => some (.r .entry, [it])
  | .typeAssert x _ t ok => match P.underlying t with
    | some (.interface _) | none => none
    | some _ => (zeroT P t).map fun z => (.p (.assertT t z ok), [x])
  | .extract t i => some (.p (.extract i), [t])
  | .call c => compCall P c
  | _ => none

def compGuard (b : Nat) (ops : Array Oper) (g : Option (Nat × Bool)) : Option (Option (Nat × Bool)) :=
  match g with
  | none => some none
  | some (j, want) => match (ops[j]?).bind (·.dst) with
    | some d => if d < b then some (some (d, want)) else none
    | none => none

def dstIn (b : Nat) : Option Nat → Bool
  | some d => Nat.blt d b
  | none => true

/-- what is deferred: what is called, and with what -/
def compDefer : Call → Option (List Operand)
  | { callee := .value x, args := as, .. } => some (x :: as.toList)
  | _ => none

def deferOf : Op → Option Call
  | .defer c => some c
  | _ => none

def compOper (P : Program) (b : Nat) (fl : Bool) (ops : Array Oper) (o : Oper) : Option AOper :=
  match deferOf o.op with
  | some c => if fl && o.dst.isNone && o.guard.isNone then (compDefer c).bind fun xs => (argsOf P b xs).map fun as => { dst := some b, op := .p .push, args := .t b :: as, guard := none } else none
  | none => (compOp P o.op).bind fun r => (argsOf P b r.2).bind fun as => (compGuard b ops o.guard).bind fun g => if dstIn b o.dst then some { dst := o.dst, op := r.1, args := as, guard := g } else none

def compOpers (P : Program) (b : Nat) (fl : Bool) (ops : Array Oper) : List Oper → Option (List AOper)
  | [] => some []
  | o :: os => (compOper P b fl ops o).bind fun a => (compOpers P b fl ops os).map (a :: ·)

def AOp.pure : AOp → Bool
  | .p _ => true
  | _ => false
def AOp.reads : AOp → Bool
  | .p _ | .r _ => true
  | _ => false

/-- two operations that come to the same in either order, their slots apart -/
def AOp.swap (x y : AOp) : Bool := x.pure || y.pure || (x.reads && y.reads)

/-- the slots that an operation looks at -/
def looks (o : AOper) : List Nat := (o.args.filterMap fun | .t n => some n | _ => none) ++ (match o.guard with | some (g, _) => [g] | none => [])

/-- two operations whose slots are apart, and that may be exchanged -/
def freeB (x y : AOper) : Bool :=
  (match x.dst with
   | some d => !(looks y).contains d && y.dst != some d
   | none => true) &&
  (match y.dst with
   | some d => !(looks x).contains d
   | none => true) && x.op.swap y.op

/-- what an operation waits for, and what these wait for: a bit each -/
def ancOf (acc : List Nat) (o : Oper) : Nat := o.after.toList.foldl (fun m e => bif Region.binds .any e then m ||| (1 <<< e.on) ||| (acc.getD e.on 0) else m) 0

def ancs : List Oper → List Nat → List Nat
  | [], acc => acc
  | o :: os, acc => ancs os (acc ++ [ancOf acc o])

/-- each pair of operations, the later one not waiting for the earlier one: may be taken in either order -/
def swapsOk (aops : List AOper) (ops : List Oper) : Bool :=
  let m := ancs ops []
  (List.range ops.length).all fun j => match aops[j]? with
    | some a => (List.range j).all fun i => (m.getD j 0).testBit i || (match aops[i]? with | some b => freeB b a | none => false)
    | none => false

/-- a read of a cell, whose value is kept -/
def isLoad (o : AOper) : Bool :=
  match o.op with
  | .r .load1 => o.dst.isSome
  | _ => false

/-- x's slot is not y's, and y doesn't look at it -/
def unseenB (x y : AOper) : Bool :=
  match x.dst with
  | some d => !(looks y).contains d && y.dst != some d
  | none => true

/-- as freeB; or the first one reads a cell, of which the run is asked to show that it is as it was behind the second one -/
def freeB2 (x y : AOper) : Bool :=
  unseenB x y && (match y.dst with
   | some d => !(looks x).contains d
   | none => true) && (x.op.swap y.op || (isLoad x && !y.op.reads))

def selfB (x : AOper) : Bool :=
  !isLoad x || (match x.dst with
  | some d => !(looks x).contains d
  | none => true)

def swapsOk2 (aops : List AOper) (ops : List Oper) : Bool :=
  let m := ancs ops []
  (List.range ops.length).all fun j => match aops[j]? with
    | some a => selfB a && (List.range j).all fun i => match aops[i]? with
      | some b => ((m.getD j 0).testBit i || freeB2 b a) && (!isLoad b || unseenB a b)
      | none => false
    | none => false

/-- the cell is asked for again -/
def chkOp (o : AOper) : AOper :=
  match o.dst with
  | some d => ⟨none, .r .same1, .t d :: o.args, o.guard⟩
  | none => o

def chksOf (m : List Nat) (aops : List AOper) (j : Nat) (a : AOper) : List AOper :=
  if a.op.reads then [] else (List.range j).filterMap fun i => match aops[i]? with
    | some b => if isLoad b && !((m.getD j 0).testBit i) then some (chkOp b) else none
    | none => none

def withChks (m : List Nat) (aops : List AOper) : List AOper → Nat → List AOper
  | [], _ => []
  | o :: os, k => o :: (chksOf m aops k o ++ withChks m aops os (k + 1))

def compRegion (P : Program) (b : Nat) (fl : Bool) (ops : Array Oper) (draw : Bool) : AC :=
  match compOpers P b fl ops ops.toList with
  | some aops => if draw && !(Region.lexB .any ops && swapsOk aops ops.toList) then (if Region.lexB .any ops && swapsOk2 aops ops.toList then .region (withChks (ancs ops.toList []) aops aops 0) else .bad) else .region aops
  | none => .bad

def comp (P : Program) (n : Nat) (fl : Bool) : Code → AC
  | .skip => .skip
  | .region _ ops draw => compRegion P n fl ops draw
  | .seq a b => .seq (comp P n fl a) (comp P n fl b)
  | .cond c x y => match argOf P n c with
    | some a => .cond a (comp P n fl x) (comp P n fl y)
    | none => .bad
  | .block id b => .block id (comp P n fl b)
  | .loop b => .loop (comp P n fl b)
  | .exit id => .exit id
  | .ret => .ret
  | _ => .bad

/-- something is deferred in this code -/
def codeDefers : Code → Bool
  | .region _ ops _ => ops.toList.any fun o => (deferOf o.op).isSome
  | .seq a b => codeDefers a || codeDefers b
  | .cond _ a b => codeDefers a || codeDefers b
  | .block _ b => codeDefers b
  | .loop b => codeDefers b
  | _ => false

def compResult (P : Program) (b : Nat) : ResultVar → Option (Nat × Nat)
  | .tmp t => if t < b then some (t, 0) else none
  | .cell a t => if a < b then match aggT P t, sizeT P t with
    | some false, some _ => some (a, 1)
    | some true, some n => some (a, n + 2)
    | _, _ => none else none

def compResults (P : Program) (b : Nat) : List ResultVar → Option (List (Nat × Nat))
  | [] => some []
  | r :: rs => (compResult P b r).bind fun x => (compResults P b rs).map (x :: ·)

/-- a whole function -/
def compFn (P : Program) (f : FuncId) : Option AFn :=
  match P.funcs[f]? with
  | some fn => match fn.body with
    | some b => if fn.name == "runtime.NumGoroutine" then none else (compResults P fn.ntmps fn.results.toList).map fun rs => { ntmps := fn.ntmps, body := comp P fn.ntmps (codeDefers b) b, results := rs, defs := codeDefers b }
    | none => none
  | none => none

end Go.Am
end
section
set_option linter.unusedSimpArgs false
set_option linter.unusedVariables false
set_option maxRecDepth 10000
namespace Go.Am
open Go.RowKit (Below)

section runs
variable {P : Program} {t : TypeId} (w : World)
theorem r_under {d : TypeDesc} (h : P.underlying t = some d) : (underlying t).run P w = .ok d w := by simp [underlying, h]
theorem r_info {i : TypeInfo} (h : P.info? t = some i) : (typeInfo t).run P w = .ok i w := by simp [typeInfo, h]
theorem r_size {n : Nat} (h : sizeT P t = some n) : (sizeOf t).run P w = .ok n w := by
  unfold sizeT at h
  cases hi : P.info? t with
  | none => simp [hi] at h
  | some i => simp [hi] at h; simp [sizeOf, r_info w hi, h]
theorem r_agg {b : Bool} (h : aggT P t = some b) : (isAgg t).run P w = .ok b w := by
  unfold aggT at h
  cases hi : P.underlying t with
  | none => simp [hi] at h
  | some d =>
    rw [hi] at h
    cases d <;> simp at h <;> subst h <;> simp [isAgg, r_under w hi]
theorem zeroT_spec {z : Value} (h : zeroT P t = some z) : ∃ i, P.info? t = some i ∧ i.zero = some z ∧ plainV z = true := by
  unfold zeroT at h
  cases hi : P.info? t with
  | none => simp [hi] at h
  | some i =>
    cases hz : i.zero with
    | none => simp [hi, hz] at h
    | some v => simp [hi, hz] at h; exact ⟨i, rfl, by rw [hz, h.2], by rw [← h.2]; exact h.1⟩
theorem r_zero {z : Value} (h : zeroT P t = some z) : (zeroValue t).run P w = .ok z w := by
  obtain ⟨i, h1, h2, _⟩ := zeroT_spec h
  simp [zeroValue, r_info w h1, h2]
end runs

theorem wrapF_eq (k : IntKind) (n : Int) : wrapF k n = k.wrap n := by
  cases k <;> simp only [wrapF] <;> (split <;> try rfl) <;> rename_i h <;> simp only [IntKind.wrap, IntKind.bits, IntKind.signed] <;> simp <;> omega

section inv
variable {μ : Nat → Spot} {n : Nat} {vs : List Value}
theorem VRs.inv0 (h : VRs μ n vs []) : vs = [] := by cases h; rfl
theorem VRs.inv1 {x : Value} (h : VRs μ n vs [x]) : ∃ a, vs = [a] ∧ VR μ n a x := by
  cases h with | cons v _ l _ h hs => obtain rfl := hs.inv0; exact ⟨v, rfl, h⟩
theorem VRs.invc {x : Value} {xs : List Value} (h : VRs μ n vs (x :: xs)) : ∃ a as, vs = a :: as ∧ VR μ n a x ∧ VRs μ n as xs := by
  cases h with | cons v _ l _ h hs => exact ⟨v, l, rfl, h, hs⟩
theorem VRs.inv2 {x y : Value} (h : VRs μ n vs [x, y]) : ∃ a b, vs = [a, b] ∧ VR μ n a x ∧ VR μ n b y := by
  obtain ⟨a, as, rfl, h1, h2⟩ := h.invc
  obtain ⟨b, rfl, h3⟩ := h2.inv1
  exact ⟨a, b, rfl, h1, h3⟩
theorem VRs.inv3 {x y z : Value} (h : VRs μ n vs [x, y, z]) : ∃ a b c, vs = [a, b, c] ∧ VR μ n a x ∧ VR μ n b y ∧ VR μ n c z := by
  obtain ⟨a, as, rfl, h1, h2⟩ := h.invc
  obtain ⟨b, c, rfl, h3, h4⟩ := h2.inv2
  exact ⟨a, b, c, rfl, h1, h3, h4⟩
end inv

theorem binInt_sound {P : Program} {op : BinOp} {k : IntKind} {a b : Int} {v : Value} (w : World) (t : TypeId) (hns : op ≠ .shl ∧ op ≠ .shr) (h : binInt op k a b = some v) : (binOp op t (.int k a) (.int k b)).run P w = .ok v w := by
  cases op <;> simp [binInt, wrapF_eq] at h hns <;> first
    | (subst h; simp [binOp, Op.intArith, Op.intCmp, Op.intBits, Op.intDiv]; done)
    | (obtain ⟨h1, h2⟩ := h; subst h2; simp [binOp, Op.intDiv, h1]; done)

theorem shiftInt_sound {P : Program} {op : BinOp} {k k' : IntKind} {a b : Int} {v : Value} (w : World) (t : TypeId) (hs : op = .shl ∨ op = .shr) (h : shiftInt op k a b = some v) : (binOp op t (.int k a) (.int k' b)).run P w = .ok v w := by
  unfold shiftInt at h
  split at h
  · cases h
  · rename_i hb
    rcases hs with rfl | rfl <;> simp at h <;> subst h <;> simp [binOp, Op.shift, hb] <;> rfl

theorem binStr_sound {P : Program} {op : BinOp} {a b : ByteArray} {v : Value} (w : World) (t : TypeId) (h : binStr op a b = some v) : (binOp op t (.string a) (.string b)).run P w = .ok v w := by
  cases op
  case add =>
    simp [binStr] at h
    have : ¬ ((a.size + b.size : Nat) : Int) > IntKind.i64.max := by show ¬ _ > (9223372036854775807 : Int); omega
    rw [← h.2]
    simp only [binOp, Op.stringOp, if_neg this]; rfl
  all_goals simp only [binStr, Option.some.injEq, reduceCtorEq] at h
  all_goals subst h; simp only [binOp, Op.stringOp, Go.ByteArray.toList_eq]; rfl

theorem binV_sound {P : Program} {μ : Nat → Spot} {n : Nat} {op : BinOp} {x y x' y' v : Value} (w : World) (t : TypeId) (hx : VR μ n x x') (hy : VR μ n y y') (h : binV op x y = some v) (ox oy : Operand) :
    (binOp op t x' y').run P w = .ok v w ∧ VR μ n v v ∧ (eqGuard op t ox oy x' y').run P w = .ok () w := by
  have fin : ∀ {v : Value}, (∃ k i, v = .int k i) ∨ (∃ b, v = .bool b) ∨ (∃ b, v = .string b) → VR μ n v v := fun {v} h => by
    rcases h with ⟨k, i, rfl⟩ | ⟨b, rfl⟩ | ⟨b, rfl⟩ <;> constructor
  unfold binV at h
  split at h
  · rename_i k a k' b
    cases hx; cases hy
    refine ⟨?_, ?_, ?_⟩
    · split at h
      · exact shiftInt_sound w t (Or.inl rfl) h
      · exact shiftInt_sound w t (Or.inr rfl) h
      · rename_i h1 h2
        split at h
        · rename_i hk
          subst hk
          exact binInt_sound w t ⟨fun e => h1 e, fun e => h2 e⟩ h
        · cases h
    · apply fin
      split at h
      · simp only [shiftInt] at h; split at h <;> simp at h; subst h; exact Or.inl ⟨_, _, rfl⟩
      · simp only [shiftInt] at h; split at h <;> simp at h; subst h; exact Or.inl ⟨_, _, rfl⟩
      · split at h
        · cases op <;> simp [binInt] at h <;> first | (subst h; first | exact Or.inl ⟨_, _, rfl⟩ | exact Or.inr (Or.inl ⟨_, rfl⟩)) | (obtain ⟨_, rfl⟩ := h; exact Or.inl ⟨_, _, rfl⟩)
        · cases h
    · cases op <;> simp [eqGuard]
  · rename_i a b
    cases hx; cases hy
    refine ⟨binStr_sound w t h, ?_, ?_⟩
    · apply fin
      cases op <;> simp [binStr] at h <;> first | (subst h; exact Or.inr (Or.inl ⟨_, rfl⟩)) | (obtain ⟨_, rfl⟩ := h; exact Or.inr (Or.inr ⟨_, rfl⟩))
    · cases op <;> simp [eqGuard]
  · cases h

theorem equal_step {P : Program} {w : World} {t : TypeId} {x y : Value} {r : Bool} (h : ∀ d, (Op.equalIn (d + 1) t x y).run P w = .ok r w) : (Op.equal t x y).run P w = .ok r w := h 9999

theorem binB_sound {P : Program} {t : TypeId} (ht : P.underlying t = some .bool) (w : World) (neg a b : Bool) (ox oy : Operand) :
    (binOp (if neg then .neq else .eql) t (.bool a) (.bool b)).run P w = .ok (.bool (xor neg (a == b))) w ∧ (eqGuard (if neg then .neq else .eql) t ox oy (.bool a) (.bool b)).run P w = .ok () w := by
  refine ⟨?_, by cases neg <;> simp [eqGuard]⟩
  have he : (Op.equal t (.bool a) (.bool b)).run P w = .ok (a == b) w := equal_step (fun d => by simp only [Op.equalIn, Sem.run_bind, r_under w ht, Result.andThen_ok]; rfl)
  cases neg <;> simp only [binOp, Sem.run_bind, he, Result.andThen_ok, if_true, Bool.false_eq_true, if_false] <;> simp

theorem nilEq_sound {P : Program} {μ : Nat → Spot} {n : Nat} {x y x' y' v : Value} {t : TypeId} {d : TypeDesc} {k : NilK} (w : World) (ht : P.underlying t = some d) (hd : nilKOf d = some k) (neg : Bool)
    (hx : VR μ n x x') (hy : VR μ n y y') (h : nilEqV k neg x y = some v) {ox oy : Operand} (hc : (isConst ox || isConst oy) = true) :
    (binOp (if neg then .neq else .eql) t x' y').run P w = .ok v w ∧ VR μ n v v ∧ (eqGuard (if neg then .neq else .eql) t ox oy x' y').run P w = .ok () w := by
  unfold nilEqV at h
  have run : ∀ {a b : Value} {r : Bool}, (∀ op, (binOp op t a b) = match op with | .eql => (do pure (.bool (← Op.equal t a b))) | .neq => (do pure (.bool (!(← Op.equal t a b)))) | _ => binOp op t a b) →
      (∀ d, (Op.equalIn (d + 1) t a b).run P w = .ok r w) → (binOp (if neg then .neq else .eql) t a b).run P w = .ok (.bool (xor neg r)) w := fun {a b r} hb he => by
    cases neg
    · rw [show (if false = true then BinOp.neq else BinOp.eql) = .eql from rfl, hb]
      simp only [Sem.run_bind, equal_step he, Result.andThen_ok]
      simp
    · rw [show (if true = true then BinOp.neq else BinOp.eql) = .neq from rfl, hb]
      simp only [Sem.run_bind, equal_step he, Result.andThen_ok]
      simp
  have hh : ∃ a b, isNil k x = some a ∧ isNil k y = some b ∧ (a || b) = true ∧ v = .bool (xor neg (a && b)) := by
    split at h
    · rename_i a b ha hb
      split at h
      · rename_i hab
        exact ⟨a, b, ha, hb, hab, by simpa using h.symm⟩
      · cases h
    · cases h
  clear h
  obtain ⟨a, b, ha, hb, hab, rfl⟩ := hh
  refine ⟨?_, .bool _, ?_⟩
  · refine run ?_ ?_
    · intro op
      cases k <;> cases hx <;> simp [isNil] at ha <;> cases hy <;> simp [isNil] at hb <;> cases op <;> rfl
    · intro e
      cases k <;> cases d <;> simp [nilKOf] at hd <;> cases hx <;> simp [isNil] at ha <;> cases hy <;> simp [isNil] at hb <;> subst ha <;> subst hb <;> simp at hab <;>
        (simp only [Op.equalIn, Sem.run_bind, r_under w ht, Result.andThen_ok]; simp)
  · have hg : ∀ op : BinOp, (eqGuard op t ox oy x' y').run P w = .ok () w := fun op => by
      have hnil : ∀ o : BinOp, (eqGuard o t ox oy .nilIface .nilIface).run P w = .ok () w := fun o => by
        cases ox <;> cases oy <;> simp [isConst] at hc <;> cases o <;> simp [eqGuard]
      cases k <;> cases hx <;> simp [isNil] at ha <;> cases hy <;> simp [isNil] at hb <;> first | exact hnil op | (cases op <;> simp [eqGuard])
    exact hg _
end Go.Am
end
section
set_option linter.unusedSimpArgs false
set_option linter.unusedVariables false
set_option maxRecDepth 10000
namespace Go.Am
open Go.RowKit (Below)

theorem foldl_put : ∀ (l : List Value) (k off : Nat) (cs : Array Value), off + k + l.length ≤ cs.size →
    ((l.zipIdx k).foldl (fun (cs : Array Value) (x : Value × Nat) => cs.setIfInBounds (off + x.2) x.1) cs).toList = lputs cs.toList (off + k) l
  | [], k, off, cs, _ => by simp [lputs]
  | v :: l, k, off, cs, h => by
    simp only [List.length_cons] at h
    rw [List.zipIdx_cons, List.foldl_cons, foldl_put l (k + 1) off _ (by simp; omega)]
    simp only [Array.toList_setIfInBounds, lputs]
    have h1 : (cs.toList.set (off + k) v).take (off + (k + 1)) = cs.toList.take (off + k) ++ [v] := by
      rw [List.take_set]
      rw [show off + (k + 1) = (off + k) + 1 by omega, List.take_succ_eq_append_getElem (by simp; omega)]
      rw [List.set_append_right _ _ (by simp; omega)]
      simp
      rw [show off + k - min (off + k) cs.size = 0 by omega]
      rfl
    have h2 : (cs.toList.set (off + k) v).drop (off + (k + 1) + l.length) = cs.toList.drop (off + k + (v :: l).length) := by
      rw [List.drop_set_of_lt (by omega)]
      congr 1
      simp; omega
    rw [h1, h2]
    simp

theorem fill_sound {μ : Nat → Spot} {n : Nat} {f : Nat → Option (Nat × Nat)} : ∀ (is : List Nat) (ps : List (Nat × Nat)) (vs vs' : List Value) (cells : List Value) (cells' : Array Value) (cs : List Value),
    VRs μ n cells cells'.toList → VRs μ n vs vs' → placesBy f is = some ps → fillL cells ps vs = some cs → ∃ cs', Instr.fill f cells' (is.zip vs') = some cs' ∧ VRs μ n cs cs'.toList
  | [], ps, vs, vs', cells, cells', cs, hc, hv, hp, hf => by
    simp [placesBy] at hp
    subst hp
    cases hv with
    | nil => simp [fillL] at hf; subst hf; exact ⟨cells', by simp [Instr.fill], hc⟩
    | cons => simp [fillL] at hf
  | i :: is, ps, vs, vs', cells, cells', cs, hc, hv, hp, hf => by
    simp only [placesBy] at hp
    cases hfi : f i with
    | none => simp [hfi] at hp
    | some p =>
      cases hps : placesBy f is with
      | none => simp [hfi, hps] at hp
      | some ps' =>
        simp [hfi, hps] at hp
        subst hp
        obtain ⟨off, size⟩ := p
        cases hv with
        | nil => simp [fillL] at hf
        | cons v v' l l' h hs =>
          simp only [fillL] at hf
          split at hf
          · rename_i hcond
            obtain ⟨h1, h2⟩ := hcond
            have hcl := h.cellsOf
            have hl := hcl.length
            have hlc := hc.length
            simp only [Array.length_toList] at hl hlc
            have hput := foldl_put v'.cells.toList 0 off cells' (by simp; omega)
            have hrel : VRs μ n (lputs cells off (cellsOf v)) (lputs cells'.toList off v'.cells.toList) := by
              unfold lputs
              rw [hcl.length]
              exact ((hc.take _).append hcl).append (hc.drop _)
            simp only [Nat.add_zero] at hput
            have heq : (v'.cells.zipIdx.foldl (fun cs x => cs.setIfInBounds (off + x.2) x.1) cells').toList = lputs cells'.toList off v'.cells.toList := by
              rw [← hput, ← Array.foldl_toList, Array.toList_zipIdx]
            obtain ⟨cs', k1, k2⟩ := fill_sound is ps' l l' _ (v'.cells.zipIdx.foldl (fun cs x => cs.setIfInBounds (off + x.2) x.1) cells') cs (by rw [heq]; exact hrel) hs hps hf
            refine ⟨cs', ?_, k2⟩
            simp only [List.zip_cons_cons, Instr.fill, hfi]
            have hno : ¬ (v'.cells.size ≠ size || decide (off + v'.cells.size > cells'.size)) = true := by simp; omega
            rw [if_neg hno]
            exact k1
          · cases hf

/-- the operation, carried out on values that stand for its operands', comes to what p reckons -/
def PSound (P : Program) (μ : Nat → Spot) (n : Nat) (o : Oper) (p : POp) (xs : List Operand) : Prop :=
  ∀ (ρ : Operand → Value) (vs : List Value) (v : Value) (w : World), VRs μ n vs (xs.map ρ) → pop p vs = some v → ∃ v', (execOp ρ o).run P w = .ok (.value v') w ∧ VR μ n v v'

section
variable {P : Program} {μ : Nat → Spot} {n : Nat} {o : Oper}

theorem ps_move {x : Operand} (ho : o.op = .move x ∨ o.op = .assign x) : PSound P μ n o .move [x] := by
  intro ρ vs v w hv hp
  obtain ⟨a, rfl, ha⟩ := hv.inv1
  simp [pop] at hp
  subst hp
  exact ⟨ρ x, by rcases ho with ho | ho <;> simp [execOp, ho], ha⟩

theorem ps_pick {c a a2 : Operand} (ho : o.op = .pick c a a2) : PSound P μ n o .pick [c, a, a2] := by
  intro ρ vs v w hv hp
  obtain ⟨x, y, z, rfl, hx, hy, hz⟩ := hv.inv3
  generalize hc : ρ c = c' at hx
  cases hx <;> simp [pop] at hp
  rename_i b
  subst hp
  refine ⟨if b then ρ a else ρ a2, by cases b <;> simp [execOp, ho, hc, asBool], ?_⟩
  cases b <;> assumption

theorem ps_build {t : TypeId} {parts : Array (Nat × Operand)} {z : Value} {ps : List (Nat × Nat)} (ho : o.op = .build t parts) (ht : (∃ fs, P.underlying t = some (.struct fs)) ∨ ∃ k e, P.underlying t = some (.array k e))
    (hz : zeroT P t = some z) (hp : placesOf P t (parts.toList.map (·.1)) = some ps) : PSound P μ n o (.build (cellsOf z) ps) (parts.toList.map (·.2)) := by
  intro ρ vs v w hv hpop
  obtain ⟨i, hi, hiz, hpl⟩ := zeroT_spec hz
  simp only [pop, Option.map_eq_some_iff] at hpop
  obtain ⟨cs, hcs, rfl⟩ := hpop
  unfold placesOf at hp
  cases hf : placeFn P t with
  | none => simp [hf] at hp
  | some f =>
    simp [hf] at hp
    obtain ⟨cs', k1, k2⟩ := fill_sound _ ps vs _ (cellsOf z) z.cells cs (plainV_rel hpl).cellsOf hv hp hcs
    refine ⟨.agg cs', ?_, .agg _ _ (by simpa using k2)⟩
    have hb : P.built t (parts.map fun (i, x) => (i, ρ x)).toList = some cs' := by
      have hzip : (parts.map fun (i, x) => (i, ρ x)).toList = (parts.toList.map (·.1)).zip ((parts.toList.map (·.2)).map ρ) := by
        rw [Array.toList_map, List.map_map]
        generalize parts.toList = l
        induction l with
        | nil => rfl
        | cons x l ih => simp [ih]
      rw [hzip]
      unfold Program.built
      rcases ht with ⟨fs, ht⟩ | ⟨k, e, ht⟩
      · simp only [placeFn, ht, Option.map_eq_some_iff] at hf
        obtain ⟨places, hpl', rfl⟩ := hf
        simp only [hi, ht, hiz, hpl']
        simpa using k1
      · simp only [placeFn, ht, Option.map_eq_some_iff, sizeT] at hf
        obtain ⟨m, ⟨ie, hie, rfl⟩, rfl⟩ := hf
        simp only [hi, ht, hiz, hie]
        exact k1
    simp only [execOp, ho, Sem.run_bind, run_build w t _ cs' hb, Result.andThen_ok]
    rfl

theorem ps_nilCheck {x : Operand} (ho : o.op = .nilCheck x) : PSound P μ n o .nilCheck [x] := by
  intro ρ vs v w hv hp
  obtain ⟨a, rfl, ha⟩ := hv.inv1
  generalize hx : ρ x = x' at ha
  have := ha
  cases ha <;> simp [pop] at hp
  case ptr i o' h => subst hp; exact ⟨_, by simp [execOp, ho, hx], this⟩
  case iface t v1 v1' h => subst hp; exact ⟨_, by simp [execOp, ho, hx], this⟩
  case func fn f1 c1 f2 c2 h1 h2 =>
    cases fn <;> simp at hp
    subst hp
    exact ⟨_, by simp [execOp, ho, hx], this⟩

theorem ps_bin {op : BinOp} {t t2 : TypeId} {x y : Operand} (ho : o.op = .binOp op t x y t2) : PSound P μ n o (.bin op) [x, y] := by
  intro ρ vs v w hv hp
  obtain ⟨a, b, rfl, ha, hb⟩ := hv.inv2
  obtain ⟨h1, h2, h3⟩ := binV_sound (P := P) w t ha hb (by simpa [pop] using hp) x y
  exact ⟨v, by simp [execOp, ho, h1, h3], h2⟩

theorem ps_binB {neg : Bool} {t t2 : TypeId} {x y : Operand} (ht : P.underlying t = some .bool) (ho : o.op = .binOp (if neg then .neq else .eql) t x y t2) : PSound P μ n o (.binB neg) [x, y] := by
  intro ρ vs v w hv hp
  obtain ⟨a, b, rfl, ha, hb⟩ := hv.inv2
  generalize hx : ρ x = x' at ha
  generalize hy : ρ y = y' at hb
  cases ha <;> cases hb <;> simp [pop] at hp
  rename_i b1 b2
  subst hp
  obtain ⟨h1, h2⟩ := binB_sound ht w neg b1 b2 x y
  exact ⟨_, by simp only [execOp, ho, hx, hy, Sem.run_bind, h1, h2, Result.andThen_ok]; rfl, .bool _⟩

theorem ps_nilEq {neg : Bool} {t t2 : TypeId} {x y : Operand} {d : TypeDesc} {k : NilK} (ht : P.underlying t = some d) (hd : nilKOf d = some k) (hc : (isConst x || isConst y) = true) (ho : o.op = .binOp (if neg then .neq else .eql) t x y t2) :
    PSound P μ n o (.nilEq k neg) [x, y] := by
  intro ρ vs v w hv hp
  obtain ⟨a, b, rfl, ha, hb⟩ := hv.inv2
  obtain ⟨h1, h2, h3⟩ := nilEq_sound w ht hd neg ha hb (by simpa [pop] using hp) hc
  exact ⟨_, by simp only [execOp, ho, Sem.run_bind, h1, h3, Result.andThen_ok]; rfl, h2⟩

theorem ps_un {op : UnOp} {t : TypeId} {x : Operand} (ho : o.op = .unOp op t x) : PSound P μ n o (.un op) [x] := by
  intro ρ vs v w hv hp
  obtain ⟨a, rfl, ha⟩ := hv.inv1
  generalize hx : ρ x = x' at ha
  simp only [pop] at hp
  cases ha <;> cases op <;> simp only [unV, wrapF_eq, Option.some.injEq, reduceCtorEq] at hp <;> subst hp <;> refine ⟨_, ?_, by first | exact .int _ _ | exact .bool _⟩ <;>
    simp only [execOp, ho, hx, Op.unary, Op.intArith, Op.intBits, Sem.run_bind, Sem.run_pure, Result.andThen_ok]

theorem ps_convInt {k : IntKind} {s t : TypeId} {x : Operand} {ks : IntKind} (hs : P.underlying s = some (.int ks)) (ht : P.underlying t = some (.int k)) (ho : o.op = .convert s t x) : PSound P μ n o (.convInt k) [x] := by
  intro ρ vs v w hv hp
  obtain ⟨a, rfl, ha⟩ := hv.inv1
  generalize hx : ρ x = x' at ha
  cases ha <;> simp [pop, wrapF_eq] at hp
  subst hp
  exact ⟨_, by simp [execOp, ho, hx, convert, r_under w hs, r_under w ht, Conv.intToInt], .int _ _⟩

theorem ps_mkIface {t : TypeId} {x : Operand} {d : TypeDesc} (ht : P.underlying t = some d) (hd : ∀ ms, d ≠ .interface ms) (ho : o.op = .makeInterface t x) : PSound P μ n o (.mkIface t) [x] := by
  intro ρ vs v w hv hp
  obtain ⟨a, rfl, ha⟩ := hv.inv1
  simp [pop] at hp
  subst hp
  refine ⟨_, ?_, .iface _ _ _ ha⟩
  cases d <;> first | exact absurd rfl (hd _) | (simp [execOp, ho, Instr.makeInterface, r_under w ht])

theorem ps_mkFunc {fn : Fn} {first captured : Array Operand} (ho : o.op = .makeFunc fn first captured) : PSound P μ n o (.mkFunc fn first.size) (first.toList ++ captured.toList) := by
  intro ρ vs v w hv hp
  simp [pop] at hp
  subst hp
  have h1 := hv.take first.size
  have h2 := hv.drop first.size
  simp only [List.map_append] at h1 h2
  rw [show (List.map ρ first.toList ++ List.map ρ captured.toList).take first.size = List.map ρ first.toList by rw [List.take_append_of_le_length (by simp)]; exact List.take_of_length_le (by simp)] at h1
  rw [show (List.map ρ first.toList ++ List.map ρ captured.toList).drop first.size = List.map ρ captured.toList by rw [List.drop_append_of_le_length (by simp), List.drop_of_length_le (by simp), List.nil_append]] at h2
  exact ⟨.func fn (first.map ρ) (captured.map ρ), by simp [execOp, ho, Instr.makeFunc], .func _ _ _ _ _ (by simpa using h1) (by simpa using h2)⟩

theorem add_rel {i k : Nat} (h : i < n) {o' : Nat} : VR μ n (.pointer (some (addA ⟨i, o', none⟩ k))) (.pointer (some ((⟨(μ i).block, (μ i).base + o', none⟩ : Addr).add k))) := by
  unfold addA Addr.add
  split
  · exact .ptr _ _ h
  · simp only []
    rw [show (μ i).base + o' + k = (μ i).base + (o' + k) by omega]
    exact .ptr _ _ h

theorem ps_fieldAddr {t : TypeId} {x : Operand} {f : Nat} {fields : Array Field} {fd : Field} {m : Nat} (ht : P.underlying t = some (.struct fields)) (hf : fields[f]? = some fd) (hm : sizeT P fd.type = some (m + 1)) (ho : o.op = .fieldAddr t x f) :
    PSound P μ n o (.fieldAddr fd.offset) [x] := by
  intro ρ vs v w hv hp
  obtain ⟨a, rfl, ha⟩ := hv.inv1
  generalize hx : ρ x = x' at ha
  cases ha <;> simp [pop] at hp
  rename_i i o' h
  subst hp
  refine ⟨_, ?_, add_rel h⟩
  simp [execOp, ho, hx, Instr.fieldAt, r_under w ht, hf, Instr.sureAddr, fieldPlace, r_size w hm]

theorem part_sound {t : TypeId} {b : Bool} {m off : Nat} {cs : Array Value} {l : List Value} {v : Value} (w : World) (hb : aggT P t = some b) (hm : sizeT P t = some m) (hl : VRs μ n l cs.toList)
    (h : (if b then some (.agg ((l.drop off).take m).toArray) else l[off]?) = some v) : ∃ v', (part t cs off).run P w = .ok v' w ∧ VR μ n v v' := by
  cases b
  · simp at h
    obtain ⟨v', h1, h2⟩ := hl.get h
    refine ⟨v', ?_, h2⟩
    have h3 : cs[off]? = some v' := by simpa using h1
    simp [part, r_agg w hb, h3]
  · simp at h
    subst h
    refine ⟨.agg (cs.extract off (off + m)), by simp [part, r_agg w hb, r_size w hm], .agg _ _ ?_⟩
    have := (hl.drop off).take m
    simp only [Array.toList_extract, List.extract_eq_take_drop]
    rw [show off + m - off = m by omega]
    exact this

theorem ps_field {t : TypeId} {x : Operand} {f : Nat} {fields : Array Field} {fd : Field} {m : Nat} {b : Bool} (ht : P.underlying t = some (.struct fields)) (hf : fields[f]? = some fd) (hb : aggT P fd.type = some b) (hm : sizeT P fd.type = some m) (ho : o.op = .field t x f) :
    PSound P μ n o (.field b fd.offset m) [x] := by
  intro ρ vs v w hv hp
  obtain ⟨a, rfl, ha⟩ := hv.inv1
  generalize hx : ρ x = x' at ha
  cases ha <;> (try (cases b <;> simp [pop] at hp; done))
  rename_i cs cs' h
  have h' : (if b then some (.agg ((cs.toList.drop fd.offset).take m).toArray) else cs.toList[fd.offset]?) = some v := by cases b <;> simpa [pop] using hp
  obtain ⟨v', h1, h2⟩ := part_sound (P := P) w hb hm h h'
  exact ⟨v', by simp [execOp, ho, hx, Instr.field, r_under w ht, hf, asAgg, h1], h2⟩

theorem ps_indexAddr {t e : TypeId} {x i : Operand} {m : Nat} (ht : P.underlying t = some (.slice e)) (hm : sizeT P e = some m) (ho : o.op = .indexAddr t x i) : PSound P μ n o (.indexAddr m) [x, i] := by
  intro ρ vs v w hv hp
  obtain ⟨a, b, rfl, ha, hb⟩ := hv.inv2
  generalize hx : ρ x = x' at ha
  generalize hy : ρ i = y' at hb
  cases ha <;> cases hb <;> simp [pop] at hp
  case void.int => exact absurd hp.1 (by omega)
  rename_i j o1 o2 len cap cap' h h0 h1 h2 h3 h4 h5 k q
  obtain ⟨⟨hq1, hq2⟩, rfl⟩ := hp
  have hoo := h3 (Or.inl (by omega))
  subst hoo
  refine ⟨_, ?_, add_rel h⟩
  simp [execOp, ho, hx, hy, Instr.indexAt, asIntOf, r_under w ht, hq1, hq2, r_size w hm]

theorem ps_indexAddrArr {t e : TypeId} {x i : Operand} {m len : Nat} (ht : P.underlying t = some (.array len e)) (hm : sizeT P e = some m) (ho : o.op = .indexAddr t x i) : PSound P μ n o (.indexAddrArr len m) [x, i] := by
  intro ρ vs v w hv hp
  obtain ⟨a, b, rfl, ha, hb⟩ := hv.inv2
  generalize hx : ρ x = x' at ha
  generalize hy : ρ i = y' at hb
  cases ha <;> cases hb <;> simp [pop] at hp
  rename_i j o1 h k q
  obtain ⟨⟨hq1, hq2⟩, rfl⟩ := hp
  refine ⟨_, ?_, add_rel h⟩
  simp [execOp, ho, hx, hy, Instr.indexAt, asIntOf, r_under w ht, hq1, hq2, r_size w hm, Instr.sureAddr]

theorem ps_indexStr {t : TypeId} {x i : Operand} (ht : P.underlying t = some .string) (ho : o.op = .index t x i) : PSound P μ n o .indexStr [x, i] := by
  intro ρ vs v w hv hp
  obtain ⟨a, b, rfl, ha, hb⟩ := hv.inv2
  generalize hx : ρ x = x' at ha
  generalize hy : ρ i = y' at hb
  cases ha <;> cases hb <;> simp [pop] at hp
  rename_i s k q
  obtain ⟨hq, c, hc, rfl⟩ := hp
  refine ⟨_, ?_, .int _ _⟩
  have hg : s[q.toNat]? = some c := by
    rw [show s[q.toNat]? = s.data[q.toNat]? from ?_]
    · simpa using hc
    · rfl
  simp [execOp, ho, hx, hy, Instr.index, asIntOf, r_under w ht, hq, hg]

theorem ps_indexArr {t e : TypeId} {x i : Operand} {m len : Nat} {b : Bool} (ht : P.underlying t = some (.array len e)) (hb : aggT P e = some b) (hm : sizeT P e = some m) (ho : o.op = .index t x i) : PSound P μ n o (.indexArr len m b) [x, i] := by
  intro ρ vs v w hv hp
  obtain ⟨a, c, rfl, ha, hc⟩ := hv.inv2
  generalize hx : ρ x = x' at ha
  generalize hy : ρ i = y' at hc
  cases ha <;> cases hc <;> simp only [pop] at hp <;> (try (cases hp; done))
  rename_i cs cs' h k q
  split at hp
  · rename_i hq
    obtain ⟨v', h1, h2⟩ := part_sound (P := P) w hb hm h hp
    exact ⟨v', by simp [execOp, ho, hx, hy, Instr.index, asIntOf, r_under w ht, hq.1, hq.2, r_size w hm, h1], h2⟩
  · cases hp

theorem ps_extract {x : Operand} {i : Nat} (ho : o.op = .extract x i) : PSound P μ n o (.extract i) [x] := by
  intro ρ vs v w hv hp
  obtain ⟨a, rfl, ha⟩ := hv.inv1
  generalize hx : ρ x = x' at ha
  cases ha <;> simp [pop] at hp
  rename_i l l' h
  obtain ⟨v', h1, h2⟩ := h.get (j := i) (v := v) (by simpa using hp)
  have h3 : l'[i]? = some v' := by simpa using h1
  exact ⟨v', by simp [execOp, ho, hx, Instr.extract, h3], h2⟩

theorem ps_assertT {t tx : TypeId} {x : Operand} {z : Value} {ok : Bool} {d : TypeDesc} (ht : P.underlying t = some d) (hd : ∀ ms, d ≠ .interface ms) (hz : zeroT P t = some z) (ho : o.op = .typeAssert x tx t ok) : PSound P μ n o (.assertT t z ok) [x] := by
  intro ρ vs v w hv hp
  obtain ⟨a, rfl, ha⟩ := hv.inv1
  generalize hx : ρ x = x' at ha
  have hzr : VR μ n z z := plainV_rel (zeroT_spec hz).choose_spec.2.2
  cases ha <;> (try (cases ok <;> simp [pop] at hp; done))
  case iface u v1 v1' h =>
    simp only [pop] at hp
    by_cases hu : u = t
    · subst hu
      simp at hp
      subst hp
      refine ⟨if ok then .tuple #[v1', .bool true] else v1', ?_, ?_⟩
      · cases d <;> first | exact absurd rfl (hd _) | (cases ok <;> simp [execOp, ho, hx, Instr.typeAssert, r_under w ht])
      · cases ok
        · exact h
        · exact .tuple _ _ (.cons _ _ _ _ h (.cons _ _ _ _ (.bool _) .nil))
    · cases ok <;> simp [hu] at hp
      subst hp
      refine ⟨.tuple #[z, .bool false], ?_, .tuple _ _ (.cons _ _ _ _ hzr (.cons _ _ _ _ (.bool _) .nil))⟩
      cases d <;> first | exact absurd rfl (hd _) | simp [execOp, ho, hx, Instr.typeAssert, r_under w ht, hu, r_zero w hz]
  case nilIface =>
    cases ok <;> simp [pop] at hp
    subst hp
    refine ⟨.tuple #[z, .bool false], ?_, .tuple _ _ (.cons _ _ _ _ hzr (.cons _ _ _ _ (.bool _) .nil))⟩
    cases d <;> first | exact absurd rfl (hd _) | simp [execOp, ho, hx, Instr.typeAssert, r_under w ht, r_zero w hz]

end
end Go.Am
end
section
set_option linter.unusedSimpArgs false
set_option linter.unusedVariables false
set_option maxRecDepth 10000
namespace Go.Am
open Go.RowKit (Below)

section
variable {P : Program} {μ : Nat → Spot} {n : Nat} {o : Oper}

theorem bound_sound {lo hi hi' k : Nat} {v v' : Value} (w : World) (hv : VR μ n v v') (h : bound lo hi v = some k) (hh : hi ≤ hi') (code : BoundsCode) : (Instr.sliceBound v' hi' code).run P w = .ok k w ∧ k ≤ hi := by
  unfold bound at h
  split at h
  · rename_i q i
    cases hv
    split at h
    · rename_i hc
      simp at h
      subst h
      exact ⟨by have h0 : 0 ≤ i := by omega
                have h1 : i ≤ (hi' : Int) := by omega
                simp [Instr.sliceBound, asIntOf, h0, h1], by omega⟩
    · cases h
  · cases h

theorem bounds_sound {len cap cap' l h : Nat} {lo hi : Option Operand} {ρ : Operand → Value} {vs : List Value} (w : World) (isS : Bool) (hv : VRs μ n vs ((lo.toList ++ hi.toList).map ρ)) (hlen : len ≤ cap) (hcap : cap ≤ cap')
    (hb : bounds len cap lo.isSome hi.isSome vs = some (l, h)) : (Instr.sliceBounds isS len cap' (lo.map ρ) (hi.map ρ) none).run P w = .ok (l, h, cap') w ∧ l ≤ h ∧ h ≤ cap := by
  cases lo with
  | none =>
    cases hi with
    | none =>
      obtain rfl := hv.inv0
      simp [bounds] at hb
      obtain ⟨rfl, rfl⟩ := hb
      exact ⟨by simp [Instr.sliceBounds], by omega, hlen⟩
    | some b =>
      obtain ⟨x, rfl, hx⟩ := hv.inv1
      simp [bounds] at hb
      obtain ⟨h1, h2, rfl⟩ := hb
      obtain ⟨h3, h4⟩ := bound_sound (P := P) w hx h1 hcap (if isS then .sliceAcap else .sliceAlen)
      exact ⟨by simp [Instr.sliceBounds, h3], by omega, h4⟩
  | some a =>
    cases hi with
    | none =>
      obtain ⟨x, rfl, hx⟩ := hv.inv1
      simp [bounds] at hb
      obtain ⟨q, h1, rfl, rfl⟩ := hb
      obtain ⟨h3, h4⟩ := bound_sound (P := P) w hx h1 (Nat.le_refl _) .sliceB
      exact ⟨by simp [Instr.sliceBounds, h3], h4, hlen⟩
    | some b =>
      obtain ⟨x, y, rfl, hx, hy⟩ := hv.inv2
      simp only [bounds, Option.isSome_some, Option.bind_eq_some_iff, Option.map_eq_some_iff, Prod.mk.injEq] at hb
      obtain ⟨k, h1, q, h2, rfl, rfl⟩ := hb
      obtain ⟨h3, h4⟩ := bound_sound (P := P) w hy h1 hcap (if isS then .sliceAcap else .sliceAlen)
      obtain ⟨h5, h6⟩ := bound_sound (P := P) w hx h2 (Nat.le_refl _) .sliceB
      exact ⟨by simp [Instr.sliceBounds, h3, h5], h6, h4⟩

theorem ps_slStr {t : TypeId} {x : Operand} {lo hi : Option Operand} (ht : P.underlying t = some .string) (ho : o.op = .slice t x lo hi none) : PSound P μ n o (.slStr lo.isSome hi.isSome) (x :: (lo.toList ++ hi.toList)) := by
  intro ρ vs v w hv hp
  obtain ⟨a, as, rfl, ha, has⟩ := hv.invc
  generalize hx : ρ x = x' at ha
  cases ha <;> simp [pop] at hp
  rename_i s
  obtain ⟨l, h, hb, rfl⟩ := hp
  obtain ⟨h1, h2, h3⟩ := bounds_sound (P := P) w false has (Nat.le_refl _) (Nat.le_refl _) hb
  exact ⟨_, by simp [execOp, ho, hx, Instr.sliceAt, Instr.slice, r_under w ht, h1], .string _⟩

theorem call_eq {b : Builtin} {ts : List TypeId} {xs : List Operand} {c : Call} (h1 : c.callee = .builtin b) (h2 : c.argTypes.toList = ts) (h3 : c.args.toList = xs) : c = { callee := .builtin b, args := xs.toArray, argTypes := ts.toArray } := by
  cases c
  simp at h1 h2 h3
  subst h1; subst h2; subst h3
  simp

theorem ps_lenStr {t : TypeId} {x : Operand} (ht : P.underlying t = some .string) (ho : o.op = .call { callee := .builtin .len, args := #[x], argTypes := #[t] }) : PSound P μ n o .lenStr [x] := by
  intro ρ vs v w hv hp
  obtain ⟨a, rfl, ha⟩ := hv.inv1
  generalize hx : ρ x = x' at ha
  cases ha <;> simp [pop] at hp
  subst hp
  exact ⟨_, by simp [execOp, ho, resolve, invoke, builtin, Builtin.len_, hx, r_under w ht, goInt], .int _ _⟩

theorem ps_lenSl {t e : TypeId} {x : Operand} (ht : P.underlying t = some (.slice e)) (ho : o.op = .call { callee := .builtin .len, args := #[x], argTypes := #[t] }) : PSound P μ n o .lenSl [x] := by
  intro ρ vs v w hv hp
  obtain ⟨a, rfl, ha⟩ := hv.inv1
  generalize hx : ρ x = x' at ha
  cases ha <;> simp [pop] at hp
  all_goals subst hp
  · exact ⟨_, by simp [execOp, ho, resolve, invoke, builtin, Builtin.len_, hx, r_under w ht, goInt], .int _ _⟩
  · exact ⟨_, by simp [execOp, ho, resolve, invoke, builtin, Builtin.len_, hx, r_under w ht, goInt], .int _ _⟩
  · exact ⟨_, by simp [execOp, ho, resolve, invoke, builtin, Builtin.len_, hx, r_under w ht, goInt], .int _ _⟩

theorem ps_lenArr {t e : TypeId} {k : Nat} {x : Operand} (ht : P.underlying t = some (.array k e)) (ho : o.op = .call { callee := .builtin .len, args := #[x], argTypes := #[t] }) : PSound P μ n o (.lenArr k) [x] := by
  intro ρ vs v w hv hp
  simp [pop] at hp
  subst hp
  exact ⟨_, by simp [execOp, ho, resolve, invoke, builtin, Builtin.len_, r_under w ht, goInt], .int _ _⟩

theorem VRs.int2 {k k' : IntKind} {a b : Int} {l : List Value} (h : VRs μ n [.int k a, .int k' b] l) : l = [.int k a, .int k' b] := by
  cases h with | cons _ x _ l h hs => cases hs with | cons _ y _ l h2 hs => cases hs; cases h; cases h2; rfl
theorem VRs.int3 {k k' k'' : IntKind} {a b c : Int} {l : List Value} (h : VRs μ n [.int k a, .int k' b, .int k'' c] l) : l = [.int k a, .int k' b, .int k'' c] := by
  cases h with | cons _ x _ l h hs => cases h; rw [hs.int2]

theorem ps_min {ts : Array TypeId} {xs : List Operand} (ho : o.op = .call { callee := .builtin .min, args := xs.toArray, argTypes := ts }) : PSound P μ n o .min xs := by
  intro ρ vs v w hv hp
  have hr : (execOp ρ o).run P w = ((Builtin.min_ ts o.type (xs.map ρ).toArray).run P w).andThen fun v w' => .ok (.value v) w' := by
    simp [execOp, ho, resolve, invoke, builtin]
  simp only [pop] at hp
  unfold minV at hp
  split at hp <;> simp at hp <;> subst hp
  · rw [hr, hv.int2]; exact ⟨_, by simp [Builtin.min_, Builtin.min2], .int _ _⟩
  · rw [hr, hv.int3]; exact ⟨_, by simp [Builtin.min_, Builtin.min2], .int _ _⟩
theorem ps_max {ts : Array TypeId} {xs : List Operand} (ho : o.op = .call { callee := .builtin .max, args := xs.toArray, argTypes := ts }) : PSound P μ n o .max xs := by
  intro ρ vs v w hv hp
  have hr : (execOp ρ o).run P w = ((Builtin.max_ ts o.type (xs.map ρ).toArray).run P w).andThen fun v w' => .ok (.value v) w' := by
    simp [execOp, ho, resolve, invoke, builtin]
  simp only [pop] at hp
  unfold maxV at hp
  split at hp <;> simp at hp <;> subst hp
  · rw [hr, hv.int2]; exact ⟨_, by simp [Builtin.max_, Builtin.max2], .int _ _⟩
  · rw [hr, hv.int3]; exact ⟨_, by simp [Builtin.max_, Builtin.max2], .int _ _⟩

/-! ### what compOp gives -/
theorem argsToArray (l : List Operand) : ∀ {a : Array Operand}, a.toList = l → a = l.toArray := fun h => by rw [← h]

theorem pop_sound {p : POp} {xs : List Operand} (hc : compOp P o.op = some (.p p, xs)) : PSound P μ n o p xs := by
  cases ho : o.op with
  | move x => simp [ho, compOp] at hc; obtain ⟨rfl, rfl⟩ := hc; exact ps_move (.inl ho)
  | assign x => simp [ho, compOp] at hc; obtain ⟨rfl, rfl⟩ := hc; exact ps_move (.inr ho)
  | pick c a b => simp [ho, compOp] at hc; obtain ⟨rfl, rfl⟩ := hc; exact ps_pick ho
  | build t parts =>
    simp only [ho, compOp] at hc
    split at hc <;> first | (cases hc; done) | skip
    · rename_i fs ht
      simp only [Option.bind_eq_some_iff, Option.map_eq_some_iff, Prod.mk.injEq, AOp.p.injEq] at hc
      obtain ⟨z, hz, ps, hps, rfl, rfl⟩ := hc
      exact ps_build ho (.inl ⟨_, ht⟩) hz hps
    · rename_i k e ht
      simp only [Option.bind_eq_some_iff, Option.map_eq_some_iff, Prod.mk.injEq, AOp.p.injEq] at hc
      obtain ⟨z, hz, ps, hps, rfl, rfl⟩ := hc
      exact ps_build ho (.inr ⟨_, _, ht⟩) hz hps
  | nilCheck x => simp [ho, compOp] at hc; obtain ⟨rfl, rfl⟩ := hc; exact ps_nilCheck ho
  | binOp op t x y t2 =>
    simp only [ho, compOp] at hc
    split at hc
    · simp at hc; obtain ⟨rfl, rfl⟩ := hc; exact ps_bin ho
    · simp at hc; obtain ⟨rfl, rfl⟩ := hc; exact ps_bin ho
    · rename_i ht
      split at hc <;> simp at hc <;> obtain ⟨rfl, rfl⟩ := hc
      · exact ps_binB (neg := false) ht ho
      · exact ps_binB (neg := true) ht ho
    · rename_i d _ _ _ ht
      split at hc
      · rename_i k hk
        split at hc
        · rename_i hcst
          split at hc <;> simp at hc <;> obtain ⟨rfl, rfl⟩ := hc
          · exact ps_nilEq (neg := false) ht hk hcst ho
          · exact ps_nilEq (neg := true) ht hk hcst ho
        · cases hc
      · cases hc
    · cases hc
  | unOp op t x => simp [ho, compOp] at hc; obtain ⟨rfl, rfl⟩ := hc; exact ps_un ho
  | convert s t x =>
    simp only [ho, compOp] at hc
    split at hc
    · rename_i h1 h2; simp at hc; obtain ⟨rfl, rfl⟩ := hc; exact ps_convInt h1 h2 ho
    · split at hc <;> simp at hc
    · split at hc <;> simp at hc
    · cases hc
  | makeInterface t x =>
    simp only [ho, compOp] at hc
    split at hc <;> first | (cases hc; done) | skip
    rename_i d hd ht
    simp at hc
    obtain ⟨rfl, rfl⟩ := hc
    exact ps_mkIface ht (fun ms e => hd ms e) ho
  | makeFunc fn first captured => simp [ho, compOp] at hc; obtain ⟨rfl, rfl⟩ := hc; exact ps_mkFunc ho
  | slice t x lo hi mx =>
    simp only [ho, compOp] at hc
    split at hc
    · rename_i ht; simp at hc; obtain ⟨rfl, rfl⟩ := hc; exact ps_slStr ht ho
    · simp at hc
    · simp at hc
    · split at hc <;> simp at hc
    · cases hc
  | fieldAddr t x f =>
    simp only [ho, compOp] at hc
    split at hc
    · rename_i fields ht
      split at hc
      · rename_i fd hf
        split at hc
        · rename_i m hm; simp at hc; obtain ⟨rfl, rfl⟩ := hc; exact ps_fieldAddr ht hf hm ho
        · cases hc
      · cases hc
    · cases hc
  | field t x f =>
    simp only [ho, compOp] at hc
    split at hc
    · rename_i fields ht
      split at hc
      · rename_i fd hf
        simp only [Option.bind_eq_some_iff, Option.map_eq_some_iff, Prod.mk.injEq, AOp.p.injEq] at hc
        obtain ⟨b, hb, m, hm, rfl, rfl⟩ := hc
        exact ps_field ht hf hb hm ho
      · cases hc
    · cases hc
  | indexAddr t x i =>
    simp only [ho, compOp] at hc
    split at hc
    · rename_i k e ht
      simp at hc; obtain ⟨m, hm, rfl, rfl⟩ := hc; exact ps_indexAddrArr ht hm ho
    · rename_i e ht
      simp at hc; obtain ⟨m, hm, rfl, rfl⟩ := hc; exact ps_indexAddr ht hm ho
    · cases hc
  | index t x i =>
    simp only [ho, compOp] at hc
    split at hc
    · rename_i ht; simp at hc; obtain ⟨rfl, rfl⟩ := hc; exact ps_indexStr ht ho
    · rename_i k e ht
      simp only [Option.bind_eq_some_iff, Option.map_eq_some_iff, Prod.mk.injEq, AOp.p.injEq] at hc
      obtain ⟨b, hb, m, hm, rfl, rfl⟩ := hc
      exact ps_indexArr ht hb hm ho
    · cases hc
  | typeAssert x tx t ok =>
    simp only [ho, compOp] at hc
    split at hc <;> first | (cases hc; done) | skip
    rename_i d hd ht
    simp at hc
    obtain ⟨z, hz, rfl, rfl⟩ := hc
    exact ps_assertT ht (fun ms e => hd ms e) hz ho
  | extract x i => simp [ho, compOp] at hc; obtain ⟨rfl, rfl⟩ := hc; exact ps_extract ho
  | call c =>
    simp only [ho, compOp, compCall] at hc
    split at hc
    · simp at hc
    · simp at hc
    · simp at hc
    · rename_i b hb
      split at hc
      · rename_i t x h2 h3
        have hcall := call_eq hb h2 h3
        rw [hcall] at ho
        split at hc
        · rename_i ht; simp at hc; obtain ⟨rfl, rfl⟩ := hc; exact ps_lenStr ht (by simpa using ho)
        · rename_i ht; simp at hc; obtain ⟨rfl, rfl⟩ := hc; exact ps_lenSl ht (by simpa using ho)
        · simp at hc
        · rename_i ht; simp at hc; obtain ⟨rfl, rfl⟩ := hc; exact ps_lenArr ht (by simpa using ho)
        · cases hc
      · split at hc
        · simp only [Option.bind_eq_some_iff] at hc
          obtain ⟨_, _, _, _, _, _, hc⟩ := hc
          split at hc <;> simp at hc
        · simp only [Option.bind_eq_some_iff] at hc
          obtain ⟨_, _, _, _, _, _, hc⟩ := hc
          split at hc <;> simp at hc
        · cases hc
      · split at hc
        · simp at hc
        · cases hc
      · split at hc
        · simp at hc
        · cases hc
      · simp at hc; obtain ⟨rfl, rfl⟩ := hc
        have hcall := call_eq hb rfl rfl
        rw [hcall] at ho
        exact ps_min ho
      · simp at hc; obtain ⟨rfl, rfl⟩ := hc
        have hcall := call_eq hb rfl rfl
        rw [hcall] at ho
        exact ps_max ho
      · cases hc
  | buildSlice t len parts =>
    simp only [ho, compOp] at hc
    split at hc
    · simp only [Option.bind_eq_some_iff] at hc
      obtain ⟨_, _, _, _, _, _, hc⟩ := hc
      split at hc <;> simp at hc
    · cases hc
  | load t a =>
    simp only [ho, compOp, Option.bind_eq_some_iff] at hc
    obtain ⟨b, _, hc⟩ := hc
    cases b <;> simp at hc
  | alloc e =>
    simp only [ho, compOp, Option.bind_eq_some_iff] at hc
    obtain ⟨z, _, hc⟩ := hc
    split at hc <;> simp at hc
  | makeSlice t l c =>
    simp only [ho, compOp] at hc
    split at hc
    · simp only [Option.bind_eq_some_iff] at hc
      obtain ⟨_, _, _, _, _, _, hc⟩ := hc
      split at hc <;> simp at hc
    · cases hc
  | makeMap t r => cases r <;> simp [ho, compOp] at hc
  | lookup t x i ok =>
    simp only [ho, compOp] at hc
    split at hc
    · simp only [Option.bind_eq_some_iff, Option.map_eq_some_iff, Prod.mk.injEq, reduceCtorEq, false_and, and_false, exists_false] at hc
    · cases hc
  | mapUpdate t m k x =>
    simp only [ho, compOp] at hc
    split at hc
    · simp at hc
    · cases hc
  | insert t m k x =>
    simp only [ho, compOp] at hc
    split at hc
    · simp at hc
    · cases hc
  | range t x =>
    simp only [ho, compOp] at hc
    split at hc <;> simp at hc
  | _ => simp [ho, compOp] at hc

end
end Go.Am
end
section
set_option linter.unusedSimpArgs false
set_option linter.unusedVariables false
set_option maxRecDepth 10000
namespace Go.Am
open Go.RowKit (Below)

variable {P : Program} {B0 : Nat} {W0 : World} {μ : Nat → Spot} {s : St} {w : World} {o : Oper}

def RSound (P : Program) (B0 : Nat) (W0 : World) (μ : Nat → Spot) (s : St) (w : World) (o : Oper) (r : ROp) (xs : List Operand) : Prop :=
  ∀ (ρ : Operand → Value) (vs : List Value) (v : Value), Rel B0 W0 μ s w → VRs μ s.next vs (xs.map ρ) → rop r vs s = some v → ∃ v', (execOp ρ o).run P w = .ok (.value v') w ∧ VR μ s.next v v'

theorem add_eq (b o k : Nat) : (⟨b, o, none⟩ : Addr).add k = ⟨b, o + k, none⟩ := by unfold Addr.add; split <;> simp_all

theorem cells_rel (h : Rel B0 W0 μ s w) {i off k : Nat} {l : List Value} (hc : s.cells ⟨i, off, none⟩ k = some l) :
    ∃ l', l'.length = k ∧ VRs μ s.next l l' ∧ ∀ (j : Nat) (v : Value), l'[j]? = some v → w.cell? ((⟨(μ i).block, (μ i).base + off, none⟩ : Addr).add j) = some v := by
  unfold St.cells at hc
  simp only at hc
  split at hc
  · rename_i cs g ro hi
    split at hc
    · rename_i hlen
      simp at hc
      subst hc
      have hid := (h.known i _ hi).2.2
      have hcell : ∀ j, j < k → ∃ v v', cs[off + j]? = some v ∧ w.cell? ⟨(μ i).block, (μ i).base + off + j, none⟩ = some v' ∧ VR μ s.next v v' := fun j hj => by
        have hlt : off + j < cs.length := by omega
        obtain ⟨v', h1, h2⟩ := hid.cellAt (List.getElem?_eq_getElem hlt)
        exact ⟨_, v', List.getElem?_eq_getElem hlt, by rw [Nat.add_assoc]; exact h1, h2⟩
      refine ⟨(List.range k).map fun j => (w.cell? ⟨(μ i).block, (μ i).base + off + j, none⟩).getD undef, by simp, ?_, ?_⟩
      · refine VRs.of_get (by simp; omega) fun j v hj => ?_
        simp only [List.getElem?_take, List.getElem?_drop] at hj
        split at hj
        · rename_i hjk
          obtain ⟨v1, v', h1, h2, h3⟩ := hcell j hjk
          rw [h1] at hj
          simp at hj
          subst hj
          exact ⟨v', by simp [hjk, h2], h3⟩
        · cases hj
      · intro j v hj
        by_cases hjk : j < k
        · obtain ⟨v1, v', h1, h2, h3⟩ := hcell j hjk
          simp [hjk, h2] at hj
          subst hj
          rw [add_eq]
          exact h2
        · simp [hjk] at hj
    · cases hc
  · cases hc

theorem load_cells (h : Rel B0 W0 μ s w) {i off k : Nat} {l : List Value} (hc : s.cells ⟨i, off, none⟩ k = some l) :
    ∃ l', (loadCells ⟨(μ i).block, (μ i).base + off, none⟩ k).run P w = .ok l'.toArray w ∧ VRs μ s.next l l' := by
  obtain ⟨l', h1, h2, h3⟩ := cells_rel h hc
  subst h1
  exact ⟨l', run_loadCells_list (P := P) w _ l' h3, h2⟩

theorem rs_load1 {t : TypeId} {x : Operand} (ht : aggT P t = some false) (ho : o.op = .load t x) : RSound P B0 W0 μ s w o .load1 [x] := by
  intro ρ vs v h hv hp
  obtain ⟨a, rfl, ha⟩ := hv.inv1
  generalize hx : ρ x = x' at ha
  cases ha <;> simp [rop] at hp
  rename_i i off hi
  split at hp
  · rename_i cs g ro hget
    obtain ⟨v', h1, h2⟩ := (h.known i _ hget).2.2.cellAt hp
    exact ⟨v', by simp [execOp, ho, hx, Instr.loadAt, Instr.sureAddr, loadVar, r_agg w ht, run_load, h1], h2⟩
  · cases hp

theorem rs_loadN {t : TypeId} {x : Operand} {k : Nat} (ht : aggT P t = some true) (hk : sizeT P t = some k) (ho : o.op = .load t x) : RSound P B0 W0 μ s w o (.loadN k) [x] := by
  intro ρ vs v h hv hp
  obtain ⟨a, rfl, ha⟩ := hv.inv1
  generalize hx : ρ x = x' at ha
  cases ha <;> simp [rop] at hp
  rename_i i off hi
  obtain ⟨l, hl, rfl⟩ := hp
  obtain ⟨l', h1, h2⟩ := load_cells (P := P) h hl
  exact ⟨.agg l'.toArray, by simp [execOp, ho, hx, Instr.loadAt, Instr.sureAddr, loadVar, r_agg w ht, r_size w hk, h1], .agg _ _ (by simpa using h2)⟩

/-- the first machine's word for a kind of key -/
theorem keyT_desc {kt : TypeId} {kk : KeyK} (h : keyT P kt = some kk) : ∃ d, P.underlying kt = some d ∧ ((kk = .int ∧ ∃ k, d = .int k) ∨ (kk = .str ∧ d = .string) ∨ (kk = .bool ∧ d = .bool)) := by
  unfold keyT at h
  split at h
  · rename_i k hk; simp at h; subst h; exact ⟨_, hk, .inl ⟨rfl, _, rfl⟩⟩
  · rename_i hk; simp at h; subst h; exact ⟨_, hk, .inr (.inl ⟨rfl, rfl⟩)⟩
  · rename_i hk; simp at h; subst h; exact ⟨_, hk, .inr (.inr ⟨rfl, rfl⟩)⟩
  · cases h

theorem check_key {kt : TypeId} {kk : KeyK} (h : keyT P kt = some kk) (e : Bool) (k : Nat) (v : Value) (w : World) : (Instr.checkKey e (k + 1) kt v).run P w = .ok () w := by
  obtain ⟨d, hd, hk⟩ := keyT_desc h
  unfold Instr.checkKey
  simp only [Sem.run_bind, r_under w hd, Result.andThen_ok]
  rcases hk with ⟨_, k, rfl⟩ | ⟨_, rfl⟩ | ⟨_, rfl⟩ <;> simp

theorem same_sound {n : Nat} {kk : KeyK} {d : TypeDesc} (hd : (kk = .int ∧ ∃ k, d = .int k) ∨ (kk = .str ∧ d = .string) ∨ (kk = .bool ∧ d = .bool)) {x y x' y' : Value} {b : Bool} (hx : VR μ n x x') (hy : VR μ n y y') (h : sameV kk x y = some b) : Instr.sameNow d x' y' = some b := by
  unfold sameV at h
  split at h
  · rename_i k a k' b'
    cases hx; cases hy
    rcases hd with ⟨_, q, rfl⟩ | ⟨h1, _⟩ | ⟨h1, _⟩ <;> first | (cases h1; done) | skip
    simpa [Instr.sameNow] using h
  · rename_i a b'
    cases hx; cases hy
    rcases hd with ⟨h1, _⟩ | ⟨_, rfl⟩ | ⟨h1, _⟩ <;> first | (cases h1; done) | skip
    simp only [Option.some.injEq] at h
    rw [Instr.sameNow, beq_toListBytes, Go.ByteArray.toList_eq, Go.ByteArray.toList_eq, h]
  · rename_i a b'
    cases hx; cases hy
    rcases hd with ⟨h1, _⟩ | ⟨h1, _⟩ | ⟨_, rfl⟩ <;> first | (cases h1; done) | skip
    simpa [Instr.sameNow] using h
  · cases h

theorem find_sound {n c : Nat} {kk : KeyK} {d : TypeDesc} (hd : (kk = .int ∧ ∃ k, d = .int k) ∨ (kk = .str ∧ d = .string) ∨ (kk = .bool ∧ d = .bool)) {k k' : Value} (hk : VR μ n k k') : ∀ (es : List (Value × Value × Nat)) (es' : List MapEntry) (i : Nat) (r : Option (Nat × Value)),
    ER μ n c es es' → findV kk k es i = some r → (r = none ∧ Instr.findNow d k' es' i = some none) ∨ ∃ j v v' e', r = some (i + j, v) ∧ Instr.findNow d k' es' i = some (some (i + j, v')) ∧ VR μ n v v' ∧ es'[j]? = some e' ∧ e'.val = v' ∧ (∃ e, es[j]? = some e ∧ sameV kk k e.1 = some true ∧ VR μ n e.1 e'.key) ∧ j < es.length
  | [], [], i, r, _, h => by simp [findV] at h; subst h; exact .inl ⟨rfl, rfl⟩
  | e :: es, e' :: es', i, r, ⟨h1, h2, h3, h4, h5⟩, h => by
    simp only [findV] at h
    split at h
    · rename_i hs
      simp at h
      subst h
      exact .inr ⟨0, e.2.1, e'.val, e', by simp, by simp [Instr.findNow, same_sound hd hk h1 hs], h2, rfl, rfl, ⟨e, rfl, hs, h1⟩, by simp⟩
    · rename_i hs
      rcases find_sound hd hk es es' (i + 1) r h5 h with ⟨k1, k2⟩ | ⟨j, v, v', e1, k1, k2, k3, k4, k5, ⟨e0, k6, k7⟩, k8⟩
      · exact .inl ⟨k1, by simp [Instr.findNow, same_sound hd hk h1 hs, k2]⟩
      · exact .inr ⟨j + 1, v, v', e1, by rw [k1]; congr 2; omega, by simp only [Instr.findNow, same_sound hd hk h1 hs, k2]; congr 3; omega, k3, by simpa using k4, k5, ⟨e0, by simpa using k6, k7⟩, by simp; omega⟩
    · cases h
  | [], _ :: _, _, _, h, _ => h.elim
  | _ :: _, [], _, _, h, _ => h.elim

theorem ER.length {n c : Nat} : ∀ {es : List (Value × Value × Nat)} {es' : List MapEntry}, ER μ n c es es' → es'.length = es.length
  | [], [], _ => rfl
  | _ :: _, _ :: _, ⟨_, _, _, _, h⟩ => by simp [h.length]
  | [], _ :: _, h => h.elim
  | _ :: _, [], h => h.elim

theorem rs_lookup {t k e : TypeId} {x i : Operand} {kk : KeyK} {z : Value} {ok : Bool} (ht : P.underlying t = some (.map k e)) (hkk : keyT P k = some kk) (hz : zeroT P e = some z) (ho : o.op = .lookup t x i ok) :
    RSound P B0 W0 μ s w o (.lookup kk z ok) [x, i] := by
  intro ρ vs v h hv hp
  obtain ⟨a, b, rfl, ha, hb⟩ := hv.inv2
  generalize hx : ρ x = x' at ha
  generalize hy : ρ i = y' at hb
  have hzr : VR μ s.next z z := plainV_rel (zeroT_spec hz).choose_spec.2.2
  obtain ⟨d, hd, hdk⟩ := keyT_desc hkk
  have fin : ∀ {u u' : Value} (b : Bool), VR μ s.next u u' → VR μ s.next (bif ok then .tuple #[u, .bool b] else u) (if ok then .tuple #[u', .bool b] else u') := fun {u u'} b hu => by
    cases ok
    · exact hu
    · exact .tuple _ _ (.cons _ _ _ _ hu (.cons _ _ _ _ (.bool _) .nil))
  cases ha <;> simp only [rop] at hp <;> (try (cases hp; done))
  case nilMap =>
    split at hp
    · simp at hp
      subst hp
      refine ⟨_, ?_, fin false hzr⟩
      simp [execOp, ho, hx, hy, Instr.lookup, r_under w ht, check_key (k := 9999) hkk, Instr.findKey, r_under w hd, Instr.findNow, r_zero w hz]
    · cases hp
  case map r hr =>
    split at hp
    · rename_i es clock hget
      split at hp
      · obtain ⟨hB, es', h1, h2⟩ := (h.known r _ hget).2.2
        have hgo := MapKept.run_getObj_map (P := P) h1
        split at hp
        · rename_i j u hf
          simp at hp
          subst hp
          rcases find_sound hdk hb es es'.toList 0 _ h2 hf with ⟨k1, _⟩ | ⟨j', u1, u', e', k1, k2, k3, _⟩
          · cases k1
          · simp at k1
            obtain ⟨rfl, rfl⟩ := k1
            refine ⟨_, ?_, fin true k3⟩
            simp [execOp, ho, hx, hy, Instr.lookup, r_under w ht, hgo, check_key (k := 9999) hkk, MapKept.run_findKey hd k2]
        · rename_i hf
          simp at hp
          subst hp
          rcases find_sound hdk hb es es'.toList 0 _ h2 hf with ⟨_, k2⟩ | ⟨j', u1, u', e', k1, _⟩
          · refine ⟨_, ?_, fin false hzr⟩
            simp [execOp, ho, hx, hy, Instr.lookup, r_under w ht, hgo, check_key (k := 9999) hkk, MapKept.run_findKey hd k2, r_zero w hz]
          · cases k1
        · cases hp
      · cases hp
    · cases hp

theorem rs_lenMap {t k e : TypeId} {x : Operand} (ht : P.underlying t = some (.map k e)) (ho : o.op = .call { callee := .builtin .len, args := #[x], argTypes := #[t] }) : RSound P B0 W0 μ s w o .lenMap [x] := by
  intro ρ vs v h hv hp
  obtain ⟨a, rfl, ha⟩ := hv.inv1
  generalize hx : ρ x = x' at ha
  cases ha <;> simp only [rop] at hp <;> (try (cases hp; done))
  case nilMap =>
    simp at hp
    subst hp
    exact ⟨_, by simp [execOp, ho, resolve, invoke, builtin, Builtin.len_, hx, r_under w ht, goInt], .int _ _⟩
  case map r hr =>
    split at hp
    · rename_i es clock hget
      obtain ⟨hB, es', h1, h2⟩ := (h.known r _ hget).2.2
      simp at hp
      subst hp
      have hl := h2.length
      simp at hl
      refine ⟨_, ?_, .int _ _⟩
      simp [execOp, ho, resolve, invoke, builtin, Builtin.len_, hx, r_under w ht, goInt, MapKept.run_getObj_map h1, hl]
    · cases hp

theorem u8s_sound {n : Nat} : ∀ {l l' : List Value} {bs : List UInt8}, VRs μ n l l' → u8s l = some bs → ∃ ns : List Int, l' = ns.map (Value.int .u8) ∧ bs = ns.map fun n => UInt8.ofNat n.toNat
  | [], [], bs, _, h => by simp [u8s] at h; subst h; exact ⟨[], rfl, rfl⟩
  | x :: l, x' :: l', bs, .cons _ _ _ _ hx hs, h => by
    unfold u8s at h
    split at h
    · rename_i heq; simp at heq
    · rename_i n0 l0 heq
      simp at heq
      obtain ⟨rfl, rfl⟩ := heq
      cases hx
      simp at h
      obtain ⟨r, hr, rfl⟩ := h
      obtain ⟨ns, rfl, rfl⟩ := u8s_sound hs hr
      exact ⟨n0 :: ns, rfl, rfl⟩
    · cases h

theorem foldl_push (ns : List Int) : ∀ (acc : ByteArray), (ns.foldl (fun r n => r.push (UInt8.ofNat n.toNat)) acc).data.toList = acc.data.toList ++ ns.map fun n => UInt8.ofNat n.toNat := by
  induction ns with
  | nil => intro acc; simp
  | cons n ns ih =>
    intro acc
    rw [List.foldl_cons, ih]
    simp [ByteArray.push]

theorem rs_bytesToStr {t1 t2 e : TypeId} {x : Operand} (h1 : P.underlying t1 = some (.slice e)) (he : P.underlying e = some (.int .u8)) (h2 : P.underlying t2 = some .string) (ho : o.op = .convert t1 t2 x) : RSound P B0 W0 μ s w o .bytesToStr [x] := by
  intro ρ vs v h hv hp
  obtain ⟨a, rfl, ha⟩ := hv.inv1
  generalize hx : ρ x = x' at ha
  cases ha <;> simp only [rop] at hp <;> (try (cases hp; done))
  case nilSlice =>
    simp at hp
    subst hp
    exact ⟨_, by simp [execOp, ho, hx, run_convert_bytes_string w t1 t2 e none 0 0 h1 he h2, Conv.bytesToString], .string _⟩
  case void ad =>
    simp only [Option.bind_eq_some_iff, Option.map_eq_some_iff] at hp
    obtain ⟨cs, hcs, bs, hbs, rfl⟩ := hp
    have hcs0 : cs = [] := by
      unfold St.cells at hcs
      simp only at hcs
      split at hcs
      · split at hcs <;> simp at hcs; exact hcs
      · cases hcs
    subst hcs0
    simp [u8s] at hbs
    subst hbs
    refine ⟨.string ⟨#[]⟩, ?_, .string _⟩
    have hr := run_bytesToString (P := P) w ad 0 0 [] (by simp [loadCells, loadCellsFrom])
    simp [execOp, ho, hx, run_convert_bytes_string w t1 t2 e _ 0 0 h1 he h2, hr]
    rfl
  case slice i off off' len cap cap' hi q0 q1 q2 q3 q4 q5 =>
    simp only [Option.bind_eq_some_iff, Option.map_eq_some_iff] at hp
    obtain ⟨cs, hcs, bs, hbs, rfl⟩ := hp
    by_cases hlen : len = 0
    · subst hlen
      have hcs0 : cs = [] := by
        unfold St.cells at hcs
        simp only at hcs
        split at hcs
        · split at hcs <;> simp at hcs; exact hcs
        · cases hcs
      subst hcs0
      simp [u8s] at hbs
      subst hbs
      refine ⟨.string ⟨#[]⟩, ?_, .string _⟩
      have hr := run_bytesToString (P := P) w ⟨(μ i).block, off', none⟩ 0 cap' [] (by simp [loadCells, loadCellsFrom])
      simp [execOp, ho, hx, run_convert_bytes_string w t1 t2 e _ 0 cap' h1 he h2, hr]
      rfl
    · have hoo := q3 (.inl (by omega))
      subst hoo
      obtain ⟨l', k1, k2⟩ := load_cells (P := P) h hcs
      obtain ⟨ns, rfl, rfl⟩ := u8s_sound k2 hbs
      refine ⟨.string (ns.foldl (fun r n => r.push (UInt8.ofNat n.toNat)) ByteArray.empty), ?_, ?_⟩
      · simp [execOp, ho, hx, run_convert_bytes_string w t1 t2 e _ len cap' h1 he h2, run_bytesToString w _ len cap' ns k1]
      · have : (ns.foldl (fun r n => r.push (UInt8.ofNat n.toNat)) ByteArray.empty) = ⟨(ns.map fun n => UInt8.ofNat n.toNat).toArray⟩ := by
          have := foldl_push ns ByteArray.empty
          cases hq : (ns.foldl (fun r n => r.push (UInt8.ofNat n.toNat)) ByteArray.empty) with
          | mk data =>
            rw [hq] at this
            simp at this
            congr 1
            apply Array.toList_inj.1
            simpa using this
        rw [this]
        exact .string _

theorem addA_rel (i o k : Nat) : addA ⟨i, o, none⟩ k = ⟨i, o + k, none⟩ := by unfold addA; split <;> simp_all

theorem rs_sl {t e : TypeId} {x : Operand} {lo hi : Option Operand} {m : Nat} (ht : P.underlying t = some (.slice e)) (hm : sizeT P e = some m) (ho : o.op = .slice t x lo hi none) :
    RSound P B0 W0 μ s w o (.sl m lo.isSome hi.isSome) (x :: (lo.toList ++ hi.toList)) := by
  intro ρ vs v h hv hp
  obtain ⟨a, as, rfl, ha, has⟩ := hv.invc
  generalize hx : ρ x = x' at ha
  cases ha <;> simp only [rop] at hp <;> (try (cases hp; done))
  case nilSlice =>
    simp at hp
    obtain ⟨⟨l, h', hb⟩, rfl⟩ := hp
    obtain ⟨h1, h2, h3⟩ := bounds_sound (P := P) w true has (Nat.le_refl _) (Nat.le_refl _) hb
    have hl : l = 0 := by omega
    have hh : h' = 0 := by omega
    subst hl; subst hh
    exact ⟨_, by simp [execOp, ho, hx, Instr.sliceAt, Instr.slice, r_under w ht, h1, r_size w hm], .nilSlice⟩
  case void ad =>
    simp at hp
    obtain ⟨l, h', hb, rfl⟩ := hp
    obtain ⟨h1, h2, h3⟩ := bounds_sound (P := P) w true has (Nat.le_refl _) (Nat.le_refl _) hb
    have hl : l = 0 := by omega
    have hh : h' = 0 := by omega
    subst hl; subst hh
    exact ⟨_, by simp [execOp, ho, hx, Instr.sliceAt, Instr.slice, r_under w ht, h1, r_size w hm], .void ad⟩
  case slice i off off' len cap cap' hi' q0 q1 q2 q3 q4 q5 =>
    split at hp
    · rename_i hz
      subst hz
      simp at hp
      obtain ⟨l, h', hb, rfl⟩ := hp
      obtain ⟨h1, h2, h3⟩ := bounds_sound (P := P) w true has q0 q1 hb
      have hl : l = 0 := by omega
      have hh : h' = 0 := by omega
      subst hl; subst hh
      refine ⟨.slice (some (if cap' = 0 then ⟨(μ i).block, off', none⟩ else (⟨(μ i).block, off', none⟩ : Addr).add (0 * m))) (0 - 0) (cap' - 0), ?_, ?_⟩
      · by_cases hc : cap' = 0
        · subst hc; simp [execOp, ho, hx, Instr.sliceAt, Instr.slice, r_under w ht, h1, r_size w hm]
        · simp [execOp, ho, hx, Instr.sliceAt, Instr.slice, r_under w ht, h1, r_size w hm, hc]
      · simp only [Nat.zero_mul, add_eq, Nat.add_zero, ite_self, Nat.sub_zero]
        exact .slice _ _ _ _ _ _ hi' (Nat.le_refl _) q1 q2 q3 q4 q5
    split at hp
    · rename_i cs g ro hget
      have hg := (h.known i _ hget).2.2.1
      split at hp
      · rename_i hgm
        simp at hp
        obtain ⟨l, h', hb, rfl⟩ := hp
        obtain ⟨h1, h2, h3⟩ := bounds_sound (P := P) w true has q0 q1 hb
        refine ⟨.slice (some (if cap' = l then ⟨(μ i).block, off', none⟩ else (⟨(μ i).block, off', none⟩ : Addr).add (l * m))) (h' - l) (cap' - l), ?_, ?_⟩
        · by_cases hc : cap' = l
          · subst hc; simp [execOp, ho, hx, Instr.sliceAt, Instr.slice, r_under w ht, h1, r_size w hm]
          · simp [execOp, ho, hx, Instr.sliceAt, Instr.slice, r_under w ht, h1, r_size w hm, hc]
        · by_cases hc : cap = l
          · subst hc
            by_cases hc' : cap' = cap
            · simp only [hc', if_true]
              exact .slice _ _ _ _ _ _ hi' (by omega) (Nat.le_refl _) (fun _ => rfl) (fun hh => q3 (by rcases hh with hh | hh; exact .inl (by omega); exact .inr hh)) q4 (fun hh => by have := q5 hh; simp; omega)
            · simp only [hc', if_true, if_false, add_eq]
              have hng : (μ i).grown ≠ 0 := fun e => hc' (q2 e)
              have hgm' : g = m := by rcases hgm with e | e; exact absurd (hg.trans e) hng; exact e
              refine .slice _ _ _ _ _ _ hi' (by omega) (by omega) (fun e => absurd e hng) (fun hh => by rcases hh with hh | hh; omega; exact absurd hh hng) (by omega) (fun hh => ?_)
              have := q5 hh
              rw [hg, hgm'] at this ⊢
              have e1 : cap' * m = cap * m + (cap' - cap) * m := by rw [← Nat.add_mul]; congr 1; omega
              omega
          · have hc' : cap' ≠ l := by omega
            have hoo := q3 (.inl (by omega))
            simp only [hc, hc', if_false, add_eq, addA_rel]
            refine .slice _ _ _ _ _ _ hi' (by omega) (by omega) (fun e => by rw [q2 e]) (fun _ => by omega) (by omega) (fun hh => ?_)
            have hgm' : g = m := by rcases hgm with e | e; exact absurd (hg.trans e) hh; exact e
            have := q5 hh
            rw [hg, hgm'] at this ⊢
            have e1 : cap' * m = l * m + (cap' - l) * m := by rw [← Nat.add_mul]; congr 1; omega
            omega
      · cases hp
    · cases hp

theorem rs_slArr {t e : TypeId} {x : Operand} {lo hi : Option Operand} {len m : Nat} (ht : P.underlying t = some (.array len e)) (hm : sizeT P e = some m) (ho : o.op = .slice t x lo hi none) :
    RSound P B0 W0 μ s w o (.slArr len m lo.isSome hi.isSome) (x :: (lo.toList ++ hi.toList)) := by
  intro ρ vs v h hv hp
  obtain ⟨a, as, rfl, ha, has⟩ := hv.invc
  generalize hx : ρ x = x' at ha
  cases ha <;> simp only [rop] at hp <;> (try (cases hp; done))
  case ptr i off hi' =>
    split at hp
    · rename_i cs ro hget
      have hg := (h.known i _ hget).2.2.1
      simp at hp
      obtain ⟨l, h', hb, rfl⟩ := hp
      obtain ⟨h1, h2, h3⟩ := bounds_sound (P := P) w false has (Nat.le_refl _) (Nat.le_refl _) hb
      refine ⟨.slice (some (if len = l then ⟨(μ i).block, (μ i).base + off, none⟩ else (⟨(μ i).block, (μ i).base + off, none⟩ : Addr).add (l * m))) (h' - l) (len - l), ?_, ?_⟩
      · by_cases hc : len = l
        · subst hc; simp [execOp, ho, hx, Instr.sliceAt, Instr.sureAddr, r_under w ht, h1, r_size w hm]
        · simp [execOp, ho, hx, Instr.sliceAt, Instr.sureAddr, r_under w ht, h1, r_size w hm, hc]
      · by_cases hc : len = l
        · simp only [hc, if_true]
          exact .slice _ _ _ _ _ _ hi' (by omega) (Nat.le_refl _) (fun _ => rfl) (fun _ => rfl) (by omega) (fun hh => absurd hg hh)
        · simp only [hc, if_false, add_eq, addA_rel]
          exact .slice _ _ _ _ _ _ hi' (by omega) (Nat.le_refl _) (fun _ => rfl) (fun _ => by omega) (by omega) (fun hh => absurd hg hh)
    · cases hp

theorem find_entry {n c st : Nat} : ∀ {es : List (Value × Value × Nat)} {es' : List MapEntry} {e : Value × Value × Nat}, ER μ n c es es' → es.find? (·.2.2 == st) = some e → ∃ e', es'.find? (·.born == st) = some e' ∧ VR μ n e.1 e'.key ∧ VR μ n e.2.1 e'.val
  | [], [], _, _, h => by simp at h
  | x :: es, x' :: es', e, ⟨h1, h2, h3, _, h5⟩, h => by
    simp only [List.find?_cons] at h ⊢
    rw [h3]
    cases hc : (x.2.2 == st)
    · rw [hc] at h
      exact find_entry h5 h
    · rw [hc] at h
      simp at h
      subst h
      exact ⟨x', rfl, h1, h2⟩
  | [], _ :: _, _, h, _ => h.elim
  | _ :: _, [], _, h, _ => h.elim

theorem rs_entry {x : Operand} (ho : o.op = .entry x) : RSound P B0 W0 μ s w o .entry [x] := by
  intro ρ vs v h hv hp
  obtain ⟨a, rfl, ha⟩ := hv.inv1
  generalize hx : ρ x = x' at ha
  cases ha <;> simp only [rop] at hp <;> (try (cases hp; done))
  case ptr i off hi =>
    split at hp <;> (try (cases hp; done))
    rename_i m since seen last hget
    split at hp <;> (try (cases hp; done))
    rename_i es clock hgetm
    split at hp <;> (try (cases hp; done))
    rename_i hcond
    obtain ⟨rfl, rfl⟩ := hcond
    split at hp <;> (try (cases hp; done))
    rename_i st hst
    simp only [Option.map_eq_some_iff] at hp
    obtain ⟨e, he, rfl⟩ := hp
    obtain ⟨_, hb0, _, hit⟩ := (h.known i _ hget).2.2
    obtain ⟨_, es', hm1, hm2⟩ := (h.known m _ hgetm).2.2
    obtain ⟨e', k1, k2, k3⟩ := find_entry hm2 he
    have hgo1 : (getObj (μ i).block).run P w = .ok (.mapIter (some (μ m).block) since seen.toArray clock) w := by simp [getObj, Sem.run, hit]
    have hgo2 := MapKept.run_getObj_map (P := P) hm1
    have hback : seen.toArray.back? = some st := by simpa using hst
    have hfind : es'.find? (·.born == st) = some e' := by rw [← Array.find?_toList]; exact k1
    exact ⟨.tuple #[e'.key, e'.val], by simp [execOp, ho, hx, hb0, Instr.entry, hgo1, hgo2, hback, hfind], .tuple _ _ (.cons _ _ _ _ k2 (.cons _ _ _ _ k3 .nil))⟩

theorem rop_sound {r : ROp} {xs : List Operand} (hc : compOp P o.op = some (.r r, xs)) : RSound P B0 W0 μ s w o r xs := by
  cases ho : o.op with
  | load t a =>
    simp only [ho, compOp, Option.bind_eq_some_iff] at hc
    obtain ⟨b, hb, hc⟩ := hc
    cases b
    · simp at hc; obtain ⟨rfl, rfl⟩ := hc; exact rs_load1 hb ho
    · simp at hc; obtain ⟨k, hk, rfl, rfl⟩ := hc; exact rs_loadN hb hk ho
  | lookup t x i ok =>
    simp only [ho, compOp] at hc
    split at hc
    · rename_i k e ht
      simp only [Option.bind_eq_some_iff, Option.map_eq_some_iff, Prod.mk.injEq, AOp.r.injEq] at hc
      obtain ⟨kk, hkk, z, hz, rfl, rfl⟩ := hc
      exact rs_lookup ht hkk hz ho
    · cases hc
  | entry x => simp [ho, compOp] at hc; obtain ⟨rfl, rfl⟩ := hc; exact rs_entry ho
  | slice t x lo hi mx =>
    simp only [ho, compOp] at hc
    split at hc
    · simp at hc
    · rename_i e ht; simp at hc; obtain ⟨m, hm, rfl, rfl⟩ := hc; exact rs_sl ht hm ho
    · rename_i k e ht; simp at hc; obtain ⟨m, hm, rfl, rfl⟩ := hc; exact rs_slArr ht hm ho
    · split at hc <;> simp at hc
    · cases hc
  | convert a b x =>
    simp only [ho, compOp] at hc
    split at hc
    · simp at hc
    · split at hc <;> simp at hc
    · rename_i e h1 h2
      split at hc
      · rename_i he; simp at hc; obtain ⟨rfl, rfl⟩ := hc; exact rs_bytesToStr h1 he h2 ho
      · cases hc
    · cases hc
  | call c =>
    simp only [ho, compOp, compCall] at hc
    split at hc
    · simp at hc
    · simp at hc
    · simp at hc
    · rename_i b hb
      split at hc
      · rename_i t x h2 h3
        have hcall := call_eq hb h2 h3
        rw [hcall] at ho
        split at hc
        · simp at hc
        · simp at hc
        · rename_i ht; simp at hc; obtain ⟨rfl, rfl⟩ := hc; exact rs_lenMap ht (by simpa using ho)
        · simp at hc
        · cases hc
      · split at hc
        · simp only [Option.bind_eq_some_iff] at hc
          obtain ⟨_, _, _, _, _, _, hc⟩ := hc
          split at hc <;> simp at hc
        · simp only [Option.bind_eq_some_iff] at hc
          obtain ⟨_, _, _, _, _, _, hc⟩ := hc
          split at hc <;> simp at hc
        · cases hc
      · split at hc
        · simp at hc
        · cases hc
      · split at hc
        · simp at hc
        · cases hc
      · simp at hc
      · simp at hc
      · cases hc
  | build t parts =>
    simp only [ho, compOp] at hc
    split at hc <;> first | (cases hc; done) | (simp only [Option.bind_eq_some_iff, Option.map_eq_some_iff, Prod.mk.injEq, reduceCtorEq, false_and, and_false, exists_false] at hc)
  | binOp op t x y t2 =>
    simp only [ho, compOp] at hc
    split at hc
    · simp at hc
    · simp at hc
    · split at hc <;> simp at hc
    · split at hc
      · split at hc
        · split at hc <;> simp at hc
        · cases hc
      · cases hc
    · cases hc
  | makeInterface t x => simp only [ho, compOp] at hc; split at hc <;> simp at hc
  | fieldAddr t x f =>
    simp only [ho, compOp] at hc
    split at hc
    · split at hc
      · split at hc <;> simp at hc
      · cases hc
    · cases hc
  | field t x f =>
    simp only [ho, compOp] at hc
    split at hc
    · split at hc
      · simp only [Option.bind_eq_some_iff, Option.map_eq_some_iff, Prod.mk.injEq, reduceCtorEq, false_and, and_false, exists_false] at hc
      · cases hc
    · cases hc
  | indexAddr t x i => simp only [ho, compOp] at hc; split at hc <;> simp at hc
  | index t x i =>
    simp only [ho, compOp] at hc
    split at hc
    · simp at hc
    · simp only [Option.bind_eq_some_iff, Option.map_eq_some_iff, Prod.mk.injEq, reduceCtorEq, false_and, and_false, exists_false] at hc
    · cases hc
  | typeAssert x tx t ok => simp only [ho, compOp] at hc; split at hc <;> simp at hc
  | buildSlice t len parts =>
    simp only [ho, compOp] at hc
    split at hc
    · simp only [Option.bind_eq_some_iff] at hc
      obtain ⟨_, _, _, _, _, _, hc⟩ := hc
      split at hc <;> simp at hc
    · cases hc
  | alloc e =>
    simp only [ho, compOp, Option.bind_eq_some_iff] at hc
    obtain ⟨z, _, hc⟩ := hc
    split at hc <;> simp at hc
  | makeSlice t l c =>
    simp only [ho, compOp] at hc
    split at hc
    · simp only [Option.bind_eq_some_iff] at hc
      obtain ⟨_, _, _, _, _, _, hc⟩ := hc
      split at hc <;> simp at hc
    · cases hc
  | makeMap t r => cases r <;> simp [ho, compOp] at hc
  | mapUpdate t m k x => simp only [ho, compOp] at hc; split at hc <;> simp at hc
  | insert t m k x => simp only [ho, compOp] at hc; split at hc <;> simp at hc
  | range t x => simp only [ho, compOp] at hc; split at hc <;> simp at hc
  | _ => simp [ho, compOp] at hc

end Go.Am
end
section
set_option linter.unusedSimpArgs false
set_option linter.unusedVariables false
set_option maxRecDepth 10000
namespace Go.Am
open Go.RowKit (Below)

variable {P : Program} {B0 : Nat} {W0 : World} {μ : Nat → Spot} {s : St} {w : World} {o : Oper}

theorem r_new (P : Program) (w : World) (c : Obj) : (newObj c).run P w = .ok w.heap.size (w.alloc c) := rfl

/-- the operation is carried out, and leaves this value (or nothing) in this world -/
def Did (P : Program) (ρ : Operand → Value) (o : Oper) (w : World) (v : Value) (w' : World) : Prop :=
  (execOp ρ o).run P w = .ok (.value v) w' ∨ ((execOp ρ o).run P w = .ok .skip w' ∧ v = undef)

/-- what is known after a step: the value stands for the other one, the heaps go together, nothing is forgotten -/
def After (B0 : Nat) (W0 : World) (μ : Nat → Spot) (s : St) (v : Value) (s' : St) (v' : Value) (w' : World) : Prop :=
  ∃ μ', Agree μ s.next μ' s'.next ∧ Rel B0 W0 μ' s' w' ∧ VR μ' s'.next v v'

def WSound (P : Program) (B0 : Nat) (W0 : World) (μ : Nat → Spot) (s : St) (w : World) (o : Oper) (q : WOp) (xs : List Operand) : Prop :=
  ∀ (ρ : Operand → Value) (vs : List Value) (v : Value) (s' : St), Rel B0 W0 μ s w → VRs μ s.next vs (xs.map ρ) → wop q vs s = some (v, s') → ∃ v' w', Did P ρ o w v' w' ∧ After B0 W0 μ s v s' v' w'

theorem newPtr_after (h : Rel B0 W0 μ s w) {cs : List Value} {c : Array Value} (hc : VRs μ s.next cs c.toList) {t : TypeId} {v : Value} {s' : St} (hp : s.newPtr cs = some (v, s')) :
    After B0 W0 μ s v s' (.pointer (some ⟨w.heap.size, 0, none⟩)) (w.alloc (.cells c t)) := by
  simp [St.newPtr] at hp
  obtain ⟨rfl, rfl⟩ := hp
  refine ⟨_, upd_agree _ _, h.newRow cs 0 c t (0, 0) (fun j v hj => ?_) (by have := hc.length; simp at this; omega) (fun x _ => by simp), ?_⟩
  · obtain ⟨v', h1, h2⟩ := hc.get hj
    exact ⟨v', by simpa using h1, h2⟩
  · have := VR.ptr (μ := upd μ s.next ⟨w.heap.size, 0, c.size, 0⟩) (n := s.next + 1) s.next 0 (by omega)
    simpa [upd_same] using this

theorem ws_new {e : TypeId} {z : Value} (hz : zeroT P e = some z) (ho : o.op = .alloc e) : WSound P B0 W0 μ s w o (.new (cellsOf z)) [] := by
  intro ρ vs v s' h hv hp
  obtain rfl := hv.inv0
  simp only [wop] at hp
  have hzr : VR μ s.next z z := plainV_rel (zeroT_spec hz).choose_spec.2.2
  exact ⟨.pointer (some ⟨w.heap.size, 0, none⟩), w.alloc (.cells z.cells e), .inl (by simp [execOp, ho, Instr.alloc, r_zero w hz, newVar, newRow]), newPtr_after h hzr.cellsOf hp⟩

theorem ws_box {e : TypeId} {x : Operand} {k : Nat} (ho : o.op = .box e x) : WSound P B0 W0 μ s w o (.box k) [x] := by
  intro ρ vs v s' h hv hp
  obtain ⟨a, rfl, ha⟩ := hv.inv1
  simp only [wop] at hp
  split at hp
  · exact ⟨.pointer (some ⟨w.heap.size, 0, none⟩), w.alloc (.cells (ρ x).cells e), .inl (by simp [execOp, ho, Instr.box, newVar, newRow]), newPtr_after h ha.cellsOf hp⟩
  · cases hp

theorem replicateL_length (k : Nat) (l : List Value) : (replicateL k l).length = k * l.length := by
  induction k with
  | zero => simp [replicateL]
  | succ k ih => simp [replicateL, ih, Nat.add_mul]; omega
theorem replicateL_get (k : Nat) (l : List Value) (i : Nat) (h : i < k * l.length) : (replicateL k l)[i]? = l[i % l.length]? := by
  induction k generalizing i with
  | zero => simp at h
  | succ k ih =>
    simp only [replicateL]
    by_cases hi : i < l.length
    · rw [List.getElem?_append_left hi, Nat.mod_eq_of_lt hi]
    · rw [List.getElem?_append_right (by omega), ih _ (by rw [Nat.add_mul] at h; omega)]
      congr 1
      rw [Nat.mod_eq_sub_mod (by omega : i ≥ l.length)]

theorem made_toList (z : Array Value) (k m : Nat) (hz : z.size = m) (hm : 0 < m) : ((Array.range (k * m)).map fun i => z[i % z.size]!).toList = replicateL k z.toList := by
  apply List.ext_getElem?
  intro i
  by_cases hi : i < k * m
  · rw [replicateL_get _ _ _ (by simpa [hz] using hi)]
    have hlt : i % z.size < z.size := Nat.mod_lt _ (by omega)
    simp [hi, hlt]
  · have h1 : (replicateL k z.toList).length ≤ i := by rw [replicateL_length]; simp [hz]; omega
    rw [List.getElem?_eq_none h1]
    simp; omega

theorem ws_sliceLit {t e : TypeId} {len m : Nat} {parts : Array (Nat × Operand)} {z : Value} {ps : List (Nat × Nat)} (ht : P.underlying t = some (.slice e)) (hz : zeroT P e = some z) (hm : sizeT P e = some m)
    (hps : placesOf P t (parts.toList.map (·.1)) = some ps) (hle : len * m ≤ 16777216) (hzm : (cellsOf z).length = m) (ho : o.op = .buildSlice t len parts) :
    WSound P B0 W0 μ s w o (.sliceLit (replicateL len (cellsOf z)) len ps) (parts.toList.map (·.2)) := by
  intro ρ vs v s' h hv hp
  have hzr : VR μ s.next z z := plainV_rel (zeroT_spec hz).choose_spec.2.2
  simp only [wop, Option.map_eq_some_iff, Prod.mk.injEq] at hp
  obtain ⟨cs, hcs, rfl, rfl⟩ := hp
  have hcl := hzr.cellsOf.length
  simp only [Array.length_toList] at hcl
  have hzz : cellsOf z = z.cells.toList := by cases z <;> rfl
  -- the zero cells, as the first machine makes them
  obtain ⟨zero, hzero, hzl⟩ : ∃ zero : Array Value, zero = (if len * m = 0 then #[] else z.cells) ∧ ((Array.range (len * m)).map fun i => zero[i % zero.size]!).toList = replicateL len (cellsOf z) := by
    by_cases hlm : len * m = 0
    · refine ⟨#[], by simp [hlm], ?_⟩
      have : (replicateL len (cellsOf z)).length = 0 := by rw [replicateL_length, hzm, hlm]
      rw [List.length_eq_zero_iff.1 this]
      simp [hlm]
    · refine ⟨z.cells, by simp [hlm], ?_⟩
      rw [made_toList z.cells len m (by omega) (by rcases Nat.eq_zero_or_pos m with e | e; simp [e] at hlm; exact e), hzz]
  unfold placesOf at hps
  simp only [placeFn, ht, Option.bind_eq_some_iff, Option.map_eq_some_iff] at hps
  obtain ⟨f, ⟨m', hm', rfl⟩, hpl⟩ := hps
  rw [hm] at hm'
  simp at hm'
  subst hm'
  have hcells : VRs μ s.next (replicateL len (cellsOf z)) ((Array.range (len * m)).map fun i => zero[i % zero.size]!).toList := by
    rw [hzl]
    refine VRs.of_get rfl fun j v hj => ⟨v, hj, ?_⟩
    have hjl : j < len * (cellsOf z).length := by
      rcases Nat.lt_or_ge j (replicateL len (cellsOf z)).length with hh | hh
      · rwa [replicateL_length] at hh
      · rw [List.getElem?_eq_none hh] at hj; cases hj
    rw [replicateL_get _ _ _ hjl] at hj
    obtain ⟨v', k1, k2⟩ := hzr.cellsOf.get hj
    rw [← hzz, hj] at k1
    simp at k1
    subst k1
    exact k2
  obtain ⟨cs', k1, k2⟩ := fill_sound _ ps vs _ _ _ cs hcells hv hpl hcs
  have hzip : (parts.map fun (i, x) => (i, ρ x)).toList = (parts.toList.map (·.1)).zip ((parts.toList.map (·.2)).map ρ) := by
    rw [Array.toList_map, List.map_map]
    generalize parts.toList = l
    induction l with
    | nil => rfl
    | cons x l ih => simp [ih]
  have hno : ¬ len * m > 2 ^ 24 := by omega
  refine ⟨.slice (some ⟨w.heap.size, 0, none⟩) len len, w.alloc (.cells cs' e), .inl ?_, ?_⟩
  · rw [← hzip] at k1
    simp only [execOp, ho, Instr.buildSlice, Sem.run_bind, r_under w ht, Result.andThen_ok, r_size w hm, if_neg hno]
    by_cases hlm : len * m = 0
    · simp only [hlm, if_true] at hzero k1 ⊢
      subst hzero
      simp only [Sem.run_bind, Sem.run_pure, Result.andThen_ok, k1, newRow, r_new]
    · simp only [hlm, if_false] at hzero k1 ⊢
      subst hzero
      simp only [Sem.run_bind, Sem.run_pure, r_zero w hz, Result.andThen_ok, k1, newRow, r_new]
  · refine ⟨_, upd_agree _ _, h.newRow cs 0 cs' e (0, 0) (fun j v hj => ?_) (by have := k2.length; simp at this; omega) (fun x _ => by simp), ?_⟩
    · obtain ⟨v', q1, q2⟩ := k2.get hj
      exact ⟨v', by simpa using q1, q2⟩
    · have := VR.slice (μ := upd μ s.next ⟨w.heap.size, 0, cs'.size, 0⟩) (n := s.next + 1) s.next 0 0 len len len (by omega) (Nat.le_refl _) (Nat.le_refl _) (fun _ => rfl) (fun _ => by simp [upd_same]) (by simp [upd_same]) (fun hh => by simp [upd_same] at hh)
      simpa [upd_same] using this

theorem oneCell_eq (v : Value) : v.oneCell' = oneCell v := by cases v <;> rfl

theorem VRs.oneCells {n : Nat} : ∀ {l l' : List Value}, VRs μ n l l' → l.all oneCell = true → ∀ v ∈ l', v.oneCell' = true
  | [], [], _, _ => by simp
  | _ :: _, _ :: _, .cons _ _ _ _ h hs, ha => by
    simp only [List.all_cons, Bool.and_eq_true] at ha
    intro v hv
    cases hv with
    | head => rw [oneCell_eq, h.oneCell]; exact ha.1
    | tail _ hv => exact hs.oneCells ha.2 v hv

/-- a store of cells, as far as the heaps go -/
theorem storeAt_sound (h : Rel B0 W0 μ s w) {i off : Nat} {vs vs' : List Value} {s' : St} (hv : VRs μ s.next vs vs') (hs : s.storeAt ⟨i, off, none⟩ vs = some s') :
    (storeCells ⟨(μ i).block, (μ i).base + off, none⟩ vs').run P w = .ok () (w.setCells (μ i).block ((μ i).base + off) vs') ∧ Rel B0 W0 μ s' (w.setCells (μ i).block ((μ i).base + off) vs') ∧ s'.next = s.next := by
  unfold St.storeAt at hs
  simp only at hs
  split at hs
  · rename_i cs g hget
    split at hs
    · rename_i hc
      simp at hs
      subst hs
      obtain ⟨hlen, hone⟩ := hc
      have hid := (h.known i _ hget).2.2
      obtain ⟨_, hlim, _, _, hown⟩ := hid
      have hown := (hown rfl).2.1
      have hl := hv.length
      refine ⟨?_, h.stored hget off vs vs' hv hlen, rfl⟩
      have := run_storeCells_cells (P := P) (μ i).block ((μ i).base + off) vs' 0 w (fun j hj => (hown _ (by omega) (by omega)).1) (fun j hj => (hown _ (by omega) (by omega)).2) (hv.oneCells (by simpa using hone))
      simpa using this
    · cases hs
  · cases hs

theorem ws_store {t : TypeId} {a x : Operand} {k : Nat} (hk : sizeT P t = some k) (ho : o.op = .store t a x) : WSound P B0 W0 μ s w o (.store k) [a, x] := by
  intro ρ vs v s' h hv hp
  obtain ⟨u1, u2, rfl, h1, h2⟩ := hv.inv2
  generalize hx : ρ a = x' at h1
  cases h1 <;> simp only [wop] at hp <;> (try (cases hp; done))
  rename_i i off hi
  split at hp
  · rename_i hlen
    simp only [Option.map_eq_some_iff, Prod.mk.injEq] at hp
    obtain ⟨s1, hs, rfl, rfl⟩ := hp
    have hcl := h2.cellsOf
    have hl := hcl.length
    simp only [Array.length_toList] at hl
    obtain ⟨k1, k2, k3⟩ := storeAt_sound (P := P) h hcl hs
    have hsz : ¬ (ρ x).cells.size ≠ k := by omega
    refine ⟨undef, _, .inr ⟨by simp only [execOp, ho, hx, Instr.storeAt, Instr.sureAddr, storeVar, Sem.run_bind, Sem.run_pure, Result.andThen_ok, r_size w hk, if_neg hsz, k1], rfl⟩, μ, ⟨by omega, fun _ _ => rfl⟩, k2, .tuple _ _ .nil⟩
  · cases hp

theorem ws_mkMap {t : TypeId} (ho : o.op = .makeMap t none) : WSound P B0 W0 μ s w o .mkMap [] := by
  intro ρ vs v s' h hv hp
  obtain rfl := hv.inv0
  simp [wop] at hp
  obtain ⟨rfl, rfl⟩ := hp
  refine ⟨.map (some w.heap.size), w.alloc (.map #[] 0), .inl (by simp [execOp, ho, Instr.makeMap]), _, upd_agree ⟨w.heap.size, 0, 0, 0⟩ _, h.new _ _ ⟨w.heap.size, 0, 0, 0⟩ rfl ⟨by rw [upd_same]; exact h.size, #[], ?_, trivial⟩, ?_⟩
  · rw [upd_same]; show (w.heap.push _)[w.heap.size]? = _; simp
  · have := VR.map (μ := upd μ s.next ⟨w.heap.size, 0, 0, 0⟩) (n := s.next + 1) s.next (by omega)
    simpa [upd_same] using this

theorem mkSlice_run {t e : TypeId} {z : Value} {m b : Nat} {k k' : IntKind} {l c : Int} (ht : P.underlying t = some (.slice e)) (hz : zeroT P e = some z) (hm : sizeT P e = some m) (hb : bytesT P e = some b) (hzm : (cellsOf z).length = m) (hm0 : 0 < m)
    (h0 : 0 ≤ l) (h1 : l ≤ c) (h2 : c * b ≤ 1099511627776) (h3 : c ≤ 1099511627776) :
    ∃ cells : Array Value, cells.toList = replicateL c.toNat (cellsOf z) ∧ (Instr.makeSlice t (.int k l) (.int k' c)).run P w = .ok (.slice (some ⟨w.heap.size, 0, none⟩) l.toNat c.toNat) (w.alloc (.cells cells e)) := by
  have hzz : cellsOf z = z.cells.toList := by cases z <;> rfl
  obtain ⟨i, hi, hiz, _⟩ := zeroT_spec hz
  have hib : i.bytes = b := by simp [bytesT, hi] at hb; exact hb
  have hwl : IntKind.wrap .i64 l = l := by rw [← wrapF_eq]; simp only [wrapF]; rw [if_pos (by omega)]
  have hwc : IntKind.wrap .i64 c = c := by rw [← wrapF_eq]; simp only [wrapF]; rw [if_pos (by omega)]
  have hcb : ¬ ((b : Int) * c > 2 ^ 48) := by rw [Int.mul_comm]; omega
  have htl : (decide (c < 0) || decide ((b : Int) * c > 2 ^ 48) || decide (l < 0) || decide (l > c)) = false := by
    simp; omega
  by_cases hn : c.toNat * m = 0
  · have hc0 : c.toNat = 0 := by rcases Nat.mul_eq_zero.1 hn with e | e <;> omega
    refine ⟨#[], by rw [hc0]; rfl, ?_⟩
    simp only [Instr.makeSlice, Sem.run_bind, r_under w ht, asInt, asIntOf, Sem.run_pure, Result.andThen_ok, r_info w hi, hib, hwl, hwc, htl, Bool.false_eq_true, if_false, askRoom]
    simp [hc0, r_size w hm, newRow, roomBytes]
    rw [show Array.range 0 = #[] from rfl, Array.map_empty]
  · refine ⟨(Array.range (c.toNat * m)).map fun i => z.cells[i % z.cells.size]!, by rw [made_toList z.cells c.toNat m (by rw [← hzm, hzz]; simp) hm0, hzz], ?_⟩
    simp only [Instr.makeSlice, Sem.run_bind, r_under w ht, asInt, asIntOf, Sem.run_pure, Result.andThen_ok, r_info w hi, hib, hwl, hwc, htl, Bool.false_eq_true, if_false, askRoom]
    have hroom : ∀ w : World, (if c.toNat * b > roomBytes then mark .noRoom else pure () : Sem Unit).run P w = .ok () w := fun w => by split <;> rfl
    simp only [hroom, Result.andThen_ok, r_size w hm, Sem.run_bind, hn, if_false, r_zero w hz, Sem.run_pure, newRow, r_new]

theorem ws_mkSlice {t e : TypeId} {z : Value} {m b : Nat} {x y : Operand} (ht : P.underlying t = some (.slice e)) (hz : zeroT P e = some z) (hm : sizeT P e = some m) (hb : bytesT P e = some b) (hzm : (cellsOf z).length = m) (hm0 : 0 < m) (ho : o.op = .makeSlice t x y) :
    WSound P B0 W0 μ s w o (.mkSlice (cellsOf z) b) [x, y] := by
  intro ρ vs v s' h hv hp
  obtain ⟨u1, u2, rfl, h1, h2⟩ := hv.inv2
  generalize hx : ρ x = x' at h1
  generalize hy : ρ y = y' at h2
  have hzr : VR μ s.next z z := plainV_rel (zeroT_spec hz).choose_spec.2.2
  cases h1 <;> simp only [wop] at hp <;> (try (cases hp; done))
  rename_i k l
  cases h2 <;> simp only at hp <;> (try (cases hp; done))
  rename_i k' c
  split at hp
  · rename_i hc
    simp at hp
    obtain ⟨rfl, rfl⟩ := hp
    obtain ⟨cells, hcl, hr⟩ := mkSlice_run (P := P) (w := w) (k := k) (k' := k') ht hz hm hb hzm hm0 hc.1 hc.2.1 hc.2.2.1 hc.2.2.2
    refine ⟨.slice (some ⟨w.heap.size, 0, none⟩) l.toNat c.toNat, w.alloc (.cells cells e), .inl (by simp only [execOp, ho, hx, hy, Sem.run_bind, hr, Result.andThen_ok, Sem.run_pure]), _, upd_agree _ _, h.newRow _ 0 cells e (0, 0) (fun j v hj => ?_) (by rw [← hcl]; simp) (fun x _ => by simp), ?_⟩
    · rw [← hcl] at hj
      refine ⟨v, by simpa using hj, ?_⟩
      rw [hcl] at hj
      have hjl : j < c.toNat * (cellsOf z).length := by
        rcases Nat.lt_or_ge j (replicateL c.toNat (cellsOf z)).length with hh | hh
        · rwa [replicateL_length] at hh
        · rw [List.getElem?_eq_none hh] at hj; cases hj
      rw [replicateL_get _ _ _ hjl] at hj
      obtain ⟨v', k1, k2⟩ := hzr.cellsOf.get hj
      have hzz : cellsOf z = z.cells.toList := by cases z <;> rfl
      rw [← hzz, hj] at k1
      simp at k1
      subst k1
      exact k2
    · have := VR.slice (μ := upd μ s.next ⟨w.heap.size, 0, cells.size, 0⟩) (n := s.next + 1) s.next 0 0 l.toNat c.toNat c.toNat (by omega) (by omega) (Nat.le_refl _) (fun _ => rfl) (fun _ => by simp [upd_same]) (by simp [upd_same]) (fun hh => by simp [upd_same] at hh)
      simpa [upd_same] using this
  · cases hp

theorem ws_sl3 {t e : TypeId} {m : Nat} {x y z : Operand} (ht : P.underlying t = some (.slice e)) (hm : sizeT P e = some m) (ho : o.op = .slice t x none (some y) (some z)) : WSound P B0 W0 μ s w o .sl3 [x, y, z] := by
  intro ρ vs v s' h hv hp
  obtain ⟨u1, u2, u3, rfl, h1, h2, h3⟩ := hv.inv3
  generalize hx : ρ x = x' at h1
  generalize hy : ρ y = y' at h2
  generalize hz : ρ z = z' at h3
  cases h1 <;> (try (simp [wop] at hp; done))
  case nilSlice =>
    cases h2 <;> (try (simp [wop] at hp; done))
    cases h3 <;> (try (simp [wop] at hp; done))
    simp only [wop] at hp
    split at hp
    · rename_i hc
      obtain ⟨rfl, rfl⟩ := hc
      simp at hp
      obtain ⟨rfl, rfl⟩ := hp
      exact ⟨.slice none 0 0, w, .inl (by simp [execOp, ho, hx, hy, hz, Instr.sliceAt, Instr.slice, Instr.sliceBounds, Instr.sliceBound, asIntOf, r_under w ht, r_size w hm]), μ, Agree.refl _ _, h, .nilSlice⟩
    · cases hp
  case void ad =>
    cases h2 <;> (try (simp [wop] at hp; done))
    cases h3 <;> (try (simp [wop] at hp; done))
  case slice i off off' len cap cap' hi q0 q1 q2 q3 q4 q5 =>
    cases h2 <;> (try (simp [wop] at hp; done))
    cases h3 <;> (try (simp [wop] at hp; done))
    simp only [wop] at hp
    split at hp
    · rename_i hc
      obtain ⟨rfl, rfl, hcap⟩ := hc
      split at hp
      · rename_i cs g ro hget
        simp at hp
        obtain ⟨rfl, rfl⟩ := hp
        have ha := upd_agree (μ := μ) ⟨(μ i).block, off', off', 0⟩ s.next
        refine ⟨.slice (some ⟨(μ i).block, off', none⟩) 0 0, w, .inl (by simp [execOp, ho, hx, hy, hz, Instr.sliceAt, Instr.slice, Instr.sliceBounds, Instr.sliceBound, asIntOf, r_under w ht, r_size w hm]), _, ha, h.rename (.row [] 0 true) ⟨(μ i).block, off', off', 0⟩ (h.known i _ hget).2.1 ⟨by rw [upd_same], by rw [upd_same]; simp, fun j v hj => by simp at hj, fun _ => .inr rfl, fun hr => by simp at hr⟩ (fun hh => by simp [AObj.owned] at hh), ?_⟩
        have := VR.slice (μ := upd μ s.next ⟨(μ i).block, off', off', 0⟩) (n := s.next + 1) s.next 0 off' 0 0 0 (by omega) (Nat.le_refl _) (Nat.le_refl _) (fun _ => rfl) (fun _ => by simp [upd_same]) (by simp [upd_same]) (fun hh => by simp [upd_same] at hh)
        simpa [upd_same] using this
      · cases hp
    · cases hp

theorem ws_strToBytes {t1 t2 e : TypeId} {x : Operand} (h1 : P.underlying t1 = some .string) (h2 : P.underlying t2 = some (.slice e)) (he : P.underlying e = some (.int .u8)) (ho : o.op = .convert t1 t2 x) : WSound P B0 W0 μ s w o .strToBytes [x] := by
  intro ρ vs v s' h hv hp
  obtain ⟨a, rfl, ha⟩ := hv.inv1
  generalize hx : ρ x = x' at ha
  cases ha <;> simp only [wop] at hp <;> (try (cases hp; done))
  rename_i b
  · simp [St.grow] at hp
    obtain ⟨rfl, rfl⟩ := hp
    obtain ⟨cap, hcap⟩ : ∃ cap, cap = (Question.appendCap b.size 0 e).cut (w.tape w.drawn (.appendCap b.size 0 e)) := ⟨_, rfl⟩
    have hge : b.size ≤ cap := by rw [hcap]; simp only [Question.cut]; omega
    obtain ⟨cells, hcells⟩ : ∃ cells : Array Value, cells = (b.data.map fun c => Value.int .u8 c.toNat) ++ Array.replicate (cap - b.size) (.int .u8 0) := ⟨_, rfl⟩
    have hcsz : cells.size = cap := by rw [hcells]; simp; show b.data.size + _ = _; have : b.data.size = b.size := rfl; omega
    have hrun : (Conv.stringToBytes e b).run P w = .ok (.slice (some ⟨w.heap.size, 0, none⟩) b.size cap) ({ w with drawn := w.drawn + 1 }.alloc (.cells cells e (cap, cap + 1))) := by
      simp only [Conv.stringToBytes, Sem.run_bind, run_choose, Question.forced, Bool.false_eq_true, if_false, Result.andThen_ok, ← hcap, ← hcells, newRow, r_new, Sem.run_pure, markStringish, run_shape]
      have hs : ({ w with drawn := w.drawn + 1 }.alloc (.cells cells e)).shape? w.heap.size = some (e, cap) := by
        have : ({ w with drawn := w.drawn + 1 }.alloc (.cells cells e)).heap[w.heap.size]? = some (.cells cells e) := by show (w.heap.push _)[w.heap.size]? = _; simp
        simp only [World.shape?, this, hcsz]
      rw [hs]
      simp only [run_freeze, Result.andThen_ok, World.freeze]
      congr 1
      simp only [World.alloc, Nat.one_ne_zero, if_false]
      congr 1
      apply Array.ext
      · simp
      · intro j hj1 hj2
        simp only [Array.getElem_modify, Array.getElem_push]
        by_cases hj : j < w.heap.size
        · simp [hj]; intro e; omega
        · have : w.heap.size = j := by simp at hj2; omega
          simp [this]
    refine ⟨.slice (some ⟨w.heap.size, 0, none⟩) b.size cap, { w with drawn := w.drawn + 1 }.alloc (.cells cells e (cap, cap + 1)), .inl (by simp only [execOp, ho, hx, Sem.run_bind, convert, r_under w h1, r_under w h2, r_under w he, Result.andThen_ok, hrun, Sem.run_pure]), _, upd_agree _ _, (h.drew (w.drawn + 1)).newRow _ 1 cells e (cap, cap + 1) (fun j v hj => ?_) (by rw [hcsz]; simp; show b.data.size ≤ _; exact hge) (fun x hx => by rw [hcsz] at hx; simp; omega), ?_⟩
    · simp only [List.getElem?_map, Option.map_eq_some_iff] at hj
      obtain ⟨c, hc, rfl⟩ := hj
      refine ⟨.int .u8 c.toNat, ?_, .int _ _⟩
      have hlt : j < b.data.size := by
        rcases Nat.lt_or_ge j b.data.size with hh | hh
        · exact hh
        · rw [List.getElem?_eq_none (by simpa using hh)] at hc; cases hc
      rw [hcells, Array.getElem?_append_left (by simpa using hlt)]
      simp at hc
      simp [hc]
    · have := VR.slice (μ := upd μ s.next ⟨w.heap.size, 0, cells.size, 1⟩) (n := s.next + 1) s.next 0 0 b.size b.size cap (by omega) (Nat.le_refl _) hge (fun hh => by simp [upd_same] at hh) (fun _ => by simp [upd_same]) (by simp [upd_same]) (fun _ => by simp [upd_same, hcsz])
      simpa [upd_same] using this

end Go.Am
end
section
set_option linter.unusedSimpArgs false
set_option linter.unusedVariables false
set_option maxRecDepth 10000
namespace Go.Am
open Go.RowKit (Below)

variable {P : Program} {B0 : Nat} {W0 : World} {μ : Nat → Spot} {s : St} {w : World} {o : Oper}

theorem sameBits_of {n : Nat} {kk : KeyK} {x y x' y' : Value} (h : sameV kk x y = some true) (hx : VR μ n x x') (hy : VR μ n y y') (k : Nat) : Instr.sameBits (k + 1) x' y' = true ∧ Instr.sameBits (k + 1) y' x' = true := by
  unfold sameV at h
  split at h
  · cases hx; cases hy
    split at h
    · rename_i hk; subst hk; simp at h; subst h; simp [Instr.sameBits]
    · cases h
  · cases hx; cases hy
    rename_i a b
    have : a = b := by
      simp at h
      cases a; cases b; simp at h; rw [h]
    subst this
    simp [Instr.sameBits, beq_toListBytes]
  · cases hx; cases hy
    simp at h; subst h; simp [Instr.sameBits]
  · cases h

theorem ER.mod {n c : Nat} {k v k' v' : Value} (hk : VR μ n k k') (hv : VR μ n v v') : ∀ {es : List (Value × Value × Nat)} {es' : List MapEntry} (i : Nat), ER μ n c es es' → ER μ n c (es.modify i fun e => (k, v, e.2.2)) (es'.modify i fun e => { e with key := k', val := v' })
  | [], [], i, _ => by simp; trivial
  | e :: es, e' :: es', 0, ⟨h1, h2, h3, h4, h5⟩ => by simp; exact ⟨hk, hv, h3, h4, h5⟩
  | e :: es, e' :: es', i + 1, ⟨h1, h2, h3, h4, h5⟩ => by simp; exact ⟨h1, h2, h3, h4, ER.mod hk hv i h5⟩
  | [], _ :: _, _, h => h.elim
  | _ :: _, [], _, h => h.elim
theorem ER.snoc {n c : Nat} {k v k' v' : Value} (hk : VR μ n k k') (hv : VR μ n v v') : ∀ {es : List (Value × Value × Nat)} {es' : List MapEntry}, ER μ n c es es' → ER μ n (c + 1) (es ++ [(k, v, c)]) (es' ++ [{ key := k', val := v', born := c }])
  | [], [], _ => ⟨hk, hv, rfl, by show c < c + 1; omega, trivial⟩
  | e :: es, e' :: es', ⟨h1, h2, h3, h4, h5⟩ => ⟨h1, h2, h3, by omega, ER.snoc hk hv h5⟩
  | [], _ :: _, h => h.elim
  | _ :: _, [], h => h.elim
theorem ER.erase {n c : Nat} : ∀ {es : List (Value × Value × Nat)} {es' : List MapEntry} (i : Nat), ER μ n c es es' → ER μ n c (es.eraseIdx i) (es'.eraseIdx i)
  | [], [], i, _ => by simp; trivial
  | e :: es, e' :: es', 0, ⟨h1, h2, h3, h4, h5⟩ => by simp; exact h5
  | e :: es, e' :: es', i + 1, ⟨h1, h2, h3, h4, h5⟩ => by simp; exact ⟨h1, h2, h3, h4, ER.erase i h5⟩
  | [], _ :: _, _, h => h.elim
  | _ :: _, [], _, h => h.elim

/-- a map's block turned -/
theorem map_turned (h : Rel B0 W0 μ s w) {r : Nat} {es : List (Value × Value × Nat)} {c : Nat} (hr : s.get r = some (.map es c)) {es1 : List (Value × Value × Nat)} {c1 : Nat} {es1' : Array MapEntry} (he : ER μ s.next c1 es1 es1'.toList) :
    Rel B0 W0 μ (s.put r (some (.map es1 c1))) { w with heap := w.heap.setIfInBounds (μ r).block (.map es1' c1) } := by
  have hk := h.known r _ hr
  refine h.setObj hr rfl _ _ ⟨hk.2.2.1, es1', ?_, he⟩
  simp [hk.2.1]

theorem ws_mapSet {op : Op} {t kt e : TypeId} {m k x : Operand} {kk : KeyK} (ht : P.underlying t = some (.map kt e)) (hkk : keyT P kt = some kk) (hop : op = .mapUpdate t m k x ∨ op = .insert t m k x) (ho : o.op = op) : WSound P B0 W0 μ s w o (.mapSet kk) [m, k, x] := by
  intro ρ vs v s' h hv hp
  obtain ⟨u1, u2, u3, rfl, h1, h2, h3⟩ := hv.inv3
  generalize hm : ρ m = m' at h1
  obtain ⟨d, hd, hdk⟩ := keyT_desc hkk
  cases h1 <;> (try (simp [wop] at hp; done))
  rename_i r hr
  simp only [wop] at hp
  split at hp <;> (try (cases hp; done))
  rename_i es clock hget
  split at hp <;> (try (cases hp; done))
  obtain ⟨hB, es', hb, he⟩ := (h.known r _ hget).2.2
  have hgo := MapKept.run_getObj_map (P := P) hb
  have hexec : (execOp ρ o).run P w = ((Instr.mapUpdate t (.map (some (μ r).block)) (ρ k) (ρ x)).run P w).andThen fun _ w' => .ok .skip w' := by
    rcases hop with rfl | rfl <;> simp [execOp, ho, hm]
  split at hp
  · rename_i i u hf
    simp at hp
    obtain ⟨rfl, rfl⟩ := hp
    rcases find_sound hdk h2 es es'.toList 0 _ he hf with ⟨k1, _⟩ | ⟨j, u1, u', e', k1, k2, k3, k4, k5, ⟨e0, k6, k7, k8⟩, _⟩
    · cases k1
    · simp at k1
      obtain ⟨rfl, rfl⟩ := k1
      have hj : es'[i]? = some e' := by simpa using k4
      have hst : (Instr.keyThatStays (((es'[i]?).map (·.key)).getD (ρ k)) (ρ k)).run P w = .ok (ρ k) w := by
        simp only [hj, Option.map_some, Option.getD_some, Instr.keyThatStays]
        rw [if_pos (sameBits_of (k := 9999) k7 h2 k8).2]
        rfl
      refine ⟨undef, { w with heap := w.heap.setIfInBounds (μ r).block (.map (es'.modify i fun e => { e with key := ρ k, val := ρ x }) clock) }, .inr ⟨?_, rfl⟩, μ, Agree.refl _ _, ?_, .tuple _ _ .nil⟩
      · rw [hexec]
        simp only [Instr.mapUpdate, Sem.run_bind, r_under w ht, hgo, check_key (k := 9999) hkk, MapKept.run_findKey hd k2, Result.andThen_ok, Nat.zero_add, hst, MapKept.run_setObj_map _ hb]
      · refine map_turned h hget ?_
        rw [Array.toList_modify]
        exact he.mod h2 h3 i
  · rename_i hf
    simp at hp
    obtain ⟨rfl, rfl⟩ := hp
    rcases find_sound hdk h2 es es'.toList 0 _ he hf with ⟨_, k2⟩ | ⟨_, _, _, _, k1, _⟩
    · refine ⟨undef, { w with heap := w.heap.setIfInBounds (μ r).block (.map (es'.push { key := ρ k, val := ρ x, born := clock }) (clock + 1)) }, .inr ⟨?_, rfl⟩, μ, Agree.refl _ _, ?_, .tuple _ _ .nil⟩
      · rw [hexec]
        simp only [Instr.mapUpdate, Sem.run_bind, r_under w ht, hgo, check_key (k := 9999) hkk, MapKept.run_findKey hd k2, Result.andThen_ok, MapKept.run_setObj_map _ hb]
      · refine map_turned h hget ?_
        rw [Array.toList_push]
        exact he.snoc h2 h3
    · cases k1
  · cases hp

theorem ws_delete {t t2 kt e : TypeId} {m k : Operand} {kk : KeyK} (ht : P.underlying t = some (.map kt e)) (hkk : keyT P kt = some kk) (ho : o.op = .call { callee := .builtin .delete, args := #[m, k], argTypes := #[t, t2] }) : WSound P B0 W0 μ s w o (.delete kk) [m, k] := by
  intro ρ vs v s' h hv hp
  obtain ⟨u1, u2, rfl, h1, h2⟩ := hv.inv2
  generalize hm : ρ m = m' at h1
  obtain ⟨d, hd, hdk⟩ := keyT_desc hkk
  cases h1 <;> (try (simp [wop] at hp; done))
  case nilMap =>
    simp only [wop] at hp
    split at hp
    · simp at hp
      obtain ⟨rfl, rfl⟩ := hp
      exact ⟨.tuple #[], w, .inl (by simp [execOp, ho, resolve, invoke, builtin, Builtin.delete_, hm, r_under w ht, check_key (k := 9999) hkk]), μ, Agree.refl _ _, h, .tuple _ _ .nil⟩
    · cases hp
  case map r hr =>
    simp only [wop] at hp
    split at hp <;> (try (cases hp; done))
    rename_i es clock hget
    split at hp <;> (try (cases hp; done))
    obtain ⟨hB, es', hb, he⟩ := (h.known r _ hget).2.2
    have hgo := MapKept.run_getObj_map (P := P) hb
    split at hp
    · rename_i i u hf
      simp at hp
      obtain ⟨rfl, rfl⟩ := hp
      rcases find_sound hdk h2 es es'.toList 0 _ he hf with ⟨k1, _⟩ | ⟨j, u1, u', e', k1, k2, k3, k4, _⟩
      · cases k1
      · simp at k1
        obtain ⟨rfl, rfl⟩ := k1
        refine ⟨.tuple #[], { w with heap := w.heap.setIfInBounds (μ r).block (.map (es'.eraseIdxIfInBounds i) clock) }, .inl ?_, μ, Agree.refl _ _, ?_, .tuple _ _ .nil⟩
        · simp [execOp, ho, resolve, invoke, builtin, Builtin.delete_, hm, r_under w ht, hgo, check_key (k := 9999) hkk, MapKept.run_findKey hd k2, MapKept.run_setObj_map _ hb]
        · refine map_turned h hget ?_
          have : (es'.eraseIdxIfInBounds i).toList = es'.toList.eraseIdx i := by simp
          rw [this]
          exact he.erase i
    · rename_i hf
      simp at hp
      obtain ⟨rfl, rfl⟩ := hp
      rcases find_sound hdk h2 es es'.toList 0 _ he hf with ⟨_, k2⟩ | ⟨_, _, _, _, k1, _⟩
      · refine ⟨.tuple #[], { w with heap := w.heap.setIfInBounds (μ r).block (.map es' clock) }, .inl ?_, μ, Agree.refl _ _, ?_, .tuple _ _ .nil⟩
        · simp [execOp, ho, resolve, invoke, builtin, Builtin.delete_, hm, r_under w ht, hgo, check_key (k := 9999) hkk, MapKept.run_findKey hd k2, MapKept.run_setObj_map _ hb]
        · refine h.heap ?_ rfl rfl rfl
          apply Array.ext_getElem?
          intro j
          rw [Array.getElem?_setIfInBounds]
          split
          · rename_i hj
            subst hj
            rw [if_pos (h.known r _ hget).2.1, hb]
          · rfl
      · cases k1
    · cases hp

theorem range_after (h : Rel B0 W0 μ s w) (ob : AObj) (c : Obj) (hid : IdOk B0 (upd μ s.next ⟨w.heap.size, 0, 0, 0⟩) (s.next + 1) (w.alloc c) s.next ob) : After B0 W0 μ s (.pointer (some ⟨s.next, 0, none⟩)) (s.new ob) (.pointer (some ⟨w.heap.size, 0, none⟩)) (w.alloc c) := by
  refine ⟨_, upd_agree ⟨w.heap.size, 0, 0, 0⟩ _, h.new ob c ⟨w.heap.size, 0, 0, 0⟩ rfl hid, ?_⟩
  have := VR.ptr (μ := upd μ s.next ⟨w.heap.size, 0, 0, 0⟩) (n := s.next + 1) s.next 0 (by omega)
  simpa [upd_same] using this
theorem alloc_new (w : World) (c : Obj) : (w.alloc c).heap[w.heap.size]? = some c := by show (w.heap.push _)[w.heap.size]? = _; simp

theorem ws_rangeStr {t : TypeId} {x : Operand} (ht : P.underlying t = some .string) (ho : o.op = .range t x) : WSound P B0 W0 μ s w o (.range true) [x] := by
  intro ρ vs v s' h hv hp
  obtain ⟨a, rfl, ha⟩ := hv.inv1
  generalize hx : ρ x = x' at ha
  cases ha <;> (try (simp [wop] at hp; done))
  rename_i b
  simp [wop] at hp
  obtain ⟨rfl, rfl⟩ := hp
  exact ⟨_, w.alloc (.stringIter b 0), .inl (by simp [execOp, ho, hx, Instr.range, r_under w ht]), range_after h _ _ ⟨by rw [upd_same]; exact h.size, by rw [upd_same], by rw [upd_same]; exact alloc_new _ _⟩⟩

theorem ws_rangeMap {t k e : TypeId} {x : Operand} (ht : P.underlying t = some (.map k e)) (ho : o.op = .range t x) : WSound P B0 W0 μ s w o (.range false) [x] := by
  intro ρ vs v s' h hv hp
  obtain ⟨a, rfl, ha⟩ := hv.inv1
  generalize hx : ρ x = x' at ha
  cases ha <;> (try (simp [wop] at hp; done))
  case nilMap =>
    simp [wop] at hp
    obtain ⟨rfl, rfl⟩ := hp
    exact ⟨_, w.alloc (.mapIter none 0 #[] 0), .inl (by simp [execOp, ho, hx, Instr.range, r_under w ht]), range_after h _ _ ⟨by rw [upd_same]; exact h.size, by rw [upd_same], fun r hr => by simp at hr, by rw [upd_same]; exact alloc_new _ _⟩⟩
  case map r hr =>
    simp only [wop] at hp
    split at hp <;> (try (cases hp; done))
    rename_i es clock hget
    simp at hp
    obtain ⟨rfl, rfl⟩ := hp
    obtain ⟨hB, es', hb, he⟩ := (h.known r _ hget).2.2
    have hgo := MapKept.run_getObj_map (P := P) hb
    have hne : r ≠ s.next := by omega
    exact ⟨_, w.alloc (.mapIter (some (μ r).block) clock #[] clock), .inl (by simp [execOp, ho, hx, Instr.range, r_under w ht, hgo]), range_after h _ _ ⟨by rw [upd_same]; exact h.size, by rw [upd_same], fun q hq => by simp at hq; omega, by rw [upd_same]; simp only [Option.map_some, upd, hne, if_false]; exact alloc_new _ _⟩⟩

/-! ### a slice that grows -/
theorem src_sound (h : Rel B0 W0 μ s w) {esz : Nat} {v v' : Value} (hv : VR μ s.next v v') {n : Nat} {l : List Value} (hn : srcLen v = some n) (hl : s.srcCells esz v = some l) :
    (Builtin.lenOf v').run P w = .ok n w ∧ ∀ k, k ≤ n → ∃ l', (Builtin.firstCells esz k v').run P w = .ok l'.toArray w ∧ VRs μ s.next (l.take (k * esz)) l' := by
  cases hv <;> simp [srcLen] at hn
  case string b =>
    subst hn
    simp [St.srcCells] at hl
    obtain ⟨rfl, rfl⟩ := hl
    refine ⟨by simp [Builtin.lenOf], fun k hk => ⟨(b.data.toList.map fun c => Value.int .u8 c.toNat).take k, ?_, ?_⟩⟩
    · simp only [Builtin.firstCells, Sem.run_pure]
      congr 1
      apply Array.toList_inj.1
      have : (b.extract 0 k).data = b.data.extract 0 k := by simp [ByteArray.extract, ByteArray.copySlice]
      rw [this]
      simp
    · rw [Nat.mul_one]
      have : ∀ l : List UInt8, VRs μ s.next (l.map fun c => Value.int .u8 c.toNat) (l.map fun c => Value.int .u8 c.toNat) := fun l => by
        induction l with
        | nil => exact .nil
        | cons x l ih => exact .cons _ _ _ _ (.int _ _) ih
      exact (this _).take k
  case nilSlice =>
    subst hn
    simp [St.srcCells] at hl
    subst hl
    exact ⟨by simp [Builtin.lenOf], fun k hk => ⟨[], by simp [Builtin.firstCells], by simp; exact .nil⟩⟩
  case void ad =>
    subst hn
    simp [St.srcCells] at hl
    subst hl
    refine ⟨by simp [Builtin.lenOf], fun k hk => ⟨[], ?_, by simp; exact .nil⟩⟩
    have : k = 0 := by omega
    subst this
    simp [Builtin.firstCells, loadCells, loadCellsFrom]
  case slice i off off' len cap cap' hi q0 q1 q2 q3 q4 q5 =>
    subst hn
    simp only [St.srcCells] at hl
    by_cases hn0 : len = 0
    · subst hn0
      simp at hl
      subst hl
      refine ⟨by simp [Builtin.lenOf], fun k hk => ⟨[], ?_, by simp; exact .nil⟩⟩
      have : k = 0 := by omega
      subst this
      simp [Builtin.firstCells, loadCells, loadCellsFrom]
    rw [if_neg hn0] at hl
    refine ⟨by simp [Builtin.lenOf], fun k hk => ?_⟩
    by_cases hk0 : k * esz = 0
    · refine ⟨[], by simp [Builtin.firstCells, hk0, loadCells, loadCellsFrom], by rw [hk0]; simp; exact .nil⟩
    · have hlen : 0 < cap := by
        have : k ≠ 0 := fun e => hk0 (by rw [e]; simp)
        omega
      have hoo := q3 (.inl hlen)
      subst hoo
      have hc : s.cells ⟨i, off, none⟩ (k * esz) = some (l.take (k * esz)) := by
        unfold St.cells at hl ⊢
        simp only at hl ⊢
        split at hl
        · rename_i cs g ro hget
          split at hl
          · rename_i hle
            simp at hl
            have hmul : k * esz ≤ len * esz := Nat.mul_le_mul_right _ hk
            rw [if_pos (by omega), ← hl, List.take_take, Nat.min_eq_left hmul]
          · cases hl
        · cases hl
      obtain ⟨l', k1, k2⟩ := load_cells (P := P) h hc
      exact ⟨l', by simp [Builtin.firstCells, k1], k2⟩

end Go.Am
end
section
set_option linter.unusedSimpArgs false
set_option linter.unusedVariables false
set_option maxRecDepth 10000
namespace Go.Am
open Go.RowKit (Below)

variable {P : Program} {B0 : Nat} {W0 : World} {μ : Nat → Spot} {s : St} {w : World} {o : Oper}

theorem growBy_le (newLen : Nat) : ∀ (r c : Nat), Builtin.growBy newLen r c ≤ max c (newLen + (newLen + 768) / 4)
  | 0, c => by simp [Builtin.growBy]; omega
  | r + 1, c => by
    unfold Builtin.growBy
    split
    · omega
    · have := growBy_le newLen r (c + (c + 768) / 4)
      omega

theorem nextcap_le (newLen oldCap : Nat) (h : oldCap < newLen) : Builtin.nextslicecap newLen oldCap ≤ 2 * newLen + 192 := by
  unfold Builtin.nextslicecap
  split
  · omega
  · split
    · omega
    · have := growBy_le newLen 4 oldCap
      omega

/-- an append that makes a new row, as the first machine runs it -/
theorem append_grows {t u e ty : TypeId} {esz bytes n need sLen cap : Nat} {z : Value} {base : Option Addr} {x : Value} {old new : List Value} (ht : P.underlying t = some (.slice e)) (hu : (∃ e', P.underlying u = some (.slice e')) ∨ P.underlying u = some .string) (hz : zeroT P e = some z)
    (hm : sizeT P e = some esz) (hb : bytesT P e = some bytes) (hlen : (Builtin.lenOf x).run P w = .ok n w) (hneed : need = sLen + n) (hcap : cap < need) (hbig : need * bytes ≤ 1099511627776) (hbig2 : need ≤ 1099511627776) (hn : 0 < n)
    (e1 : (Builtin.firstCells esz sLen (.slice base sLen cap)).run P w.drew = .ok old.toArray w.drew) (e2 : (Builtin.firstCells esz n x).run P w.drew = .ok new.toArray w.drew) :
    ∃ c k, need ≤ c ∧ k = Builtin.zeroCells z.cells (c - need) ∧ (Builtin.append_ #[t, u] ty #[.slice base sLen cap, x]).run P w =
      .ok (.slice (some ⟨w.heap.size, 0, none⟩) need c) (w.drew.alloc (.cells (old.toArray ++ new.toArray ++ k) e)) := by
  obtain ⟨i, hi, hiz, _⟩ := zeroT_spec hz
  have hib : i.bytes = bytes := by simp [bytesT, hi] at hb; exact hb
  have hgew : need ≤ (Question.appendCap need cap e).cut (w.tape w.drawn (.appendCap need cap e)) := by simp only [Question.cut]; omega
  refine ⟨_, _, hgew, rfl, ?_⟩
  subst hneed
  have hle : ¬ sLen + n ≤ cap := by omega
  have h63' : ¬ (9223372036854775807 < ((sLen : Int) + (n : Int))) := by omega
  have h2 : ¬ (281474976710656 < Builtin.nextslicecap (sLen + n) cap * bytes) := by
    have h3 := nextcap_le (sLen + n) cap hcap
    have h4 : Builtin.nextslicecap (sLen + n) cap * bytes ≤ (2 * (sLen + n) + 192) * bytes := Nat.mul_le_mul_right _ h3
    have h5 : bytes ≤ (sLen + n) * bytes := Nat.le_mul_of_pos_left _ (by omega)
    have h6 : (2 * (sLen + n) + 192) * bytes = 2 * ((sLen + n) * bytes) + 192 * bytes := by rw [Nat.add_mul, Nat.mul_assoc]
    omega
  have hroom : ∀ (k : Nat) (w : World), (askRoom k).run P w = .ok () w := fun k w => by unfold askRoom; split <;> rfl
  rcases hu with ⟨e', hu⟩ | hu
  · simp [Builtin.append_, r_under w ht, r_under w hu, r_size w hm, hlen, hle, r_info w hi, r_info w.drew hi, zeroValue, hiz, hib, h63', h2, Question.forced, hroom, e1, e2, newRow]
    congr 2
    apply Array.ext'
    simp [List.append_assoc]
  · simp [Builtin.append_, r_under w ht, r_under w hu, r_size w hm, hlen, hle, r_info w hi, r_info w.drew hi, zeroValue, hiz, hib, h63', h2, Question.forced, hroom, e1, e2, newRow]
    congr 2
    apply Array.ext'
    simp [List.append_assoc]

/-- an append within the capacity -/
theorem append_fits {t u e ty : TypeId} {esz n sLen cap : Nat} {base : Option Addr} {x : Value} {new : List Value} {w' : World} (ht : P.underlying t = some (.slice e)) (hu : (∃ e', P.underlying u = some (.slice e')) ∨ P.underlying u = some .string)
    (hm : sizeT P e = some esz) (hlen : (Builtin.lenOf x).run P w = .ok n w) (hle : sLen + n ≤ cap) (hnew : (Builtin.firstCells esz n x).run P w = .ok new.toArray w)
    (hst : (base = none ∧ w' = w) ∨ ∃ a, base = some a ∧ (storeCells (a.add (sLen * esz)) new).run P w = .ok () w') :
    (Builtin.append_ #[t, u] ty #[.slice base sLen cap, x]).run P w = .ok (.slice base (sLen + n) cap) w' := by
  rcases hu with ⟨e', hu⟩ | hu
  · rcases hst with ⟨rfl, rfl⟩ | ⟨a, rfl, hst⟩
    · simp [Builtin.append_, r_under w' ht, r_under w' hu, r_size w' hm, hlen, hle, hnew]
    · simp [Builtin.append_, r_under w ht, r_under w hu, r_size w hm, hlen, hle, hnew, hst]
  · rcases hst with ⟨rfl, rfl⟩ | ⟨a, rfl, hst⟩
    · simp [Builtin.append_, r_under w' ht, r_under w' hu, r_size w' hm, hlen, hle, hnew]
    · simp [Builtin.append_, r_under w ht, r_under w hu, r_size w hm, hlen, hle, hnew, hst]

theorem Rel.congr {s1 : St} (h : Rel B0 W0 μ s w) (hn : s1.next = s.next) (hg : ∀ i, s1.get i = s.get i) : Rel B0 W0 μ s1 w :=
  ⟨h.low, h.below, fun i o hi => by rw [hn]; exact h.known i o (by rw [← hg]; exact hi), fun i j oi oj hij hi hj => h.apart i j oi oj hij (by rw [← hg]; exact hi) (by rw [← hg]; exact hj)⟩

/-- a grown slice in a block of its own: what the first machine's new row is -/
theorem grown_after {w1 : World} (h : Rel B0 W0 μ s w1) {esz n c : Nat} {cs l k : List Value} {e : TypeId} (hcs : VRs μ s.next cs l) (hn : n ≤ c) (hlen : l.length + k.length = c * esz) (he : esz ≠ 0) :
    After B0 W0 μ s (s.grow esz n cs).1 (s.grow esz n cs).2 (.slice (some ⟨w1.heap.size, 0, none⟩) n c) (w1.alloc (.cells (l.toArray ++ k.toArray) e)) := by
  refine ⟨_, upd_agree _ _, h.newRow cs esz (l.toArray ++ k.toArray) e (0, 0) (fun j v hj => ?_) (by have := hcs.length; simp; omega) (fun x _ => by simp), ?_⟩
  · obtain ⟨v', h1, h2⟩ := hcs.get hj
    refine ⟨v', ?_, h2⟩
    have hlt : j < l.length := by
      rcases Nat.lt_or_ge j l.length with hh | hh
      · exact hh
      · rw [List.getElem?_eq_none hh] at h1; cases h1
    rw [Array.getElem?_append_left (by simpa using hlt)]
    simpa using h1
  · have := VR.slice (μ := upd μ s.next ⟨w1.heap.size, 0, (l.toArray ++ k.toArray).size, esz⟩) (n := s.next + 1) s.next 0 0 n n c (by omega) (Nat.le_refl _) hn (fun hh => by simp [upd_same] at hh; exact absurd hh he) (fun _ => by simp [upd_same]) (by simp [upd_same]) (fun _ => by simp [upd_same]; omega)
    simpa [upd_same, St.grow] using this

theorem zeroCells_length (z : Array Value) (n : Nat) : (Builtin.zeroCells z n).toList.length = n * z.size := by simp [Builtin.zeroCells]

theorem ws_append {t u e : TypeId} {esz bytes : Nat} {x y : Operand} {z : Value} (ht : P.underlying t = some (.slice e)) (hu : (∃ e', P.underlying u = some (.slice e')) ∨ P.underlying u = some .string) (hz : zeroT P e = some z) (hm : sizeT P e = some esz) (hb : bytesT P e = some bytes)
    (hzm : (cellsOf z).length = esz) (ho : o.op = .call { callee := .builtin .append, args := #[x, y], argTypes := #[t, u] }) : WSound P B0 W0 μ s w o (.append esz bytes) [x, y] := by
  intro ρ vs v s' h hv hp
  obtain ⟨a, b, rfl, ha, hb'⟩ := hv.inv2
  have hzs : z.cells.size = esz := by rw [← hzm]; cases z <;> simp [Value.cells, cellsOf]
  have hexec : (execOp ρ o).run P w = ((Builtin.append_ #[t, u] o.type #[ρ x, ρ y]).run P w).andThen fun v w' => .ok (.value v) w' := by
    simp [execOp, ho, resolve, invoke, builtin]
  have fin : ∀ {v' : Value} {w' : World}, (Builtin.append_ #[t, u] o.type #[ρ x, ρ y]).run P w = .ok v' w' → Did P ρ o w v' w' := fun hr => .inl (by rw [hexec, hr]; rfl)
  simp only [wop, appendV] at hp
  split at hp <;> (try (cases hp; done))
  rename_i n new hn hl
  obtain ⟨hlen, hfirst⟩ := src_sound (P := P) h hb' hn hl
  -- the appended cells, whole
  have hnlen : new.length = n * esz := by
    revert hb'
    generalize ρ y = y'
    intro hb'
    cases hb' <;> simp [srcLen] at hn <;> simp only [St.srcCells] at hl
    case string b1 =>
      split at hl
      · simp at hl; subst hl; subst hn; rename_i he; simp [he]
      · cases hl
    case nilSlice => simp at hl; subst hl; subst hn; simp
    case void ad => simp at hl; subst hl; subst hn; simp
    case slice i off off' len cap cap' hi q0 q1 q2 q3 q4 q5 =>
      subst hn
      split at hl
      · rename_i h0; simp at hl; subst hl; simp [h0]
      unfold St.cells at hl
      simp only at hl
      split at hl
      · split at hl
        · simp at hl; subst hl; simp; omega
        · cases hl
      · cases hl
  obtain ⟨new', hnf, hnr⟩ := hfirst n (Nat.le_refl _)
  rw [List.take_of_length_le (by omega)] at hnr
  have hnl := hnr.length
  obtain ⟨new2, hnf2, hnr2⟩ := (src_sound (P := P) (h.drew (w.drawn + 1)) hb' hn hl).2 n (Nat.le_refl _)
  rw [List.take_of_length_le (by omega)] at hnr2
  have hnl2 := hnr2.length
  split at hp
  · -- nothing is appended
    rename_i hn0
    subst hn0
    have hn' : new' = [] := List.length_eq_zero_iff.1 (by rw [hnl, hnlen]; simp)
    subst hn'
    generalize hx : ρ x = x' at ha fin
    cases ha <;> simp only at hp <;> (try (cases hp; done))
    case nilSlice =>
      simp at hp
      obtain ⟨rfl, rfl⟩ := hp
      exact ⟨_, _, fin (append_fits (P := P) ht hu hm hlen (by omega) hnf (.inl ⟨rfl, rfl⟩)), μ, Agree.refl _ _, h, .nilSlice⟩
    case void ad =>
      simp at hp
      obtain ⟨rfl, rfl⟩ := hp
      exact ⟨_, _, fin (append_fits (P := P) ht hu hm hlen (by omega) hnf (.inr ⟨_, rfl, by simp [storeCells]⟩)), μ, Agree.refl _ _, h, .void ad⟩
    case slice i off off' len cap cap' hi q0 q1 q2 q3 q4 q5 =>
      simp at hp
      obtain ⟨rfl, rfl⟩ := hp
      exact ⟨_, _, fin (append_fits (P := P) ht hu hm hlen (by omega) hnf (.inr ⟨_, rfl, by simp [storeCells]⟩)), μ, Agree.refl _ _, h, .slice _ _ _ _ _ _ hi q0 q1 q2 q3 q4 q5⟩
  · rename_i hn0
    split at hp <;> (try (cases hp; done))
    rename_i hcond
    have hesz : esz ≠ 0 := fun e => hcond (.inl e)
    have hone : new.all oneCell = true := by
      have : ¬ ¬ new.all oneCell = true := fun e => hcond (.inr (by simpa using e))
      simpa using this
    generalize hx : ρ x = x' at ha fin
    cases ha <;> simp only at hp <;> (try (cases hp; done))
    case nilSlice =>
      split at hp <;> (try (cases hp; done))
      rename_i hbig
      simp only [Option.some.injEq] at hp
      obtain ⟨c, k, h1, rfl, h3⟩ := append_grows (P := P) (ty := o.type) (base := none) (sLen := 0) (cap := 0) (old := []) (need := n) ht hu hz hm hb hlen (by omega) (by omega) hbig.1 hbig.2 (by omega) (by simp [Builtin.firstCells]) hnf2
      have haf := grown_after (w1 := w.drew) (h.drew _) (e := e) (k := (Builtin.zeroCells z.cells (c - n)).toList) hnr2 h1 (by rw [zeroCells_length, hnl2, hnlen, hzs, ← Nat.add_mul]; congr 1; omega) hesz
      rw [hp] at haf
      refine ⟨_, _, fin h3, ?_⟩
      simpa using haf
    case slice i off off' len cap cap' hi q0 q1 q2 q3 q4 q5 =>
      split at hp <;> (try (cases hp; done))
      rename_i hbig
      split at hp <;> (try (cases hp; done))
      rename_i cs g ro old hget hold
      have hoo : 0 < len → off' = (μ i).base + off := fun hl => q3 (.inl (by omega))
      have holdlen : old.length = len * esz := by
        unfold St.cells at hold
        simp only [hget] at hold
        split at hold
        · simp at hold; subst hold; simp; omega
        · cases hold
      have hid := (h.known i _ hget).2.2
      have hgr : (μ i).grown = g := hid.1
      -- the old cells, read by the first machine
      have hrd : ∀ w' : World, Rel B0 W0 μ s w' → ∃ old', (loadCells ⟨(μ i).block, off', none⟩ (len * esz)).run P w' = .ok old'.toArray w' ∧ VRs μ s.next old old' := fun w' h' => by
        by_cases hl0 : len * esz = 0
        · have : old = [] := List.length_eq_zero_iff.1 (by rw [holdlen, hl0])
          subst this
          exact ⟨[], by rw [hl0]; simp [loadCells, loadCellsFrom], .nil⟩
        · have hl1 : 0 < len := by rcases Nat.eq_zero_or_pos len with e | e; simp [e] at hl0; exact e
          rw [hoo hl1]
          exact load_cells (P := P) h' hold
      obtain ⟨old', hold', holdr⟩ := hrd w h
      obtain ⟨old2, hold2, holdr2⟩ := hrd w.drew (h.drew _)
      have hol := holdr.length
      have hol2 := holdr2.length
      have growsTo : ∀ s1 : St, s1.next = s.next → Rel B0 W0 μ s1 w → cap' < len + n → ∃ v' w', Did P ρ o w v' w' ∧ After B0 W0 μ s (s1.grow esz (len + n) (old ++ new)).1 (s1.grow esz (len + n) (old ++ new)).2 v' w' := fun s1 hs1 h1 hc => by
        obtain ⟨c, k, k1, rfl, k3⟩ := append_grows (P := P) (ty := o.type) (base := some ⟨(μ i).block, off', none⟩) (sLen := len) (cap := cap') (old := old2) (need := len + n) ht hu hz hm hb hlen rfl hc hbig.1 hbig.2 (by omega) (by simp [Builtin.firstCells, hold2]) hnf2
        obtain ⟨μ', m1, m2, m3⟩ := grown_after (w1 := w.drew) (h1.drew (w.drawn + 1)) (e := e) (n := len + n) (esz := esz) (k := (Builtin.zeroCells z.cells (c - (len + n))).toList) (cs := old ++ new) (l := old2 ++ new2) (by rw [hs1]; exact holdr2.append hnr2) k1
          (by rw [zeroCells_length, List.length_append, hol2, hnl2, hnlen, holdlen, hzs, ← Nat.add_mul, ← Nat.add_mul]; congr 1; omega) hesz
        rw [hs1] at m1
        exact ⟨_, _, fin k3, μ', m1, by simpa using m2, by simpa using m3⟩
      split at hp
      · -- a row whose end is known
        rename_i hg0
        have hg0' : (μ i).grown = 0 := hgr.trans hg0
        have hcc := q2 hg0'
        have hoff := q3 (.inr hg0')
        subst hoff
        split at hp
        · rename_i hfit
          simp only [Option.map_eq_some_iff, Prod.mk.injEq] at hp
          obtain ⟨s1, hs1, rfl, rfl⟩ := hp
          rw [addA_rel] at hs1
          obtain ⟨k1, k2, k3⟩ := storeAt_sound (P := P) h hnr hs1
          refine ⟨_, _, fin (append_fits (P := P) (new := new') ht hu hm hlen (by omega) hnf (.inr ⟨_, rfl, by rw [add_eq, Nat.add_assoc]; exact k1⟩)), μ, ⟨by omega, fun _ _ => rfl⟩, k2, ?_⟩
          rw [k3]
          exact .slice _ _ _ _ _ _ hi (by omega) q1 q2 q3 q4 q5
        · rename_i hfit
          simp only [Option.some.injEq] at hp
          obtain ⟨v', w', d1, d2⟩ := growsTo s rfl h (by omega)
          rw [hp] at d2
          exact ⟨v', w', d1, d2⟩
      · split at hp <;> (try (cases hp; done))
        rename_i hgn hc3
        obtain ⟨hge, rfl, hoffle⟩ := hc3
        subst hge
        simp only [Option.some.injEq] at hp
        have hng : (μ i).grown ≠ 0 := by rw [hgr]; exact hesz
        have h5 := q5 hng
        rw [hgr] at h5
        by_cases hfit : len + n ≤ cap'
        · -- in place: the old name is given up
          have hown := (hid.2.2.2.2 rfl)
          have hm1 : (len + n) * g ≤ cap' * g := Nat.mul_le_mul_right _ hfit
          have hadd : (len + n) * g = len * g + n * g := Nat.add_mul _ _ _
          have hst : (storeCells ((⟨(μ i).block, off', none⟩ : Addr).add (len * g)) new').run P w = .ok () (w.setCells (μ i).block (off' + len * g) new') := by
            rw [add_eq]
            have := run_storeCells_cells (P := P) (μ i).block (off' + len * g) new' 0 w (fun j hj => (hown.2.1 _ (by omega) (by omega)).1) (fun j hj => (hown.2.1 _ (by omega) (by omega)).2) (hnr.oneCells hone)
            simpa using this
          obtain ⟨f1, f2, f3, f4, f5⟩ := setCells_fields (μ i).block new' (off' + len * g) w
          -- the block's own facts behind the store
          have hown' : ∀ x, (μ i).base ≤ x → x < (μ i).limit → ((w.setCells (μ i).block (off' + len * g) new').cell? ⟨(μ i).block, x, none⟩).isSome = true ∧ (w.setCells (μ i).block (off' + len * g) new').frozen? ⟨(μ i).block, x, none⟩ = false := fun x hx1 hx2 => by
            obtain ⟨k1, k2⟩ := hown.2.1 x hx1 hx2
            refine ⟨?_, by rw [World.frozen?_setCells]; exact k2⟩
            by_cases c : off' + len * g ≤ x ∧ x < off' + len * g + new'.length
            · have hin := World.cell?_setCells_in (μ i).block new' (off' + len * g) w (fun k hk => (hown.2.1 _ (by omega) (by omega)).1) (x - (off' + len * g)) (by omega)
              rw [show off' + len * g + (x - (off' + len * g)) = x by omega] at hin
              rw [hin]; rfl
            · rw [World.cell?_setCells_out _ _ _ _ _ (fun _ _ => by simp; omega)]
              exact k1
          have r1 : Rel B0 W0 μ (s.put i (some (.row [] g false))) (w.setCells (μ i).block (off' + len * g) new') :=
            h.turn hget rfl _ f1 f2 f3 f4 f5 ⟨hgr, by have := hid.2.1; simp; omega, fun j v hj => by simp at hj, fun hr => by simp at hr, fun _ => ⟨hown.1, hown', fun hg => absurd hg hesz⟩⟩
          have r2 : Rel B0 W0 μ (s.put i none) (w.setCells (μ i).block (off' + len * g) new') :=
            (r1.kill i).congr rfl (fun j => by simp only [St.get_put]; by_cases hh : i = j <;> simp [hh])
          have ha' := upd_agree (μ := μ) ⟨(μ i).block, off', (μ i).limit, g⟩ s.next
          have r3 := r2.rename (.row (old ++ new) g false) ⟨(μ i).block, off', (μ i).limit, g⟩ (by rw [f4]; exact (h.known i _ hget).2.1) (by
              show IdOk B0 (upd μ s.next _) (s.next + 1) _ s.next _
              unfold IdOk
              rw [upd_same]
              refine ⟨rfl, by simp [holdlen, hnlen]; omega, fun j v hj => ?_, fun hr => by simp at hr, fun _ => ⟨hown.1, fun x hx1 hx2 => hown' x (by simp at hx1; omega) hx2, fun hg => absurd hg hesz⟩⟩
              by_cases hj1 : j < old.length
              · rw [List.getElem?_append_left hj1] at hj
                have hl1 : 0 < len := by
                  rcases Nat.eq_zero_or_pos len with e | e
                  · rw [holdlen, e] at hj1; simp at hj1
                  · exact e
                have hcell : ∃ v', w.cell? ⟨(μ i).block, off' + j, none⟩ = some v' ∧ VR μ s.next v v' := by
                  rw [hoo hl1, Nat.add_assoc]
                  unfold St.cells at hold
                  simp only [hget] at hold
                  split at hold
                  · simp at hold
                    rw [← hold, List.getElem?_take_of_lt (by omega), List.getElem?_drop] at hj
                    exact hid.cellAt hj
                  · cases hold
                obtain ⟨v', k1, k2⟩ := hcell
                exact ⟨v', by simp only []; rw [World.cell?_setCells_out _ _ _ _ _ (fun _ _ => Or.inl (by simp; omega))]; exact k1, k2.mono ha'⟩
              · rw [List.getElem?_append_right (by omega)] at hj
                obtain ⟨v', k1, k2⟩ := hnr.get hj
                have hlt : j - old.length < new'.length := by
                  rcases Nat.lt_or_ge (j - old.length) new'.length with hh | hh
                  · exact hh
                  · rw [List.getElem?_eq_none hh] at k1; cases k1
                have hin := World.cell?_setCells_in (μ i).block new' (off' + len * g) w (fun k hk => (hown.2.1 _ (by omega) (by omega)).1) (j - old.length) hlt
                refine ⟨v', ?_, k2.mono ha'⟩
                simp only []
                rw [show off' + j = off' + len * g + (j - old.length) by omega, hin, ← k1]
                simp [hlt]) (fun _ j oj hj hoj => by
              rw [St.get_put] at hj
              split at hj
              · cases hj
              · rename_i hij
                exact h.apart j i oj _ (fun e => hij e.symm) hj hget hoj rfl)
          refine ⟨_, _, fin (append_fits (P := P) (new := new') ht hu hm hlen hfit hnf (.inr ⟨_, rfl, hst⟩)), ?_⟩
          simp only [St.grow, Prod.mk.injEq] at hp
          obtain ⟨rfl, rfl⟩ := hp
          refine ⟨_, ha', r3, ?_⟩
          have := VR.slice (μ := upd μ s.next ⟨(μ i).block, off', (μ i).limit, g⟩) (n := s.next + 1) s.next 0 off' (len + n) (len + n) cap' (by omega) (Nat.le_refl _) hfit (fun hh => by simp [upd_same] at hh; exact absurd hh hesz) (fun _ => by simp [upd_same]) (by simp [upd_same]) (fun _ => by simp [upd_same]; omega)
          simpa [upd_same] using this
        · obtain ⟨v', w', d1, d2⟩ := growsTo (s.put i none) rfl (h.kill i) (by omega)
          rw [hp] at d2
          exact ⟨v', w', d1, d2⟩

end Go.Am
end
section
set_option linter.unusedSimpArgs false
set_option linter.unusedVariables false
set_option maxRecDepth 10000
namespace Go.Am
open Go.RowKit (Below)

variable {P : Program} {B0 : Nat} {W0 : World} {μ : Nat → Spot} {s : St} {w : World} {o : Oper}

theorem storeAt_nil {s1 : St} {i off : Nat} (hs : s.storeAt ⟨i, off, none⟩ [] = some s1) : ∃ cs g, s.get i = some (.row cs g false) ∧ s1 = s.put i (some (.row (lputs cs off []) g false)) := by
  unfold St.storeAt at hs
  simp only at hs
  split at hs
  · rename_i cs g hget
    split at hs
    · simp at hs; exact ⟨cs, g, hget, hs.symm⟩
    · cases hs
  · cases hs

theorem ws_copy {t u e : TypeId} {esz : Nat} {x y : Operand} (ht : P.underlying t = some (.slice e)) (hm : sizeT P e = some esz) (ho : o.op = .call { callee := .builtin .copy, args := #[x, y], argTypes := #[t, u] }) : WSound P B0 W0 μ s w o (.copy esz) [x, y] := by
  intro ρ vs v s' h hv hp
  obtain ⟨a, b, rfl, ha, hb⟩ := hv.inv2
  generalize hx : ρ x = x' at ha
  cases ha <;> (try (simp [wop] at hp; done))
  case nilSlice =>
    simp only [wop] at hp
    split at hp <;> (try (cases hp; done))
    rename_i n new hn hl
    obtain ⟨hlen, hfirst⟩ := src_sound (P := P) h hb hn hl
    obtain ⟨l', k1, _⟩ := hfirst 0 (by omega)
    simp at hp
    obtain ⟨rfl, rfl⟩ := hp
    exact ⟨.int .i64 0, w, .inl (by simp [execOp, ho, resolve, invoke, builtin, Builtin.copy_, hx, r_under w ht, hlen, r_size w hm, k1, goInt]), μ, Agree.refl _ _, h, .int _ _⟩
  case void ad =>
    simp only [wop] at hp
    split at hp <;> cases hp
  case slice i off off' len cap cap' hi q0 q1 q2 q3 q4 q5 =>
    simp only [wop] at hp
    split at hp <;> (try (cases hp; done))
    rename_i n new hn hl
    obtain ⟨hlen, hfirst⟩ := src_sound (P := P) h hb hn hl
    obtain ⟨l', k1, k2⟩ := hfirst (Nat.min n len) (Nat.min_le_left _ _)
    simp only [Option.map_eq_some_iff, Prod.mk.injEq] at hp
    obtain ⟨s1, hs, rfl, rfl⟩ := hp
    by_cases hz : Nat.min n len * esz = 0
    · rw [hz] at hs k2
      have hl' : l' = [] := List.length_eq_zero_iff.1 (by rw [k2.length]; simp)
      subst hl'
      have hs1 := storeAt_nil (s := s) (s1 := s1) (i := i) (off := off) (by simpa using hs)
      obtain ⟨cs, g, hget, rfl⟩ := hs1
      refine ⟨.int .i64 (Nat.min n len), w, .inl (by simp [execOp, ho, resolve, invoke, builtin, Builtin.copy_, hx, r_under w ht, hlen, r_size w hm, k1, goInt, storeCells]), μ, Agree.refl _ _, h.congr rfl (fun j => ?_), .int _ _⟩
      rw [St.get_put]
      split
      · rename_i hj; subst hj; rw [hget]; simp [lputs]
      · rfl
    · have hlen0 : 0 < len := by
        rcases Nat.eq_zero_or_pos len with e | e
        · exact absurd (by rw [e]; simp [Nat.min]) hz
        · exact e
      have hoo := q3 (.inl (by omega))
      subst hoo
      obtain ⟨m1, m2, m3⟩ := storeAt_sound (P := P) h k2 hs
      refine ⟨.int .i64 (Nat.min n len), w.setCells (μ i).block ((μ i).base + off) l', .inl (by simp [execOp, ho, resolve, invoke, builtin, Builtin.copy_, hx, r_under w ht, hlen, r_size w hm, k1, goInt, m1]), μ, ⟨by omega, fun _ _ => rfl⟩, m2, .int _ _⟩

theorem wop_sound {q : WOp} {xs : List Operand} (hc : compOp P o.op = some (.w q, xs)) : WSound P B0 W0 μ s w o q xs := by
  cases ho : o.op with
  | alloc e =>
    simp only [ho, compOp, Option.bind_eq_some_iff] at hc
    obtain ⟨z, hz, hc⟩ := hc
    split at hc
    · simp at hc; obtain ⟨rfl, rfl⟩ := hc; exact ws_new hz ho
    · cases hc
  | box e x => simp [ho, compOp] at hc; obtain ⟨k, _, rfl, rfl⟩ := hc; exact ws_box ho
  | buildSlice t len parts =>
    simp only [ho, compOp] at hc
    split at hc
    · rename_i e ht
      simp only [Option.bind_eq_some_iff] at hc
      obtain ⟨z, hz, m, hm, ps, hps, hc⟩ := hc
      split at hc
      · rename_i hcond
        simp at hc; obtain ⟨rfl, rfl⟩ := hc
        exact ws_sliceLit ht hz hm hps hcond.1 hcond.2 ho
      · cases hc
    · cases hc
  | store t a x => simp [ho, compOp] at hc; obtain ⟨k, hk, rfl, rfl⟩ := hc; exact ws_store hk ho
  | makeMap t r =>
    cases r with
    | none => simp [ho, compOp] at hc; obtain ⟨rfl, rfl⟩ := hc; exact ws_mkMap ho
    | some r => simp [ho, compOp] at hc
  | makeSlice t l c =>
    simp only [ho, compOp] at hc
    split at hc
    · rename_i e ht
      simp only [Option.bind_eq_some_iff] at hc
      obtain ⟨z, hz, m, hm, b, hb, hc⟩ := hc
      split at hc
      · rename_i hcond
        simp at hc; obtain ⟨rfl, rfl⟩ := hc
        exact ws_mkSlice ht hz hm hb hcond.1 hcond.2 ho
      · cases hc
    · cases hc
  | slice t x lo hi mx =>
    simp only [ho, compOp] at hc
    split at hc
    · simp at hc
    · simp at hc
    · simp at hc
    · rename_i e ht
      split at hc
      · simp at hc; obtain ⟨⟨m, hm⟩, rfl, rfl⟩ := hc; exact ws_sl3 ht hm ho
      · cases hc
    · cases hc
  | convert a b x =>
    simp only [ho, compOp] at hc
    split at hc
    · simp at hc
    · rename_i e h1 h2
      split at hc
      · rename_i he; simp at hc; obtain ⟨rfl, rfl⟩ := hc; exact ws_strToBytes h1 h2 he ho
      · cases hc
    · split at hc <;> simp at hc
    · cases hc
  | mapUpdate t m k x =>
    simp only [ho, compOp] at hc
    split at hc
    · rename_i kt e ht
      simp at hc; obtain ⟨kk, hkk, rfl, rfl⟩ := hc; exact ws_mapSet ht hkk (.inl rfl) ho
    · cases hc
  | insert t m k x =>
    simp only [ho, compOp] at hc
    split at hc
    · rename_i kt e ht
      simp at hc; obtain ⟨kk, hkk, rfl, rfl⟩ := hc; exact ws_mapSet ht hkk (.inr rfl) ho
    · cases hc
  | range t x =>
    simp only [ho, compOp] at hc
    split at hc
    · rename_i ht; simp at hc; obtain ⟨rfl, rfl⟩ := hc; exact ws_rangeStr ht ho
    · rename_i k e ht; simp at hc; obtain ⟨rfl, rfl⟩ := hc; exact ws_rangeMap ht ho
    · cases hc
  | call c =>
    simp only [ho, compOp, compCall] at hc
    split at hc
    · simp at hc
    · simp at hc
    · simp at hc
    · rename_i b hb
      split at hc
      · split at hc <;> simp at hc
      · rename_i t u x y h2 h3
        have hcall := call_eq hb h2 h3
        rw [hcall] at ho
        split at hc
        · rename_i e e' ht hu
          simp only [Option.bind_eq_some_iff] at hc
          obtain ⟨m, hm, b', hb', z, hz, hc⟩ := hc
          split at hc
          · rename_i hzm
            simp at hc; obtain ⟨rfl, rfl⟩ := hc; exact ws_append ht (.inl ⟨_, hu⟩) hz hm hb' hzm (by simpa using ho)
          · cases hc
        · rename_i e ht hu
          simp only [Option.bind_eq_some_iff] at hc
          obtain ⟨m, hm, b', hb', z, hz, hc⟩ := hc
          split at hc
          · rename_i hzm
            simp at hc; obtain ⟨rfl, rfl⟩ := hc; exact ws_append ht (.inr hu) hz hm hb' hzm (by simpa using ho)
          · cases hc
        · cases hc
      · rename_i t u x y h2 h3
        have hcall := call_eq hb h2 h3
        rw [hcall] at ho
        split at hc
        · rename_i e ht; simp at hc; obtain ⟨m, hm, rfl, rfl⟩ := hc; exact ws_copy ht hm (by simpa using ho)
        · cases hc
      · rename_i t u x y h2 h3
        have hcall := call_eq hb h2 h3
        rw [hcall] at ho
        split at hc
        · rename_i k e ht; simp at hc; obtain ⟨kk, hkk, rfl, rfl⟩ := hc; exact ws_delete ht hkk (by simpa using ho)
        · cases hc
      · simp at hc
      · simp at hc
      · cases hc
  | load t a =>
    simp only [ho, compOp, Option.bind_eq_some_iff] at hc
    obtain ⟨b, hb, hc⟩ := hc
    cases b <;> simp at hc
  | lookup t x i ok =>
    simp only [ho, compOp] at hc
    split at hc
    · simp only [Option.bind_eq_some_iff, Option.map_eq_some_iff, Prod.mk.injEq, reduceCtorEq, false_and, and_false, exists_false] at hc
    · cases hc
  | build t parts =>
    simp only [ho, compOp] at hc
    split at hc <;> first | (cases hc; done) | (simp only [Option.bind_eq_some_iff, Option.map_eq_some_iff, Prod.mk.injEq, reduceCtorEq, false_and, and_false, exists_false] at hc)
  | binOp op t x y t2 =>
    simp only [ho, compOp] at hc
    split at hc
    · simp at hc
    · simp at hc
    · split at hc <;> simp at hc
    · split at hc
      · split at hc
        · split at hc <;> simp at hc
        · cases hc
      · cases hc
    · cases hc
  | makeInterface t x => simp only [ho, compOp] at hc; split at hc <;> simp at hc
  | fieldAddr t x f =>
    simp only [ho, compOp] at hc
    split at hc
    · split at hc
      · split at hc <;> simp at hc
      · cases hc
    · cases hc
  | field t x f =>
    simp only [ho, compOp] at hc
    split at hc
    · split at hc
      · simp only [Option.bind_eq_some_iff, Option.map_eq_some_iff, Prod.mk.injEq, reduceCtorEq, false_and, and_false, exists_false] at hc
      · cases hc
    · cases hc
  | indexAddr t x i => simp only [ho, compOp] at hc; split at hc <;> simp at hc
  | index t x i =>
    simp only [ho, compOp] at hc
    split at hc
    · simp at hc
    · simp only [Option.bind_eq_some_iff, Option.map_eq_some_iff, Prod.mk.injEq, reduceCtorEq, false_and, and_false, exists_false] at hc
    · cases hc
  | typeAssert x tx t ok => simp only [ho, compOp] at hc; split at hc <;> simp at hc
  | _ => simp [ho, compOp] at hc

/-! ### a range's step -/
def NSound (P : Program) (B0 : Nat) (W0 : World) (μ : Nat → Spot) (s : St) (w : World) (o : Oper) (str : Bool) (xs : List Operand) : Prop :=
  ∀ (ρ : Operand → Value) (vs : List Value) (Q : Value × St → Prop), Rel B0 W0 μ s w → VRs μ s.next vs (xs.map ρ) → (nextV str vs s).all Q → ∃ v s' v' w', Q (v, s') ∧ Did P ρ o w v' w' ∧ After B0 W0 μ s v s' v' w'

theorem filter_rel {n c : Nat} {seen : List Nat} : ∀ {es : List (Value × Value × Nat)} {es' : List MapEntry}, ER μ n c es es' → ER μ n c (es.filter fun e => !seen.contains e.2.2) (es'.filter fun e => !seen.contains e.born)
  | [], [], _ => trivial
  | e :: es, e' :: es', ⟨h1, h2, h3, h4, h5⟩ => by
    simp only [List.filter_cons, h3]
    split
    · exact ⟨h1, h2, h3, h4, filter_rel h5⟩
    · exact filter_rel h5
  | [], _ :: _, h => h.elim
  | _ :: _, [], h => h.elim
theorem ER.get {n c : Nat} : ∀ {es : List (Value × Value × Nat)} {es' : List MapEntry}, ER μ n c es es' → ∀ {j : Nat} {e : Value × Value × Nat}, es[j]? = some e → ∃ e', es'[j]? = some e' ∧ VR μ n e.1 e'.key ∧ VR μ n e.2.1 e'.val ∧ e'.born = e.2.2 ∧ e.2.2 < c
  | [], [], _, j, e, h => by simp at h
  | e :: es, e' :: es', ⟨h1, h2, h3, h4, h5⟩, 0, x, h => by simp at h; subst h; exact ⟨e', rfl, h1, h2, h3, h4⟩
  | e :: es, e' :: es', ⟨h1, h2, h3, h4, h5⟩, j + 1, x, h => by simpa using ER.get h5 (by simpa using h)
  | [], _ :: _, h, _, _, _ => h.elim
  | _ :: _, [], h, _, _, _ => h.elim
theorem ER.born_lt {n c : Nat} : ∀ {es : List (Value × Value × Nat)} {es' : List MapEntry}, ER μ n c es es' → ∀ e' ∈ es', e'.born < c
  | [], [], _, _, h => by simp at h
  | e :: es, e' :: es', ⟨h1, h2, h3, h4, h5⟩, x, h => by
    cases h with
    | head => omega
    | tail _ h => exact ER.born_lt h5 x h
  | [], _ :: _, h, _, _ => h.elim
  | _ :: _, [], h, _, _ => h.elim

theorem next_sound {str : Bool} {xs : List Operand} {x : Operand} (hxs : xs = [x]) (ho : o.op = .next x str) : NSound P B0 W0 μ s w o str xs := by
  subst hxs
  intro ρ vs Q h hv hp
  obtain ⟨a, rfl, ha⟩ := hv.inv1
  generalize hx : ρ x = x' at ha
  cases ha <;> (try (simp [nextV, Out.all] at hp; done))
  rename_i i off hi
  simp only [nextV] at hp
  split at hp
  · exact hp.elim
  · rename_i hoff
    have hoff' : off = 0 := by simpa using hoff
    subst hoff'
    split at hp <;> (try (exact hp.elim))
    · rename_i b pos hget
      obtain ⟨hB, hb0, hblk⟩ := (h.known i _ hget).2.2
      have hgo : (getObj (μ i).block).run P w = .ok (.stringIter b pos) w := by simp [getObj, Sem.run, hblk]
      split at hp
      · exact hp.elim
      · rename_i hstr
        have hstr' : str = true := by cases str <;> simp at hstr ⊢
        subst hstr'
        split at hp
        · rename_i hlt
          refine ⟨_, _, .tuple #[.bool true, .int .i64 pos, .int .i32 (Utf8.decode b pos).1], { w with heap := w.heap.setIfInBounds (μ i).block (.stringIter b (pos + (Utf8.decode b pos).2)) }, hp, .inl ?_, μ, Agree.refl _ _, h.setObj hget rfl _ _ ⟨hB, hb0, ?_⟩, ?_⟩
          · simp [execOp, ho, hx, hb0, Instr.next, hgo, hlt, setObj, Sem.run, hblk, goInt]
          · simp [(h.known i _ hget).2.1]
          · exact .tuple _ _ (.cons _ _ _ _ (.bool _) (.cons _ _ _ _ (.int _ _) (.cons _ _ _ _ (.int _ _) .nil)))
        · rename_i hlt
          exact ⟨_, _, .tuple #[.bool false], w, hp, .inl (by simp [execOp, ho, hx, hb0, Instr.next, hgo, hlt]), μ, Agree.refl _ _, h, .tuple _ _ (.cons _ _ _ _ (.bool _) .nil)⟩
    · rename_i since seen last hget
      obtain ⟨hB, hb0, _, hblk⟩ := (h.known i _ hget).2.2
      have hgo : (getObj (μ i).block).run P w = .ok (.mapIter none since seen.toArray last) w := by simp [getObj, Sem.run, hblk]
      split at hp
      · exact hp.elim
      · rename_i hstr
        have hstr' : str = false := by cases str <;> simp at hstr ⊢
        subst hstr'
        exact ⟨_, _, .tuple #[.bool false], w, hp, .inl (by simp [execOp, ho, hx, hb0, Instr.next, hgo]), μ, Agree.refl _ _, h, .tuple _ _ (.cons _ _ _ _ (.bool _) .nil)⟩
    · rename_i m since seen last hget
      obtain ⟨hB, hb0, hmn, hblk⟩ := (h.known i _ hget).2.2
      have hgo : (getObj (μ i).block).run P w = .ok (.mapIter (some (μ m).block) since seen.toArray last) w := by simp [getObj, Sem.run, hblk]
      split at hp <;> (try (exact hp.elim))
      rename_i es clock hgetm
      obtain ⟨_, es', hmb, he⟩ := (h.known m _ hgetm).2.2
      have hgom := MapKept.run_getObj_map (P := P) hmb
      split at hp
      · exact hp.elim
      · rename_i hcond
        have hstr' : str = false := by cases str <;> simp at hcond ⊢
        subst hstr'
        have hcs : clock = since ∧ clock = last := by
          simp only [Bool.false_eq_true, false_or, not_or, Decidable.not_not] at hcond
          exact hcond
        obtain ⟨rfl, rfl⟩ := hcs
        -- what the first machine has left
        have hborn := he.born_lt
        have hfl : (es'.filter fun e => !seen.toArray.contains e.born).toList = es'.toList.filter fun e => !seen.contains e.born := by simp
        have hfr := filter_rel (seen := seen) he
        obtain ⟨left, hleft⟩ : ∃ left, left = es'.filter fun e => !seen.toArray.contains e.born := ⟨_, rfl⟩
        rw [← hfl, ← hleft] at hfr
        have hlb : ∀ e ∈ left, e.born < clock := fun e he' => by
          rw [hleft] at he'
          exact hborn e (by have := (Array.mem_filter.1 he').1; simpa using this)
        have hold : (left.filter fun e => decide (e.born < clock)) = left := by
          rw [Array.filter_eq_self]
          intro e he'
          simpa using hlb e he'
        have hnew : (left.filter fun e => decide (e.born ≥ clock)) = #[] := by
          rw [Array.filter_eq_empty_iff]
          intro e he'
          have := hlb e he'
          simp; omega
        have hodd : (!seen.toArray.isEmpty && !es'.isEmpty && es'.all fun e => decide (e.born ≥ clock)) = false := by
          by_cases hes : es'.isEmpty
          · simp [hes]
          · have : (es'.all fun e => decide (e.born ≥ clock)) = false := by
              rw [Array.all_eq_false]
              have h0 : 0 < es'.size := by
                rcases Nat.eq_zero_or_pos es'.size with e | e
                · exact absurd (by simp [Array.isEmpty, e]) hes
                · exact e
              refine ⟨0, h0, ?_⟩
              have := hborn es'[0] (by simp)
              simp; omega
            simp [this]
        have hrun : ∀ (c : Array (Option MapEntry)) (k : Nat) (w1 : World), c = (if left.isEmpty then #[none] else #[]) ++ (left ++ #[]).map some → (choose (.mapNext c.size)).run P w = .ok k w1 → ∀ r w2, (match c[k]? with
            | some (some e) => (do
              setObj (μ i).block (.mapIter (some (μ m).block) clock (seen.toArray.push e.born) clock)
              pure (.tuple #[.bool true, e.key, e.val]) : Sem Value)
            | some none => pure (.tuple #[.bool false])
            | none => stuck "Next: no such candidate").run P w1 = .ok r w2 → (execOp ρ o).run P w = .ok (.value r) w2 := fun c k w1 hc hch r w2 hm => by
          have hnx : (Instr.next (.pointer (some ⟨(μ i).block, (μ i).base + 0, none⟩)) false o.type).run P w = .ok r w2 := by
            rw [hb0]
            simp only [Instr.next, Sem.run_bind, hgo, hgom, Result.andThen_ok, hodd, Bool.false_eq_true, if_false, ← hleft, hold, hnew, ← hc, hch]
            exact hm
          simp only [execOp, ho, hx, Sem.run_bind, hnx, Result.andThen_ok, Sem.run_pure]
        have hlen := hfr.length
        simp only [Array.length_toList] at hlen
        split at hp
        · rename_i hnil
          rw [hnil] at hlen
          have hl0 : left = #[] := by apply Array.eq_empty_of_size_eq_zero; simpa using hlen
          refine ⟨_, _, .tuple #[.bool false], w, hp, .inl (hrun #[none] 0 w (by simp [hl0]) (by simp [choose, Sem.run, Question.forced]) _ _ (by simp)), μ, Agree.refl _ _, h, .tuple _ _ (.cons _ _ _ _ (.bool _) .nil)⟩
        · rename_i hne
          have hl1 : left.isEmpty = false := by
            cases hq : left.isEmpty with
            | false => rfl
            | true =>
              have : left = #[] := by simpa using hq
              rw [this] at hlen
              exact absurd (List.length_eq_zero_iff.1 (by simpa using hlen.symm)) hne
          have hpos : 0 < left.size := by
            rcases Nat.eq_zero_or_pos left.size with e | e
            · simp [Array.isEmpty, e] at hl1
            · exact e
          obtain ⟨k, w1, hch, hk, hw1⟩ : ∃ k w1, (choose (.mapNext (left.map some).size)).run P w = .ok k w1 ∧ k < left.size ∧ w1.heap = w.heap ∧ w1.os = w.os ∧ w1.tape = w.tape ∧ w1.output = w.output := by
            by_cases hf : left.size ≤ 1
            · exact ⟨0, w, by simp [choose, Sem.run, Question.forced, hf], hpos, rfl, rfl, rfl, rfl⟩
            · exact ⟨w.tape w.drawn (.mapNext (left.map some).size) % left.size, { w with drawn := w.drawn + 1 }, by simp [choose, Sem.run, Question.forced, hf, Question.cut], Nat.mod_lt _ hpos, rfl, rfl, rfl, rfl⟩
          have hkl : k < (es.filter fun e => !seen.contains e.2.2).length := by rw [← hlen]; exact hk
          have hpk := hp.2 k hkl
          simp only [List.getElem?_eq_getElem hkl, Out.all] at hpk
          obtain ⟨e', q1, q2, q3, q4, q5⟩ := hfr.get (List.getElem?_eq_getElem hkl)
          have q1' : left[k]? = some e' := by simpa using q1
          have h1 : Rel B0 W0 μ s w1 := h.heap hw1.1 hw1.2.1 hw1.2.2.1 hw1.2.2.2
          have hblk1 : w1.heap[(μ i).block]? = some (.mapIter (some (μ m).block) clock seen.toArray clock) := by rw [hw1.1]; exact hblk
          refine ⟨_, _, .tuple #[.bool true, e'.key, e'.val], { w1 with heap := w1.heap.setIfInBounds (μ i).block (.mapIter (some (μ m).block) clock (seen.toArray.push e'.born) clock) }, hpk,
            .inl (hrun (left.map some) k w1 (by simp [hl1]) hch _ _ (by simp [q1', setObj, Sem.run, hblk1])), μ, Agree.refl _ _, h1.setObj hget rfl _ _ ⟨hB, hb0, hmn, ?_⟩, .tuple _ _ (.cons _ _ _ _ (.bool _) (.cons _ _ _ _ q2 (.cons _ _ _ _ q3 .nil)))⟩
          rw [q4]
          simp [(h1.known i _ hget).2.1]

end Go.Am
end
section
set_option linter.unusedSimpArgs false
set_option linter.unusedVariables false
set_option maxRecDepth 10000
namespace Go.Am
open Go.RowKit (Below)

/-- the program's variables have their own blocks' names -/
def Glob (P : Program) (μ : Nat → Spot) (n : Nat) : Prop := ∀ g, g < P.globals.size → g < n ∧ (μ g).block = g ∧ (μ g).base = 0

theorem Glob.mono {P : Program} {μ μ' : Nat → Spot} {n n' : Nat} (h : Glob P μ n) (ha : Agree μ n μ' n') : Glob P μ' n' := fun g hg => by
  obtain ⟨h1, h2, h3⟩ := h g hg
  rw [ha.2 g h1]
  exact ⟨Nat.lt_of_lt_of_le h1 ha.1, h2, h3⟩

/-- what a call is good for -/
def CallOk (P : Program) (f : FuncId) (vs : List Value) (s : St) (Q : Value × St → Prop) : Prop :=
  ∀ (B0 : Nat) (W0 : World) (μ : Nat → Spot) (w : World) (args : List Value), Rel B0 W0 μ s w → Glob P μ s.next → VRs μ s.next vs args →
    Calls P f args.toArray w fun e w' => ∃ v s' v', Q (v, s') ∧ e = .returned v' ∧ After B0 W0 μ s v s' v' w'

def FSound (P : Program) (F : CallF) : Prop := ∀ f vs s Q, (F f vs s).all Q → (∃ fn, P.funcs[f]? = some fn ∧ fn.body.isSome = true ∧ (fn.name == "runtime.NumGoroutine") = false) ∧ CallOk P f vs s Q

def TabOk (P : Program) (T : Tab) : Prop := ∀ t name f, T.meth t name = some f → ∀ v w, (method (P.types.size + Made.depth) t v name).run P w = .ok (f, v) w

/-- what a deferred call is, as a value -/
def dV (d : Deferred) : Value :=
  match d.target with
  | .fn fn cap => .func fn d.args cap
  | _ => undef

/-- the slots behind the function's own: none, or one that holds what is deferred -/
def Stk (μ : Nat → Spot) (n : Nat) (fl : Bool) (k : List Value) (ds : List Deferred) : Prop :=
  (k = [] ∧ ds = [] ∧ fl = false) ∨ ∃ es, fl = true ∧ k = [.tuple (es ++ [.nilIface]).toArray] ∧ VRs μ n es (ds.map dV) ∧ ∀ d ∈ ds, ∃ f cap, d.target = .fn (.func f) cap

/-- the slots: b of them the function's own -/
structure LR (μ : Nat → Spot) (n b : Nat) (fl : Bool) (l : List Value) (a : Act) : Prop where
  size : b ≤ a.tmps.size ∧ (fl = true → a.tmps.size = b)
  ex : ∃ l0 k, l = l0 ++ k ∧ VRs μ n l0 a.tmps.toList ∧ Stk μ n fl k a.defers

/-- how the first machine stands, as against the second one's slots and heap; where the function began: (μ0, n0) -/
structure Sim (P : Program) (B0 : Nat) (W0 : World) (μ0 : Nat → Spot) (n0 b : Nat) (fl : Bool) (l : List Value) (s : St) (a : Act) (w : World) : Prop where
  ex : ∃ μ, Agree μ0 n0 μ s.next ∧ Rel B0 W0 μ s w ∧ Glob P μ s.next ∧ LR μ s.next b fl l a

section
variable {P : Program} {B0 : Nat} {W0 : World} {μ : Nat → Spot} {n b : Nat} {fl : Bool}

theorem Stk.mono {μ' : Nat → Spot} {n' : Nat} {k : List Value} {ds : List Deferred} (h : Stk μ n fl k ds) (ha : Agree μ n μ' n') : Stk μ' n' fl k ds := by
  rcases h with h | ⟨es, h0, h1, h2, h3⟩
  · exact .inl h
  · exact .inr ⟨es, h0, h1, h2.mono ha, h3⟩

theorem LR.mono {μ' : Nat → Spot} {n' : Nat} {l : List Value} {a : Act} (h : LR μ n b fl l a) (ha : Agree μ n μ' n') : LR μ' n' b fl l a := by
  obtain ⟨h0, l0, k, h1, h2, h3⟩ := h
  exact ⟨h0, l0, k, h1, h2.mono ha, h3.mono ha⟩

theorem lget_append {l k : List Value} {t : Nat} (h : t < l.length) : lget (l ++ k) t = lget l t := by
  induction l generalizing t with
  | nil => simp at h
  | cons x l ih => cases t with
    | zero => rfl
    | succ t => simp only [List.cons_append, lget]; exact ih (by simpa using h)

theorem lget_at {l : List Value} {x : Value} : lget (l ++ [x]) l.length = x := by
  induction l with
  | nil => rfl
  | cons y l ih => simpa [lget] using ih

theorem lget_out {l : List Value} {t : Nat} (h : l.length ≤ t) : lget l t = undef := by
  induction l generalizing t with
  | nil => rfl
  | cons x l ih => cases t with
    | zero => simp at h
    | succ t => simp only [lget]; exact ih (by simpa using h)

theorem lset_append {l k : List Value} {t : Nat} {v : Value} (h : t < l.length) : lset (l ++ k) t v = lset l t v ++ k := by
  induction l generalizing t with
  | nil => simp at h
  | cons x l ih => cases t with
    | zero => rfl
    | succ t => simp only [List.cons_append, lset]; rw [ih (by simpa using h)]

theorem lset_at {l : List Value} {x v : Value} : lset (l ++ [x]) l.length v = l ++ [v] := by
  induction l with
  | nil => rfl
  | cons y l ih => simpa [lset] using ih

theorem LR.get {l : List Value} {a : Act} (h : LR μ n b fl l a) {t : Nat} (ht : t < b) : VR μ n (lget l t) (a.tmps.toList.getD t undef) := by
  obtain ⟨⟨h0, _⟩, l0, k, rfl, h2, _⟩ := h
  have hlen := h2.length
  rw [Array.length_toList] at hlen
  rw [lget_append (by omega)]
  exact h2.lget t

theorem argOf_rel (hg : Glob P μ n) {l : List Value} {a : Act} (hl : LR μ n b fl l a) {x : Operand} {y : Arg} (h : argOf P b x = some y) : VR μ n (y.ev l) (a.eval x) := by
  cases x with
  | tmp t =>
    simp [argOf] at h
    obtain ⟨ht, rfl⟩ := h
    have := hl.get ht
    simpa [Arg.ev, Act.eval] using this
  | const v =>
    simp [argOf] at h
    obtain ⟨h1, rfl⟩ := h
    exact plainV_rel h1
  | global g =>
    simp [argOf] at h
    obtain ⟨h1, rfl⟩ := h
    obtain ⟨k1, k2, k3⟩ := hg g h1
    have := VR.ptr (μ := μ) (n := n) g 0 k1
    rw [k2, k3] at this
    exact this
  | func f =>
    simp [argOf] at h
    subst h
    exact .func _ _ _ _ _ .nil .nil

theorem argsOf_rel (hg : Glob P μ n) {l : List Value} {a : Act} (hl : LR μ n b fl l a) : ∀ {xs : List Operand} {ys : List Arg}, argsOf P b xs = some ys → VRs μ n (ys.map (Arg.ev l)) (xs.map a.eval)
  | [], ys, h => by simp [argsOf] at h; subst h; exact .nil
  | x :: xs, ys, h => by
    simp only [argsOf, Option.bind_eq_some_iff, Option.map_eq_some_iff] at h
    obtain ⟨y, hy, ys', hys, rfl⟩ := h
    exact .cons _ _ _ _ (argOf_rel hg hl hy) (argsOf_rel hg hl hys)

theorem put_rel {l : List Value} {a : Act} (hl : LR μ n b fl l a) {v v' : Value} (hv : VR μ n v v') (d : Option Nat) (hd : dstIn b d = true) : LR μ n b fl (putL l d v) (a.put d v') := by
  cases d with
  | none => exact hl
  | some d =>
    obtain ⟨h0, l0, k, rfl, h2, h3⟩ := hl
    have hlen := h2.length
    rw [Array.length_toList] at hlen
    have hd' : d < b := by simpa [dstIn] using hd
    have h0' := h0.1
    refine ⟨by simpa [Act.put] using h0, lset l0 d v, k, ?_, ?_, h3⟩
    · simp only [putL]; exact lset_append (by omega)
    · simp only [Act.put, Array.toList_setIfInBounds]
      exact h2.lset hv d

def AOp.plain : AOp → Bool
  | .p _ | .r _ | .w _ => true
  | _ => false

theorem compOp_shape {op : Op} {p : AOp} {xs : List Operand} (hc : compOp P op = some (p, xs)) : p.plain = true ∨ (∃ it str, op = .next it str ∧ p = .next str ∧ xs = [it]) ∨ ∃ c, op = .call c ∧ compCall P c = some (p, xs) := by
  cases op with
  | next it str => simp [compOp] at hc; exact .inr (.inl ⟨it, str, rfl, hc.1.symm, hc.2.symm⟩)
  | call c => exact .inr (.inr ⟨c, rfl, hc⟩)
  | makeMap t r => cases r <;> simp [compOp] at hc; exact .inl (by rw [← hc.1]; rfl)
  | _ =>
    refine .inl ?_
    simp only [compOp] at hc
    repeat' (first
      | (cases hc; done)
      | (injection hc with hc; injection hc with hc _; subst hc; rfl)
      | (obtain ⟨rfl, _⟩ := hc; rfl)
      | (simp only [Option.bind_eq_some_iff, Option.map_eq_some_iff, Prod.mk.injEq] at hc; done)
      | (simp only [Option.bind_eq_some_iff, Option.map_eq_some_iff, Prod.mk.injEq] at hc)
      | (obtain ⟨_, _, hc⟩ := hc)
      | (split at hc))

theorem compCall_shape {c : Call} {p : AOp} {xs : List Operand} (hc : compCall P c = some (p, xs)) : p.plain = true ∨ (∃ f, c.callee = .value (.func f) ∧ p = .call f ∧ xs = c.args.toList) ∨ (∃ x, c.callee = .value x ∧ p = .callV ∧ xs = x :: c.args.toList) ∨
    ∃ r name, c.callee = .invoke r name ∧ p = .invoke name ∧ xs = r :: c.args.toList := by
  unfold compCall at hc
  split at hc
  · rename_i f hf; simp at hc; exact .inr (.inl ⟨f, hf, hc.1.symm, hc.2.symm⟩)
  · rename_i x _ hx; simp at hc; exact .inr (.inr (.inl ⟨x, hx, hc.1.symm, hc.2.symm⟩))
  · rename_i r name hx; simp at hc; exact .inr (.inr (.inr ⟨r, name, hx, hc.1.symm, hc.2.symm⟩))
  · refine .inl ?_
    repeat' (first
      | (cases hc; done)
      | (injection hc with hc; injection hc with hc _; subst hc; rfl)
      | (obtain ⟨rfl, _⟩ := hc; rfl)
      | (simp only [Option.bind_eq_some_iff, Option.map_eq_some_iff, Prod.mk.injEq] at hc; done)
      | (simp only [Option.bind_eq_some_iff, Option.map_eq_some_iff, Prod.mk.injEq] at hc)
      | (obtain ⟨_, _, hc⟩ := hc)
      | (split at hc))

/-- the operation's wp, out of what the second machine's step comes to -/
theorem step_sound {T : Tab} {F : CallF} (hF : FSound P F) (hT : TabOk P T) {μ0 : Nat → Spot} {n0 : Nat} {o : Oper} {p : AOp} {xs : List Operand} {ys : List Arg} (hc : compOp P o.op = some (p, xs)) (hy : argsOf P b xs = some ys) (hdst : dstIn b o.dst = true)
    {l : List Value} {s : St} {a : Act} {w : World} (hs : Sim P B0 W0 μ0 n0 b fl l s a w) {K : List Value → St → Prop} {Q : Exit → Act → World → Prop} {next : Act → World → Prop}
    (hn : ∀ l s a w, K l s → Sim P B0 W0 μ0 n0 b fl l s a w → next a w)
    (h : (opStep T F p (ys.map (Arg.ev l)) s).all fun r => K (putL l o.dst r.1) r.2) : o.wp P a w next Q := by
  obtain ⟨⟨μ, ha, hr, hg, hl⟩⟩ := hs
  have hv := argsOf_rel hg hl hy
  -- behind a step that is known: on
  have go : ∀ {v : Value} {s' : St} {v' : Value} {w' : World}, K (putL l o.dst v) s' → After B0 W0 μ s v s' v' w' → next (a.put o.dst v') w' := fun {v s' v' w'} hk haf => by
    obtain ⟨μ', m1, m2, m3⟩ := haf
    exact hn _ _ _ _ hk ⟨⟨μ', ha.trans m1, m2, hg.mono m1, put_rel (hl.mono m1) m3 _ hdst⟩⟩
  have did : ∀ {v : Value} {s' : St} {v' : Value} {w' : World}, K (putL l o.dst v) s' → Did P a.eval o w v' w' → After B0 W0 μ s v s' v' w' → o.wp P a w next Q := fun {v s' v' w'} hk hdid haf => by
    unfold Oper.wp
    rcases hdid with hdid | ⟨hdid, rfl⟩
    · rw [hdid]; exact go hk haf
    · rw [hdid]; exact go hk haf
  have call : ∀ {f : FuncId} {vs : List Value} {args : Array Value}, (execOp a.eval o).run P w = (callFunc f args).run P w → VRs μ s.next vs args.toList → (F f vs s).all (fun r => K (putL l o.dst r.1) r.2) → o.wp P a w next Q := fun {f vs args} he hvs hf => by
    obtain ⟨⟨fn, h1, h2, h3⟩, h4⟩ := hF f vs s _ hf
    have hcf : (callFunc f args).run P w = .ok (.enter f args) w := by
      have : fn.body.isNone = false := by cases hb : fn.body <;> simp [hb] at h2 ⊢
      simp only [callFunc, Sem.run_bind, run_program, Result.andThen_ok, h1, h3, this, Bool.false_eq_true, if_false, Sem.run_pure]
    unfold Oper.wp
    rw [he, hcf]
    have := h4 B0 W0 μ w args.toList hr hg hvs
    simp only [Array.toArray_toList] at this
    refine this.mono fun e w' hq => ?_
    obtain ⟨v, s', v', hk, rfl, haf⟩ := hq
    exact go hk haf
  cases p with
  | p p =>
    simp only [opStep] at h
    cases hp : pop p (ys.map (Arg.ev l)) with
    | none => rw [hp] at h; exact h.elim
    | some v =>
      rw [hp] at h
      obtain ⟨v', k1, k2⟩ := pop_sound (μ := μ) (n := s.next) hc a.eval _ v w hv hp
      exact did h (.inl k1) ⟨μ, Agree.refl _ _, hr, k2⟩
  | r r =>
    simp only [opStep] at h
    cases hp : rop r (ys.map (Arg.ev l)) s with
    | none => rw [hp] at h; exact h.elim
    | some v =>
      rw [hp] at h
      obtain ⟨v', k1, k2⟩ := rop_sound (B0 := B0) (W0 := W0) (μ := μ) (s := s) (w := w) hc a.eval _ v hr hv hp
      exact did h (.inl k1) ⟨μ, Agree.refl _ _, hr, k2⟩
  | w q =>
    simp only [opStep] at h
    cases hp : wop q (ys.map (Arg.ev l)) s with
    | none => rw [hp] at h; exact h.elim
    | some r =>
      rw [hp] at h
      obtain ⟨v', w', k1, k2⟩ := wop_sound (B0 := B0) (W0 := W0) (μ := μ) (s := s) (w := w) hc a.eval _ r.1 r.2 hr hv hp
      exact did h k1 k2
  | next str =>
    simp only [opStep] at h
    have hx : ∃ x, xs = [x] ∧ o.op = .next x str := by
      rcases compOp_shape hc with h0 | ⟨it, str', h1, h2, h3⟩ | ⟨c, h1, h2⟩
      · cases h0
      · cases h2; exact ⟨it, h3, h1⟩
      · rcases compCall_shape h2 with h0 | ⟨f, _, h0, _⟩ | ⟨x, _, h0, _⟩ | ⟨r, nm, _, h0, _⟩ <;> cases h0
    obtain ⟨x, hx1, hx2⟩ := hx
    obtain ⟨v, s', v', w', k1, k2, k3⟩ := next_sound (P := P) (B0 := B0) (W0 := W0) (μ := μ) (s := s) (w := w) hx1 hx2 a.eval _ _ hr hv h
    exact did k1 k2 k3
  | call f =>
    simp only [opStep] at h
    rcases compOp_shape hc with h0 | ⟨it, str', h1, h2, h3⟩ | ⟨c, h1, h2⟩
    · cases h0
    · cases h2
    · rcases compCall_shape h2 with h0 | ⟨f', hf, h0, rfl⟩ | ⟨x, _, h0, _⟩ | ⟨r, nm, _, h0, _⟩ <;> cases h0
      refine call (args := c.args.map a.eval) ?_ (by simpa using hv) h
      simp [execOp, h1, resolve, hf, Act.eval, Deferred.ofValue, invoke]
  | callV =>
    simp only [opStep] at h
    rcases compOp_shape hc with h0 | ⟨it, str', h1, h2, h3⟩ | ⟨c, h1, h2⟩
    · cases h0
    · cases h2
    · rcases compCall_shape h2 with h0 | ⟨f', hf, h0, _⟩ | ⟨x, hx, h0, rfl⟩ | ⟨r, nm, _, h0, _⟩ <;> cases h0
      obtain ⟨u, us, hu, hur, husr⟩ := hv.invc
      rw [hu] at h
      generalize hxe : a.eval x = x' at hur
      cases hur <;> (try (exact h.elim))
      rename_i fn f1 c1 f2 c2 k1 k2
      cases fn <;> (try (exact h.elim))
      rename_i f
      refine call (args := f2 ++ (c.args.map a.eval) ++ c2) ?_ ?_ h
      · simp [execOp, h1, resolve, hx, hxe, Deferred.ofValue, invoke]
      · simp only [Array.toList_append, Array.toList_map]
        exact (k1.append husr).append k2
  | invoke name =>
    simp only [opStep] at h
    rcases compOp_shape hc with h0 | ⟨it, str', h1, h2, h3⟩ | ⟨c, h1, h2⟩
    · cases h0
    · cases h2
    · rcases compCall_shape h2 with h0 | ⟨f', hf, h0, _⟩ | ⟨x, hx, h0, _⟩ | ⟨r, nm, hx, h0, rfl⟩ <;> cases h0
      obtain ⟨u, us, hu, hur, husr⟩ := hv.invc
      rw [hu] at h
      generalize hxe : a.eval r = x' at hur
      cases hur <;> (try (exact h.elim))
      rename_i t v v' k1
      simp only at h
      cases hm : T.meth t name with
      | none => rw [hm] at h; exact h.elim
      | some f =>
        rw [hm] at h
        refine call (args := #[v'] ++ (c.args.map a.eval)) ?_ ?_ h
        · have := hT t name f hm v' w
          have e0 : (#[Value.iface t v'] ++ c.args.map a.eval)[0]? = some (.iface t v') := by rw [Array.getElem?_append_left (by simp)]; rfl
          have e1 : (c.args.map a.eval).extract 0 c.args.size = c.args.map a.eval := by rw [show c.args.size = (c.args.map a.eval).size by simp, Array.extract_size]
          simp [execOp, h1, resolve, hx, hxe, invoke, callMethod, e0, this, e1]
        · simp only [Array.toList_append, Array.toList_map]
          exact .cons _ _ _ _ k1 husr

/-! ### a region in the order of its text -/
section
variable {T : Tab} {F : CallF} {μ0 : Nat → Spot} {n0 : Nat}

theorem yielded_rel {ops : Array Oper} {l : List Value} {a : Act} (hl : LR μ n b fl l a) {j d : Nat} (hj : (ops[j]?).bind (·.dst) = some d) (hdb : d < b) : yielded ops a.tmps j = yieldedL l d := by
  have h := hl.get hdb
  unfold yielded yieldedL
  rw [hj]
  simp only [Option.bind_some]
  have hget : a.tmps.toList.getD d undef = (a.tmps[d]?).getD undef := by simp [List.getD]
  rw [hget] at h
  cases ht : a.tmps[d]? with
  | none =>
    rw [ht] at h
    simp only [Option.getD_none] at h
    generalize Am.lget l d = x at h
    cases h <;> rfl
  | some y =>
    rw [ht] at h
    simp only [Option.getD_some] at h
    generalize Am.lget l d = x at h
    cases h <;> rfl

theorem wanted_rel {ops : Array Oper} {l : List Value} {a : Act} (hl : LR μ n b fl l a) {o : Oper} {ao : AOper} (hg : compGuard b ops o.guard = some ao.guard) : Region.wanted o (yielded ops a.tmps) = wantedL ao l := by
  unfold compGuard at hg
  unfold Region.wanted wantedL
  cases hgd : o.guard with
  | none => rw [hgd] at hg; simp at hg; rw [← hg]
  | some jw =>
    obtain ⟨j, want⟩ := jw
    rw [hgd] at hg
    simp only at hg
    cases hd : (ops[j]?).bind (·.dst) with
    | none => rw [hd] at hg; cases hg
    | some d =>
      rw [hd] at hg
      simp only at hg
      split at hg
      · rename_i hdb
        simp at hg
        rw [← hg]
        simp only
        rw [yielded_rel hl hd hdb]
      · cases hg

theorem compOper_spec {ops : Array Oper} {o : Oper} {ao : AOper} (h : compOper P b fl ops o = some ao) : (∃ xs, compOp P o.op = some (ao.op, xs) ∧ argsOf P b xs = some ao.args ∧ compGuard b ops o.guard = some ao.guard ∧ ao.dst = o.dst ∧ dstIn b o.dst = true) ∨
    ∃ c xs as, fl = true ∧ o.op = .defer c ∧ o.dst = none ∧ o.guard = none ∧ compDefer c = some xs ∧ argsOf P b xs = some as ∧ ao = { dst := some b, op := .p .push, args := .t b :: as, guard := none } := by
  unfold compOper at h
  cases hd : deferOf o.op with
  | none =>
    rw [hd] at h
    simp only [Option.bind_eq_some_iff] at h
    obtain ⟨⟨p, xs⟩, h1, as, h2, g, h3, h4⟩ := h
    split at h4
    · rename_i h5
      cases h4
      exact .inl ⟨xs, h1, h2, h3, rfl, h5⟩
    · cases h4
  | some c =>
    rw [hd] at h
    simp only at h
    have hop : o.op = .defer c := by
      unfold deferOf at hd
      split at hd
      · rename_i c' hc'; cases hd; exact hc'
      · cases hd
    split at h
    · rename_i hc
      simp only [Bool.and_eq_true, Option.isNone_iff_eq_none] at hc
      simp only [Option.bind_eq_some_iff, Option.map_eq_some_iff] at h
      obtain ⟨xs, h1, as, h2, rfl⟩ := h
      exact .inr ⟨c, xs, as, hc.1.1, hop, hc.1.2, hc.2, h1, h2, rfl⟩
    · cases h

theorem compDefer_spec {c : Call} {xs : List Operand} (h : compDefer c = some xs) : ∃ x, c.callee = .value x ∧ xs = x :: c.args.toList := by
  unfold compDefer at h
  split at h
  · cases h; exact ⟨_, rfl, rfl⟩
  · cases h

theorem Sim.put {l : List Value} {s : St} {a : Act} {w : World} (hs : Sim P B0 W0 μ0 n0 b fl l s a w) (d : Option Nat) (hd : dstIn b d = true) : Sim P B0 W0 μ0 n0 b fl (putL l d undef) s (a.put d undef) w := by
  obtain ⟨⟨μ, h1, h2, h3, h4⟩⟩ := hs
  exact ⟨⟨μ, h1, h2, h3, put_rel h4 (.tuple _ _ .nil) d hd⟩⟩

theorem oper_wanted {ops : Array Oper} {o : Oper} {ao : AOper} (hc : compOper P b fl ops o = some ao) {l : List Value} {s : St} {a : Act} {w : World} (hs : Sim P B0 W0 μ0 n0 b fl l s a w) : Region.wanted o (yielded ops a.tmps) = wantedL ao l := by
  rcases compOper_spec hc with ⟨xs, k1, k2, k3, k4, k5⟩ | ⟨c, xs, as, k0, k1, k2, k3, k4, k5, rfl⟩
  · obtain ⟨μ, _, _, _, h4⟩ := hs.ex
    exact wanted_rel h4 k3
  · simp [Region.wanted, wantedL, k3]

theorem oper_skip {ops : Array Oper} {o : Oper} {ao : AOper} (hc : compOper P b fl ops o = some ao) {l : List Value} {s : St} {a : Act} {w : World} (hs : Sim P B0 W0 μ0 n0 b fl l s a w) (hw : ¬wantedL ao l = true) : Sim P B0 W0 μ0 n0 b fl (putL l ao.dst undef) s (a.put o.dst undef) w := by
  rcases compOper_spec hc with ⟨xs, k1, k2, k3, k4, k5⟩ | ⟨c, xs, as, k0, k1, k2, k3, k4, k5, rfl⟩
  · rw [k4]; exact hs.put _ k5
  · exact absurd rfl hw

theorem oper_sound (hF : FSound P F) (hT : TabOk P T) {ops : Array Oper} {o : Oper} {ao : AOper} (hc : compOper P b fl ops o = some ao) {l : List Value} {s : St} {a : Act} {w : World} (hs : Sim P B0 W0 μ0 n0 b fl l s a w) {K : List Value → St → Prop} {Q : Exit → Act → World → Prop} {next : Act → World → Prop}
    (hn : ∀ l s a w, K l s → Sim P B0 W0 μ0 n0 b fl l s a w → next a w)
    (h : (opStep T F ao.op (ao.args.map (Arg.ev l)) s).all fun r => K (putL l ao.dst r.1) r.2) : o.wp P a w next Q := by
  rcases compOper_spec hc with ⟨xs, k1, k2, k3, k4, k5⟩ | ⟨c, xs, as, k0, k1, k2, k3, k4, k5, rfl⟩
  · rw [k4] at h
    exact step_sound hF hT k1 k2 k5 hs hn h
  · obtain ⟨⟨μ, ha, hr, hg, hl⟩⟩ := hs
    have hv := argsOf_rel hg hl k5
    obtain ⟨x, hx, rfl⟩ := compDefer_spec k4
    obtain ⟨h0, l0, k, rfl, h2, h3⟩ := hl
    have hlen := h2.length
    rw [Array.length_toList] at hlen
    rcases h3 with ⟨rfl, h4, hfl⟩ | ⟨es, hfl, rfl, h4, h5⟩
    · exfalso
      rw [hfl] at k0
      cases k0
    · have hb := h0.2 hfl
      rw [hb] at hlen
      subst hlen
      have hu : lget (l0 ++ [Value.tuple (es ++ [Value.nilIface]).toArray]) l0.length = .tuple (es ++ [Value.nilIface]).toArray := lget_at
      obtain ⟨u, us, hu2, hur, husr⟩ := hv.invc
      simp only [opStep, List.map_cons, Arg.ev, hu, hu2] at h
      generalize hxe : a.eval x = x' at hur
      cases hur <;> (try (exact h.elim))
      rename_i fn f1 c1 f2 c2 q1 q2
      cases fn <;> (try (exact h.elim))
      rename_i f
      simp only [pop] at h
      have hne : (es ++ [Value.nilIface]).toArray.toList.isEmpty = false := by simp
      rw [hne] at h
      simp only [Bool.false_eq_true, if_false] at h
      unfold Oper.wp
      have he : (execOp a.eval o).run P w = .ok (.defer { target := .fn (.func f) c2, args := f2 ++ c.args.map a.eval }) w := by
        simp [execOp, k1, resolve, hx, hxe, Deferred.ofValue]
      rw [he, Oper.upon_defer, k2]
      refine hn _ _ _ _ h ⟨⟨μ, ha, hr, hg, h0, l0, _, lset_at, h2, .inr ⟨.func (.func f) (f1.toList ++ us).toArray c1 :: es, hfl, ?_, ?_, ?_⟩⟩⟩
      · simp
      · refine .cons _ _ _ _ ?_ h4
        exact .func _ _ _ _ _ (by simpa using q1.append husr) q2
      · intro d hd
        rcases List.mem_cons.1 hd with rfl | hd
        · exact ⟨_, _, rfl⟩
        · exact h5 d hd

theorem list_sound (hF : FSound P F) (hT : TabOk P T) {ops : Array Oper} {Q : Exit → Act → World → Prop} {K : List Value × St → Prop} (hQ : ∀ l s a w, K (l, s) → Sim P B0 W0 μ0 n0 b fl l s a w → Q .normal a w) :
    ∀ (os : List Oper) (aops : List AOper) (l : List Value) (s : St) (a : Act) (w : World), compOpers P b fl ops os = some aops → Sim P B0 W0 μ0 n0 b fl l s a w → (runOps T F aops l s).all K → wpList P ops Q os a w
  | [], aops, l, s, a, w, hc, hs, h => by
    simp [compOpers] at hc
    subst hc
    exact wpList_nil (hQ l s a w h hs)
  | o :: os, aops, l, s, a, w, hc, hs, h => by
    simp only [compOpers, Option.bind_eq_some_iff, Option.map_eq_some_iff] at hc
    obtain ⟨ao, h1, aos, h2, rfl⟩ := hc
    have hw := oper_wanted h1 hs
    refine wpList_step fun K' hK' => ?_
    rw [hw]
    simp only [runOps] at h
    split
    · rename_i hwt
      rw [if_pos hwt] at h
      refine oper_sound hF hT h1 hs (K := fun l s => (runOps T F aos l s).all K) (fun l s a w hk hs' => hK' a w (list_sound hF hT hQ os aos l s a w h2 hs' hk)) ?_
      revert h
      generalize opStep T F ao.op (ao.args.map (Arg.ev l)) s = out
      intro h
      clear hw hwt
      induction out with
      | ret r => exact h
      | fail => exact h.elim
      | ask n k ih => exact ⟨h.1, fun i hi => ih i (h.2 i hi)⟩
    · rename_i hwt
      rw [if_neg hwt] at h
      exact hK' _ _ (list_sound hF hT hQ os aos _ s _ w h2 (oper_skip h1 hs hwt) h)

end

end
end Go.Am
end
