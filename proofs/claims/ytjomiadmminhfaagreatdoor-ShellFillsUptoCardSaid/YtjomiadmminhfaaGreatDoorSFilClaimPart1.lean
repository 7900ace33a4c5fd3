/-
  A SECOND, SMALLER MACHINE: code with its types looked up beforehand, run over a heap whose blocks have names of their own; no tape: what a slice grows to is not seen, and a slot that two slices might share is given up when one of them grows. Definitions alone.
  How the second machine's heap stands to the first one's world: each name has its block; what is owned is apart.
  What the heaps' relation bears: new blocks, stores, maps' turns, a slot given up for one that has grown in place.
-/
import Derived.Calls
import Derived.Below
import Derived.Laws.IdiomCopy
section
set_option linter.unusedSimpArgs false
set_option linter.unusedVariables false
set_option maxRecDepth 10000
namespace Go.Am

/-! ### what a run comes to -/
inductive Out (α : Type) where
  | ret (a : α)
  | fail
  | ask (n : Nat) (k : Nat → Out α)

def Out.bind {α β : Type} : Out α → (α → Out β) → Out β
  | .ret a, f => f a
  | .fail, _ => .fail
  | .ask n k, f => .ask n fun i => (k i).bind f

/-- every end is as said, and none fails -/
def Out.all {α : Type} : Out α → (α → Prop) → Prop
  | .ret a, p => p a
  | .fail, _ => False
  | .ask n k, p => 0 < n ∧ ∀ i, i < n → (k i).all p

def Out.ofOption {α : Type} : Option α → Out α
  | some a => .ret a
  | none => .fail

/-! ### the heap -/
inductive AObj where
  /-- cells; grown: what lies behind them is not known (0: nothing does; else the cells of an element); ro: it is not written -/
  | row (cs : List Value) (grown : Nat) (ro : Bool)
  | map (es : List (Value × Value × Nat)) (clock : Nat)
  | strIter (s : ByteArray) (pos : Nat)
  | mapIter (m : Option Nat) (since : Nat) (seen : List Nat) (last : Nat)
  deriving Inhabited

inductive Tr where
  | nil
  | nd (l : Tr) (v : Option AObj) (r : Tr)
  deriving Inhabited

def bitsGo : Nat → Nat → List Bool
  | 0, _ => []
  | f + 1, n => if n = 0 then [] else (n % 2 == 1) :: bitsGo f (n / 2)

def bits (n : Nat) : List Bool := bitsGo n n

def Tr.get : Tr → List Bool → Option AObj
  | .nil, _ => none
  | .nd _ v _, [] => v
  | .nd l _ r, b :: bs => bif b then r.get bs else l.get bs

def Tr.set (t : Tr) (bs : List Bool) (v : Option AObj) : Tr :=
  match bs with
  | [] => match t with
    | .nil => .nd .nil v .nil
    | .nd l _ r => .nd l v r
  | b :: bs => match t with
    | .nil => bif b then .nd .nil none (Tr.set .nil bs v) else .nd (Tr.set .nil bs v) none .nil
    | .nd l x r => bif b then .nd l x (Tr.set r bs v) else .nd (Tr.set l bs v) x r

structure St where
  heap : Tr
  next : Nat
  deriving Inhabited

def St.get (s : St) (i : Nat) : Option AObj := s.heap.get (bits i)
def St.put (s : St) (i : Nat) (o : Option AObj) : St := { s with heap := s.heap.set (bits i) o }
def St.new (s : St) (o : AObj) : St := { heap := s.heap.set (bits s.next) (some o), next := s.next + 1 }

/-! ### lists of cells -/
def lget : List Value → Nat → Value
  | [], _ => undef
  | v :: _, 0 => v
  | _ :: l, n + 1 => lget l n

def lset : List Value → Nat → Value → List Value
  | [], _, _ => []
  | _ :: l, 0, v => v :: l
  | x :: l, n + 1, v => x :: lset l n v

/-- the cells from a place on become these -/
def lputs (l : List Value) (o : Nat) (vs : List Value) : List Value := l.take o ++ vs ++ l.drop (o + vs.length)

def cellsOf : Value → List Value
  | .agg cs => cs.toList
  | v => [v]

def oneCell : Value → Bool
  | .agg _ | .tuple _ => false
  | _ => true

/-- one and the same (as far as it is told) -/
def cellEq : Value → Value → Bool
  | .bool a, .bool b => a == b
  | .int k a, .int k' b => decide (k = k') && decide (a = b)
  | .string a, .string b => decide (a = b)
  | .pointer a, .pointer b => decide (a = b)
  | .slice a n c, .slice a' n' c' => decide (a = a') && decide (n = n') && decide (c = c')
  | .map a, .map b => decide (a = b)
  | .nilFunc, .nilFunc => true
  | .nilIface, .nilIface => true
  | _, _ => false

theorem cellEq_eq {a b : Value} (h : cellEq a b = true) : a = b := by
  cases a <;> cases b <;> simp [cellEq] at h <;> first | rfl | (subst h; rfl) | (obtain ⟨rfl, rfl⟩ := h; rfl) | (obtain ⟨⟨rfl, rfl⟩, rfl⟩ := h; rfl) | (obtain ⟨rfl, rfl, rfl⟩ := h; rfl)

/-- int's wrap, the common case first -/
def wrapF (k : IntKind) (n : Int) : Int :=
  match k with
  | .i64 => if -9223372036854775808 ≤ n ∧ n ≤ 9223372036854775807 then n else IntKind.wrap .i64 n
  | .u8 => if 0 ≤ n ∧ n ≤ 255 then n else IntKind.wrap .u8 n
  | .i32 => if -2147483648 ≤ n ∧ n ≤ 2147483647 then n else IntKind.wrap .i32 n
  | .u32 => if 0 ≤ n ∧ n ≤ 4294967295 then n else IntKind.wrap .u32 n
  | .u64 => if 0 ≤ n ∧ n ≤ 18446744073709551615 then n else IntKind.wrap .u64 n
  | k => IntKind.wrap k n

/-! ### operands, operations -/
inductive Arg where
  | t (n : Nat)
  | c (v : Value)
  | g (n : Nat)
  deriving Inhabited

def Arg.ev (l : List Value) : Arg → Value
  | .t n => lget l n
  | .c v => v
  | .g n => .pointer (some ⟨n, 0, none⟩)

/-- kinds of values that may be nil -/
inductive NilK where
  | ptr | slice | map | func | iface
  deriving Inhabited

/-- what looks at its operands alone -/
inductive POp where
  | move
  | pick
  | build (zero : List Value) (parts : List (Nat × Nat))
  | nilCheck
  | bin (op : BinOp)
  | binB (neg : Bool)
  | nilEq (k : NilK) (neg : Bool)
  | un (op : UnOp)
  | convInt (k : IntKind)
  | mkIface (t : TypeId)
  | mkFunc (fn : Fn) (first : Nat)
  | fieldAddr (off : Nat)
  | field (agg : Bool) (off size : Nat)
  | indexAddr (esz : Nat)
  | indexAddrArr (n esz : Nat)
  | indexStr
  | indexArr (n esz : Nat) (agg : Bool)
  | slStr (lo hi : Bool)
  | extract (i : Nat)
  | assertT (t : TypeId) (zero : Value) (ok : Bool)
  | lenStr
  | lenSl
  | lenArr (n : Nat)
  | min
  | max
  | push
  deriving Inhabited

/-- kinds of keys -/
inductive KeyK where
  | int | str | bool
  deriving Inhabited

/-- what reads the heap besides -/
inductive ROp where
  | load1
  | loadN (n : Nat)
  | lookup (k : KeyK) (zero : Value) (ok : Bool)
  | lenMap
  | bytesToStr
  | entry
  | sl (esz : Nat) (lo hi : Bool)
  | slArr (n esz : Nat) (lo hi : Bool)
  | same1
  deriving Inhabited

/-- what turns the heap -/
inductive WOp where
  | new (cells : List Value)
  | box (n : Nat)
  | sliceLit (cells : List Value) (len : Nat) (parts : List (Nat × Nat))
  | store (n : Nat)
  | mkMap
  | mkSlice (zero : List Value) (bytes : Nat)
  | sl3
  | strToBytes
  | mapSet (k : KeyK)
  | append (esz bytes : Nat)
  | copy (esz : Nat)
  | delete (k : KeyK)
  | range (str : Bool)
  deriving Inhabited

inductive AOp where
  | p (o : POp)
  | r (o : ROp)
  | w (o : WOp)
  | next (str : Bool)
  | call (f : FuncId)
  | callV
  | invoke (name : String)
  deriving Inhabited

structure AOper where
  dst : Option Nat
  op : AOp
  args : List Arg
  guard : Option (Nat × Bool)
  deriving Inhabited

inductive AC where
  | skip
  | region (ops : List AOper)
  | seq (a b : AC)
  | cond (c : Arg) (thn els : AC)
  | block (id : Nat) (body : AC)
  | loop (body : AC)
  | exit (id : Nat)
  | ret
  | bad
  deriving Inhabited

/-! ### operations on values -/
def binInt (op : BinOp) (k : IntKind) (a b : Int) : Option Value :=
  match op with
  | .add => some (.int k (wrapF k (a + b)))
  | .sub => some (.int k (wrapF k (a - b)))
  | .mul => some (.int k (wrapF k (a * b)))
  | .quo => if b = 0 then none else some (.int k (wrapF k (a.tdiv b)))
  | .rem => if b = 0 then none else some (.int k (a.tmod b))
  | .and => some (.int k (k.wrap (BitVec.ofInt k.bits a &&& BitVec.ofInt k.bits b).toNat))
  | .or => some (.int k (k.wrap (BitVec.ofInt k.bits a ||| BitVec.ofInt k.bits b).toNat))
  | .xor => some (.int k (k.wrap (BitVec.ofInt k.bits a ^^^ BitVec.ofInt k.bits b).toNat))
  | .andNot => some (.int k (k.wrap (BitVec.ofInt k.bits a &&& ~~~ BitVec.ofInt k.bits b).toNat))
  | .eql => some (.bool (a == b))
  | .neq => some (.bool (a != b))
  | .lss => some (.bool (a < b))
  | .leq => some (.bool (a ≤ b))
  | .gtr => some (.bool (a > b))
  | .geq => some (.bool (a ≥ b))
  | _ => none

def shiftInt (op : BinOp) (k : IntKind) (a y : Int) : Option Value :=
  if y < 0 then none else
  match op with
  | .shl => some (.int k (k.wrap (a * 2 ^ (Nat.min y.toNat k.bits))))
  | .shr => some (.int k (a.fdiv (2 ^ (Nat.min y.toNat k.bits))))
  | _ => none

def binStr (op : BinOp) (x y : ByteArray) : Option Value :=
  match op with
  | .add => if ((x.size + y.size : Nat) : Int) > 9223372036854775807 then none else some (.string (x ++ y))
  | .eql => some (.bool (x.data.toList == y.data.toList))
  | .neq => some (.bool !(x.data.toList == y.data.toList))
  | .lss => some (.bool (Op.bytesLess x.data.toList y.data.toList))
  | .leq => some (.bool (Op.bytesLess x.data.toList y.data.toList || x.data.toList == y.data.toList))
  | .gtr => some (.bool !(Op.bytesLess x.data.toList y.data.toList || x.data.toList == y.data.toList))
  | .geq => some (.bool !(Op.bytesLess x.data.toList y.data.toList))
  | _ => none

def binV (op : BinOp) (x y : Value) : Option Value :=
  match x, y with
  | .int k a, .int k' b =>
    match op with
    | .shl | .shr => shiftInt op k a b
    | _ => if k = k' then binInt op k a b else none
  | .string a, .string b => binStr op a b
  | _, _ => none

def isNil : NilK → Value → Option Bool
  | .ptr, .pointer a => some a.isNone
  | .slice, .slice a _ _ => some a.isNone
  | .map, .map a => some a.isNone
  | .func, .nilFunc => some true
  | .func, .func _ _ _ => some false
  | .iface, .nilIface => some true
  | .iface, .iface _ _ => some false
  | _, _ => none

/-- an operand held against nil -/
def nilEqV (k : NilK) (neg : Bool) (x y : Value) : Option Value :=
  match isNil k x, isNil k y with
  | some a, some b => if a || b then some (.bool (xor neg (a && b))) else none
  | _, _ => none

def unV (op : UnOp) (x : Value) : Option Value :=
  match op, x with
  | .neg, .int k n => some (.int k (wrapF k (0 - n)))
  | .xor, .int k n => some (.int k (k.wrap (BitVec.ofInt k.bits (if k.signed then -1 else k.max) ^^^ BitVec.ofInt k.bits n).toNat))
  | .not, .bool b => some (.bool !b)
  | _, _ => none

/-- a bound of a slice: at least lo, at most hi -/
def bound (lo hi : Nat) : Value → Option Nat
  | .int _ n => if (lo : Int) ≤ n ∧ n ≤ (hi : Int) then some n.toNat else none
  | _ => none

/-- the two bounds of x[lo:hi] out of the operands: the upper one first -/
def bounds (len cap : Nat) (lo hi : Bool) (vs : List Value) : Option (Nat × Nat) :=
  match lo, hi, vs with
  | false, false, [] => some (0, len)
  | true, false, [a] => (bound 0 len a).map fun l => (l, len)
  | false, true, [b] => (bound 0 cap b).map fun h => (0, h)
  | true, true, [a, b] => (bound 0 cap b).bind fun h => (bound 0 h a).map fun l => (l, h)
  | _, _, _ => none

def addA (a : Addr) (n : Nat) : Addr := if n = 0 then a else { block := a.block, off := a.off + n }

def fillL (cells : List Value) : List (Nat × Nat) → List Value → Option (List Value)
  | [], [] => some cells
  | (off, size) :: ps, v :: vs =>
    if (cellsOf v).length = size ∧ off + size ≤ cells.length then fillL (lputs cells off (cellsOf v)) ps vs else none
  | _, _ => none

def minV : List Value → Option Value
  | [.int k a, .int _ b] => some (.int k (if b < a then b else a))
  | [.int k a, .int _ b, .int _ c] => some (.int k (if c < (if b < a then b else a) then c else (if b < a then b else a)))
  | _ => none
def maxV : List Value → Option Value
  | [.int k a, .int _ b] => some (.int k (if b > a then b else a))
  | [.int k a, .int _ b, .int _ c] => some (.int k (if c > (if b > a then b else a) then c else (if b > a then b else a)))
  | _ => none

def pop (o : POp) (vs : List Value) : Option Value :=
  match o, vs with
  | .move, [x] => some x
  | .pick, [.bool c, a, b] => some (bif c then a else b)
  | .build zero parts, vs => (fillL zero parts vs).map fun cs => .agg cs.toArray
  | .nilCheck, [.pointer (some a)] => some (.pointer (some a))
  | .nilCheck, [.iface t v] => some (.iface t v)
  | .nilCheck, [.func (.func f) x y] => some (.func (.func f) x y)
  | .bin op, [x, y] => binV op x y
  | .binB neg, [.bool a, .bool b] => some (.bool (xor neg (a == b)))
  | .nilEq k neg, [x, y] => nilEqV k neg x y
  | .un op, [x] => unV op x
  | .convInt k, [.int _ n] => some (.int k (wrapF k n))
  | .mkIface t, [x] => some (.iface t x)
  | .mkFunc fn n, vs => some (.func fn (vs.take n).toArray (vs.drop n).toArray)
  | .fieldAddr off, [.pointer (some a)] => some (.pointer (some (addA a off)))
  | .field true off size, [.agg cs] => some (.agg ((cs.toList.drop off).take size).toArray)
  | .field false off _, [.agg cs] => cs.toList[off]?
  | .indexAddr esz, [.slice (some a) len _, .int _ i] => if 0 ≤ i ∧ i < (len : Int) then some (.pointer (some (addA a (i.toNat * esz)))) else none
  | .indexAddrArr n esz, [.pointer (some a), .int _ i] => if 0 ≤ i ∧ i < (n : Int) then some (.pointer (some (addA a (i.toNat * esz)))) else none
  | .indexStr, [.string s, .int _ i] => if 0 ≤ i then (s.data.toList[i.toNat]?).map fun b => .int .u8 b.toNat else none
  | .indexArr n esz agg, [.agg cs, .int _ i] =>
    if 0 ≤ i ∧ i < (n : Int) then (if agg then some (.agg ((cs.toList.drop (i.toNat * esz)).take esz).toArray) else cs.toList[i.toNat * esz]?) else none
  | .slStr lo hi, .string s :: vs => (bounds s.size s.size lo hi vs).map fun (l, h) => .string (s.extract l h)
  | .extract i, [.tuple vs] => vs.toList[i]?
  | .assertT t zero ok, [.iface u v] =>
    if u = t then some (bif ok then .tuple #[v, .bool true] else v) else bif ok then some (.tuple #[zero, .bool false]) else none
  | .assertT _ zero true, [.nilIface] => some (.tuple #[zero, .bool false])
  | .lenStr, [.string s] => some (.int .i64 s.size)
  | .lenSl, [.slice _ n _] => some (.int .i64 n)
  | .lenArr n, _ => some (.int .i64 n)
  | .min, vs => minV vs
  | .max, vs => maxV vs
  | .push, .tuple es :: .func (.func f) first cap :: vs => if es.toList.isEmpty then none else some (.tuple (.func (.func f) (first.toList ++ vs).toArray cap :: es.toList).toArray)
  | _, _ => none

/-! ### operations that read -/
def sameV : KeyK → Value → Value → Option Bool
  | .int, .int k a, .int k' b => if k = k' then some (a == b) else none
  | .str, .string a, .string b => some (a.data.toList == b.data.toList)
  | .bool, .bool a, .bool b => some (a == b)
  | _, _, _ => none

def findV (kk : KeyK) (k : Value) : List (Value × Value × Nat) → Nat → Option (Option (Nat × Value))
  | [], _ => some none
  | e :: es, i =>
    match sameV kk k e.1 with
    | some true => some (some (i, e.2.1))
    | some false => findV kk k es (i + 1)
    | none => none

/-- the cells of a row from a place on -/
def St.cells (s : St) (a : Addr) (n : Nat) : Option (List Value) :=
  match s.get a.block with
  | some (.row cs _ _) => if a.off + n ≤ cs.length then some ((cs.drop a.off).take n) else none
  | _ => none

def u8s : List Value → Option (List UInt8)
  | [] => some []
  | .int .u8 n :: l => (u8s l).map fun r => UInt8.ofNat n.toNat :: r
  | _ => none

def keyOk : KeyK → Value → Bool
  | .int, .int _ _ | .str, .string _ | .bool, .bool _ => true
  | _, _ => false

def rop (o : ROp) (vs : List Value) (s : St) : Option Value :=
  match o, vs with
  | .load1, [.pointer (some a)] =>
    match s.get a.block with
    | some (.row cs _ _) => cs[a.off]?
    | _ => none
  | .loadN n, [.pointer (some a)] => (s.cells a n).map fun cs => .agg cs.toArray
  | .same1, [v, .pointer (some a)] =>
    match s.get a.block with
    | some (.row cs _ _) => match cs[a.off]? with
      | some u => if cellEq u v then some undef else none
      | none => none
    | _ => none
  | .lookup kk zero ok, [.map none, k] => if keyOk kk k then some (bif ok then .tuple #[zero, .bool false] else zero) else none
  | .lookup kk zero ok, [.map (some r), k] =>
    match s.get r with
    | some (.map es _) => if keyOk kk k then
        match findV kk k es 0 with
        | some (some (_, v)) => some (bif ok then .tuple #[v, .bool true] else v)
        | some none => some (bif ok then .tuple #[zero, .bool false] else zero)
        | none => none
      else none
    | _ => none
  | .lenMap, [.map none] => some (.int .i64 0)
  | .lenMap, [.map (some r)] =>
    match s.get r with
    | some (.map es _) => some (.int .i64 es.length)
    | _ => none
  | .sl _ lo hi, .slice none 0 0 :: vs => (bounds 0 0 lo hi vs).map fun _ => .slice none 0 0
  | .sl esz lo hi, .slice (some a) len cap :: vs =>
    if cap = 0 then (bounds len cap lo hi vs).map fun (l, h) => .slice (some a) (h - l) (cap - l) else
    match s.get a.block with
    | some (.row _ g _) => if g = 0 ∨ g = esz then
        (bounds len cap lo hi vs).map fun (l, h) => .slice (some (if cap = l then a else addA a (l * esz))) (h - l) (cap - l)
      else none
    | _ => none
  | .slArr n esz lo hi, .pointer (some a) :: vs =>
    match s.get a.block with
    | some (.row _ 0 _) => (bounds n n lo hi vs).map fun (l, h) => .slice (some (if n = l then a else addA a (l * esz))) (h - l) (n - l)
    | _ => none
  | .bytesToStr, [.slice none _ _] => some (.string .empty)
  | .bytesToStr, [.slice (some a) len _] => (s.cells a len).bind fun cs => (u8s cs).map fun l => .string ⟨l.toArray⟩
  | .entry, [.pointer (some a)] =>
    match s.get a.block with
    | some (.mapIter (some m) _ seen last) =>
      match s.get m with
      | some (.map es clock) => if clock = last ∧ a.off = 0 then
          match seen.getLast? with
          | some st => (es.find? (·.2.2 == st)).map fun e => .tuple #[e.1, e.2.1]
          | none => none
        else none
      | _ => none
    | _ => none
  | _, _ => none

/-! ### operations that turn the heap -/
def St.newPtr (s : St) (cells : List Value) : Option (Value × St) :=
  some (.pointer (some ⟨s.next, 0, none⟩), s.new (.row cells 0 false))

/-- a slice's, a string's cells -/
def St.srcCells (s : St) (esz : Nat) : Value → Option (List Value)
  | .slice none _ _ => some []
  | .slice (some a) n _ => if n = 0 then some [] else s.cells a (n * esz)
  | .string b => if esz = 1 then some (b.data.toList.map fun c => .int .u8 c.toNat) else none
  | _ => none
def srcLen : Value → Option Nat
  | .slice _ n _ => some n
  | .string b => some b.size
  | _ => none

def St.storeAt (s : St) (a : Addr) (vs : List Value) : Option St :=
  match s.get a.block with
  | some (.row cs g false) => if a.off + vs.length ≤ cs.length ∧ vs.all oneCell then some (s.put a.block (some (.row (lputs cs a.off vs) g false))) else none
  | _ => none

def St.grow (s : St) (esz n : Nat) (cells : List Value) : Value × St :=
  (.slice (some ⟨s.next, 0, none⟩) n n, s.new (.row cells esz false))

def appendV (esz bytes : Nat) (dst src : Value) (s : St) : Option (Value × St) :=
  match srcLen src, s.srcCells esz src with
  | some n, some new =>
    if n = 0 then
      match dst with
      | .slice a len cap => some (.slice a len cap, s)
      | _ => none
    else if esz = 0 ∨ ¬ new.all oneCell then none
    else match dst with
      | .slice none 0 0 => if n * bytes ≤ 1099511627776 ∧ n ≤ 1099511627776 then some (s.grow esz n new) else none
      | .slice (some ⟨bk, of, none⟩) len cap =>
        if (len + n) * bytes ≤ 1099511627776 ∧ len + n ≤ 1099511627776 then
          match s.get bk, s.cells ⟨bk, of, none⟩ (len * esz) with
          | some (.row cs g ro), some old =>
            if g = 0 then
              if len + n ≤ cap then (s.storeAt (addA ⟨bk, of, none⟩ (len * esz)) new).map fun s' => (.slice (some ⟨bk, of, none⟩) (len + n) cap, s')
              else some (s.grow esz (len + n) (old ++ new))
            else if g = esz ∧ ro = false ∧ of ≤ cs.length then some ((s.put bk none).grow esz (len + n) (old ++ new))
            else none
          | _, _ => none
        else none
      | _ => none
  | _, _ => none

def replicateL (n : Nat) (zero : List Value) : List Value :=
  match n with
  | 0 => []
  | n + 1 => zero ++ replicateL n zero

def wop (o : WOp) (vs : List Value) (s : St) : Option (Value × St) :=
  match o, vs with
  | .new cells, [] => s.newPtr cells
  | .box n, [v] => if (cellsOf v).length = n then s.newPtr (cellsOf v) else none
  | .sliceLit cells len parts, vs => (fillL cells parts vs).map fun cs => (.slice (some ⟨s.next, 0, none⟩) len len, s.new (.row cs 0 false))
  | .store n, [.pointer (some a), v] => if (cellsOf v).length = n then (s.storeAt a (cellsOf v)).map fun s' => (undef, s') else none
  | .mkMap, [] => some (.map (some s.next), s.new (.map [] 0))
  | .mkSlice zero bytes, [.int _ l, .int _ c] =>
    if 0 ≤ l ∧ l ≤ c ∧ c * bytes ≤ 1099511627776 ∧ c ≤ 1099511627776 then
      some (.slice (some ⟨s.next, 0, none⟩) l.toNat c.toNat, s.new (.row (replicateL c.toNat zero) 0 false))
    else none
  | .sl3, [.slice (some a) _ cap, .int _ h, .int _ m] =>
    if h = 0 ∧ m = 0 ∧ 0 < cap then
      match s.get a.block with
      | some (.row _ _ _) => some (.slice (some ⟨s.next, 0, none⟩) 0 0, s.new (.row [] 0 true))
      | _ => none
    else none
  | .sl3, [.slice none 0 0, .int _ h, .int _ m] => if h = 0 ∧ m = 0 then some (.slice none 0 0, s) else none
  | .strToBytes, [.string b] =>
    some (s.grow 1 b.size (b.data.toList.map fun c => .int .u8 c.toNat))
  | .mapSet kk, [.map (some r), k, v] =>
    match s.get r with
    | some (.map es clock) => if keyOk kk k then
        match findV kk k es 0 with
        | some (some (i, _)) => some (undef, s.put r (some (.map (es.modify i fun e => (k, v, e.2.2)) clock)))
        | some none => some (undef, s.put r (some (.map (es ++ [(k, v, clock)]) (clock + 1))))
        | none => none
      else none
    | _ => none
  | .append esz bytes, [dst, src] => appendV esz bytes dst src s
  | .copy esz, [.slice base dLen _, src] =>
    match srcLen src, s.srcCells esz src with
    | some n, some cs =>
      match base with
      | none => some (.int .i64 0, s)
      | some ⟨bk, of, none⟩ => (s.storeAt ⟨bk, of, none⟩ (cs.take (Nat.min n dLen * esz))).map fun s' => (.int .i64 (Nat.min n dLen), s')
      | some _ => none
    | _, _ => none
  | .delete kk, [.map none, k] => if keyOk kk k then some (.tuple #[], s) else none
  | .delete kk, [.map (some r), k] =>
    match s.get r with
    | some (.map es clock) => if keyOk kk k then
        match findV kk k es 0 with
        | some (some (i, _)) => some (.tuple #[], s.put r (some (.map (es.eraseIdx i) clock)))
        | some none => some (.tuple #[], s)
        | none => none
      else none
    | _ => none
  | .range true, [.string b] => some (.pointer (some ⟨s.next, 0, none⟩), s.new (.strIter b 0))
  | .range false, [.map none] => some (.pointer (some ⟨s.next, 0, none⟩), s.new (.mapIter none 0 [] 0))
  | .range false, [.map (some r)] =>
    match s.get r with
    | some (.map _ clock) => some (.pointer (some ⟨s.next, 0, none⟩), s.new (.mapIter (some r) clock [] clock))
    | _ => none
  | _, _ => none

/-- a step of a range -/
def nextV (str : Bool) (vs : List Value) (s : St) : Out (Value × St) :=
  match vs with
  | [.pointer (some a)] =>
    if a.off ≠ 0 then .fail else
    match s.get a.block with
    | some (.strIter b pos) =>
      if str = false then .fail else
      if pos < b.size then
        .ret (.tuple #[.bool true, .int .i64 pos, .int .i32 (Utf8.decode b pos).1], s.put a.block (some (.strIter b (pos + (Utf8.decode b pos).2))))
      else .ret (.tuple #[.bool false], s)
    | some (.mapIter none _ _ _) => if str then .fail else .ret (.tuple #[.bool false], s)
    | some (.mapIter (some m) since seen last) =>
      match s.get m with
      | some (.map es clock) =>
        if str = true ∨ clock ≠ since ∨ clock ≠ last then .fail else
        match es.filter fun e => !seen.contains e.2.2 with
        | [] => .ret (.tuple #[.bool false], s)
        | l => .ask l.length fun i =>
          match l[i]? with
          | some e => .ret (.tuple #[.bool true, e.1, e.2.1], s.put a.block (some (.mapIter (some m) since (seen ++ [e.2.2]) clock)))
          | none => .fail
      | _ => .fail
    | _ => .fail
  | _ => .fail

/-! ### code -/
structure AFn where
  ntmps : Nat
  body : AC
  results : List (Nat × Nat)
  /-- it defers: its last slot holds what -/
  defs : Bool
  deriving Inhabited

inductive Res where
  | norm (l : List Value) (s : St)
  | exit (id : Nat) (l : List Value) (s : St)
  | ret (l : List Value) (s : St)

abbrev CallF := FuncId → List Value → St → Out (Value × St)

def yieldedL (l : List Value) (g : Nat) : Option Bool :=
  match lget l g with
  | .bool b => some b
  | _ => none

def wantedL (o : AOper) (l : List Value) : Bool :=
  match o.guard with
  | none => true
  | some (g, want) => yieldedL l g == some want

def putL (l : List Value) (d : Option Nat) (v : Value) : List Value :=
  match d with
  | some d => lset l d v
  | none => l

/-- the methods that a program's values have: type, name, function (the receiver is handed over as it is); and what calls that are deferred come to, where the function's text is not at hand -/
structure Tab where
  meth : TypeId → String → Option FuncId
  dfr : CallF := fun _ _ _ => .fail

def opStep (T : Tab) (F : CallF) (o : AOp) (vs : List Value) (s : St) : Out (Value × St) :=
  match o with
  | .p o => match pop o vs with
    | some v => .ret (v, s)
    | none => .fail
  | .r o => match rop o vs s with
    | some v => .ret (v, s)
    | none => .fail
  | .w o => Out.ofOption (wop o vs s)
  | .next str => nextV str vs s
  | .call f => F f vs s
  | .callV => match vs with
    | .func (.func f) first captured :: vs => F f (first.toList ++ vs ++ captured.toList) s
    | _ => .fail
  | .invoke name => match vs with
    | .iface t v :: vs => match T.meth t name with
      | some f => F f (v :: vs) s
      | none => .fail
    | _ => .fail

def runOps (T : Tab) (F : CallF) : List AOper → List Value → St → Out (List Value × St)
  | [], l, s => .ret (l, s)
  | o :: rest, l, s =>
    if wantedL o l then (opStep T F o.op (o.args.map (Arg.ev l)) s).bind fun r => runOps T F rest (putL l o.dst r.1) r.2
    else runOps T F rest (putL l o.dst undef) s

def iter (body : List Value → St → Out Res) : Nat → List Value → St → Out Res
  | 0, _, _ => .fail
  | m + 1, l, s => (body l s).bind fun
    | .norm l s => iter body m l s
    | r => .ret r

def code (T : Tab) (F : CallF) (m : Nat) : AC → List Value → St → Out Res
  | .skip, l, s => .ret (.norm l s)
  | .region ops, l, s => (runOps T F ops l s).bind fun r => .ret (.norm r.1 r.2)
  | .seq a b, l, s => (code T F m a l s).bind fun
    | .norm l s => code T F m b l s
    | r => .ret r
  | .cond c x y, l, s => match c.ev l with
    | .bool b => bif b then code T F m x l s else code T F m y l s
    | _ => .fail
  | .block id b, l, s => (code T F m b l s).bind fun
    | .exit id' l s => if id' = id then .ret (.norm l s) else .ret (.exit id' l s)
    | r => .ret r
  | .loop b, l, s => iter (code T F m b) m l s
  | .exit id, l, s => .ret (.exit id l s)
  | .ret, l, s => .ret (.ret l s)
  | .bad, _, _ => .fail

/-- the results: each a slot (0), or n cells that a slot points to (n + 1) -/
def results1 (l : List Value) (s : St) : Nat × Nat → Option Value
  | (t, 0) => some (lget l t)
  | (t, 1) => rop .load1 [lget l t] s
  | (t, n + 2) => rop (.loadN n) [lget l t] s

def resultsL (l : List Value) (s : St) : List (Nat × Nat) → Option (List Value)
  | [] => some []
  | r :: rs => (results1 l s r).bind fun v => (resultsL l s rs).map (v :: ·)

def resultV (l : List Value) (s : St) (rs : List (Nat × Nat)) : Option Value :=
  match resultsL l s rs with
  | some [v] => some v
  | some vs => some (.tuple vs.toArray)
  | none => none

def padded (args : List Value) (n : Nat) : List Value := args ++ List.replicate (n - args.length) undef

/-- a function's call: n: how deep, m: how many rounds of a loop -/
def callN (T : Tab) (fns : FuncId → Option AFn) (m : Nat) : Nat → CallF
  | 0, _, _, _ => .fail
  | n + 1, f, args, s => match fns f with
    | none => .fail
    | some fn => (code T (callN T fns m n) m fn.body (padded args fn.ntmps) s).bind fun
      | .norm l s | .ret l s => match resultV l s fn.results with
        | some v => .ret (v, s)
        | none => .fail
      | .exit _ _ _ => .fail

end Go.Am
end
section
set_option linter.unusedSimpArgs false
set_option linter.unusedVariables false
set_option maxRecDepth 10000
namespace Go.Am
open Go.RowKit (Below)

structure Spot where
  block : Nat
  base : Nat
  limit : Nat
  grown : Nat

mutual
/-- a value of the second machine stands for one of the first; n: names below it are known -/
inductive VR (μ : Nat → Spot) (n : Nat) : Value → Value → Prop where
  | bool (b : Bool) : VR μ n (.bool b) (.bool b)
  | int (k : IntKind) (i : Int) : VR μ n (.int k i) (.int k i)
  | float (k : FloatKind) (b : Nat) : VR μ n (.float k b) (.float k b)
  | complex (k : FloatKind) (a b : Nat) : VR μ n (.complex k a b) (.complex k a b)
  | string (s : ByteArray) : VR μ n (.string s) (.string s)
  | nilPtr : VR μ n (.pointer none) (.pointer none)
  | ptr (i o : Nat) (h : i < n) : VR μ n (.pointer (some ⟨i, o, none⟩)) (.pointer (some ⟨(μ i).block, (μ i).base + o, none⟩))
  | nilSlice : VR μ n (.slice none 0 0) (.slice none 0 0)
  | slice (i o o' len cap cap' : Nat) (h : i < n) (h0 : len ≤ cap) (h1 : cap ≤ cap') (h2 : (μ i).grown = 0 → cap' = cap) (h3 : 0 < cap ∨ (μ i).grown = 0 → o' = (μ i).base + o) (h4 : (μ i).base ≤ o')
      (h5 : (μ i).grown ≠ 0 → o' + cap' * (μ i).grown ≤ (μ i).limit) : VR μ n (.slice (some ⟨i, o, none⟩) len cap) (.slice (some ⟨(μ i).block, o', none⟩) len cap')
  | nilMap : VR μ n (.map none) (.map none)
  | map (i : Nat) (h : i < n) : VR μ n (.map (some i)) (.map (some (μ i).block))
  | nilChan : VR μ n (.chan none) (.chan none)
  | func (fn : Fn) (x y x' y' : Array Value) (h1 : VRs μ n x.toList x'.toList) (h2 : VRs μ n y.toList y'.toList) : VR μ n (.func fn x y) (.func fn x' y')
  | nilFunc : VR μ n .nilFunc .nilFunc
  | iface (t : TypeId) (v v' : Value) (h : VR μ n v v') : VR μ n (.iface t v) (.iface t v')
  | nilIface : VR μ n .nilIface .nilIface
  | agg (x x' : Array Value) (h : VRs μ n x.toList x'.toList) : VR μ n (.agg x) (.agg x')
  | tuple (x x' : Array Value) (h : VRs μ n x.toList x'.toList) : VR μ n (.tuple x) (.tuple x')
  | void (a : Addr) : VR μ n (.slice (some ⟨0, 0, some 0⟩) 0 0) (.slice (some a) 0 0)
inductive VRs (μ : Nat → Spot) (n : Nat) : List Value → List Value → Prop where
  | nil : VRs μ n [] []
  | cons (v v' : Value) (l l' : List Value) (h : VR μ n v v') (hs : VRs μ n l l') : VRs μ n (v :: l) (v' :: l')
end

/-- more is known, and of what was known nothing has turned -/
def Agree (μ : Nat → Spot) (n : Nat) (μ' : Nat → Spot) (n' : Nat) : Prop := n ≤ n' ∧ ∀ i, i < n → μ' i = μ i

theorem Agree.refl (μ : Nat → Spot) (n : Nat) : Agree μ n μ n := ⟨Nat.le_refl _, fun _ _ => rfl⟩
theorem Agree.trans {μ μ' μ'' : Nat → Spot} {n n' n'' : Nat} (h : Agree μ n μ' n') (k : Agree μ' n' μ'' n'') : Agree μ n μ'' n'' :=
  ⟨Nat.le_trans h.1 k.1, fun i hi => (k.2 i (Nat.lt_of_lt_of_le hi h.1)).trans (h.2 i hi)⟩

theorem VR.mono {μ μ' : Nat → Spot} {n n' : Nat} (ha : Agree μ n μ' n') {v v' : Value} (h : VR μ n v v') : VR μ' n' v v' := by
  refine VR.rec (motive_1 := fun v v' _ => VR μ' n' v v') (motive_2 := fun l l' _ => VRs μ' n' l l') ?_ ?_ ?_ ?_ ?_ ?_ ?_ ?_ ?_ ?_ ?_ ?_ ?_ ?_ ?_ ?_ ?_ ?_ ?_ ?_ ?_ h
  all_goals intros
  case refine_7 i o h => rw [← ha.2 i h]; exact .ptr i o (Nat.lt_of_lt_of_le h ha.1)
  case refine_9 i o o' len cap cap' h h0 h1 h2 h3 h4 h5 => rw [← ha.2 i h] at h2 h3 h4 h5 ⊢; exact .slice i o o' len cap cap' (Nat.lt_of_lt_of_le h ha.1) h0 h1 h2 h3 h4 h5
  case refine_11 i h => rw [← ha.2 i h]; exact .map i (Nat.lt_of_lt_of_le h ha.1)
  all_goals constructor <;> assumption

theorem VRs.mono {μ μ' : Nat → Spot} {n n' : Nat} (ha : Agree μ n μ' n') : ∀ {l l' : List Value}, VRs μ n l l' → VRs μ' n' l l'
  | [], [], _ => .nil
  | _ :: _, _ :: _, .cons _ _ _ _ h hs => .cons _ _ _ _ (h.mono ha) (hs.mono ha)

section lists
variable {μ : Nat → Spot} {n : Nat}
theorem VRs.length {l l' : List Value} (h : VRs μ n l l') : l'.length = l.length := by
  induction l generalizing l' with
  | nil => cases h; rfl
  | cons v l ih => cases h with | cons _ _ _ _ h hs => simp [ih hs]
theorem VRs.get {l l' : List Value} (h : VRs μ n l l') : ∀ {j : Nat} {v : Value}, l[j]? = some v → ∃ v', l'[j]? = some v' ∧ VR μ n v v' := by
  induction l generalizing l' with
  | nil => intro j v hj; simp at hj
  | cons x l ih =>
    cases h with
    | cons _ x' _ l' h hs =>
      intro j v hj
      cases j with
      | zero => simp at hj; subst hj; exact ⟨x', rfl, h⟩
      | succ j => simpa using ih hs (by simpa using hj)
theorem VRs.of_get : ∀ {l l' : List Value}, l'.length = l.length → (∀ (j : Nat) (v : Value), l[j]? = some v → ∃ v', l'[j]? = some v' ∧ VR μ n v v') → VRs μ n l l'
  | [], [], _, _ => .nil
  | [], _ :: _, h, _ => by simp at h
  | _ :: _, [], h, _ => by simp at h
  | x :: l, x' :: l', h, hg => by
    obtain ⟨y, hy, hr⟩ := hg 0 x rfl
    simp at hy; subst hy
    exact .cons _ _ _ _ hr (VRs.of_get (by simpa using h) fun j v hj => by simpa using hg (j + 1) v (by simpa using hj))
theorem VRs.append {a a' b b' : List Value} (h : VRs μ n a a') (k : VRs μ n b b') : VRs μ n (a ++ b) (a' ++ b') := by
  induction a generalizing a' with
  | nil => cases h; exact k
  | cons x a ih => cases h with | cons _ _ _ _ h hs => exact .cons _ _ _ _ h (ih hs)
theorem VRs.take {l l' : List Value} (h : VRs μ n l l') : ∀ k, VRs μ n (l.take k) (l'.take k) := by
  induction l generalizing l' with
  | nil => cases h; intro k; simp; exact .nil
  | cons x l ih =>
    cases h with
    | cons _ _ _ _ h hs =>
      intro k
      cases k with
      | zero => exact .nil
      | succ k => exact .cons _ _ _ _ h (ih hs k)
theorem VRs.drop {l l' : List Value} (h : VRs μ n l l') : ∀ k, VRs μ n (l.drop k) (l'.drop k) := by
  induction l generalizing l' with
  | nil => cases h; intro k; simp; exact .nil
  | cons x l ih =>
    cases h with
    | cons _ _ _ _ h hs =>
      intro k
      cases k with
      | zero => exact .cons _ _ _ _ h hs
      | succ k => exact ih hs k
theorem VRs.lget {l l' : List Value} (h : VRs μ n l l') : ∀ k, VR μ n (lget l k) (l'.getD k undef) := by
  induction l generalizing l' with
  | nil => cases h; intro k; simp [Am.lget, undef]; exact .tuple _ _ .nil
  | cons x l ih =>
    cases h with
    | cons _ _ _ _ h hs =>
      intro k
      cases k with
      | zero => exact h
      | succ k => simpa [Am.lget] using ih hs k
theorem VRs.lset {l l' : List Value} (h : VRs μ n l l') {v v' : Value} (hv : VR μ n v v') : ∀ k, VRs μ n (lset l k v) (l'.set k v') := by
  induction l generalizing l' with
  | nil => cases h; intro k; simp [Am.lset]; exact .nil
  | cons x l ih =>
    cases h with
    | cons _ _ _ _ h hs =>
      intro k
      cases k with
      | zero => exact .cons _ _ _ _ hv hs
      | succ k => exact .cons _ _ _ _ h (ih hs k)
theorem VRs.replicate_undef : ∀ k, VRs μ n (List.replicate k undef) (List.replicate k undef)
  | 0 => .nil
  | k + 1 => .cons _ _ _ _ (.tuple _ _ .nil) (VRs.replicate_undef k)
theorem VR.cellsOf {v v' : Value} (h : VR μ n v v') : VRs μ n (cellsOf v) v'.cells.toList := by
  cases h <;> first | assumption | exact .cons _ _ _ _ (by constructor <;> assumption) .nil
theorem VR.oneCell {v v' : Value} (h : VR μ n v v') : oneCell v' = oneCell v := by cases h <;> rfl
end lists

/-- no address in it -/
def plainV : Value → Bool
  | .bool _ | .int _ _ | .float _ _ | .complex _ _ _ | .string _ | .pointer none | .slice none 0 0 | .map none | .chan none | .nilFunc | .nilIface => true
  | .func _ x y => x.isEmpty && y.isEmpty
  | .agg cs => cs.toList.all fun
    | .bool _ | .int _ _ | .float _ _ | .complex _ _ _ | .string _ | .pointer none | .slice none 0 0 | .map none | .chan none | .nilFunc | .nilIface => true
    | _ => false
  | .tuple vs => vs.isEmpty
  | _ => false

theorem plainV_rel {μ : Nat → Spot} {n : Nat} {v : Value} (h : plainV v = true) : VR μ n v v := by
  cases v with
  | pointer a => cases a with | none => exact .nilPtr | some a => simp [plainV] at h
  | slice a l c =>
    cases a with
    | none => cases l <;> cases c <;> first | exact .nilSlice | simp [plainV] at h
    | some a => simp [plainV] at h
  | map r => cases r with | none => exact .nilMap | some a => simp [plainV] at h
  | chan r => cases r with | none => exact .nilChan | some a => simp [plainV] at h
  | func fn x y =>
    simp [plainV] at h
    obtain ⟨rfl, rfl⟩ := h
    exact .func _ _ _ _ _ .nil .nil
  | agg cs =>
    refine .agg _ _ ?_
    have h : cs.toList.all _ = true := h
    revert h
    generalize cs.toList = l
    intro h
    induction l with
    | nil => exact .nil
    | cons x l ih =>
      rw [List.all_cons, Bool.and_eq_true] at h
      refine .cons _ _ _ _ ?_ (ih h.2)
      have h1 := h.1
      split at h1 <;> first | constructor | cases h1
  | tuple vs =>
    simp [plainV] at h
    subst h
    exact .tuple _ _ .nil
  | iface t v => simp [plainV] at h
  | _ => constructor

/-! ### the heap -/
theorem bitsGo_inj : ∀ (f g m k : Nat), m ≤ f → k ≤ g → bitsGo f m = bitsGo g k → m = k
  | 0, 0, m, k, h1, h2, _ => by omega
  | 0, g + 1, m, k, h1, h2, h => by
    by_cases hk : k = 0
    · omega
    · simp [bitsGo, hk] at h
  | f + 1, 0, m, k, h1, h2, h => by
    by_cases hk : m = 0
    · omega
    · simp [bitsGo, hk] at h
  | f + 1, g + 1, m, k, h1, h2, h => by
    by_cases hm : m = 0 <;> by_cases hk : k = 0
    · omega
    · simp [bitsGo, hk, hm] at h
    · simp [bitsGo, hk, hm] at h
    · simp only [bitsGo, hk, hm, if_false, List.cons.injEq] at h
      have := bitsGo_inj f g (m / 2) (k / 2) (by omega) (by omega) h.2
      have h1 := h.1
      rw [Bool.eq_iff_iff] at h1
      simp at h1
      omega
theorem bits_inj {m k : Nat} (h : bits m = bits k) : m = k := bitsGo_inj m k m k (Nat.le_refl _) (Nat.le_refl _) h

theorem Tr.get_nil (bs : List Bool) : Tr.nil.get bs = none := by cases bs <;> rfl
theorem Tr.get_set_same : ∀ (bs : List Bool) (t : Tr) (v : Option AObj), (t.set bs v).get bs = v
  | [], t, v => by cases t <;> rfl
  | b :: bs, t, v => by cases t <;> cases b <;> simp [Tr.set, Tr.get, Tr.get_set_same bs]
theorem Tr.get_set_other : ∀ (bs cs : List Bool) (t : Tr) (v : Option AObj), bs ≠ cs → (t.set bs v).get cs = t.get cs
  | [], [], _, _, h => absurd rfl h
  | [], c :: cs, t, v, _ => by cases t <;> cases c <;> simp [Tr.set, Tr.get]
  | b :: bs, [], t, v, _ => by cases t <;> cases b <;> simp [Tr.set, Tr.get]
  | b :: bs, c :: cs, t, v, h => by
    by_cases hb : bs = cs
    · have hbc : b ≠ c := fun e => h (by rw [e, hb])
      cases t <;> cases b <;> cases c <;> simp_all [Tr.set, Tr.get]
    · cases t <;> cases b <;> cases c <;> simp [Tr.set, Tr.get, Tr.get_set_other bs cs _ v hb]

theorem St.get_put_same (s : St) (i : Nat) (o : Option AObj) : (s.put i o).get i = o := Tr.get_set_same _ _ _
theorem St.get_put_other (s : St) {i j : Nat} (o : Option AObj) (h : i ≠ j) : (s.put i o).get j = s.get j := Tr.get_set_other _ _ _ _ fun e => h (bits_inj e)
theorem St.get_put (s : St) (i j : Nat) (o : Option AObj) : (s.put i o).get j = if i = j then o else s.get j := by
  split
  · rename_i h; rw [h, St.get_put_same]
  · rename_i h; rw [St.get_put_other _ _ h]
theorem St.get_new (s : St) (j : Nat) (o : AObj) : (s.new o).get j = if s.next = j then some o else s.get j := by
  show (s.put s.next (some o)).get j = _
  rw [St.get_put]
@[simp] theorem St.next_put (s : St) (i : Nat) (o : Option AObj) : (s.put i o).next = s.next := rfl
@[simp] theorem St.next_new (s : St) (o : AObj) : (s.new o).next = s.next + 1 := rfl

def AObj.owned : AObj → Bool
  | .row _ _ true => false
  | _ => true

/-- entries of a map -/
def ER (μ : Nat → Spot) (n clock : Nat) : List (Value × Value × Nat) → List MapEntry → Prop
  | [], [] => True
  | e :: es, e' :: es' => VR μ n e.1 e'.key ∧ VR μ n e.2.1 e'.val ∧ e'.born = e.2.2 ∧ e.2.2 < clock ∧ ER μ n clock es es'
  | _, _ => False

/-- what a name stands for is there -/
def IdOk (B0 : Nat) (μ : Nat → Spot) (n : Nat) (w : World) (i : Nat) : AObj → Prop
  | .row cs g ro => (μ i).grown = g ∧ (μ i).base + cs.length ≤ (μ i).limit ∧
      (∀ j v, cs[j]? = some v → ∃ v', w.cell? ⟨(μ i).block, (μ i).base + j, none⟩ = some v' ∧ VR μ n v v') ∧
      (ro = true → (μ i).block < B0 ∨ cs = []) ∧
      (ro = false → B0 ≤ (μ i).block ∧ (∀ x, (μ i).base ≤ x → x < (μ i).limit → (w.cell? ⟨(μ i).block, x, none⟩).isSome = true ∧ w.frozen? ⟨(μ i).block, x, none⟩ = false) ∧ (g = 0 → (μ i).base = 0))
  | .map es clock => B0 ≤ (μ i).block ∧ ∃ es', w.heap[(μ i).block]? = some (.map es' clock) ∧ ER μ n clock es es'.toList
  | .strIter s pos => B0 ≤ (μ i).block ∧ (μ i).base = 0 ∧ w.heap[(μ i).block]? = some (.stringIter s pos)
  | .mapIter m since seen last => B0 ≤ (μ i).block ∧ (μ i).base = 0 ∧ (∀ r, m = some r → r < n) ∧ w.heap[(μ i).block]? = some (.mapIter (m.map fun r => (μ r).block) since seen.toArray last)

structure Rel (B0 : Nat) (W0 : World) (μ : Nat → Spot) (s : St) (w : World) : Prop where
  low : B0 ≤ W0.heap.size
  below : Below B0 W0 w
  known : ∀ i o, s.get i = some o → i < s.next ∧ (μ i).block < w.heap.size ∧ IdOk B0 μ s.next w i o
  apart : ∀ i j oi oj, i ≠ j → s.get i = some oi → s.get j = some oj → oi.owned = true → oj.owned = true → (μ i).block ≠ (μ j).block

end Go.Am
end
section
set_option linter.unusedSimpArgs false
set_option linter.unusedVariables false
set_option maxRecDepth 10000
namespace Go.Am
open Go.RowKit (Below)

variable {B0 : Nat} {W0 : World} {μ : Nat → Spot} {s : St} {w : World}

def upd (μ : Nat → Spot) (i : Nat) (sp : Spot) : Nat → Spot := fun j => if j = i then sp else μ j

theorem upd_same (i : Nat) (sp : Spot) : upd μ i sp i = sp := by simp [upd]
theorem upd_agree (sp : Spot) (n : Nat) : Agree μ n (upd μ n sp) (n + 1) := ⟨by omega, fun i hi => by simp [upd]; omega⟩

theorem ER.mono {μ' : Nat → Spot} {n n' c c' : Nat} (ha : Agree μ n μ' n') (hc : c ≤ c') : ∀ {es : List (Value × Value × Nat)} {es' : List MapEntry}, ER μ n c es es' → ER μ' n' c' es es'
  | [], [], _ => trivial
  | _ :: _, _ :: _, ⟨h1, h2, h3, h4, h5⟩ => ⟨h1.mono ha, h2.mono ha, h3, by omega, h5.mono ha hc⟩

theorem IdOk.mono {μ' : Nat → Spot} {n n' : Nat} {w' : World} {i : Nat} {o : AObj} (ha : Agree μ n μ' n') (hi : i < n) (hb : w'.heap[(μ i).block]? = w.heap[(μ i).block]?) (h : IdOk B0 μ n w i o) : IdOk B0 μ' n' w' i o := by
  have hm := ha.2 i hi
  cases o with
  | row cs g ro =>
    obtain ⟨h1, h2, h3, h4, h5⟩ := h
    refine ⟨by rw [hm]; exact h1, by rw [hm]; exact h2, fun j v hj => ?_, by rw [hm]; exact h4, fun hr => ?_⟩
    · obtain ⟨v', hv, hr⟩ := h3 j v hj
      exact ⟨v', by rw [hm, World.cell?_of_block (w := w) hb]; exact hv, hr.mono ha⟩
    · obtain ⟨h6, h7, h8⟩ := h5 hr
      refine ⟨by rw [hm]; exact h6, fun x hx1 hx2 => ?_, by rw [hm]; exact h8⟩
      rw [hm] at hx1 hx2 ⊢
      rw [World.cell?_of_block (w := w) hb, World.frozen?_of_block (w := w) hb]
      exact h7 x hx1 hx2
  | map es clock =>
    obtain ⟨h1, es', h2, h3⟩ := h
    exact ⟨by rw [hm]; exact h1, es', by rw [hm, hb]; exact h2, h3.mono ha (Nat.le_refl _)⟩
  | strIter b pos =>
    obtain ⟨h1, h2, h3⟩ := h
    exact ⟨by rw [hm]; exact h1, by rw [hm]; exact h2, by rw [hm, hb]; exact h3⟩
  | mapIter m since seen last =>
    obtain ⟨h1, h2, h3, h4⟩ := h
    refine ⟨by rw [hm]; exact h1, by rw [hm]; exact h2, fun r hr => Nat.lt_of_lt_of_le (h3 r hr) ha.1, ?_⟩
    rw [hm, hb, h4]
    cases m with
    | none => rfl
    | some r => simp [ha.2 r (h3 r rfl)]

/-- the worlds' heaps are one -/
theorem Rel.heap {w' : World} (h : Rel B0 W0 μ s w) (hh : w'.heap = w.heap) (ho : w'.os = w.os) (ht : w'.tape = w.tape) (hu : w'.output = w.output) : Rel B0 W0 μ s w' :=
  ⟨h.low, ⟨ho.trans h.below.os, ht.trans h.below.tape, hu.trans h.below.output, by rw [hh]; exact h.below.size, fun k hk => by rw [hh]; exact h.below.block k hk⟩,
    fun i o hi => by
      obtain ⟨h1, h2, h3⟩ := h.known i o hi
      exact ⟨h1, by rw [hh]; exact h2, h3.mono (Agree.refl _ _) h1 (by rw [hh])⟩, h.apart⟩

theorem Rel.drew (h : Rel B0 W0 μ s w) (k : Nat) : Rel B0 W0 μ s { w with drawn := k } := h.heap rfl rfl rfl rfl

theorem Rel.size (h : Rel B0 W0 μ s w) : B0 ≤ w.heap.size := Nat.le_trans h.low h.below.size

theorem heap_alloc_lt (w : World) (c : Obj) {k : Nat} (h : k < w.heap.size) : (w.alloc c).heap[k]? = w.heap[k]? := Below.heap_alloc w c k h

/-- a new block -/
theorem Rel.new (h : Rel B0 W0 μ s w) (o : AObj) (c : Obj) (sp : Spot) (hsp : sp.block = w.heap.size) (hid : IdOk B0 (upd μ s.next sp) (s.next + 1) (w.alloc c) s.next o) :
    Rel B0 W0 (upd μ s.next sp) (s.new o) (w.alloc c) := by
  have ha := upd_agree (μ := μ) sp s.next
  refine ⟨h.low, h.below.alloc h.size c, fun i x hi => ?_, fun i j oi oj hij hi hj h1 h2 => ?_⟩
  · rw [St.get_new] at hi
    by_cases hn : s.next = i
    · subst hn
      simp at hi
      subst hi
      exact ⟨by simp, by rw [upd_same, hsp]; simp, hid⟩
    · simp [hn] at hi
      obtain ⟨k1, k2, k3⟩ := h.known i x hi
      refine ⟨by simp; omega, ?_, k3.mono ha k1 (heap_alloc_lt _ _ k2)⟩
      rw [ha.2 i k1]
      simp
      omega
  · rw [St.get_new] at hi hj
    have old : ∀ (k : Nat) (x : AObj), s.get k = some x → k < s.next ∧ (upd μ s.next sp k).block < w.heap.size := fun k x hk => by
      obtain ⟨k1, k2, _⟩ := h.known k x hk
      exact ⟨k1, by rw [ha.2 k k1]; exact k2⟩
    by_cases hn : s.next = i
    · subst hn
      simp [hij] at hj
      have := old j oj hj
      rw [upd_same, hsp]
      omega
    · by_cases hm : s.next = j
      · subst hm
        simp [hn] at hi
        have := old i oi hi
        rw [upd_same, hsp]
        omega
      · simp [hn] at hi
        simp [hm] at hj
        rw [ha.2 i (old i oi hi).1, ha.2 j (old j oj hj).1]
        exact h.apart i j oi oj hij hi hj h1 h2

/-- a new row of cells, all of it known, or with more behind it -/
theorem Rel.newRow (h : Rel B0 W0 μ s w) (cs : List Value) (g : Nat) (c : Array Value) (t : TypeId) (fr : Nat × Nat)
    (hc : ∀ (j : Nat) (v : Value), cs[j]? = some v → ∃ v', c[j]? = some v' ∧ VR μ s.next v v') (hl : cs.length ≤ c.size) (hf : ∀ x, x < c.size → ¬ (fr.1 ≤ x ∧ x < fr.2)) :
    Rel B0 W0 (upd μ s.next ⟨w.heap.size, 0, c.size, g⟩) (s.new (.row cs g false)) (w.alloc (.cells c t fr)) := by
  have ha := upd_agree (μ := μ) ⟨w.heap.size, 0, c.size, g⟩ s.next
  have hcell : ∀ x, (w.alloc (.cells c t fr)).cell? ⟨w.heap.size, x, none⟩ = c[x]? := fun x => by
    have : (w.alloc (.cells c t fr)).heap[w.heap.size]? = some (.cells c t fr) := by show (w.heap.push _)[w.heap.size]? = _; simp
    simp only [World.cell?, this]; rfl
  refine h.new _ _ _ rfl ?_
  unfold IdOk
  rw [upd_same]
  refine ⟨rfl, by simpa using hl, fun j v hj => ?_, fun hr => by simp at hr, fun _ => ⟨h.size, fun x _ hx => ?_, fun _ => rfl⟩⟩
  · obtain ⟨v', h1, h2⟩ := hc j v hj
    exact ⟨v', by simp only [Nat.zero_add]; rw [hcell]; exact h1, h2.mono ha⟩
  · simp only at hx
    refine ⟨by rw [hcell]; simp [hx], ?_⟩
    have hh : (w.alloc (.cells c t fr)).heap[w.heap.size]? = some (.cells c t fr) := by show (w.heap.push _)[w.heap.size]? = _; simp
    have := hf x hx
    simp only [World.frozen?, hh]
    simpa using this

/-- what owns its block owns it alone: another name in that block has no cells -/
theorem Rel.alone (h : Rel B0 W0 μ s w) {i j : Nat} {oi oj : AObj} (hij : j ≠ i) (hi : s.get i = some oi) (hj : s.get j = some oj) (hown : oi.owned = true) (hb : (μ j).block = (μ i).block) :
    ∃ g, oj = .row [] g true := by
  cases hoj : oj.owned with
  | true => exact absurd hb (h.apart j i oj oi hij hj hi hoj hown)
  | false =>
    cases oj with
    | row cs g ro =>
      cases ro with
      | false => simp [AObj.owned] at hoj
      | true =>
        have k := (h.known j _ hj).2.2.2.2.2.1 rfl
        have hB : B0 ≤ (μ i).block := by
          have := (h.known i oi hi).2.2
          cases oi with
          | row cs' g' ro' =>
            cases ro' with
            | true => simp [AObj.owned] at hown
            | false => exact (this.2.2.2.2 rfl).1
          | map es c => exact this.1
          | strIter b p => exact this.1
          | mapIter a b c d => exact this.1
        rcases k with k | k
        · omega
        · subst k; exact ⟨g, rfl⟩
    | _ => simp [AObj.owned] at hoj

/-- the block of one name turns; the others stay -/
theorem Rel.turn (h : Rel B0 W0 μ s w) {i : Nat} {oi : AObj} (hi : s.get i = some oi) (hown : oi.owned = true) (o' : AObj) {w' : World}
    (hos : w'.os = w.os) (htape : w'.tape = w.tape) (hout : w'.output = w.output) (hsize : w'.heap.size = w.heap.size)
    (hblk : ∀ k, k ≠ (μ i).block → w'.heap[k]? = w.heap[k]?) (hid : IdOk B0 μ s.next w' i o') : Rel B0 W0 μ (s.put i (some o')) w' := by
  have hB : B0 ≤ (μ i).block := by
    have := (h.known i oi hi).2.2
    cases oi with
    | row cs' g' ro' =>
      cases ro' with
      | true => simp [AObj.owned] at hown
      | false => exact (this.2.2.2.2 rfl).1
    | map es c => exact this.1
    | strIter b p => exact this.1
    | mapIter a b c d => exact this.1

  refine ⟨h.low, h.below.trans ⟨hos, htape, hout, by omega, fun k hk => hblk k (by omega)⟩, fun j x hj => ?_, fun j k oj ok hjk hj hk h1 h2 => ?_⟩
  · rw [St.get_put] at hj
    by_cases hij : i = j
    · subst hij
      simp at hj
      subst hj
      exact ⟨(h.known i oi hi).1, by rw [hsize]; exact (h.known i oi hi).2.1, hid⟩
    · simp [hij] at hj
      obtain ⟨k1, k2, k3⟩ := h.known j x hj
      refine ⟨k1, by rw [hsize]; exact k2, ?_⟩
      by_cases hb : (μ j).block = (μ i).block
      · obtain ⟨g, rfl⟩ := h.alone (fun e => hij e.symm) hi hj hown hb
        obtain ⟨m1, m2, _, _, _⟩ := k3
        exact ⟨m1, m2, fun j v hj => by simp at hj, fun _ => Or.inr rfl, fun hr => by simp at hr⟩
      · exact k3.mono (Agree.refl _ _) k1 (hblk _ hb)
  · rw [St.get_put] at hj hk
    have own : ∀ (y : Nat) (x : AObj), i ≠ y → s.get y = some x → x.owned = true → (μ y).block ≠ (μ i).block := fun y x hy hx ho => h.apart y i x oi (fun e => hy e.symm) hx hi ho hown
    by_cases hij : i = j
    · subst hij
      simp [hjk] at hk
      exact fun e => own k ok hjk hk h2 e.symm
    · by_cases hik : i = k
      · subst hik
        simp [hij] at hj
        exact own j oj hij hj h1
      · simp [hij] at hj
        simp [hik] at hk
        exact h.apart j k oj ok hjk hj hk h1 h2

theorem setCells_fields (b : Nat) : ∀ (vs : List Value) (o : Nat) (w : World), (w.setCells b o vs).os = w.os ∧ (w.setCells b o vs).tape = w.tape ∧ (w.setCells b o vs).output = w.output ∧ (w.setCells b o vs).heap.size = w.heap.size ∧
    ∀ k, k ≠ b → (w.setCells b o vs).heap[k]? = w.heap[k]?
  | [], _, _ => ⟨rfl, rfl, rfl, rfl, fun _ _ => rfl⟩
  | v :: r, o, w => by
    obtain ⟨h1, h2, h3, h4, h5⟩ := setCells_fields b r (o + 1) (w.setCell ⟨b, o, none⟩ v)
    exact ⟨h1, h2, h3, by rw [World.setCells, h4]; simp, fun k hk => by rw [World.setCells, h5 k hk]; exact Below.heap_setCell _ _ _ _ hk⟩

theorem lputs_get (l vs : List Value) (o j : Nat) (h : o + vs.length ≤ l.length) : (lputs l o vs)[j]? = if j < o then l[j]? else if j < o + vs.length then vs[j - o]? else l[j]? := by
  unfold lputs
  split
  · rename_i h1
    rw [List.append_assoc, List.getElem?_append_left (by simp; omega)]
    simp [h1]
  · rename_i h1
    split
    · rename_i h2
      rw [List.append_assoc, List.getElem?_append_right (by simp; omega), List.getElem?_append_left (by simp; omega)]
      congr 1
      simp; omega
    · rename_i h2
      rw [List.getElem?_append_right (by simp; omega)]
      simp only [List.getElem?_drop, List.length_append, List.length_take]
      congr 1
      omega
theorem lputs_length (l vs : List Value) (o : Nat) (h : o + vs.length ≤ l.length) : (lputs l o vs).length = l.length := by
  unfold lputs
  simp
  omega

/-- the cells of a row, as the first machine has them -/
theorem IdOk.cellAt {i : Nat} {cs : List Value} {g : Nat} {ro : Bool} {n : Nat} (h : IdOk B0 μ n w i (.row cs g ro)) {j : Nat} {v : Value} (hj : cs[j]? = some v) :
    ∃ v', w.cell? ⟨(μ i).block, (μ i).base + j, none⟩ = some v' ∧ VR μ n v v' := h.2.2.1 j v hj

/-- a store of cells into a row that is owned, from a place on; perhaps beyond what is known of it -/
theorem IdOk.stored {i : Nat} {cs : List Value} {g n : Nat} (h : IdOk B0 μ n w i (.row cs g false)) (o : Nat) (vs vs' : List Value) (hv : VRs μ n vs vs') (ho : o + vs.length ≤ cs.length) :
    IdOk B0 μ n (w.setCells (μ i).block ((μ i).base + o) vs') i (.row (lputs cs o vs) g false) := by
  obtain ⟨h1, h2, h3, _, h5⟩ := h
  obtain ⟨h6, h7, h8⟩ := h5 rfl
  have hlen := hv.length
  refine ⟨h1, by rw [lputs_length _ _ _ ho]; exact h2, fun j v hj => ?_, fun hr => by simp at hr, fun _ => ⟨h6, fun x hx1 hx2 => ?_, h8⟩⟩
  · rw [lputs_get _ _ _ _ ho] at hj
    by_cases c1 : j < o
    · simp only [c1, if_true] at hj
      obtain ⟨v', k1, k2⟩ := h3 j v hj
      exact ⟨v', by rw [World.cell?_setCells_out _ _ _ _ _ (fun _ _ => Or.inl (by simp; omega))]; exact k1, k2⟩
    · by_cases c2 : j < o + vs.length
      · simp only [c1, c2, if_false, if_true] at hj
        obtain ⟨v', k1, k2⟩ := hv.get hj
        refine ⟨v', ?_, k2⟩
        have hin := World.cell?_setCells_in (μ i).block vs' ((μ i).base + o) w (fun k hk => (h7 _ (by omega) (by omega)).1) (j - o) (by omega)
        rw [show (μ i).base + j = (μ i).base + o + (j - o) by omega, hin, ← k1]
        simp [show j - o < vs'.length by omega]
      · simp only [c1, c2, if_false] at hj
        obtain ⟨v', k1, k2⟩ := h3 j v hj
        exact ⟨v', by rw [World.cell?_setCells_out _ _ _ _ _ (fun _ _ => Or.inr (by simp; omega))]; exact k1, k2⟩
  · obtain ⟨k1, k2⟩ := h7 x hx1 hx2
    refine ⟨?_, by rw [World.frozen?_setCells]; exact k2⟩
    by_cases c : (μ i).base + o ≤ x ∧ x < (μ i).base + o + vs'.length
    · have hin := World.cell?_setCells_in (μ i).block vs' ((μ i).base + o) w (fun k hk => (h7 _ (by omega) (by omega)).1) (x - ((μ i).base + o)) (by omega)
      rw [show (μ i).base + o + (x - ((μ i).base + o)) = x by omega] at hin
      rw [hin]; rfl
    · rw [World.cell?_setCells_out _ _ _ _ _ (fun _ _ => by simp; omega)]
      exact k1

theorem Rel.stored (h : Rel B0 W0 μ s w) {i : Nat} {cs : List Value} {g : Nat} (hi : s.get i = some (.row cs g false)) (o : Nat) (vs vs' : List Value) (hv : VRs μ s.next vs vs') (ho : o + vs.length ≤ cs.length) :
    Rel B0 W0 μ (s.put i (some (.row (lputs cs o vs) g false))) (w.setCells (μ i).block ((μ i).base + o) vs') := by
  obtain ⟨f1, f2, f3, f4, f5⟩ := setCells_fields (μ i).block vs' ((μ i).base + o) w
  exact h.turn hi rfl _ f1 f2 f3 f4 f5 ((h.known i _ hi).2.2.stored o vs vs' hv ho)

/-- a store into the block of a map, an iterator -/
theorem Rel.setObj (h : Rel B0 W0 μ s w) {i : Nat} {oi : AObj} (hi : s.get i = some oi) (hown : oi.owned = true) (o' : AObj) (c : Obj)
    (hid : IdOk B0 μ s.next { w with heap := w.heap.setIfInBounds (μ i).block c } i o') : Rel B0 W0 μ (s.put i (some o')) { w with heap := w.heap.setIfInBounds (μ i).block c } :=
  h.turn hi hown o' rfl rfl rfl (by simp) (fun k hk => by simp [Ne.symm hk]) hid

/-- a name is given up -/
theorem Rel.kill (h : Rel B0 W0 μ s w) (i : Nat) : Rel B0 W0 μ (s.put i none) w :=
  ⟨h.low, h.below, fun j x hj => by
      rw [St.get_put] at hj
      by_cases hij : i = j
      · simp [hij] at hj
      · simp [hij] at hj; exact h.known j x hj,
    fun j k oj ok hjk hj hk h1 h2 => by
      rw [St.get_put] at hj hk
      by_cases hij : i = j
      · simp [hij] at hj
      · by_cases hik : i = k
        · simp [hik] at hk
        · simp [hij] at hj; simp [hik] at hk
          exact h.apart j k oj ok hjk hj hk h1 h2⟩

/-- a new name for cells that are there, in a block that no other name owns -/
theorem Rel.rename (h : Rel B0 W0 μ s w) (o : AObj) (sp : Spot) (hb : sp.block < w.heap.size) (hid : IdOk B0 (upd μ s.next sp) (s.next + 1) w s.next o)
    (hal : o.owned = true → ∀ j oj, s.get j = some oj → oj.owned = true → (μ j).block ≠ sp.block) : Rel B0 W0 (upd μ s.next sp) (s.new o) w := by
  have ha := upd_agree (μ := μ) sp s.next
  refine ⟨h.low, h.below, fun i x hi => ?_, fun i j oi oj hij hi hj h1 h2 => ?_⟩
  · rw [St.get_new] at hi
    by_cases hn : s.next = i
    · subst hn
      simp at hi
      subst hi
      exact ⟨by simp, by rw [upd_same]; exact hb, hid⟩
    · simp [hn] at hi
      obtain ⟨k1, k2, k3⟩ := h.known i x hi
      exact ⟨by simp; omega, by rw [ha.2 i k1]; exact k2, k3.mono ha k1 rfl⟩
  · rw [St.get_new] at hi hj
    by_cases hn : s.next = i
    · subst hn
      simp at hi; subst hi
      simp [hij] at hj
      rw [upd_same, ha.2 j (h.known j oj hj).1]
      exact fun e => hal h1 j oj hj h2 e.symm
    · by_cases hm : s.next = j
      · subst hm
        simp at hj; subst hj
        simp [hn] at hi
        rw [upd_same, ha.2 i (h.known i oi hi).1]
        exact hal h2 i oi hi h1
      · simp [hn] at hi
        simp [hm] at hj
        rw [ha.2 i (h.known i oi hi).1, ha.2 j (h.known j oj hj).1]
        exact h.apart i j oi oj hij hi hj h1 h2

end Go.Am
end
