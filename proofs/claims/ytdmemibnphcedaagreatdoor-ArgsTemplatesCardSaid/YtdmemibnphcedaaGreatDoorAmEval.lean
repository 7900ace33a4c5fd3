/-
  A SECOND, SMALLER MACHINE: code with its types looked up beforehand, run over a heap whose blocks have names of their own; no tape: what a slice grows to is not seen, and a slot that two slices might share is given up when one of them grows. Definitions alone.
-/
import Derived.Calls
set_option linter.unusedSimpArgs false
set_option linter.unusedVariables false
set_option maxRecDepth 10000
namespace Go.Am

/-! ### what a run comes to -/
inductive Out (α : Type) where
  | ret (a : α)
  | fail
  | ask (n : Nat) (k : Nat → Out α)

def Out.bind {α β : Type} : Out α → (α → Out β) → Out β
  | .ret a, f => f a
  | .fail, _ => .fail
  | .ask n k, f => .ask n fun i => (k i).bind f

/-- every end is as said, and none fails -/
def Out.all {α : Type} : Out α → (α → Prop) → Prop
  | .ret a, p => p a
  | .fail, _ => False
  | .ask n k, p => 0 < n ∧ ∀ i, i < n → (k i).all p

def Out.ofOption {α : Type} : Option α → Out α
  | some a => .ret a
  | none => .fail

/-! ### the heap -/
inductive AObj where
  /-- cells; grown: what lies behind them is not known (0: nothing does; else the cells of an element); ro: it is not written -/
  | row (cs : List Value) (grown : Nat) (ro : Bool)
  | map (es : List (Value × Value × Nat)) (clock : Nat)
  | strIter (s : ByteArray) (pos : Nat)
  | mapIter (m : Option Nat) (since : Nat) (seen : List Nat) (last : Nat)
  deriving Inhabited

inductive Tr where
  | nil
  | nd (l : Tr) (v : Option AObj) (r : Tr)
  deriving Inhabited

def bitsGo : Nat → Nat → List Bool
  | 0, _ => []
  | f + 1, n => if n = 0 then [] else (n % 2 == 1) :: bitsGo f (n / 2)

def bits (n : Nat) : List Bool := bitsGo n n

def Tr.get : Tr → List Bool → Option AObj
  | .nil, _ => none
  | .nd _ v _, [] => v
  | .nd l _ r, b :: bs => bif b then r.get bs else l.get bs

def Tr.set (t : Tr) (bs : List Bool) (v : Option AObj) : Tr :=
  match bs with
  | [] => match t with
    | .nil => .nd .nil v .nil
    | .nd l _ r => .nd l v r
  | b :: bs => match t with
    | .nil => bif b then .nd .nil none (Tr.set .nil bs v) else .nd (Tr.set .nil bs v) none .nil
    | .nd l x r => bif b then .nd l x (Tr.set r bs v) else .nd (Tr.set l bs v) x r

structure St where
  heap : Tr
  next : Nat
  deriving Inhabited

def St.get (s : St) (i : Nat) : Option AObj := s.heap.get (bits i)
def St.put (s : St) (i : Nat) (o : Option AObj) : St := { s with heap := s.heap.set (bits i) o }
def St.new (s : St) (o : AObj) : St := { heap := s.heap.set (bits s.next) (some o), next := s.next + 1 }

/-! ### lists of cells -/
def lget : List Value → Nat → Value
  | [], _ => undef
  | v :: _, 0 => v
  | _ :: l, n + 1 => lget l n

def lset : List Value → Nat → Value → List Value
  | [], _, _ => []
  | _ :: l, 0, v => v :: l
  | x :: l, n + 1, v => x :: lset l n v

/-- the cells from a place on become these -/
def lputs (l : List Value) (o : Nat) (vs : List Value) : List Value := l.take o ++ vs ++ l.drop (o + vs.length)

def cellsOf : Value → List Value
  | .agg cs => cs.toList
  | v => [v]

def oneCell : Value → Bool
  | .agg _ | .tuple _ => false
  | _ => true

/-- one and the same (as far as it is told) -/
def cellEq : Value → Value → Bool
  | .bool a, .bool b => a == b
  | .int k a, .int k' b => decide (k = k') && decide (a = b)
  | .string a, .string b => decide (a = b)
  | .pointer a, .pointer b => decide (a = b)
  | .slice a n c, .slice a' n' c' => decide (a = a') && decide (n = n') && decide (c = c')
  | .map a, .map b => decide (a = b)
  | .nilFunc, .nilFunc => true
  | .nilIface, .nilIface => true
  | _, _ => false

theorem cellEq_eq {a b : Value} (h : cellEq a b = true) : a = b := by
  cases a <;> cases b <;> simp [cellEq] at h <;> first | rfl | (subst h; rfl) | (obtain ⟨rfl, rfl⟩ := h; rfl) | (obtain ⟨⟨rfl, rfl⟩, rfl⟩ := h; rfl) | (obtain ⟨rfl, rfl, rfl⟩ := h; rfl)

/-- int's wrap, the common case first -/
def wrapF (k : IntKind) (n : Int) : Int :=
  match k with
  | .i64 => if -9223372036854775808 ≤ n ∧ n ≤ 9223372036854775807 then n else IntKind.wrap .i64 n
  | .u8 => if 0 ≤ n ∧ n ≤ 255 then n else IntKind.wrap .u8 n
  | .i32 => if -2147483648 ≤ n ∧ n ≤ 2147483647 then n else IntKind.wrap .i32 n
  | .u32 => if 0 ≤ n ∧ n ≤ 4294967295 then n else IntKind.wrap .u32 n
  | .u64 => if 0 ≤ n ∧ n ≤ 18446744073709551615 then n else IntKind.wrap .u64 n
  | k => IntKind.wrap k n

/-! ### operands, operations -/
inductive Arg where
  | t (n : Nat)
  | c (v : Value)
  | g (n : Nat)
  deriving Inhabited

def Arg.ev (l : List Value) : Arg → Value
  | .t n => lget l n
  | .c v => v
  | .g n => .pointer (some ⟨n, 0, none⟩)

/-- kinds of values that may be nil -/
inductive NilK where
  | ptr | slice | map | func | iface
  deriving Inhabited

/-- what looks at its operands alone -/
inductive POp where
  | move
  | pick
  | build (zero : List Value) (parts : List (Nat × Nat))
  | nilCheck
  | bin (op : BinOp)
  | binB (neg : Bool)
  | nilEq (k : NilK) (neg : Bool)
  | un (op : UnOp)
  | convInt (k : IntKind)
  | mkIface (t : TypeId)
  | mkFunc (fn : Fn) (first : Nat)
  | fieldAddr (off : Nat)
  | field (agg : Bool) (off size : Nat)
  | indexAddr (esz : Nat)
  | indexAddrArr (n esz : Nat)
  | indexStr
  | indexArr (n esz : Nat) (agg : Bool)
  | slStr (lo hi : Bool)
  | extract (i : Nat)
  | assertT (t : TypeId) (zero : Value) (ok : Bool)
  | lenStr
  | lenSl
  | lenArr (n : Nat)
  | min
  | max
  | push
  deriving Inhabited

/-- kinds of keys -/
inductive KeyK where
  | int | str | bool
  deriving Inhabited

/-- what reads the heap besides -/
inductive ROp where
  | load1
  | loadN (n : Nat)
  | lookup (k : KeyK) (zero : Value) (ok : Bool)
  | lenMap
  | bytesToStr
  | entry
  | sl (esz : Nat) (lo hi : Bool)
  | slArr (n esz : Nat) (lo hi : Bool)
  | same1
  deriving Inhabited

/-- what turns the heap -/
inductive WOp where
  | new (cells : List Value)
  | box (n : Nat)
  | sliceLit (cells : List Value) (len : Nat) (parts : List (Nat × Nat))
  | store (n : Nat)
  | mkMap
  | mkSlice (zero : List Value) (bytes : Nat)
  | sl3
  | strToBytes
  | mapSet (k : KeyK)
  | append (esz bytes : Nat)
  | copy (esz : Nat)
  | delete (k : KeyK)
  | range (str : Bool)
  deriving Inhabited

inductive AOp where
  | p (o : POp)
  | r (o : ROp)
  | w (o : WOp)
  | next (str : Bool)
  | call (f : FuncId)
  | callV
  | invoke (name : String)
  deriving Inhabited

structure AOper where
  dst : Option Nat
  op : AOp
  args : List Arg
  guard : Option (Nat × Bool)
  deriving Inhabited

inductive AC where
  | skip
  | region (ops : List AOper)
  | seq (a b : AC)
  | cond (c : Arg) (thn els : AC)
  | block (id : Nat) (body : AC)
  | loop (body : AC)
  | exit (id : Nat)
  | ret
  | bad
  deriving Inhabited

/-! ### operations on values -/
def binInt (op : BinOp) (k : IntKind) (a b : Int) : Option Value :=
  match op with
  | .add => some (.int k (wrapF k (a + b)))
  | .sub => some (.int k (wrapF k (a - b)))
  | .mul => some (.int k (wrapF k (a * b)))
  | .quo => if b = 0 then none else some (.int k (wrapF k (a.tdiv b)))
  | .rem => if b = 0 then none else some (.int k (a.tmod b))
  | .and => some (.int k (k.wrap (BitVec.ofInt k.bits a &&& BitVec.ofInt k.bits b).toNat))
  | .or => some (.int k (k.wrap (BitVec.ofInt k.bits a ||| BitVec.ofInt k.bits b).toNat))
  | .xor => some (.int k (k.wrap (BitVec.ofInt k.bits a ^^^ BitVec.ofInt k.bits b).toNat))
  | .andNot => some (.int k (k.wrap (BitVec.ofInt k.bits a &&& ~~~ BitVec.ofInt k.bits b).toNat))
  | .eql => some (.bool (a == b))
  | .neq => some (.bool (a != b))
  | .lss => some (.bool (a < b))
  | .leq => some (.bool (a ≤ b))
  | .gtr => some (.bool (a > b))
  | .geq => some (.bool (a ≥ b))
  | _ => none

def shiftInt (op : BinOp) (k : IntKind) (a y : Int) : Option Value :=
  if y < 0 then none else
  match op with
  | .shl => some (.int k (k.wrap (a * 2 ^ (Nat.min y.toNat k.bits))))
  | .shr => some (.int k (a.fdiv (2 ^ (Nat.min y.toNat k.bits))))
  | _ => none

def binStr (op : BinOp) (x y : ByteArray) : Option Value :=
  match op with
  | .add => if ((x.size + y.size : Nat) : Int) > 9223372036854775807 then none else some (.string (x ++ y))
  | .eql => some (.bool (x.data.toList == y.data.toList))
  | .neq => some (.bool !(x.data.toList == y.data.toList))
  | .lss => some (.bool (Op.bytesLess x.data.toList y.data.toList))
  | .leq => some (.bool (Op.bytesLess x.data.toList y.data.toList || x.data.toList == y.data.toList))
  | .gtr => some (.bool !(Op.bytesLess x.data.toList y.data.toList || x.data.toList == y.data.toList))
  | .geq => some (.bool !(Op.bytesLess x.data.toList y.data.toList))
  | _ => none

def binV (op : BinOp) (x y : Value) : Option Value :=
  match x, y with
  | .int k a, .int k' b =>
    match op with
    | .shl | .shr => shiftInt op k a b
    | _ => if k = k' then binInt op k a b else none
  | .string a, .string b => binStr op a b
  | _, _ => none

def isNil : NilK → Value → Option Bool
  | .ptr, .pointer a => some a.isNone
  | .slice, .slice a _ _ => some a.isNone
  | .map, .map a => some a.isNone
  | .func, .nilFunc => some true
  | .func, .func _ _ _ => some false
  | .iface, .nilIface => some true
  | .iface, .iface _ _ => some false
  | _, _ => none

/-- an operand held against nil -/
def nilEqV (k : NilK) (neg : Bool) (x y : Value) : Option Value :=
  match isNil k x, isNil k y with
  | some a, some b => if a || b then some (.bool (xor neg (a && b))) else none
  | _, _ => none

def unV (op : UnOp) (x : Value) : Option Value :=
  match op, x with
  | .neg, .int k n => some (.int k (wrapF k (0 - n)))
  | .xor, .int k n => some (.int k (k.wrap (BitVec.ofInt k.bits (if k.signed then -1 else k.max) ^^^ BitVec.ofInt k.bits n).toNat))
  | .not, .bool b => some (.bool !b)
  | _, _ => none

/-- a bound of a slice: at least lo, at most hi -/
def bound (lo hi : Nat) : Value → Option Nat
  | .int _ n => if (lo : Int) ≤ n ∧ n ≤ (hi : Int) then some n.toNat else none
  | _ => none

/-- the two bounds of x[lo:hi] out of the operands: the upper one first -/
def bounds (len cap : Nat) (lo hi : Bool) (vs : List Value) : Option (Nat × Nat) :=
  match lo, hi, vs with
  | false, false, [] => some (0, len)
  | true, false, [a] => (bound 0 len a).map fun l => (l, len)
  | false, true, [b] => (bound 0 cap b).map fun h => (0, h)
  | true, true, [a, b] => (bound 0 cap b).bind fun h => (bound 0 h a).map fun l => (l, h)
  | _, _, _ => none

def addA (a : Addr) (n : Nat) : Addr := if n = 0 then a else { block := a.block, off := a.off + n }

def fillL (cells : List Value) : List (Nat × Nat) → List Value → Option (List Value)
  | [], [] => some cells
  | (off, size) :: ps, v :: vs =>
    if (cellsOf v).length = size ∧ off + size ≤ cells.length then fillL (lputs cells off (cellsOf v)) ps vs else none
  | _, _ => none

def minV : List Value → Option Value
  | [.int k a, .int _ b] => some (.int k (if b < a then b else a))
  | [.int k a, .int _ b, .int _ c] => some (.int k (if c < (if b < a then b else a) then c else (if b < a then b else a)))
  | _ => none
def maxV : List Value → Option Value
  | [.int k a, .int _ b] => some (.int k (if b > a then b else a))
  | [.int k a, .int _ b, .int _ c] => some (.int k (if c > (if b > a then b else a) then c else (if b > a then b else a)))
  | _ => none

def pop (o : POp) (vs : List Value) : Option Value :=
  match o, vs with
  | .move, [x] => some x
  | .pick, [.bool c, a, b] => some (bif c then a else b)
  | .build zero parts, vs => (fillL zero parts vs).map fun cs => .agg cs.toArray
  | .nilCheck, [.pointer (some a)] => some (.pointer (some a))
  | .nilCheck, [.iface t v] => some (.iface t v)
  | .nilCheck, [.func (.func f) x y] => some (.func (.func f) x y)
  | .bin op, [x, y] => binV op x y
  | .binB neg, [.bool a, .bool b] => some (.bool (xor neg (a == b)))
  | .nilEq k neg, [x, y] => nilEqV k neg x y
  | .un op, [x] => unV op x
  | .convInt k, [.int _ n] => some (.int k (wrapF k n))
  | .mkIface t, [x] => some (.iface t x)
  | .mkFunc fn n, vs => some (.func fn (vs.take n).toArray (vs.drop n).toArray)
  | .fieldAddr off, [.pointer (some a)] => some (.pointer (some (addA a off)))
  | .field true off size, [.agg cs] => some (.agg ((cs.toList.drop off).take size).toArray)
  | .field false off _, [.agg cs] => cs.toList[off]?
  | .indexAddr esz, [.slice (some a) len _, .int _ i] => if 0 ≤ i ∧ i < (len : Int) then some (.pointer (some (addA a (i.toNat * esz)))) else none
  | .indexAddrArr n esz, [.pointer (some a), .int _ i] => if 0 ≤ i ∧ i < (n : Int) then some (.pointer (some (addA a (i.toNat * esz)))) else none
  | .indexStr, [.string s, .int _ i] => if 0 ≤ i then (s.data.toList[i.toNat]?).map fun b => .int .u8 b.toNat else none
  | .indexArr n esz agg, [.agg cs, .int _ i] =>
    if 0 ≤ i ∧ i < (n : Int) then (if agg then some (.agg ((cs.toList.drop (i.toNat * esz)).take esz).toArray) else cs.toList[i.toNat * esz]?) else none
  | .slStr lo hi, .string s :: vs => (bounds s.size s.size lo hi vs).map fun (l, h) => .string (s.extract l h)
  | .extract i, [.tuple vs] => vs.toList[i]?
  | .assertT t zero ok, [.iface u v] =>
    if u = t then some (bif ok then .tuple #[v, .bool true] else v) else bif ok then some (.tuple #[zero, .bool false]) else none
  | .assertT _ zero true, [.nilIface] => some (.tuple #[zero, .bool false])
  | .lenStr, [.string s] => some (.int .i64 s.size)
  | .lenSl, [.slice _ n _] => some (.int .i64 n)
  | .lenArr n, _ => some (.int .i64 n)
  | .min, vs => minV vs
  | .max, vs => maxV vs
  | .push, .tuple es :: .func (.func f) first cap :: vs => if es.toList.isEmpty then none else some (.tuple (.func (.func f) (first.toList ++ vs).toArray cap :: es.toList).toArray)
  | _, _ => none

/-! ### operations that read -/
def sameV : KeyK → Value → Value → Option Bool
  | .int, .int k a, .int k' b => if k = k' then some (a == b) else none
  | .str, .string a, .string b => some (a.data.toList == b.data.toList)
  | .bool, .bool a, .bool b => some (a == b)
  | _, _, _ => none

def findV (kk : KeyK) (k : Value) : List (Value × Value × Nat) → Nat → Option (Option (Nat × Value))
  | [], _ => some none
  | e :: es, i =>
    match sameV kk k e.1 with
    | some true => some (some (i, e.2.1))
    | some false => findV kk k es (i + 1)
    | none => none

/-- the cells of a row from a place on -/
def St.cells (s : St) (a : Addr) (n : Nat) : Option (List Value) :=
  match s.get a.block with
  | some (.row cs _ _) => if a.off + n ≤ cs.length then some ((cs.drop a.off).take n) else none
  | _ => none

def u8s : List Value → Option (List UInt8)
  | [] => some []
  | .int .u8 n :: l => (u8s l).map fun r => UInt8.ofNat n.toNat :: r
  | _ => none

def keyOk : KeyK → Value → Bool
  | .int, .int _ _ | .str, .string _ | .bool, .bool _ => true
  | _, _ => false

def rop (o : ROp) (vs : List Value) (s : St) : Option Value :=
  match o, vs with
  | .load1, [.pointer (some a)] =>
    match s.get a.block with
    | some (.row cs _ _) => cs[a.off]?
    | _ => none
  | .loadN n, [.pointer (some a)] => (s.cells a n).map fun cs => .agg cs.toArray
  | .same1, [v, .pointer (some a)] =>
    match s.get a.block with
    | some (.row cs _ _) => match cs[a.off]? with
      | some u => if cellEq u v then some undef else none
      | none => none
    | _ => none
  | .lookup kk zero ok, [.map none, k] => if keyOk kk k then some (bif ok then .tuple #[zero, .bool false] else zero) else none
  | .lookup kk zero ok, [.map (some r), k] =>
    match s.get r with
    | some (.map es _) => if keyOk kk k then
        match findV kk k es 0 with
        | some (some (_, v)) => some (bif ok then .tuple #[v, .bool true] else v)
        | some none => some (bif ok then .tuple #[zero, .bool false] else zero)
        | none => none
      else none
    | _ => none
  | .lenMap, [.map none] => some (.int .i64 0)
  | .lenMap, [.map (some r)] =>
    match s.get r with
    | some (.map es _) => some (.int .i64 es.length)
    | _ => none
  | .sl _ lo hi, .slice none 0 0 :: vs => (bounds 0 0 lo hi vs).map fun _ => .slice none 0 0
  | .sl esz lo hi, .slice (some a) len cap :: vs =>
    if cap = 0 then (bounds len cap lo hi vs).map fun (l, h) => .slice (some a) (h - l) (cap - l) else
    match s.get a.block with
    | some (.row _ g _) => if g = 0 ∨ g = esz then
        (bounds len cap lo hi vs).map fun (l, h) => .slice (some (if cap = l then a else addA a (l * esz))) (h - l) (cap - l)
      else none
    | _ => none
  | .slArr n esz lo hi, .pointer (some a) :: vs =>
    match s.get a.block with
    | some (.row _ 0 _) => (bounds n n lo hi vs).map fun (l, h) => .slice (some (if n = l then a else addA a (l * esz))) (h - l) (n - l)
    | _ => none
  | .bytesToStr, [.slice none _ _] => some (.string .empty)
  | .bytesToStr, [.slice (some a) len _] => (s.cells a len).bind fun cs => (u8s cs).map fun l => .string ⟨l.toArray⟩
  | .entry, [.pointer (some a)] =>
    match s.get a.block with
    | some (.mapIter (some m) _ seen last) =>
      match s.get m with
      | some (.map es clock) => if clock = last ∧ a.off = 0 then
          match seen.getLast? with
          | some st => (es.find? (·.2.2 == st)).map fun e => .tuple #[e.1, e.2.1]
          | none => none
        else none
      | _ => none
    | _ => none
  | _, _ => none

/-! ### operations that turn the heap -/
def St.newPtr (s : St) (cells : List Value) : Option (Value × St) :=
  some (.pointer (some ⟨s.next, 0, none⟩), s.new (.row cells 0 false))

/-- a slice's, a string's cells -/
def St.srcCells (s : St) (esz : Nat) : Value → Option (List Value)
  | .slice none _ _ => some []
  | .slice (some a) n _ => if n = 0 then some [] else s.cells a (n * esz)
  | .string b => if esz = 1 then some (b.data.toList.map fun c => .int .u8 c.toNat) else none
  | _ => none
def srcLen : Value → Option Nat
  | .slice _ n _ => some n
  | .string b => some b.size
  | _ => none

def St.storeAt (s : St) (a : Addr) (vs : List Value) : Option St :=
  match s.get a.block with
  | some (.row cs g false) => if a.off + vs.length ≤ cs.length ∧ vs.all oneCell then some (s.put a.block (some (.row (lputs cs a.off vs) g false))) else none
  | _ => none

def St.grow (s : St) (esz n : Nat) (cells : List Value) : Value × St :=
  (.slice (some ⟨s.next, 0, none⟩) n n, s.new (.row cells esz false))

def appendV (esz bytes : Nat) (dst src : Value) (s : St) : Option (Value × St) :=
  match srcLen src, s.srcCells esz src with
  | some n, some new =>
    if n = 0 then
      match dst with
      | .slice a len cap => some (.slice a len cap, s)
      | _ => none
    else if esz = 0 ∨ ¬ new.all oneCell then none
    else match dst with
      | .slice none 0 0 => if n * bytes ≤ 1099511627776 ∧ n ≤ 1099511627776 then some (s.grow esz n new) else none
      | .slice (some ⟨bk, of, none⟩) len cap =>
        if (len + n) * bytes ≤ 1099511627776 ∧ len + n ≤ 1099511627776 then
          match s.get bk, s.cells ⟨bk, of, none⟩ (len * esz) with
          | some (.row cs g ro), some old =>
            if g = 0 then
              if len + n ≤ cap then (s.storeAt (addA ⟨bk, of, none⟩ (len * esz)) new).map fun s' => (.slice (some ⟨bk, of, none⟩) (len + n) cap, s')
              else some (s.grow esz (len + n) (old ++ new))
            else if g = esz ∧ ro = false ∧ of ≤ cs.length then some ((s.put bk none).grow esz (len + n) (old ++ new))
            else none
          | _, _ => none
        else none
      | _ => none
  | _, _ => none

def replicateL (n : Nat) (zero : List Value) : List Value :=
  match n with
  | 0 => []
  | n + 1 => zero ++ replicateL n zero

def wop (o : WOp) (vs : List Value) (s : St) : Option (Value × St) :=
  match o, vs with
  | .new cells, [] => s.newPtr cells
  | .box n, [v] => if (cellsOf v).length = n then s.newPtr (cellsOf v) else none
  | .sliceLit cells len parts, vs => (fillL cells parts vs).map fun cs => (.slice (some ⟨s.next, 0, none⟩) len len, s.new (.row cs 0 false))
  | .store n, [.pointer (some a), v] => if (cellsOf v).length = n then (s.storeAt a (cellsOf v)).map fun s' => (undef, s') else none
  | .mkMap, [] => some (.map (some s.next), s.new (.map [] 0))
  | .mkSlice zero bytes, [.int _ l, .int _ c] =>
    if 0 ≤ l ∧ l ≤ c ∧ c * bytes ≤ 1099511627776 ∧ c ≤ 1099511627776 then
      some (.slice (some ⟨s.next, 0, none⟩) l.toNat c.toNat, s.new (.row (replicateL c.toNat zero) 0 false))
    else none
  | .sl3, [.slice (some a) _ cap, .int _ h, .int _ m] =>
    if h = 0 ∧ m = 0 ∧ 0 < cap then
      match s.get a.block with
      | some (.row _ _ _) => some (.slice (some ⟨s.next, 0, none⟩) 0 0, s.new (.row [] 0 true))
      | _ => none
    else none
  | .sl3, [.slice none 0 0, .int _ h, .int _ m] => if h = 0 ∧ m = 0 then some (.slice none 0 0, s) else none
  | .strToBytes, [.string b] =>
    some (s.grow 1 b.size (b.data.toList.map fun c => .int .u8 c.toNat))
  | .mapSet kk, [.map (some r), k, v] =>
    match s.get r with
    | some (.map es clock) => if keyOk kk k then
        match findV kk k es 0 with
        | some (some (i, _)) => some (undef, s.put r (some (.map (es.modify i fun e => (k, v, e.2.2)) clock)))
        | some none => some (undef, s.put r (some (.map (es ++ [(k, v, clock)]) (clock + 1))))
        | none => none
      else none
    | _ => none
  | .append esz bytes, [dst, src] => appendV esz bytes dst src s
  | .copy esz, [.slice base dLen _, src] =>
    match srcLen src, s.srcCells esz src with
    | some n, some cs =>
      match base with
      | none => some (.int .i64 0, s)
      | some ⟨bk, of, none⟩ => (s.storeAt ⟨bk, of, none⟩ (cs.take (Nat.min n dLen * esz))).map fun s' => (.int .i64 (Nat.min n dLen), s')
      | some _ => none
    | _, _ => none
  | .delete kk, [.map none, k] => if keyOk kk k then some (.tuple #[], s) else none
  | .delete kk, [.map (some r), k] =>
    match s.get r with
    | some (.map es clock) => if keyOk kk k then
        match findV kk k es 0 with
        | some (some (i, _)) => some (.tuple #[], s.put r (some (.map (es.eraseIdx i) clock)))
        | some none => some (.tuple #[], s)
        | none => none
      else none
    | _ => none
  | .range true, [.string b] => some (.pointer (some ⟨s.next, 0, none⟩), s.new (.strIter b 0))
  | .range false, [.map none] => some (.pointer (some ⟨s.next, 0, none⟩), s.new (.mapIter none 0 [] 0))
  | .range false, [.map (some r)] =>
    match s.get r with
    | some (.map _ clock) => some (.pointer (some ⟨s.next, 0, none⟩), s.new (.mapIter (some r) clock [] clock))
    | _ => none
  | _, _ => none

/-- a step of a range -/
def nextV (str : Bool) (vs : List Value) (s : St) : Out (Value × St) :=
  match vs with
  | [.pointer (some a)] =>
    if a.off ≠ 0 then .fail else
    match s.get a.block with
    | some (.strIter b pos) =>
      if str = false then .fail else
      if pos < b.size then
        .ret (.tuple #[.bool true, .int .i64 pos, .int .i32 (Utf8.decode b pos).1], s.put a.block (some (.strIter b (pos + (Utf8.decode b pos).2))))
      else .ret (.tuple #[.bool false], s)
    | some (.mapIter none _ _ _) => if str then .fail else .ret (.tuple #[.bool false], s)
    | some (.mapIter (some m) since seen last) =>
      match s.get m with
      | some (.map es clock) =>
        if str = true ∨ clock ≠ since ∨ clock ≠ last then .fail else
        match es.filter fun e => !seen.contains e.2.2 with
        | [] => .ret (.tuple #[.bool false], s)
        | l => .ask l.length fun i =>
          match l[i]? with
          | some e => .ret (.tuple #[.bool true, e.1, e.2.1], s.put a.block (some (.mapIter (some m) since (seen ++ [e.2.2]) clock)))
          | none => .fail
      | _ => .fail
    | _ => .fail
  | _ => .fail

/-! ### code -/
structure AFn where
  ntmps : Nat
  body : AC
  results : List (Nat × Nat)
  /-- it defers: its last slot holds what -/
  defs : Bool
  deriving Inhabited

inductive Res where
  | norm (l : List Value) (s : St)
  | exit (id : Nat) (l : List Value) (s : St)
  | ret (l : List Value) (s : St)

abbrev CallF := FuncId → List Value → St → Out (Value × St)

def yieldedL (l : List Value) (g : Nat) : Option Bool :=
  match lget l g with
  | .bool b => some b
  | _ => none

def wantedL (o : AOper) (l : List Value) : Bool :=
  match o.guard with
  | none => true
  | some (g, want) => yieldedL l g == some want

def putL (l : List Value) (d : Option Nat) (v : Value) : List Value :=
  match d with
  | some d => lset l d v
  | none => l

/-- the methods that a program's values have: type, name, function (the receiver is handed over as it is) -/
structure Tab where
  meth : TypeId → String → Option FuncId

def opStep (T : Tab) (F : CallF) (o : AOp) (vs : List Value) (s : St) : Out (Value × St) :=
  match o with
  | .p o => match pop o vs with
    | some v => .ret (v, s)
    | none => .fail
  | .r o => match rop o vs s with
    | some v => .ret (v, s)
    | none => .fail
  | .w o => Out.ofOption (wop o vs s)
  | .next str => nextV str vs s
  | .call f => F f vs s
  | .callV => match vs with
    | .func (.func f) first captured :: vs => F f (first.toList ++ vs ++ captured.toList) s
    | _ => .fail
  | .invoke name => match vs with
    | .iface t v :: vs => match T.meth t name with
      | some f => F f (v :: vs) s
      | none => .fail
    | _ => .fail

def runOps (T : Tab) (F : CallF) : List AOper → List Value → St → Out (List Value × St)
  | [], l, s => .ret (l, s)
  | o :: rest, l, s =>
    if wantedL o l then (opStep T F o.op (o.args.map (Arg.ev l)) s).bind fun r => runOps T F rest (putL l o.dst r.1) r.2
    else runOps T F rest (putL l o.dst undef) s

def iter (body : List Value → St → Out Res) : Nat → List Value → St → Out Res
  | 0, _, _ => .fail
  | m + 1, l, s => (body l s).bind fun
    | .norm l s => iter body m l s
    | r => .ret r

def code (T : Tab) (F : CallF) (m : Nat) : AC → List Value → St → Out Res
  | .skip, l, s => .ret (.norm l s)
  | .region ops, l, s => (runOps T F ops l s).bind fun r => .ret (.norm r.1 r.2)
  | .seq a b, l, s => (code T F m a l s).bind fun
    | .norm l s => code T F m b l s
    | r => .ret r
  | .cond c x y, l, s => match c.ev l with
    | .bool b => bif b then code T F m x l s else code T F m y l s
    | _ => .fail
  | .block id b, l, s => (code T F m b l s).bind fun
    | .exit id' l s => if id' = id then .ret (.norm l s) else .ret (.exit id' l s)
    | r => .ret r
  | .loop b, l, s => iter (code T F m b) m l s
  | .exit id, l, s => .ret (.exit id l s)
  | .ret, l, s => .ret (.ret l s)
  | .bad, _, _ => .fail

/-- the results: each a slot (0), or n cells that a slot points to (n + 1) -/
def results1 (l : List Value) (s : St) : Nat × Nat → Option Value
  | (t, 0) => some (lget l t)
  | (t, 1) => rop .load1 [lget l t] s
  | (t, n + 2) => rop (.loadN n) [lget l t] s

def resultsL (l : List Value) (s : St) : List (Nat × Nat) → Option (List Value)
  | [] => some []
  | r :: rs => (results1 l s r).bind fun v => (resultsL l s rs).map (v :: ·)

def resultV (l : List Value) (s : St) (rs : List (Nat × Nat)) : Option Value :=
  match resultsL l s rs with
  | some [v] => some v
  | some vs => some (.tuple vs.toArray)
  | none => none

def padded (args : List Value) (n : Nat) : List Value := args ++ List.replicate (n - args.length) undef

/-- a function's call: n: how deep, m: how many rounds of a loop -/
def callN (T : Tab) (fns : FuncId → Option AFn) (m : Nat) : Nat → CallF
  | 0, _, _, _ => .fail
  | n + 1, f, args, s => match fns f with
    | none => .fail
    | some fn => (code T (callN T fns m n) m fn.body (padded args fn.ntmps) s).bind fun
      | .norm l s | .ret l s => match resultV l s fn.results with
        | some v => .ret (v, s)
        | none => .fail
      | .exit _ _ _ => .fail

end Go.Am
