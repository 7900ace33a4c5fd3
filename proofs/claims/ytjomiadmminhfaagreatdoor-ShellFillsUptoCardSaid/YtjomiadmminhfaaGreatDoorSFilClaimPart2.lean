/-
  From the loaded program's code to the second machine's: types looked up, what it does not take left out ('bad').
-/
import Derived.Test.YtjomiadmminhfaaGreatDoorSFilClaimPart1
import Derived.Still
set_option linter.unusedSimpArgs false
set_option linter.unusedVariables false
set_option maxRecDepth 10000
namespace Go.Am

/-- b: how many slots the function has -/
def argOf (P : Program) (b : Nat) : Operand → Option Arg
  | .tmp t => if t < b then some (.t t) else none
  | .const v => if plainV v then some (.c v) else none
  | .global g => if g < P.globals.size then some (.g g) else none
  | .func f => some (.c (.func (.func f) #[] #[]))

def argsOf (P : Program) (b : Nat) : List Operand → Option (List Arg)
  | [] => some []
  | x :: xs => (argOf P b x).bind fun a => (argsOf P b xs).map (a :: ·)

def aggT (P : Program) (t : TypeId) : Option Bool :=
  match P.underlying t with
  | some (.struct _) | some (.array _ _) => some true
  | some _ => some false
  | none => none

def sizeT (P : Program) (t : TypeId) : Option Nat := (P.info? t).map (·.size)
def bytesT (P : Program) (t : TypeId) : Option Nat := (P.info? t).map (·.bytes)
/-- a type's zero value, where it has no address in it -/
def zeroT (P : Program) (t : TypeId) : Option Value :=
  match P.info? t with
  | some i => match i.zero with
    | some v => if plainV v then some v else none
    | none => none
  | none => none

/-- where the parts of a struct, an array lie -/
def placeFn (P : Program) (t : TypeId) : Option (Nat → Option (Nat × Nat)) :=
  match P.underlying t with
  | some (.struct fields) => (fields.toList.mapM fun f => (P.info? f.type).map fun i => (f.offset, i.size)).map fun ps i => ps[i]?
  | some (.array _ elem) | some (.slice elem) => (sizeT P elem).map fun n i => some (i * n, n)
  | _ => none

def placesBy (f : Nat → Option (Nat × Nat)) : List Nat → Option (List (Nat × Nat))
  | [] => some []
  | i :: is => (f i).bind fun p => (placesBy f is).map (p :: ·)

def placesOf (P : Program) (t : TypeId) (is : List Nat) : Option (List (Nat × Nat)) := (placeFn P t).bind fun f => placesBy f is

def keyT (P : Program) (t : TypeId) : Option KeyK :=
  match P.underlying t with
  | some (.int _) => some .int
  | some .string => some .str
  | some .bool => some .bool
  | _ => none

def isConst : Operand → Bool
  | .const _ => true
  | _ => false

def nilKOf : TypeDesc → Option NilK
  | .pointer _ => some .ptr
  | .slice _ => some .slice
  | .map _ _ => some .map
  | .func _ _ _ => some .func
  | .interface _ => some .iface
  | _ => none

def compCall (P : Program) (c : Call) : Option (AOp × List Operand) :=
  match c.callee with
  | .value (.func f) => some (.call f, c.args.toList)
  | .value x => some (.callV, x :: c.args.toList)
  | .invoke r name => some (.invoke name, r :: c.args.toList)
  | .builtin b =>
    match b, c.argTypes.toList, c.args.toList with
    | .len, [t], [x] => match P.underlying t with
      | some .string => some (.p .lenStr, [x])
      | some (.slice _) => some (.p .lenSl, [x])
      | some (.map _ _) => some (.r .lenMap, [x])
      | some (.array n _) => some (.p (.lenArr n), [x])
      | _ => none
    | .append, [t, u], [x, y] => match P.underlying t, P.underlying u with
      | some (.slice e), some (.slice _) | some (.slice e), some .string =>
        (sizeT P e).bind fun n => (bytesT P e).bind fun b => (zeroT P e).bind fun z => if (cellsOf z).length = n then some (.w (.append n b), [x, y]) else none
      | _, _ => none
    | .copy, [t, _], [x, y] => match P.underlying t with
      | some (.slice e) => (sizeT P e).map fun n => (.w (.copy n), [x, y])
      | _ => none
    | .delete, [t, _], [x, y] => match P.underlying t with
      | some (.map k _) => (keyT P k).map fun kk => (.w (.delete kk), [x, y])
      | _ => none
    | .min, _, xs => some (.p .min, xs)
    | .max, _, xs => some (.p .max, xs)
    | _, _, _ => none

def compOp (P : Program) (o : Op) : Option (AOp × List Operand) :=
  match o with
  | .move x | .assign x => some (.p .move, [x])
  | .pick c a b => some (.p .pick, [c, a, b])
  | .alloc e => (zeroT P e).bind fun z => if (cellsOf z).all oneCell then some (.w (.new (cellsOf z)), []) else none
  | .box e x => (sizeT P e).map fun n => (.w (.box n), [x])
  | .build t parts => match P.underlying t with
    | some (.struct _) | some (.array _ _) => (zeroT P t).bind fun z => (placesOf P t (parts.toList.map (·.1))).map fun ps => (.p (.build (cellsOf z) ps), parts.toList.map (·.2))
    | _ => none
  | .buildSlice t len parts => match P.underlying t with
    | some (.slice e) => (zeroT P e).bind fun z => (sizeT P e).bind fun n => (placesOf P t (parts.toList.map (·.1))).bind fun ps =>
      if len * n ≤ 16777216 ∧ (cellsOf z).length = n then some (.w (.sliceLit (replicateL len (cellsOf z)) len ps), parts.toList.map (·.2)) else none
    | _ => none
  | .load t a => (aggT P t).bind fun b => if b then (sizeT P t).map fun n => (.r (.loadN n), [a]) else some (.r .load1, [a])
  | .store t a x => (sizeT P t).map fun n => (.w (.store n), [a, x])
  | .nilCheck x => some (.p .nilCheck, [x])
  | .binOp op t x y _ => match P.underlying t with
    | some (.int _) | some .string => some (.p (.bin op), [x, y])
    | some .bool => match op with
      | .eql => some (.p (.binB false), [x, y])
      | .neq => some (.p (.binB true), [x, y])
      | _ => none
    | some d => match nilKOf d with
      | some k => if isConst x || isConst y then match op with
        | .eql => some (.p (.nilEq k false), [x, y])
        | .neq => some (.p (.nilEq k true), [x, y])
        | _ => none else none
      | none => none
    | none => none
  | .unOp op _ x => some (.p (.un op), [x])
  | .convert src dst x => match P.underlying src, P.underlying dst with
    | some (.int _), some (.int k) => some (.p (.convInt k), [x])
    | some .string, some (.slice e) => match P.underlying e with
      | some (.int .u8) => some (.w .strToBytes, [x])
      | _ => none
    | some (.slice e), some .string => match P.underlying e with
      | some (.int .u8) => some (.r .bytesToStr, [x])
      | _ => none
    | _, _ => none
  | .makeInterface t x => match P.underlying t with
    | some (.interface _) | none => none
    | some _ => some (.p (.mkIface t), [x])
  | .makeFunc fn first captured => some (.p (.mkFunc fn first.size), first.toList ++ captured.toList)
  | .makeMap _ none => some (.w .mkMap, [])
  | .makeSlice t l c => match P.underlying t with
    | some (.slice e) => (zeroT P e).bind fun z => (sizeT P e).bind fun n => (bytesT P e).bind fun b => if (cellsOf z).length = n ∧ 0 < n then some (.w (.mkSlice (cellsOf z) b), [l, c]) else none
    | _ => none
  | .slice t x lo hi mx => match P.underlying t, mx with
    | some .string, none => some (.p (.slStr lo.isSome hi.isSome), x :: (lo.toList ++ hi.toList))
    | some (.slice e), none => (sizeT P e).map fun n => (.r (.sl n lo.isSome hi.isSome), x :: (lo.toList ++ hi.toList))
    | some (.array n e), none => (sizeT P e).map fun z => (.r (.slArr n z lo.isSome hi.isSome), x :: (lo.toList ++ hi.toList))
    | some (.slice e), some m => match lo, hi with
      | none, some h => (sizeT P e).map fun _ => (.w .sl3, [x, h, m])
      | _, _ => none
    | _, _ => none
  | .fieldAddr t x f => match P.underlying t with
    | some (.struct fields) => match fields[f]? with
      | some fd => match sizeT P fd.type with
        | some (_ + 1) => some (.p (.fieldAddr fd.offset), [x])
        | _ => none
      | none => none
    | _ => none
  | .field t x f => match P.underlying t with
    | some (.struct fields) => match fields[f]? with
      | some fd => (aggT P fd.type).bind fun b => (sizeT P fd.type).map fun n => (.p (.field b fd.offset n), [x])
      | none => none
    | _ => none
  | .indexAddr t x i => match P.underlying t with
    | some (.array n e) => (sizeT P e).map fun z => (.p (.indexAddrArr n z), [x, i])
    | some (.slice e) => (sizeT P e).map fun z => (.p (.indexAddr z), [x, i])
    | _ => none
  | .index t x i => match P.underlying t with
    | some .string => some (.p .indexStr, [x, i])
    | some (.array n e) => (aggT P e).bind fun b => (sizeT P e).map fun z => (.p (.indexArr n z b), [x, i])
    | _ => none
  | .lookup t x i ok => match P.underlying t with
    | some (.map k e) => (keyT P k).bind fun kk => (zeroT P e).map fun z => (.r (.lookup kk z ok), [x, i])
    | _ => none
  | .mapUpdate t m k x | .insert t m k x => match P.underlying t with
    | some (.map kt _) => (keyT P kt).map fun kk => (.w (.mapSet kk), [m, k, x])
    | _ => none
  | .range t x => match P.underlying t with
    | some .string => some (.w (.range true), [x])
    | some (.map _ _) => some (.w (.range false), [x])
    | _ => none
  | .next it str => some (.next str, [it])
  | .entry it => some (.r .entry, [it])
  | .typeAssert x _ t ok => match P.underlying t with
    | some (.interface _) | none => none
    | some _ => (zeroT P t).map fun z => (.p (.assertT t z ok), [x])
  | .extract t i => some (.p (.extract i), [t])
  | .call c => compCall P c
  | _ => none

def compGuard (b : Nat) (ops : Array Oper) (g : Option (Nat × Bool)) : Option (Option (Nat × Bool)) :=
  match g with
  | none => some none
  | some (j, want) => match (ops[j]?).bind (·.dst) with
    | some d => if d < b then some (some (d, want)) else none
    | none => none

def dstIn (b : Nat) : Option Nat → Bool
  | some d => Nat.blt d b
  | none => true

/-- what is deferred: what is called, and with what -/
def compDefer : Call → Option (List Operand)
  | { callee := .value x, args := as, .. } => some (x :: as.toList)
  | _ => none

def deferOf : Op → Option Call
  | .defer c => some c
  | _ => none

def compOper (P : Program) (b : Nat) (fl : Bool) (ops : Array Oper) (o : Oper) : Option AOper :=
  match deferOf o.op with
  | some c => if fl && o.dst.isNone && o.guard.isNone then (compDefer c).bind fun xs => (argsOf P b xs).map fun as => { dst := some b, op := .p .push, args := .t b :: as, guard := none } else none
  | none => (compOp P o.op).bind fun r => (argsOf P b r.2).bind fun as => (compGuard b ops o.guard).bind fun g => if dstIn b o.dst then some { dst := o.dst, op := r.1, args := as, guard := g } else none

def compOpers (P : Program) (b : Nat) (fl : Bool) (ops : Array Oper) : List Oper → Option (List AOper)
  | [] => some []
  | o :: os => (compOper P b fl ops o).bind fun a => (compOpers P b fl ops os).map (a :: ·)

def AOp.pure : AOp → Bool
  | .p _ => true
  | _ => false
def AOp.reads : AOp → Bool
  | .p _ | .r _ => true
  | _ => false

/-- two operations that come to the same in either order, their slots apart -/
def AOp.swap (x y : AOp) : Bool := x.pure || y.pure || (x.reads && y.reads)

/-- the slots that an operation looks at -/
def looks (o : AOper) : List Nat := (o.args.filterMap fun | .t n => some n | _ => none) ++ (match o.guard with | some (g, _) => [g] | none => [])

/-- two operations whose slots are apart, and that may be exchanged -/
def freeB (x y : AOper) : Bool :=
  (match x.dst with
   | some d => !(looks y).contains d && y.dst != some d
   | none => true) &&
  (match y.dst with
   | some d => !(looks x).contains d
   | none => true) && x.op.swap y.op

/-- what an operation waits for, and what these wait for: a bit each -/
def ancOf (acc : List Nat) (o : Oper) : Nat := o.after.toList.foldl (fun m e => bif Region.binds .any e then m ||| (1 <<< e.on) ||| (acc.getD e.on 0) else m) 0

def ancs : List Oper → List Nat → List Nat
  | [], acc => acc
  | o :: os, acc => ancs os (acc ++ [ancOf acc o])

/-- each pair of operations, the later one not waiting for the earlier one: may be taken in either order -/
def swapsOk (aops : List AOper) (ops : List Oper) : Bool :=
  let m := ancs ops []
  (List.range ops.length).all fun j => match aops[j]? with
    | some a => (List.range j).all fun i => (m.getD j 0).testBit i || (match aops[i]? with | some b => freeB b a | none => false)
    | none => false

/-- a read of a cell, whose value is kept -/
def isLoad (o : AOper) : Bool :=
  match o.op with
  | .r .load1 => o.dst.isSome
  | _ => false

/-- x's slot is not y's, and y doesn't look at it -/
def unseenB (x y : AOper) : Bool :=
  match x.dst with
  | some d => !(looks y).contains d && y.dst != some d
  | none => true

/-- as freeB; or the first one reads a cell, of which the run is asked to show that it is as it was behind the second one -/
def freeB2 (x y : AOper) : Bool :=
  unseenB x y && (match y.dst with
   | some d => !(looks x).contains d
   | none => true) && (x.op.swap y.op || (isLoad x && !y.op.reads))

def selfB (x : AOper) : Bool :=
  !isLoad x || (match x.dst with
  | some d => !(looks x).contains d
  | none => true)

def swapsOk2 (aops : List AOper) (ops : List Oper) : Bool :=
  let m := ancs ops []
  (List.range ops.length).all fun j => match aops[j]? with
    | some a => selfB a && (List.range j).all fun i => match aops[i]? with
      | some b => ((m.getD j 0).testBit i || freeB2 b a) && (!isLoad b || unseenB a b)
      | none => false
    | none => false

/-- the cell is asked for again -/
def chkOp (o : AOper) : AOper :=
  match o.dst with
  | some d => ⟨none, .r .same1, .t d :: o.args, o.guard⟩
  | none => o

def chksOf (m : List Nat) (aops : List AOper) (j : Nat) (a : AOper) : List AOper :=
  if a.op.reads then [] else (List.range j).filterMap fun i => match aops[i]? with
    | some b => if isLoad b && !((m.getD j 0).testBit i) then some (chkOp b) else none
    | none => none

def withChks (m : List Nat) (aops : List AOper) : List AOper → Nat → List AOper
  | [], _ => []
  | o :: os, k => o :: (chksOf m aops k o ++ withChks m aops os (k + 1))

def compRegion (P : Program) (b : Nat) (fl : Bool) (ops : Array Oper) (draw : Bool) : AC :=
  match compOpers P b fl ops ops.toList with
  | some aops => if draw && !(Region.lexB .any ops && swapsOk aops ops.toList) then (if Region.lexB .any ops && swapsOk2 aops ops.toList then .region (withChks (ancs ops.toList []) aops aops 0) else .bad) else .region aops
  | none => .bad

def comp (P : Program) (n : Nat) (fl : Bool) : Code → AC
  | .skip => .skip
  | .region _ ops draw => compRegion P n fl ops draw
  | .seq a b => .seq (comp P n fl a) (comp P n fl b)
  | .cond c x y => match argOf P n c with
    | some a => .cond a (comp P n fl x) (comp P n fl y)
    | none => .bad
  | .block id b => .block id (comp P n fl b)
  | .loop b => .loop (comp P n fl b)
  | .exit id => .exit id
  | .ret => .ret
  | _ => .bad

/-- something is deferred in this code -/
def codeDefers : Code → Bool
  | .region _ ops _ => ops.toList.any fun o => (deferOf o.op).isSome
  | .seq a b => codeDefers a || codeDefers b
  | .cond _ a b => codeDefers a || codeDefers b
  | .block _ b => codeDefers b
  | .loop b => codeDefers b
  | _ => false

def compResult (P : Program) (b : Nat) : ResultVar → Option (Nat × Nat)
  | .tmp t => if t < b then some (t, 0) else none
  | .cell a t => if a < b then match aggT P t, sizeT P t with
    | some false, some _ => some (a, 1)
    | some true, some n => some (a, n + 2)
    | _, _ => none else none

def compResults (P : Program) (b : Nat) : List ResultVar → Option (List (Nat × Nat))
  | [] => some []
  | r :: rs => (compResult P b r).bind fun x => (compResults P b rs).map (x :: ·)

/-- a whole function -/
def compFn (P : Program) (f : FuncId) : Option AFn :=
  match P.funcs[f]? with
  | some fn => match fn.body with
    | some b => if fn.name == "runtime.NumGoroutine" then none else (compResults P fn.ntmps fn.results.toList).map fun rs => { ntmps := fn.ntmps, body := comp P fn.ntmps (codeDefers b) b, results := rs, defs := codeDefers b }
    | none => none
  | none => none

end Go.Am
