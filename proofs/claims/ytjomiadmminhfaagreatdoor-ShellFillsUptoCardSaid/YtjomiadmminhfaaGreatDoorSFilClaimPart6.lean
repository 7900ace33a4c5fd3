/-
  What single operations of a symbolic run come to: equations for simp.
-/
import Derived.Test.YtjomiadmminhfaaGreatDoorSFilClaimPart5
set_option linter.unusedSimpArgs false
set_option linter.unusedVariables false
set_option maxRecDepth 10000
namespace Go.Am


def getK (o : Option AObj) (K : AObj → Prop) : Prop :=
  match o with
  | some a => K a
  | none => False

def nthK (cs : List Value) (o : Nat) (K : Value → Prop) : Prop :=
  match cs[o]? with
  | some v => K v
  | none => False

def rowK (ob : AObj) (K : List Value → Nat → Bool → Prop) : Prop :=
  match ob with
  | .row cs g ro => K cs g ro
  | _ => False

def mapK (ob : AObj) (K : List (Value × Value × Nat) → Nat → Prop) : Prop :=
  match ob with
  | .map es c => K es c
  | _ => False

/-- a lookup's value, out of where the key was found -/
def lookK (r : Option (Option (Nat × Value))) (zero : Value) (ok : Bool) (K : Value → Prop) : Prop :=
  match r with
  | some (some (_, v)) => K (bif ok then .tuple #[v, .bool true] else v)
  | some none => K (bif ok then .tuple #[zero, .bool false] else zero)
  | none => False

/-- a map behind a key's setting -/
def setK (r : Option (Option (Nat × Value))) (k v : Value) (es : List (Value × Value × Nat)) (c : Nat) (K : List (Value × Value × Nat) → Nat → Prop) : Prop :=
  match r with
  | some (some (i, _)) => K (es.modify i fun e => (k, v, e.2.2)) c
  | some none => K (es ++ [(k, v, c)]) (c + 1)
  | none => False

/-- a slot's value goes on -/
def getE (e : Env) (n : Nat) (K : Value → Prop) : Prop :=
  match e.get? n with
  | some v => K v
  | none => False

def argE (e : Env) (a : Arg) (K : Value → Prop) : Prop :=
  match e.arg a with
  | some v => K v
  | none => False

def argsE (e : Env) (as : List Arg) (K : List Value → Prop) : Prop :=
  match e.args as with
  | some vs => K vs
  | none => False

theorem getE_cons (k : Nat) (v : Value) (e : Env) (n : Nat) (K : Value → Prop) : getE ((k, v) :: e) n K = if k = n then K v else getE e n K := by
  unfold getE
  simp only [Env.get?]
  by_cases h : k = n
  · rw [if_pos h, if_pos h]
  · rw [if_neg h, if_neg h]
theorem argE_t (e : Env) (n : Nat) (K : Value → Prop) : argE e (.t n) K = getE e n K := of_eq_true (eq_self _)
theorem argE_c (e : Env) (v : Value) (K : Value → Prop) : argE e (.c v) K = K v := of_eq_true (eq_self _)
theorem argE_g (e : Env) (n : Nat) (K : Value → Prop) : argE e (.g n) K = K (.pointer (some ⟨n, 0, none⟩)) := of_eq_true (eq_self _)
theorem argsE_nil (e : Env) (K : List Value → Prop) : argsE e [] K = K [] := of_eq_true (eq_self _)
theorem argsE_cons (e : Env) (a : Arg) (as : List Arg) (K : List Value → Prop) : argsE e (a :: as) K = argE e a fun v => argsE e as fun vs => K (v :: vs) := by
  unfold argE argsE
  simp only [Env.args]
  cases e.arg a <;> simp only
  cases e.args as <;> simp only
theorem opE_eq (T : Tab) (F : CallF) (d : Option Nat) (op : AOp) (as : List Arg) (g : Option (Nat × Bool)) (e : Env) (s : St) (K : Value → St → Prop) : opE T F ⟨d, op, as, g⟩ e s K = argsE e as fun vs => opK T F op vs s K := of_eq_true (eq_self _)
theorem listE_nil (T : Tab) (F : CallF) (e : Env) (s : St) (K : Env → St → Prop) : listE T F [] e s K = K e s := of_eq_true (eq_self _)
theorem listE_some (T : Tab) (F : CallF) (d : Nat) (op : AOp) (as : List Arg) (g : Option (Nat × Bool)) (os : List AOper) (e : Env) (s : St) (K : Env → St → Prop) : listE T F (⟨some d, op, as, g⟩ :: os) e s K = argsE e as fun vs => opK T F op vs s fun v s => listE T F os ((d, v) :: e) s K := of_eq_true (eq_self _)
theorem listE_none (T : Tab) (F : CallF) (op : AOp) (as : List Arg) (g : Option (Nat × Bool)) (os : List AOper) (e : Env) (s : St) (K : Env → St → Prop) : listE T F (⟨none, op, as, g⟩ :: os) e s K = argsE e as fun vs => opK T F op vs s fun _ s => listE T F os e s K := of_eq_true (eq_self _)
theorem grpsE_nil (T : Tab) (F : CallF) (e : Env) (s : St) (K : Env → St → Prop) : grpsE T F [] e s K = K e s := of_eq_true (eq_self _)
theorem grpsE_some (T : Tab) (F : CallF) (d : Nat) (op : AOp) (as : List Arg) (g : Option (Nat × Bool)) (gs : List Grp) (e : Env) (s : St) (K : Env → St → Prop) : grpsE T F (.one ⟨some d, op, as, g⟩ :: gs) e s K = argsE e as fun vs => opK T F op vs s fun v s => grpsE T F gs ((d, v) :: e) s K := of_eq_true (eq_self _)
theorem grpsE_none (T : Tab) (F : CallF) (op : AOp) (as : List Arg) (g : Option (Nat × Bool)) (gs : List Grp) (e : Env) (s : St) (K : Env → St → Prop) : grpsE T F (.one ⟨none, op, as, g⟩ :: gs) e s K = argsE e as fun vs => opK T F op vs s fun _ s => grpsE T F gs e s K := of_eq_true (eq_self _)
/-- a slot's value, or none -/
def getU (e : Env) (n : Nat) (K : Value → Prop) : Prop := K ((e.get? n).getD undef)
theorem getU_cons (k : Nat) (v : Value) (e : Env) (n : Nat) (K : Value → Prop) : getU ((k, v) :: e) n K = if k = n then K v else getU e n K := by
  unfold getU
  simp only [Env.get?]
  by_cases h : k = n
  · rw [if_pos h, if_pos h]; rfl
  · rw [if_neg h, if_neg h]
/-- the slots of a group become what they are in another env -/
def putK (e : Env) : List AOper → Env → (Env → Prop) → Prop
  | [], _, K => K e
  | o :: os, e', K => match o.dst with
    | some d => getU e' d fun v => putK ((d, v) :: e) os e' K
    | none => putK e os e' K
def putU (e : Env) : List AOper → (Env → Prop) → Prop
  | [], K => K e
  | o :: os, K => match o.dst with
    | some d => putU ((d, undef) :: e) os K
    | none => putU e os K
theorem putK_nil (e e' : Env) (K : Env → Prop) : putK e [] e' K = K e := of_eq_true (eq_self _)
theorem putK_some (e e' : Env) (K : Env → Prop) (d : Nat) (op : AOp) (as : List Arg) (g : Option (Nat × Bool)) (os : List AOper) : putK e (⟨some d, op, as, g⟩ :: os) e' K = getU e' d fun v => putK ((d, v) :: e) os e' K := of_eq_true (eq_self _)
theorem putK_none (e e' : Env) (K : Env → Prop) (op : AOp) (as : List Arg) (g : Option (Nat × Bool)) (os : List AOper) : putK e (⟨none, op, as, g⟩ :: os) e' K = putK e os e' K := of_eq_true (eq_self _)
theorem putU_nil (e : Env) (K : Env → Prop) : putU e [] K = K e := of_eq_true (eq_self _)
theorem putU_some (e : Env) (K : Env → Prop) (d : Nat) (op : AOp) (as : List Arg) (g : Option (Nat × Bool)) (os : List AOper) : putU e (⟨some d, op, as, g⟩ :: os) K = putU ((d, undef) :: e) os K := of_eq_true (eq_self _)
theorem putU_none (e : Env) (K : Env → Prop) (op : AOp) (as : List Arg) (g : Option (Nat × Bool)) (os : List AOper) : putU e (⟨none, op, as, g⟩ :: os) K = putU e os K := of_eq_true (eq_self _)
theorem putK_ok (e' : Env) (K : Env → Prop) (vs : List Value) : ∀ (os : List AOper) (e : Env) (i : Nat), (∀ j, j < os.length → lget vs (i + j) = lget (vals e' os) j) → K (e.putL (dsts os) i vs) = putK e os e' K
  | [], e, i, _ => rfl
  | o :: os, e, i, h => by
    have h0 := h 0 (by simp)
    have hr : ∀ j, j < os.length → lget vs (i + 1 + j) = lget (vals e' os) j := fun j hj => by
      have := h (j + 1) (by simpa using hj)
      rw [show i + 1 + j = i + (j + 1) by omega, this]
      rfl
    obtain ⟨d, op, as, g⟩ := o
    cases d with
    | none => exact putK_ok e' K vs os e (i + 1) hr
    | some d =>
      show K (Env.putL ((d, lget vs i) :: e) (dsts os) (i + 1) vs) = putK ((d, (e'.get? d).getD undef) :: e) os e' K
      rw [putK_ok e' K vs os _ (i + 1) hr]
      have : lget vs i = (e'.get? d).getD undef := by simpa [vals, lget] using h0
      rw [this]
theorem putU_ok (K : Env → Prop) (vs : List Value) : ∀ (os : List AOper) (e : Env) (i : Nat), (∀ j, lget vs (i + j) = undef) → K (e.putL (dsts os) i vs) = putU e os K
  | [], e, i, _ => rfl
  | o :: os, e, i, h => by
    have hr : ∀ j, lget vs (i + 1 + j) = undef := fun j => by rw [show i + 1 + j = i + (j + 1) by omega]; exact h (j + 1)
    obtain ⟨d, op, as, g⟩ := o
    cases d with
    | none => exact putU_ok K vs os e (i + 1) hr
    | some d =>
      show K (Env.putL ((d, lget vs i) :: e) (dsts os) (i + 1) vs) = putU ((d, undef) :: e) os K
      rw [putU_ok K vs os _ (i + 1) hr, show lget vs i = undef from h 0]
/-- a group whose guard lets in, or does not -/
def grpJ (v : Value) (w : Bool) (A : Prop) (B : Prop) : Prop :=
  match v with
  | .bool b => if b = w then A else B
  | _ => B
theorem grpsE_grp (T : Tab) (F : CallF) (g : Nat) (w : Bool) (os : List AOper) (gs : List Grp) (e : Env) (s : St) (K : Env → St → Prop) : grpsE T F (.grp g w os :: gs) e s K =
    getE e g fun v => grpJ v w (listE T F os e s fun e' s' => putK e os e' fun e => grpsE T F gs e s' K) (putU e os fun e => grpsE T F gs e s K) := by
  have h1 : ∀ e' s', grpsE T F gs (e.putL (dsts os) 0 (vals e' os)) s' K = putK e os e' fun e => grpsE T F gs e s' K := fun e' s' => putK_ok e' (fun e => grpsE T F gs e s' K) _ os e 0 fun j _ => by rw [Nat.zero_add]
  have h2 : grpsE T F gs (e.putL (dsts os) 0 (undefs os)) s K = putU e os fun e => grpsE T F gs e s K := putU_ok (fun e => grpsE T F gs e s K) _ os e 0 fun j => lget_undefs os _
  simp only [grpsE, joinP, getE, h1, h2]
  cases e.get? g with
  | none => rfl
  | some v => cases v <;> rfl
theorem grpJ_yes {v : Value} {w : Bool} {A B : Prop} (h : v = .bool w) : grpJ v w A B = A := by rw [h]; exact if_pos rfl
/-- a guard that does not let in -/
def isNo : Value → Bool → Bool
  | .bool b, w => b != w
  | _, _ => true
theorem isNo_bool (b w : Bool) : isNo (.bool b) w = (b != w) := of_eq_true (eq_self _)
theorem isNo_undef (w : Bool) : isNo undef w = true := of_eq_true (eq_self _)
theorem isNo_tuple (vs : Array Value) (w : Bool) : isNo (.tuple vs) w = true := of_eq_true (eq_self _)
theorem grpJ_no {v : Value} {w : Bool} {A B : Prop} (h : isNo v w = true) : grpJ v w A B = B := by
  cases v <;> try rfl
  rename_i b
  simp only [isNo, bne_iff_ne, ne_eq] at h
  exact if_neg h
section sxs
variable (T : Tab) (F : CallF) (m nt : Nat) (e : Env) (s : St) (N : Env → St → Prop) (E : Nat → Env → St → Prop) (R : Env → St → Prop)
theorem sx_skip : sx T F m nt .skip e s N E R = N e s := of_eq_true (eq_self _)
theorem sx_region (gs : List Grp) : sx T F m nt (.region gs) e s N E R = grpsE T F gs e s N := of_eq_true (eq_self _)
theorem sx_seq (a b : GC) : sx T F m nt (.seq a b) e s N E R = sx T F m nt a e s (fun e s => sx T F m nt b e s N E R) E R := of_eq_true (eq_self _)
def condK (v : Value) (A B : Prop) : Prop := condP (some v) A B
theorem sx_cond (c : Arg) (x y : GC) : sx T F m nt (.cond c x y) e s N E R = argE e c fun v => condK v (sx T F m nt x e s N E R) (sx T F m nt y e s N E R) := by
  simp only [sx, argE, condK]
  cases e.arg c <;> rfl
theorem sx_block (id : Nat) (b : GC) : sx T F m nt (.block id b) e s N E R = sx T F m nt b e s N (fun id' e s => if id' = id then N e s else E id' e s) R := of_eq_true (eq_self _)
theorem sx_loop (b : GC) : sx T F m nt (.loop b) e s N E R = Runs T F m nt (.loop (fromG b)) e s N E R := of_eq_true (eq_self _)
theorem sx_exit (id : Nat) : sx T F m nt (.exit id) e s N E R = E id e s := of_eq_true (eq_self _)
theorem sx_ret : sx T F m nt .ret e s N E R = R e s := of_eq_true (eq_self _)
theorem condK_yes {v : Value} {A B : Prop} (h : v = .bool true) : condK v A B = A := by rw [h]; show (if true = true then A else B) = A; rw [if_pos rfl]
theorem condK_no {v : Value} {A B : Prop} (h : v = .bool false) : condK v A B = B := by rw [h]; show (if false = true then A else B) = B; rw [if_neg (by decide)]
theorem fnP_0 (nt : Nat) (body : GC) (rs : List (Nat × Nat)) (Q : Value → St → Prop) : fnP T F m ⟨nt, body, rs⟩ [] s Q = sx T F m nt body [] s (fun e s => resP e s rs Q) (fun _ _ _ => False) fun e s => resP e s rs Q := of_eq_true (eq_self _)
theorem fnP_1 (nt : Nat) (body : GC) (rs : List (Nat × Nat)) (a : Value) (Q : Value → St → Prop) : fnP T F m ⟨nt, body, rs⟩ [a] s Q = sx T F m nt body [(0, a)] s (fun e s => resP e s rs Q) (fun _ _ _ => False) fun e s => resP e s rs Q := of_eq_true (eq_self _)
theorem fnP_2 (nt : Nat) (body : GC) (rs : List (Nat × Nat)) (a b : Value) (Q : Value → St → Prop) : fnP T F m ⟨nt, body, rs⟩ [a, b] s Q = sx T F m nt body [(0, a), (1, b)] s (fun e s => resP e s rs Q) (fun _ _ _ => False) fun e s => resP e s rs Q := of_eq_true (eq_self _)
theorem fnP_3 (nt : Nat) (body : GC) (rs : List (Nat × Nat)) (a b c : Value) (Q : Value → St → Prop) : fnP T F m ⟨nt, body, rs⟩ [a, b, c] s Q = sx T F m nt body [(0, a), (1, b), (2, c)] s (fun e s => resP e s rs Q) (fun _ _ _ => False) fun e s => resP e s rs Q := of_eq_true (eq_self _)
theorem fnP_4 (nt : Nat) (body : GC) (rs : List (Nat × Nat)) (a b c d : Value) (Q : Value → St → Prop) : fnP T F m ⟨nt, body, rs⟩ [a, b, c, d] s Q = sx T F m nt body [(0, a), (1, b), (2, c), (3, d)] s (fun e s => resP e s rs Q) (fun _ _ _ => False) fun e s => resP e s rs Q := of_eq_true (eq_self _)
theorem opK_p (o : POp) (vs : List Value) (K : Value → St → Prop) : opK T F (.p o) vs s K = popK o vs fun v => K v s := of_eq_true (eq_self _)
theorem opK_r (o : ROp) (vs : List Value) (K : Value → St → Prop) : opK T F (.r o) vs s K = ropK o vs s fun v => K v s := of_eq_true (eq_self _)
theorem opK_w (o : WOp) (vs : List Value) (K : Value → St → Prop) : opK T F (.w o) vs s K = wopK o vs s K := of_eq_true (eq_self _)
theorem opK_next (b : Bool) (vs : List Value) (K : Value → St → Prop) : opK T F (.next b) vs s K = nextK b vs s K := of_eq_true (eq_self _)
theorem opK_call (f : FuncId) (vs : List Value) (K : Value → St → Prop) : opK T F (.call f) vs s K = callK F f vs s K := of_eq_true (eq_self _)
theorem opK_callV (f : FuncId) (a b : Array Value) (vs : List Value) (K : Value → St → Prop) : opK T F .callV (.func (.func f) a b :: vs) s K = callK F f (a.toList ++ vs ++ b.toList) s K := of_eq_true (eq_self _)
theorem opK_invoke (name : String) (t : TypeId) (v : Value) (vs : List Value) (f : FuncId) (K : Value → St → Prop) (h : T.meth t name = some f) : opK T F (.invoke name) (.iface t v :: vs) s K = callK F f (v :: vs) s K := by
  simp only [opK, h]
end sxs
def defsV (D : CallF) (v : Value) (s : St) (K : St → Prop) : Prop :=
  match v with
  | .tuple es => defsK D es.toList s K
  | _ => False
theorem defsV_tuple (D : CallF) (es : Array Value) (s : St) (K : St → Prop) : defsV D (.tuple es) s K = defsK D es.toList s K := of_eq_true (eq_self _)
theorem defsK_func (D : CallF) (f : FuncId) (first cap : Array Value) (es : List Value) (s : St) (K : St → Prop) : defsK D (.func (.func f) first cap :: es) s K = callK D f (first.toList ++ cap.toList) s fun _ s => defsK D es s K := of_eq_true (eq_self _)
theorem defsK_end (D : CallF) (es : List Value) (s : St) (K : St → Prop) : defsK D (.nilIface :: es) s K = K s := of_eq_true (eq_self _)
theorem endK_get (D : CallF) (nt : Nat) (e : Env) (s : St) (rs : List (Nat × Nat)) (Q : Value → St → Prop) : endK D nt e s rs Q = getE e nt fun v => defsV D v s fun s => resP e s rs Q := by
  unfold endK getE
  cases e.get? nt with
  | none => rfl
  | some v => cases v <;> rfl
theorem fnD_1 {T : Tab} {F : CallF} {m : Nat} {s : St} (D : CallF) (nt : Nat) (body : GC) (rs : List (Nat × Nat)) (a : Value) (Q : Value → St → Prop) : fnD T F D m ⟨nt, body, rs⟩ [a] s Q = sx T F m (nt + 1) body [(nt, .tuple #[.nilIface]), (0, a)] s (fun e s => endK D nt e s rs Q) (fun _ _ _ => False) fun e s => endK D nt e s rs Q := of_eq_true (eq_self _)
theorem fnD_2 {T : Tab} {F : CallF} {m : Nat} {s : St} (D : CallF) (nt : Nat) (body : GC) (rs : List (Nat × Nat)) (a b : Value) (Q : Value → St → Prop) : fnD T F D m ⟨nt, body, rs⟩ [a, b] s Q = sx T F m (nt + 1) body [(nt, .tuple #[.nilIface]), (0, a), (1, b)] s (fun e s => endK D nt e s rs Q) (fun _ _ _ => False) fun e s => endK D nt e s rs Q := of_eq_true (eq_self _)
theorem fnD_3 {T : Tab} {F : CallF} {m : Nat} {s : St} (D : CallF) (nt : Nat) (body : GC) (rs : List (Nat × Nat)) (a b c : Value) (Q : Value → St → Prop) : fnD T F D m ⟨nt, body, rs⟩ [a, b, c] s Q = sx T F m (nt + 1) body [(nt, .tuple #[.nilIface]), (0, a), (1, b), (2, c)] s (fun e s => endK D nt e s rs Q) (fun _ _ _ => False) fun e s => endK D nt e s rs Q := of_eq_true (eq_self _)
theorem pk_push (e : Value) (es : List Value) (f : FuncId) (first cap : Array Value) (vs : List Value) (K : Value → Prop) : popK .push (.tuple (e :: es).toArray :: .func (.func f) first cap :: vs) K = K (.tuple (.func (.func f) (first.toList ++ vs).toArray cap :: e :: es).toArray) := by
  simp [popK, pop]
theorem resP_0 (e : Env) (s : St) (Q : Value → St → Prop) : resP e s [] Q = Q (.tuple #[]) s := of_eq_true (eq_self _)
theorem resP_1 (e : Env) (s : St) (a : Nat) (Q : Value → St → Prop) : resP e s [(a, 0)] Q = getE e a fun v => Q v s := by
  unfold resP getE
  simp only [resE, res1E]
  cases e.get? a <;> rfl
theorem resP_2 (e : Env) (s : St) (a b : Nat) (Q : Value → St → Prop) : resP e s [(a, 0), (b, 0)] Q = getE e a fun u => getE e b fun v => Q (.tuple #[u, v]) s := by
  unfold resP getE
  simp only [resE, res1E]
  cases e.get? a <;> cases e.get? b <;> rfl
theorem resP_3 (e : Env) (s : St) (a b c : Nat) (Q : Value → St → Prop) : resP e s [(a, 0), (b, 0), (c, 0)] Q = getE e a fun u => getE e b fun v => getE e c fun w => Q (.tuple #[u, v, w]) s := by
  unfold resP getE
  simp only [resE, res1E]
  cases e.get? a <;> cases e.get? b <;> cases e.get? c <;> rfl

section
variable {K : Value → Prop} {W : Value → St → Prop} {s : St}

theorem getK_some (a : AObj) (K : AObj → Prop) : getK (some a) K = K a := of_eq_true (eq_self _)
theorem getK_none (K : AObj → Prop) : getK none K = False := of_eq_true (eq_self _)
theorem rowK_row (cs : List Value) (g : Nat) (ro : Bool) (K : List Value → Nat → Bool → Prop) : rowK (.row cs g ro) K = K cs g ro := of_eq_true (eq_self _)
theorem mapK_map (es : List (Value × Value × Nat)) (c : Nat) (K : List (Value × Value × Nat) → Nat → Prop) : mapK (.map es c) K = K es c := of_eq_true (eq_self _)
theorem nthK_zero (v : Value) (l : List Value) : nthK (v :: l) 0 K = K v := of_eq_true (eq_self _)
theorem nthK_succ (v : Value) (l : List Value) (n : Nat) : nthK (v :: l) (n + 1) K = nthK l n K := of_eq_true (eq_self _)
theorem nthK_nil (n : Nat) : nthK [] n K = False := by simp [nthK]
theorem guardP_bool (b w : Bool) (A B : Prop) : guardP (some (.bool b)) w A B = if b = w then A else B := of_eq_true (eq_self _)
theorem guardP_undef (w : Bool) (A B : Prop) : guardP (some undef) w A B = B := of_eq_true (eq_self _)
theorem condP_bool (b : Bool) (A B : Prop) : condP (some (.bool b)) A B = if b = true then A else B := of_eq_true (eq_self _)
theorem lget_zero (v : Value) (l : List Value) : lget (v :: l) 0 = v := of_eq_true (eq_self _)
theorem lget_succ (v : Value) (l : List Value) (n : Nat) : lget (v :: l) (n + 1) = lget l n := of_eq_true (eq_self _)

theorem pk_move (v : Value) : popK .move [v] K = K v := of_eq_true (eq_self _)
theorem pk_pick (c : Bool) (a b : Value) : popK .pick [.bool c, a, b] K = K (bif c then a else b) := of_eq_true (eq_self _)
theorem pk_pickT (c : Bool) (a b : Value) (h : c = true) : popK .pick [.bool c, a, b] K = K a := by rw [h]; rfl
theorem pk_pickF (c : Bool) (a b : Value) (h : c = false) : popK .pick [.bool c, a, b] K = K b := by rw [h]; rfl
theorem pk_not (b : Bool) : popK (.un .not) [.bool b] K = K (.bool !b) := of_eq_true (eq_self _)
theorem pk_neg (k : IntKind) (n : Int) : popK (.un .neg) [.int k n] K = K (.int k (wrapF k (0 - n))) := of_eq_true (eq_self _)
theorem bytes_ext {a b : ByteArray} (h : a.data.toList = b.data.toList) : a = b := by
  cases a with | mk a => cases b with | mk b => cases a with | mk a => cases b with | mk b => simp at h; subst h; rfl
theorem bytes_beq (a b : ByteArray) : (a.data.toList == b.data.toList) = decide (a = b) := by
  rw [Bool.eq_iff_iff]
  simp only [beq_iff_eq, decide_eq_true_eq]
  exact ⟨bytes_ext, fun h => by rw [h]⟩
theorem pk_eqS (a b : ByteArray) : popK (.bin .eql) [.string a, .string b] K = K (.bool (decide (a = b))) := by
  show K (.bool (a.data.toList == b.data.toList)) = _; rw [bytes_beq]
theorem pk_neqS (a b : ByteArray) : popK (.bin .neq) [.string a, .string b] K = K (.bool !(decide (a = b))) := by
  show K (.bool !(a.data.toList == b.data.toList)) = _; rw [bytes_beq]
theorem pk_addS (a b : ByteArray) : popK (.bin .add) [.string a, .string b] K = (a.size + b.size ≤ 9223372036854775807 ∧ K (.string (a ++ b))) := by
  simp only [popK, pop, binV, binStr]
  by_cases h : ((a.size + b.size : Nat) : Int) > 9223372036854775807
  · rw [if_pos h]; simp only [eq_iff_iff, false_iff]; intro hh; omega
  · rw [if_neg h]; simp only [eq_iff_iff]; exact ⟨fun hh => ⟨by omega, hh⟩, fun hh => hh.2⟩
theorem pk_eqI (k : IntKind) (a b : Int) : popK (.bin .eql) [.int k a, .int k b] K = K (.bool (decide (a = b))) := by
  simp only [popK, pop, binV, binInt, if_true]; rfl
theorem pk_neqI (k : IntKind) (a b : Int) : popK (.bin .neq) [.int k a, .int k b] K = K (.bool !(decide (a = b))) := by
  simp only [popK, pop, binV, binInt, if_true]; rfl
theorem pk_lssI (k : IntKind) (a b : Int) : popK (.bin .lss) [.int k a, .int k b] K = K (.bool (decide (a < b))) := by
  simp only [popK, pop, binV, binInt, if_true]
theorem pk_leqI (k : IntKind) (a b : Int) : popK (.bin .leq) [.int k a, .int k b] K = K (.bool (decide (a ≤ b))) := by
  simp only [popK, pop, binV, binInt, if_true]
theorem pk_gtrI (k : IntKind) (a b : Int) : popK (.bin .gtr) [.int k a, .int k b] K = K (.bool (decide (b < a))) := by
  simp only [popK, pop, binV, binInt, if_true, gt_iff_lt]
theorem pk_geqI (k : IntKind) (a b : Int) : popK (.bin .geq) [.int k a, .int k b] K = K (.bool (decide (b ≤ a))) := by
  simp only [popK, pop, binV, binInt, if_true, ge_iff_le]
theorem pk_addI (k : IntKind) (a b : Int) : popK (.bin .add) [.int k a, .int k b] K = K (.int k (wrapF k (a + b))) := by
  simp only [popK, pop, binV, binInt, if_true]
theorem pk_subI (k : IntKind) (a b : Int) : popK (.bin .sub) [.int k a, .int k b] K = K (.int k (wrapF k (a - b))) := by
  simp only [popK, pop, binV, binInt, if_true]
theorem pk_mulI (k : IntKind) (a b : Int) : popK (.bin .mul) [.int k a, .int k b] K = K (.int k (wrapF k (a * b))) := by
  simp only [popK, pop, binV, binInt, if_true]
theorem wrap64 {n : Int} (h1 : -9223372036854775808 ≤ n) (h2 : n ≤ 9223372036854775807) : wrapF .i64 n = n := by
  simp only [wrapF]; rw [if_pos ⟨h1, h2⟩]
theorem pk_binB (neg a b : Bool) : popK (.binB neg) [.bool a, .bool b] K = K (.bool (xor neg (a == b))) := of_eq_true (eq_self _)
theorem pk_nilPtr (neg : Bool) (a : Option Addr) : popK (.nilEq .ptr neg) [.pointer a, .pointer none] K = K (.bool (xor neg a.isNone)) := by
  cases a <;> rfl
theorem pk_nilMap (neg : Bool) (a : Option Nat) : popK (.nilEq .map neg) [.map a, .map none] K = K (.bool (xor neg a.isNone)) := by
  cases a <;> rfl
theorem pk_nilSlice (neg : Bool) (a : Option Addr) (n c : Nat) : popK (.nilEq .slice neg) [.slice a n c, .slice none 0 0] K = K (.bool (xor neg a.isNone)) := by
  cases a <;> rfl
theorem pk_nilIfaceN (neg : Bool) : popK (.nilEq .iface neg) [.nilIface, .nilIface] K = K (.bool (xor neg true)) := of_eq_true (eq_self _)
theorem pk_nilIface (neg : Bool) (t : TypeId) (v : Value) : popK (.nilEq .iface neg) [.iface t v, .nilIface] K = K (.bool (xor neg false)) := of_eq_true (eq_self _)
theorem pk_build0 (z : List Value) : popK (.build z []) [] K = K (.agg z.toArray) := of_eq_true (eq_self _)
theorem pk_ext0 (a b : Value) : popK (.extract 0) [.tuple #[a, b]] K = K a := of_eq_true (eq_self _)
theorem pk_ext1 (a b : Value) : popK (.extract 1) [.tuple #[a, b]] K = K b := of_eq_true (eq_self _)
theorem pk_ext30 (a b c : Value) : popK (.extract 0) [.tuple #[a, b, c]] K = K a := of_eq_true (eq_self _)
theorem pk_ext31 (a b c : Value) : popK (.extract 1) [.tuple #[a, b, c]] K = K b := of_eq_true (eq_self _)
theorem pk_ext32 (a b c : Value) : popK (.extract 2) [.tuple #[a, b, c]] K = K c := of_eq_true (eq_self _)
theorem pk_ext1_ (a : Value) : popK (.extract 0) [.tuple #[a]] K = K a := of_eq_true (eq_self _)
theorem pk_lenStr (b : ByteArray) : popK .lenStr [.string b] K = K (.int .i64 b.size) := of_eq_true (eq_self _)
theorem pk_lenSl (a : Option Addr) (n c : Nat) : popK .lenSl [.slice a n c] K = K (.int .i64 n) := of_eq_true (eq_self _)
theorem pk_fieldAddr (k b o : Nat) : popK (.fieldAddr k) [.pointer (some ⟨b, o, none⟩)] K = K (.pointer (some ⟨b, o + k, none⟩)) := by
  show K (.pointer (some (addA ⟨b, o, none⟩ k))) = _; rw [addA_rel]
theorem pk_nilCheck (a : Addr) : popK .nilCheck [.pointer (some a)] K = K (.pointer (some a)) := of_eq_true (eq_self _)
theorem pk_nilCheckI (t : TypeId) (v : Value) : popK .nilCheck [.iface t v] K = K (.iface t v) := of_eq_true (eq_self _)
theorem pk_indexAddr (esz b o len cap : Nat) (k : IntKind) (i : Int) : popK (.indexAddr esz) [.slice (some ⟨b, o, none⟩) len cap, .int k i] K = ((0 ≤ i ∧ i < (len : Int)) ∧ K (.pointer (some ⟨b, o + i.toNat * esz, none⟩))) := by
  simp only [popK, pop]
  by_cases h : 0 ≤ i ∧ i < (len : Int)
  · rw [if_pos h]; simp only [addA_rel, h, true_and, and_self]
  · rw [if_neg h]; simp only [h, false_and]
theorem pk_indexAddrArr (n esz b o : Nat) (k : IntKind) (i : Int) : popK (.indexAddrArr n esz) [.pointer (some ⟨b, o, none⟩), .int k i] K = ((0 ≤ i ∧ i < (n : Int)) ∧ K (.pointer (some ⟨b, o + i.toNat * esz, none⟩))) := by
  simp only [popK, pop]
  by_cases h : 0 ≤ i ∧ i < (n : Int)
  · rw [if_pos h]; simp only [addA_rel, h, true_and, and_self]
  · rw [if_neg h]; simp only [h, false_and]
theorem pk_mkIface (t : TypeId) (v : Value) : popK (.mkIface t) [v] K = K (.iface t v) := of_eq_true (eq_self _)
theorem pk_assertT (t u : TypeId) (z v : Value) (ok : Bool) : popK (.assertT t z ok) [.iface u v] K = if u = t then K (bif ok then .tuple #[v, .bool true] else v) else (ok = true ∧ K (.tuple #[z, .bool false])) := by
  simp only [popK, pop]
  by_cases h : u = t
  · rw [if_pos h, if_pos h]
  · rw [if_neg h, if_neg h]; cases ok <;> simp
theorem pk_slLo (b : ByteArray) (k : IntKind) (a : Int) : popK (.slStr true false) [.string b, .int k a] K = ((0 ≤ a ∧ a ≤ (b.size : Int)) ∧ K (.string (b.extract a.toNat b.size))) := by
  simp only [popK, pop, bounds, bound]
  by_cases h : ((0 : Nat) : Int) ≤ a ∧ a ≤ (b.size : Int)
  · rw [if_pos h]; simp at h; simp [h]
  · rw [if_neg h]; simp at h; simp only [Option.map_none, eq_iff_iff, false_iff, not_and]; intro hh; omega
theorem pk_slHi (b : ByteArray) (k : IntKind) (a : Int) : popK (.slStr false true) [.string b, .int k a] K = ((0 ≤ a ∧ a ≤ (b.size : Int)) ∧ K (.string (b.extract 0 a.toNat))) := by
  simp only [popK, pop, bounds, bound]
  by_cases h : ((0 : Nat) : Int) ≤ a ∧ a ≤ (b.size : Int)
  · rw [if_pos h]; simp at h; simp [h]
  · rw [if_neg h]; simp at h; simp only [Option.map_none, eq_iff_iff, false_iff, not_and]; intro hh; omega

theorem rk_load1 (b o : Nat) : ropK .load1 [.pointer (some ⟨b, o, none⟩)] s K = getK (s.get b) fun ob => rowK ob fun cs _ _ => nthK cs o K := by
  simp only [ropK, rop]
  cases s.get b with
  | none => rfl
  | some ob => cases ob <;> rfl
theorem rk_same1 (v : Value) (b o : Nat) : ropK .same1 [v, .pointer (some ⟨b, o, none⟩)] s K = getK (s.get b) fun ob => rowK ob fun cs _ _ => nthK cs o fun u => cellEq u v = true ∧ K undef := by
  simp only [ropK, rop]
  cases s.get b with
  | none => rfl
  | some ob =>
    cases ob with
    | row cs g ro =>
      simp only [getK, rowK, nthK]
      cases cs[o]? with
      | none => rfl
      | some u =>
        simp only
        by_cases h : cellEq u v = true
        · rw [if_pos h]; simp only [h, true_and]
        · rw [if_neg h]; simp [h]
    | _ => rfl
theorem rk_lookup (kk : KeyK) (z : Value) (ok : Bool) (r : Nat) (k : Value) (hk : keyOk kk k = true) : ropK (.lookup kk z ok) [.map (some r), k] s K = getK (s.get r) fun ob => mapK ob fun es _ => lookK (findV kk k es 0) z ok K := by
  simp only [ropK, rop]
  cases s.get r with
  | none => rfl
  | some ob =>
    cases ob <;> try rfl
    simp only [hk, if_true, getK, mapK, lookK]
    rcases findV kk k _ 0 with _ | _ | ⟨i, v⟩ <;> rfl
theorem rk_lookupS (z : Value) (ok : Bool) (r : Nat) (k : ByteArray) : ropK (.lookup .str z ok) [.map (some r), .string k] s K = getK (s.get r) fun ob => mapK ob fun es _ => lookK (findV .str (.string k) es 0) z ok K := rk_lookup _ _ _ _ _ rfl
theorem rk_lookupI (z : Value) (ok : Bool) (r : Nat) (ik : IntKind) (k : Int) : ropK (.lookup .int z ok) [.map (some r), .int ik k] s K = getK (s.get r) fun ob => mapK ob fun es _ => lookK (findV .int (.int ik k) es 0) z ok K := rk_lookup _ _ _ _ _ rfl
theorem rk_lenMap (r : Nat) : ropK .lenMap [.map (some r)] s K = getK (s.get r) fun ob => mapK ob fun es _ => K (.int .i64 es.length) := by
  simp only [ropK, rop]
  cases s.get r with
  | none => rfl
  | some ob => cases ob <;> rfl
theorem wk_box (n : Nat) (v : Value) : wopK (.box n) [v] s W = ((cellsOf v).length = n ∧ W (.pointer (some ⟨s.next, 0, none⟩)) (s.new (.row (cellsOf v) 0 false))) := by
  simp only [wopK, wop, St.newPtr]
  by_cases h : (cellsOf v).length = n
  · rw [if_pos h]; simp [h]
  · rw [if_neg h]; simp [h]
theorem wk_new (cs : List Value) : wopK (.new cs) [] s W = W (.pointer (some ⟨s.next, 0, none⟩)) (s.new (.row cs 0 false)) := of_eq_true (eq_self _)
theorem wk_mkMap : wopK .mkMap [] s W = W (.map (some s.next)) (s.new (.map [] 0)) := of_eq_true (eq_self _)
theorem wk_store (n b o : Nat) (v : Value) : wopK (.store n) [.pointer (some ⟨b, o, none⟩), v] s W = ((cellsOf v).length = n ∧ getK (s.get b) fun ob => rowK ob fun cs g ro => (ro = false ∧ o + n ≤ cs.length ∧ (cellsOf v).all oneCell = true) ∧ W undef (s.put b (some (.row (lputs cs o (cellsOf v)) g false)))) := by
  simp only [wopK, wop]
  by_cases h : (cellsOf v).length = n
  · rw [if_pos h]
    simp only [h, true_and, St.storeAt]
    cases s.get b with
    | none => rfl
    | some ob =>
      cases ob with
      | row cs g ro =>
        cases ro with
        | true => simp [getK, rowK]
        | false =>
          simp only [getK, rowK, h, true_and]
          by_cases hc : o + n ≤ cs.length ∧ (cellsOf v).all oneCell = true
          · rw [if_pos hc]; simp only [hc, and_self, true_and]; rfl
          · rw [if_neg hc]; simp only [hc, false_and]; rfl
      | _ => simp [getK, rowK]
  · rw [if_neg h]; simp [h]
theorem wk_mapSet (kk : KeyK) (r : Nat) (k v : Value) (hk : keyOk kk k = true) : wopK (.mapSet kk) [.map (some r), k, v] s W = getK (s.get r) fun ob => mapK ob fun es c => setK (findV kk k es 0) k v es c fun es' c' => W undef (s.put r (some (.map es' c'))) := by
  simp only [wopK, wop]
  cases s.get r with
  | none => rfl
  | some ob =>
    cases ob <;> try rfl
    simp only [hk, if_true, getK, mapK, setK]
    rcases findV kk k _ 0 with _ | _ | ⟨i, v⟩ <;> rfl
theorem wk_mapSetS (r : Nat) (k : ByteArray) (v : Value) : wopK (.mapSet .str) [.map (some r), .string k, v] s W = getK (s.get r) fun ob => mapK ob fun es c => setK (findV .str (.string k) es 0) (.string k) v es c fun es' c' => W undef (s.put r (some (.map es' c'))) := wk_mapSet _ _ _ _ rfl
theorem wk_mapSetI (r : Nat) (ik : IntKind) (k : Int) (v : Value) : wopK (.mapSet .int) [.map (some r), .int ik k, v] s W = getK (s.get r) fun ob => mapK ob fun es c => setK (findV .int (.int ik k) es 0) (.int ik k) v es c fun es' c' => W undef (s.put r (some (.map es' c'))) := wk_mapSet _ _ _ _ rfl

theorem getK_put (s : St) (i j : Nat) (o : Option AObj) (K : AObj → Prop) : getK ((s.put i o).get j) K = if i = j then getK o K else getK (s.get j) K := by
  rw [St.get_put]
  by_cases h : i = j
  · rw [if_pos h, if_pos h]
  · rw [if_neg h, if_neg h]
theorem getK_new (s : St) (j : Nat) (o : AObj) (K : AObj → Prop) : getK ((s.new o).get j) K = if s.next = j then K o else getK (s.get j) K := by
  rw [St.get_new]
  by_cases h : s.next = j
  · rw [if_pos h, if_pos h]; rfl
  · rw [if_neg h, if_neg h]
theorem getK_of {s : St} {i : Nat} {o : AObj} (h : s.get i = some o) (K : AObj → Prop) : getK (s.get i) K = K o := by rw [h]; rfl
theorem lookK_hit {kk : KeyK} {k : Value} {es : List (Value × Value × Nat)} {i : Nat} {v : Value} (h : findV kk k es 0 = some (some (i, v))) (z : Value) (K : Value → Prop) : lookK (findV kk k es 0) z true K = K (.tuple #[v, .bool true]) := by rw [h]; rfl
theorem lookK_miss {kk : KeyK} {k : Value} {es : List (Value × Value × Nat)} (h : findV kk k es 0 = some none) (z : Value) (K : Value → Prop) : lookK (findV kk k es 0) z true K = K (.tuple #[z, .bool false]) := by rw [h]; rfl
theorem lookK_hit1 {kk : KeyK} {k : Value} {es : List (Value × Value × Nat)} {i : Nat} {v : Value} (h : findV kk k es 0 = some (some (i, v))) (z : Value) (K : Value → Prop) : lookK (findV kk k es 0) z false K = K v := by rw [h]; rfl
theorem lookK_miss1 {kk : KeyK} {k : Value} {es : List (Value × Value × Nat)} (h : findV kk k es 0 = some none) (z : Value) (K : Value → Prop) : lookK (findV kk k es 0) z false K = K z := by rw [h]; rfl
theorem setK_hit {kk : KeyK} {k : Value} {es : List (Value × Value × Nat)} {i : Nat} {u : Value} (h : findV kk k es 0 = some (some (i, u))) (k' v : Value) (c : Nat) (K : List (Value × Value × Nat) → Nat → Prop) : setK (findV kk k es 0) k' v es c K = K (es.modify i fun e => (k', v, e.2.2)) c := by rw [h]; rfl
theorem setK_miss {kk : KeyK} {k : Value} {es : List (Value × Value × Nat)} (h : findV kk k es 0 = some none) (k' v : Value) (c : Nat) (K : List (Value × Value × Nat) → Nat → Prop) : setK (findV kk k es 0) k' v es c K = K (es ++ [(k', v, c)]) (c + 1) := by rw [h]; rfl
theorem lputs_0 (v a : Value) (l : List Value) : lputs (a :: l) 0 [v] = v :: l := rfl
theorem lputs_1 (v a b : Value) (l : List Value) : lputs (a :: b :: l) 1 [v] = a :: v :: l := rfl
theorem lputs_2 (v a b c : Value) (l : List Value) : lputs (a :: b :: c :: l) 2 [v] = a :: b :: v :: l := rfl
theorem lputs_3 (v a b c d : Value) (l : List Value) : lputs (a :: b :: c :: d :: l) 3 [v] = a :: b :: c :: v :: l := rfl
theorem lputs_4 (v a b c d e : Value) (l : List Value) : lputs (a :: b :: c :: d :: e :: l) 4 [v] = a :: b :: c :: d :: v :: l := rfl
end
end Go.Am
