/-
  Symbolic runs of the second machine: what is asked of a run, out of its text, with the slots that are known in a list.
-/
import Derived.Test.YtjomiadmminhfaaGreatDoorSFilClaimPart4
set_option linter.unusedSimpArgs false
set_option linter.unusedVariables false
set_option maxRecDepth 10000
namespace Go.Am

abbrev Env := List (Nat × Value)

def Env.get? : Env → Nat → Option Value
  | [], _ => none
  | (k, v) :: e, n => if k = n then some v else Env.get? e n

def Env.put (e : Env) (d : Option Nat) (v : Value) : Env :=
  match d with
  | some d => (d, v) :: e
  | none => e

def Env.arg (e : Env) : Arg → Option Value
  | .t n => e.get? n
  | .c v => some v
  | .g n => some (.pointer (some ⟨n, 0, none⟩))

def Env.args (e : Env) : List Arg → Option (List Value)
  | [] => some []
  | a :: as => match e.arg a with
    | some v => match e.args as with
      | some vs => some (v :: vs)
      | none => none
    | none => none

def Env.putL (e : Env) : List (Option Nat) → Nat → List Value → Env
  | d :: ds, i, vs => Env.putL (e.put d (lget vs i)) ds (i + 1) vs
  | [], _, _ => e

def Env.gets (e : Env) : List Nat → Option (List Value)
  | [] => some []
  | k :: ks => match e.get? k with
    | some v => match e.gets ks with
      | some vs => some (v :: vs)
      | none => none
    | none => none

/-- the env's slots hold what it says -/
structure EnvOk (nt : Nat) (e : Env) (l : List Value) : Prop where
  len : nt ≤ l.length
  at_ : ∀ k v, e.get? k = some v → lget l k = v

/-- operations with no guard, and runs of operations with one guard -/
inductive Grp where
  | one (o : AOper)
  | grp (g : Nat) (want : Bool) (os : List AOper)

/-- code with its operations in groups -/
inductive GC where
  | skip
  | region (gs : List Grp)
  | seq (a b : GC)
  | cond (c : Arg) (thn els : GC)
  | block (id : Nat) (body : GC)
  | loop (body : GC)
  | exit (id : Nat)
  | ret
  | bad

def guarded (g : Nat) (w : Bool) : List AOper → List AOper
  | [] => []
  | o :: os => ⟨o.dst, o.op, o.args, some (g, w)⟩ :: guarded g w os

def flatG : List Grp → List AOper
  | [] => []
  | .one o :: gs => ⟨o.dst, o.op, o.args, none⟩ :: flatG gs
  | .grp g w os :: gs => guarded g w os ++ flatG gs

def fromG : GC → AC
  | .skip => .skip
  | .region gs => .region (flatG gs)
  | .seq a b => .seq (fromG a) (fromG b)
  | .cond c a b => .cond c (fromG a) (fromG b)
  | .block id b => .block id (fromG b)
  | .loop b => .loop (fromG b)
  | .exit id => .exit id
  | .ret => .ret
  | .bad => .bad

structure GFn where
  ntmps : Nat
  body : GC
  results : List (Nat × Nat)

def isPush (o : AOper) : Bool :=
  match o.op with
  | .p .push => true
  | _ => false

def grpPush : Grp → Bool
  | .one o => isPush o
  | .grp _ _ os => os.any isPush

def gPush : GC → Bool
  | .region gs => gs.any grpPush
  | .seq a b => gPush a || gPush b
  | .cond _ a b => gPush a || gPush b
  | .block _ b => gPush b
  | .loop b => gPush b
  | _ => false

def fromGFn (g : GFn) : AFn := ⟨g.ntmps, fromG g.body, g.results, gPush g.body⟩

/-- a pure operation's value goes on -/
def popK (o : POp) (vs : List Value) (K : Value → Prop) : Prop :=
  match pop o vs with
  | some v => K v
  | none => False

def ropK (o : ROp) (vs : List Value) (s : St) (K : Value → Prop) : Prop :=
  match rop o vs s with
  | some v => K v
  | none => False

def wopK (o : WOp) (vs : List Value) (s : St) (K : Value → St → Prop) : Prop :=
  match wop o vs s with
  | some r => K r.1 r.2
  | none => False

def callK (F : CallF) (f : FuncId) (vs : List Value) (s : St) (K : Value → St → Prop) : Prop := (F f vs s).all fun r => K r.1 r.2

def nextK (str : Bool) (vs : List Value) (s : St) (K : Value → St → Prop) : Prop := (nextV str vs s).all fun r => K r.1 r.2

def opK (T : Tab) (F : CallF) (o : AOp) (vs : List Value) (s : St) (K : Value → St → Prop) : Prop :=
  match o with
  | .p o => popK o vs fun v => K v s
  | .r o => ropK o vs s fun v => K v s
  | .w o => wopK o vs s K
  | .next str => nextK str vs s K
  | .call f => callK F f vs s K
  | .callV => match vs with
    | .func (.func f) first captured :: vs => callK F f (first.toList ++ vs ++ captured.toList) s K
    | _ => False
  | .invoke name => match vs with
    | .iface t v :: vs => match T.meth t name with
      | some f => callK F f (v :: vs) s K
      | none => False
    | _ => False

/-- an operation that takes its operands from the env -/
def opE (T : Tab) (F : CallF) (o : AOper) (e : Env) (s : St) (K : Value → St → Prop) : Prop :=
  match e.args o.args with
  | some vs => opK T F o.op vs s K
  | none => False

def listE (T : Tab) (F : CallF) : List AOper → Env → St → (Env → St → Prop) → Prop
  | [], e, s, K => K e s
  | o :: os, e, s, K => opE T F o e s fun v s => listE T F os (e.put o.dst v) s K

def guardP (v : Option Value) (want : Bool) (A B : Prop) : Prop :=
  match v with
  | some (.bool b) => if b = want then A else B
  | some _ => B
  | none => False

/-- a part that comes to some values, and what is behind it -/
def joinP (A : (List Value → St → Prop) → Prop) (J : List Value → St → Prop) : Prop := A J

def vals (e : Env) : List AOper → List Value
  | [] => []
  | o :: os => (match o.dst with
    | some d => (e.get? d).getD undef
    | none => undef) :: vals e os

def undefs : List AOper → List Value
  | [] => []
  | _ :: os => undef :: undefs os

def dsts : List AOper → List (Option Nat)
  | [] => []
  | o :: os => o.dst :: dsts os

def grpsE (T : Tab) (F : CallF) : List Grp → Env → St → (Env → St → Prop) → Prop
  | [], e, s, K => K e s
  | .one o :: gs, e, s, K => opE T F o e s fun v s => grpsE T F gs (e.put o.dst v) s K
  | .grp g w os :: gs, e, s, K => joinP (fun J => guardP (e.get? g) w (listE T F os e s fun e' s' => J (vals e' os) s') (J (undefs os) s)) fun vs s => grpsE T F gs (e.putL (dsts os) 0 vs) s K

def condP (v : Option Value) (A B : Prop) : Prop :=
  match v with
  | some (.bool b) => if b = true then A else B
  | _ => False

/-- which end, and what is asked of it -/
def ResOk (nt : Nat) (N : Env → St → Prop) (E : Nat → Env → St → Prop) (R : Env → St → Prop) : Res → Prop
  | .norm l s => ∃ e, EnvOk nt e l ∧ N e s
  | .exit id l s => ∃ e, EnvOk nt e l ∧ E id e s
  | .ret l s => ∃ e, EnvOk nt e l ∧ R e s

/-- a run of a text from any slots that are as the env says -/
def Runs (T : Tab) (F : CallF) (m nt : Nat) (c : AC) (e : Env) (s : St) (N : Env → St → Prop) (E : Nat → Env → St → Prop) (R : Env → St → Prop) : Prop :=
  ∀ l, EnvOk nt e l → (code T F m c l s).all (ResOk nt N E R)

def sx (T : Tab) (F : CallF) (m nt : Nat) : GC → Env → St → (Env → St → Prop) → (Nat → Env → St → Prop) → (Env → St → Prop) → Prop
  | .skip, e, s, N, _, _ => N e s
  | .region gs, e, s, N, _, _ => grpsE T F gs e s N
  | .seq a b, e, s, N, E, R => sx T F m nt a e s (fun e s => sx T F m nt b e s N E R) E R
  | .cond c x y, e, s, N, E, R => condP (e.arg c) (sx T F m nt x e s N E R) (sx T F m nt y e s N E R)
  | .block id b, e, s, N, E, R => sx T F m nt b e s N (fun id' e s => if id' = id then N e s else E id' e s) R
  | .loop b, e, s, N, E, R => Runs T F m nt (.loop (fromG b)) e s N E R
  | .exit id, e, s, _, E, _ => E id e s
  | .ret, e, s, _, _, R => R e s
  | .bad, _, _, _, _, _ => False

def dstOk (nt : Nat) (o : AOper) : Bool :=
  match o.dst with
  | some d => Nat.blt d nt
  | none => true

def grpOk (nt : Nat) : Grp → Bool
  | .one o => dstOk nt o
  | .grp g _ os => os.all fun o => dstOk nt o && o.dst != some g

/-- every slot that is written is one; no group writes its guard -/
def dstsB (nt : Nat) : GC → Bool
  | .region gs => gs.all (grpOk nt)
  | .seq a b => dstsB nt a && dstsB nt b
  | .cond _ a b => dstsB nt a && dstsB nt b
  | .block _ b => dstsB nt b
  | .loop b => dstsB nt b
  | _ => true

section
variable {T : Tab} {F : CallF} {m nt : Nat}

theorem lset_length (v : Value) : ∀ (l : List Value) (d : Nat), (lset l d v).length = l.length
  | [], _ => rfl
  | _ :: _, 0 => rfl
  | x :: l, d + 1 => by simp [lset, lset_length v l d]

theorem lget_lset_same (v : Value) : ∀ (l : List Value) (d : Nat), d < l.length → lget (lset l d v) d = v
  | [], _, h => absurd h (by simp)
  | _ :: _, 0, _ => rfl
  | x :: l, d + 1, h => by simp only [lset, lget]; exact lget_lset_same v l d (by simpa using h)

theorem EnvOk.put {e : Env} {l : List Value} (h : EnvOk nt e l) {d : Option Nat} (hd : ∀ k, d = some k → k < nt) (v : Value) : EnvOk nt (e.put d v) (putL l d v) := by
  cases d with
  | none => exact h
  | some d =>
    have hlt := hd d rfl
    refine ⟨by simpa [putL, lset_length] using h.len, fun k u hk => ?_⟩
    simp only [Env.put, Env.get?] at hk
    split at hk
    · rename_i he
      cases hk
      subst he
      exact lget_lset_same v l d (Nat.lt_of_lt_of_le hlt h.len)
    · rename_i he
      simp only [putL]
      rw [lget_lset v l d k (fun hh => he hh.symm)]
      exact h.at_ k u hk

theorem EnvOk.arg {e : Env} {l : List Value} (h : EnvOk nt e l) {a : Arg} {v : Value} (ha : e.arg a = some v) : a.ev l = v := by
  cases a with
  | t n => exact h.at_ n v ha
  | c v => simp [Env.arg] at ha; exact ha
  | g n => simp [Env.arg] at ha; exact ha

theorem EnvOk.args {e : Env} {l : List Value} (h : EnvOk nt e l) : ∀ {as : List Arg} {vs : List Value}, e.args as = some vs → as.map (Arg.ev l) = vs
  | [], vs, ha => by simp [Env.args] at ha; simp [ha]
  | a :: as, vs, ha => by
    simp only [Env.args] at ha
    split at ha
    · rename_i v hv
      split at ha
      · rename_i vs' hvs
        cases ha
        simp [h.arg hv, h.args hvs]
      · cases ha
    · cases ha

theorem opK_all {o : AOp} {vs : List Value} {s : St} {K : Value → St → Prop} (h : opK T F o vs s K) : (opStep T F o vs s).all fun r => K r.1 r.2 := by
  cases o with
  | p o =>
    simp only [opK, popK, opStep] at h ⊢
    cases hp : pop o vs <;> rw [hp] at h
    · exact h.elim
    · exact h
  | r o =>
    simp only [opK, ropK, opStep] at h ⊢
    cases hp : rop o vs s <;> rw [hp] at h
    · exact h.elim
    · exact h
  | w o =>
    simp only [opK, wopK, opStep] at h ⊢
    cases hp : wop o vs s <;> rw [hp] at h
    · exact h.elim
    · exact h
  | next str => exact h
  | call f => exact h
  | callV =>
    simp only [opK, opStep] at h ⊢
    split at h
    · exact h
    · exact h.elim
  | invoke name =>
    simp only [opK, opStep] at h ⊢
    split at h
    · split at h
      · rename_i hm; simp only [hm]; exact h
      · exact h.elim
    · exact h.elim

def bare (o : AOper) : AOper := ⟨o.dst, o.op, o.args, none⟩

/-- a guarded part: all or none of it is run -/
theorem grp_run {g : Nat} {w : Bool} : ∀ (os : List AOper) (l : List Value) (s : St) (_ : ∀ o ∈ os, o.dst ≠ some g) (rest : List AOper),
    runOps T F (guarded g w os ++ rest) l s = if (yieldedL l g == some w) = true then (runOps T F (os.map bare) l s).bind fun r => runOps T F rest r.1 r.2
      else runOps T F rest (os.foldl (fun l o => putL l o.dst undef) l) s
  | [], l, s, _, rest => by simp [guarded, runOps, Out.bind]
  | o :: os, l, s, h, rest => by
    have ho := h o (by simp)
    have hy : ∀ v, yieldedL (putL l o.dst v) g = yieldedL l g := fun v => by
      cases hd : o.dst with
      | none => rfl
      | some d =>
        have : d ≠ g := fun e => ho (by rw [hd, e])
        simp only [putL, yieldedL]
        rw [lget_lset v l d g (fun e => this e.symm)]
    have ih := fun l s => grp_run (w := w) os l s (fun o' h' => h o' (by simp [h'])) rest
    have hw : wantedL ⟨o.dst, o.op, o.args, some (g, w)⟩ l = (yieldedL l g == some w) := rfl
    have hb : wantedL (bare o) l = true := rfl
    simp only [guarded, List.cons_append, runOps, List.map_cons, List.foldl_cons, hw, hb, if_true]
    by_cases hc : (yieldedL l g == some w) = true
    · rw [if_pos hc, if_pos hc]
      simp only [bare]
      generalize opStep T F o.op (o.args.map (Arg.ev l)) s = out
      have hih : ∀ r : Value × St, runOps T F (guarded g w os ++ rest) (putL l o.dst r.1) r.2 = (runOps T F (os.map bare) (putL l o.dst r.1) r.2).bind fun r => runOps T F rest r.1 r.2 := fun r => by
        rw [ih, hy, if_pos hc]
      simp only [hih]
      clear hih ih
      induction out with
      | ret r => rfl
      | fail => rfl
      | ask n k ih => simp only [Out.bind]; congr 1; funext i; exact ih i
    · rw [if_neg hc, if_neg hc, ih, hy, if_neg hc]

theorem mem_dsts {os : List AOper} {d : Option Nat} : d ∈ dsts os ↔ ∃ o ∈ os, o.dst = d := by
  induction os with
  | nil => simp [dsts]
  | cons o os ih => simp [dsts, ih, eq_comm]

theorem get_put (e : Env) (d : Option Nat) (v : Value) (k : Nat) : (e.put d v).get? k = if d = some k then some v else e.get? k := by
  cases d with
  | none => simp [Env.put]
  | some d => simp [Env.put, Env.get?]

theorem list_run : ∀ (os : List AOper) (e : Env) (l : List Value) (s : St) (K : Env → St → Prop), EnvOk nt e l → (os.all (dstOk nt)) = true → listE T F os e s K →
    (runOps T F (os.map bare) l s).all fun r => ∃ e', EnvOk nt e' r.1 ∧ K e' r.2 ∧ (∀ k, some k ∉ dsts os → e'.get? k = e.get? k) ∧ ∀ k, (some k ∈ dsts os ∨ (e.get? k).isSome = true) → (e'.get? k).isSome = true
  | [], e, l, s, K, he, _, h => ⟨e, he, h, fun _ _ => rfl, fun k hk => by simpa [dsts] using hk⟩
  | o :: os, e, l, s, K, he, hd, h => by
    simp only [List.all_cons, Bool.and_eq_true] at hd
    simp only [listE, opE] at h
    cases ha : e.args o.args with
    | none => rw [ha] at h; exact h.elim
    | some vs =>
      rw [ha] at h
      simp only at h
      simp only [List.map_cons, bare, runOps, wantedL, if_true]
      rw [Out.all_bind, he.args ha]
      have hd1 : ∀ k, o.dst = some k → k < nt := fun k hk => by
        have := hd.1
        simp only [dstOk, hk] at this
        exact Nat.le_of_ble_eq_true this
      refine Out.all_mono (fun r hr => ?_) (opK_all h)
      have := list_run os _ _ _ K (he.put hd1 r.1) hd.2 hr
      refine Out.all_mono (fun r' hr' => ?_) this
      obtain ⟨e', h1, h2, h3, h4⟩ := hr'
      refine ⟨e', h1, h2, fun k hk => ?_, fun k hk => h4 k ?_⟩
      · rw [h3 k (fun hh => hk (by simp [dsts, hh])), get_put, if_neg (fun hh => hk (by simp [dsts, hh]))]
      · rw [get_put]
        simp only [dsts, List.mem_cons] at hk
        by_cases hod : o.dst = some k
        · right; simp [hod]
        · rw [if_neg hod]
          rcases hk with (hk | hk) | hk
          · exact absurd hk.symm hod
          · exact .inl hk
          · exact .inr hk

theorem putL_get : ∀ (ds : List (Option Nat)) (e : Env) (i : Nat) (vs : List Value) (k : Nat) (v : Value), (e.putL ds i vs).get? k = some v →
    (∃ j : Nat, ds[j]? = some (some k) ∧ v = lget vs (i + j)) ∨ (some k ∉ ds ∧ e.get? k = some v)
  | [], e, i, vs, k, v, h => .inr ⟨by simp, h⟩
  | d :: ds, e, i, vs, k, v, h => by
    simp only [Env.putL] at h
    rcases putL_get ds _ _ vs k v h with ⟨j, h1, h2⟩ | ⟨h1, h2⟩
    · exact .inl ⟨j + 1, by simpa using h1, by rw [h2]; congr 1; omega⟩
    · rw [get_put] at h2
      split at h2
      · rename_i hd
        cases h2
        exact .inl ⟨0, by simp [hd], rfl⟩
      · rename_i hd
        exact .inr ⟨by simp only [List.mem_cons, not_or]; exact ⟨fun hh => hd hh.symm, h1⟩, h2⟩

theorem lget_vals (e : Env) : ∀ (os : List AOper) (j k : Nat), (dsts os)[j]? = some (some k) → lget (vals e os) j = (e.get? k).getD undef
  | [], j, k, h => by simp [dsts] at h
  | o :: os, 0, k, h => by simp [dsts] at h; simp [vals, lget, h]
  | o :: os, j + 1, k, h => by simp only [dsts, List.getElem?_cons_succ] at h; simp only [vals, lget]; exact lget_vals e os j k h

theorem lget_undefs : ∀ (os : List AOper) (j : Nat), lget (undefs os) j = undef
  | [], _ => rfl
  | _ :: os, 0 => rfl
  | _ :: os, j + 1 => lget_undefs os j

theorem undef_fold : ∀ (os : List AOper) (l : List Value), nt ≤ l.length → (os.all (dstOk nt)) = true →
    nt ≤ (os.foldl (fun l o => putL l o.dst undef) l).length ∧ ∀ k, (some k ∈ dsts os → lget (os.foldl (fun l o => putL l o.dst undef) l) k = undef) ∧ (some k ∉ dsts os → lget (os.foldl (fun l o => putL l o.dst undef) l) k = lget l k)
  | [], l, hl, _ => ⟨hl, fun k => ⟨fun h => by simp [dsts] at h, fun _ => rfl⟩⟩
  | o :: os, l, hl, hd => by
    simp only [List.all_cons, Bool.and_eq_true] at hd
    have hlen : (putL l o.dst undef).length = l.length := by cases o.dst <;> simp [putL, lset_length]
    obtain ⟨h1, h2⟩ := undef_fold os (putL l o.dst undef) (by omega) hd.2
    refine ⟨h1, fun k => ⟨fun hk => ?_, fun hk => ?_⟩⟩
    · simp only [List.foldl_cons]
      by_cases hin : some k ∈ dsts os
      · exact (h2 k).1 hin
      · rw [(h2 k).2 hin]
        simp only [dsts, List.mem_cons] at hk
        rcases hk with hk | hk
        · have hlt : k < nt := by
            have := hd.1
            simp only [dstOk, ← hk] at this
            exact Nat.le_of_ble_eq_true this
          rw [← hk]
          exact lget_lset_same undef l k (by omega)
        · exact absurd hk hin
    · simp only [List.foldl_cons]
      simp only [dsts, List.mem_cons, not_or] at hk
      rw [(h2 k).2 hk.2]
      cases ho : o.dst with
      | none => rfl
      | some d =>
        rw [ho] at hk
        exact lget_lset undef l d k (fun hh => hk.1 (by rw [hh]))

theorem grps_run : ∀ (gs : List Grp) (e : Env) (l : List Value) (s : St) (K : Env → St → Prop), EnvOk nt e l → (gs.all (grpOk nt)) = true → grpsE T F gs e s K →
    (runOps T F (flatG gs) l s).all fun r => ∃ e', EnvOk nt e' r.1 ∧ K e' r.2
  | [], e, l, s, K, he, _, h => ⟨e, he, h⟩
  | .one o :: gs, e, l, s, K, he, hd, h => by
    simp only [List.all_cons, Bool.and_eq_true, grpOk] at hd
    simp only [grpsE, opE] at h
    cases ha : e.args o.args with
    | none => rw [ha] at h; exact h.elim
    | some vs =>
      rw [ha] at h
      simp only at h
      simp only [flatG, runOps, wantedL, if_true]
      rw [Out.all_bind, he.args ha]
      have hd1 : ∀ k, o.dst = some k → k < nt := fun k hk => by
        have := hd.1
        simp only [dstOk, hk] at this
        exact Nat.le_of_ble_eq_true this
      refine Out.all_mono (fun r hr => ?_) (opK_all h)
      exact grps_run gs _ _ _ K (he.put hd1 r.1) hd.2 hr
  | .grp g w os :: gs, e, l, s, K, he, hd, h => by
    have ih := grps_run gs
    simp only [List.all_cons, Bool.and_eq_true, grpOk, List.all_eq_true, bne_iff_ne, ne_eq] at hd
    have hd1 : (os.all (dstOk nt)) = true := List.all_eq_true.2 fun o ho => (hd.1 o ho).1
    simp only [flatG]
    rw [grp_run os l s (fun o ho => (hd.1 o ho).2) (flatG gs)]
    simp only [grpsE, joinP] at h
    have no : grpsE T F gs (e.putL (dsts os) 0 (undefs os)) s K → (runOps T F (flatG gs) (os.foldl (fun l o => putL l o.dst undef) l) s).all fun r => ∃ e', EnvOk nt e' r.1 ∧ K e' r.2 := fun h => by
      refine ih _ _ _ K ⟨(undef_fold os l he.len hd1).1, fun k v hk => ?_⟩ (List.all_eq_true.2 hd.2) h
      have hu := (undef_fold os l he.len hd1).2 k
      rcases putL_get _ _ _ _ k v hk with ⟨j, h1, h2⟩ | ⟨h1, h2⟩
      · rw [lget_undefs] at h2
        rw [h2]
        exact hu.1 (List.mem_of_getElem? h1)
      · rw [hu.2 h1]
        exact he.at_ k v h2
    have yes : listE T F os e s (fun e' s' => grpsE T F gs (e.putL (dsts os) 0 (vals e' os)) s' K) → ((runOps T F (os.map bare) l s).bind fun r => runOps T F (flatG gs) r.1 r.2).all fun r => ∃ e', EnvOk nt e' r.1 ∧ K e' r.2 := fun h => by
      rw [Out.all_bind]
      refine Out.all_mono (fun r hr => ?_) (list_run os e l s _ he hd1 h)
      obtain ⟨e', h1, h2, h3, h4⟩ := hr
      refine ih _ _ _ K ⟨h1.len, fun k v hk => ?_⟩ (List.all_eq_true.2 hd.2) h2
      rcases putL_get _ _ _ _ k v hk with ⟨j, k1, k2⟩ | ⟨k1, k2⟩
      · rw [Nat.zero_add, lget_vals e' os j k k1] at k2
        have := h4 k (.inl (List.mem_of_getElem? k1))
        obtain ⟨u, hu⟩ := Option.isSome_iff_exists.1 this
        rw [hu] at k2
        rw [k2]
        exact h1.at_ k _ hu
      · exact h1.at_ k v (by rw [h3 k k1]; exact k2)
    cases hgv : e.get? g with
    | none => rw [hgv] at h; exact h.elim
    | some v =>
      rw [hgv] at h
      have hy := he.at_ g v hgv
      cases v with
      | bool b =>
        simp only [guardP] at h
        have : (yieldedL l g == some w) = (b == w) := by simp [yieldedL, hy]
        rw [this]
        by_cases hb : b = w
        · rw [if_pos hb] at h; rw [if_pos (by simp [hb])]; exact yes h
        · rw [if_neg hb] at h; rw [if_neg (by simp [hb])]; exact no h
      | _ =>
        simp only [guardP] at h
        have : (yieldedL l g == some w) = false := by simp [yieldedL, hy]
        rw [this]
        exact no h

theorem sx_runs : ∀ (c : GC) (e : Env) (s : St) (N : Env → St → Prop) (E : Nat → Env → St → Prop) (R : Env → St → Prop), dstsB nt c = true → sx T F m nt c e s N E R → Runs T F m nt (fromG c) e s N E R
  | .skip, e, s, N, E, R, _, h => fun l he => ⟨e, he, h⟩
  | .exit id, e, s, N, E, R, _, h => fun l he => ⟨e, he, h⟩
  | .ret, e, s, N, E, R, _, h => fun l he => ⟨e, he, h⟩
  | .bad, e, s, N, E, R, _, h => h.elim
  | .loop b, e, s, N, E, R, _, h => h
  | .region gs, e, s, N, E, R, hd, h => fun l he => by
    simp only [fromG, code]
    rw [Out.all_bind]
    exact grps_run gs e l s N he hd h
  | .seq a b, e, s, N, E, R, hd, h => fun l he => by
    simp only [dstsB, Bool.and_eq_true] at hd
    simp only [fromG, code]
    rw [Out.all_bind]
    refine Out.all_mono (fun r hr => ?_) (sx_runs a e s _ E R hd.1 h l he)
    cases r with
    | norm l s =>
      obtain ⟨e', h1, h2⟩ := hr
      exact sx_runs b e' s N E R hd.2 h2 l h1
    | exit id l s => exact hr
    | ret l s => exact hr
  | .cond c x y, e, s, N, E, R, hd, h => fun l he => by
    simp only [dstsB, Bool.and_eq_true] at hd
    simp only [sx] at h
    cases hc : e.arg c with
    | none => rw [hc] at h; exact h.elim
    | some v =>
      rw [hc] at h
      simp only [fromG, code]
      rw [he.arg hc]
      cases v <;> (try (exact h.elim))
      rename_i b
      cases b with
      | true => exact sx_runs x e s N E R hd.1 h l he
      | false => exact sx_runs y e s N E R hd.2 h l he
  | .block id b, e, s, N, E, R, hd, h => fun l he => by
    simp only [fromG, code]
    rw [Out.all_bind]
    refine Out.all_mono (fun r hr => ?_) (sx_runs b e s _ _ R hd h l he)
    cases r with
    | norm l s => exact hr
    | exit id' l s =>
      obtain ⟨e', h1, h2⟩ := hr
      simp only
      split at h2
      · rename_i hid; rw [if_pos hid]; exact ⟨e', h1, h2⟩
      · rename_i hid; rw [if_neg hid]; exact ⟨e', h1, h2⟩
    | ret l s => exact hr

/-- a loop: what holds whenever a round begins (of the slots that are carried on, and of the heap), and what each round lowers -/
theorem loop_rule {b : GC} {e : Env} {s : St} {N : Env → St → Prop} {E : Nat → Env → St → Prop} {R : Env → St → Prop} (live : List Nat) (I : List Value → St → Prop) (μ : List Value → St → Nat) (hb : dstsB nt b = true)
    (h0 : ∃ vs, e.gets live = some vs ∧ I vs s ∧ μ vs s < m)
    (round : ∀ vs s, I vs s → sx T F m nt b (live.zip vs) s (fun e' s' => ∃ vs', e'.gets live = some vs' ∧ I vs' s' ∧ μ vs' s' < μ vs s) E R) : Runs T F m nt (.loop (fromG b)) e s N E R := by
  intro l he
  simp only [code]
  have zip : ∀ (live : List Nat) (e : Env) (l : List Value) (vs : List Value), EnvOk nt e l → e.gets live = some vs → EnvOk nt (live.zip vs) l := by
    intro live e l
    induction live with
    | nil => intro vs he _; exact ⟨he.len, fun k v h => by simp [Env.get?] at h⟩
    | cons k ks ih =>
      intro vs he hg
      simp only [Env.gets] at hg
      split at hg
      · rename_i v hv
        split at hg
        · rename_i vs' hvs
          cases hg
          refine ⟨he.len, fun k' u hk => ?_⟩
          simp only [List.zip_cons_cons, Env.get?] at hk
          split at hk
          · rename_i hkk
            cases hk
            subst hkk
            exact he.at_ _ _ hv
          · exact (ih vs' he hvs).at_ k' u hk
        · cases hg
      · cases hg
  have key : ∀ (k : Nat) (l : List Value) (s : St) (vs : List Value), EnvOk nt (live.zip vs) l → I vs s → μ vs s < k → (iter (code T F m (fromG b)) k l s).all (ResOk nt N E R) := by
    intro k
    induction k with
    | zero => intro l s vs _ _ h; exact absurd h (by omega)
    | succ k ih =>
      intro l s vs he hI hμ
      simp only [iter]
      rw [Out.all_bind]
      refine Out.all_mono (fun r hr => ?_) (sx_runs b _ s _ E R hb (round vs s hI) l he)
      cases r with
      | norm l s =>
        obtain ⟨e', h1, vs', h2, h3, h4⟩ := hr
        exact ih l s vs' (zip live e' l vs' h1 h2) h3 (by omega)
      | exit id l s => exact hr
      | ret l s => exact hr
  obtain ⟨vs, h1, h2, h3⟩ := h0
  exact key m l s vs (zip live e l vs he h1) h2 h3

/-! ### functions -/
def lookFn : List (Nat × GFn) → FuncId → Option AFn
  | [], _ => none
  | (k, fn) :: r, f => if k = f then some (fromGFn fn) else lookFn r f

def AllOk (P : Program) : List (Nat × GFn) → Prop
  | [] => True
  | (k, fn) :: r => compFn P k = some (fromGFn fn) ∧ AllOk P r

theorem lookFn_ok {P : Program} : ∀ {t : List (Nat × GFn)}, AllOk P t → ∀ f fn, lookFn t f = some fn → compFn P f = some fn
  | [], _, f, fn, h => by simp [lookFn] at h
  | (k, g) :: r, ha, f, fn, h => by
    simp only [lookFn] at h
    split at h
    · rename_i hk; injection h with h; rw [← h, ← hk]; exact ha.1
    · exact lookFn_ok ha.2 f fn h

def argsEnv : Nat → List Value → Env
  | _, [] => []
  | i, v :: vs => (i, v) :: argsEnv (i + 1) vs

def res1E (e : Env) (s : St) : Nat × Nat → Option Value
  | (t, 0) => e.get? t
  | (t, 1) => match e.get? t with
    | some v => rop .load1 [v] s
    | none => none
  | (t, n + 2) => match e.get? t with
    | some v => rop (.loadN n) [v] s
    | none => none

def resE (e : Env) (s : St) : List (Nat × Nat) → Option (List Value)
  | [] => some []
  | r :: rs => match res1E e s r with
    | some v => match resE e s rs with
      | some vs => some (v :: vs)
      | none => none
    | none => none

def tupled : List Value → Value
  | [v] => v
  | vs => .tuple vs.toArray

def resP (e : Env) (s : St) (rs : List (Nat × Nat)) (Q : Value → St → Prop) : Prop :=
  match resE e s rs with
  | some vs => Q (tupled vs) s
  | none => False

/-- what is asked of a function's run -/
def fnP (T : Tab) (F : CallF) (m : Nat) (fn : GFn) (args : List Value) (s : St) (Q : Value → St → Prop) : Prop :=
  sx T F m fn.ntmps fn.body (argsEnv 0 args) s (fun e s => resP e s fn.results Q) (fun _ _ _ => False) fun e s => resP e s fn.results Q

def fnB (fn : GFn) : Bool := dstsB fn.ntmps fn.body && !gPush fn.body

/-- what was deferred is done -/
def defsK (D : CallF) : List Value → St → (St → Prop) → Prop
  | .func (.func f) first cap :: es, s, K => callK D f (first.toList ++ cap.toList) s fun _ s => defsK D es s K
  | .nilIface :: _, s, K => K s
  | _, _, _ => False

/-- the end of a function that defers -/
def endK (D : CallF) (nt : Nat) (e : Env) (s : St) (rs : List (Nat × Nat)) (Q : Value → St → Prop) : Prop :=
  match e.get? nt with
  | some (.tuple es) => defsK D es.toList s fun s => resP e s rs Q
  | _ => False

/-- what is asked of the run of a function that defers -/
def fnD (T : Tab) (F D : CallF) (m : Nat) (fn : GFn) (args : List Value) (s : St) (Q : Value → St → Prop) : Prop :=
  sx T F m (fn.ntmps + 1) fn.body ((fn.ntmps, .tuple #[.nilIface]) :: argsEnv 0 args) s (fun e s => endK D fn.ntmps e s fn.results Q) (fun _ _ _ => False) fun e s => endK D fn.ntmps e s fn.results Q

def fnDB (fn : GFn) : Bool := dstsB (fn.ntmps + 1) fn.body && gPush fn.body

theorem argsEnv_get : ∀ (args : List Value) (i k : Nat) (v : Value), (argsEnv i args).get? k = some v → ∃ j, k = i + j ∧ args[j]? = some v
  | [], i, k, v, h => by simp [argsEnv, Env.get?] at h
  | a :: args, i, k, v, h => by
    simp only [argsEnv, Env.get?] at h
    split at h
    · rename_i he; cases h; exact ⟨0, by omega, rfl⟩
    · obtain ⟨j, h1, h2⟩ := argsEnv_get args (i + 1) k v h
      exact ⟨j + 1, by omega, by simpa using h2⟩

theorem lget_eq (l : List Value) (k : Nat) {v : Value} (h : l[k]? = some v) : lget l k = v := by
  induction l generalizing k with
  | nil => simp at h
  | cons x l ih => cases k with
    | zero => simpa [lget] using h
    | succ k => simp only [lget]; exact ih k (by simpa using h)

theorem resE_ok {e : Env} {l : List Value} (he : EnvOk nt e l) {s : St} : ∀ {rs : List (Nat × Nat)} {vs : List Value}, resE e s rs = some vs → resultsL l s rs = some vs
  | [], vs, h => by simp [resE] at h; simp [resultsL, h]
  | r :: rs, vs, h => by
    simp only [resE] at h
    split at h
    · rename_i v hv
      split at h
      · rename_i vs' hvs
        cases h
        have h1 : results1 l s r = some v := by
          obtain ⟨t, n⟩ := r
          match n with
          | 0 => simp only [res1E] at hv; simp only [results1]; rw [he.at_ t v hv]
          | 1 =>
            simp only [res1E] at hv
            cases hg : e.get? t with
            | none => rw [hg] at hv; cases hv
            | some u => rw [hg] at hv; simp only [results1]; rw [he.at_ t u hg]; exact hv
          | n + 2 =>
            simp only [res1E] at hv
            cases hg : e.get? t with
            | none => rw [hg] at hv; cases hv
            | some u => rw [hg] at hv; simp only [results1]; rw [he.at_ t u hg]; exact hv
        simp only [resultsL, h1, Option.bind_some, resE_ok he hvs, Option.map_some]
      · cases h
    · cases h

theorem tupled_ok {l : List Value} {s : St} {rs : List (Nat × Nat)} {vs : List Value} (h : resultsL l s rs = some vs) : resultV l s rs = some (tupled vs) := by
  unfold resultV
  rw [h]
  match vs with
  | [] => rfl
  | [v] => rfl
  | _ :: _ :: _ => rfl

theorem fn_runs {O : CallF} {fns : FuncId → Option AFn} {n : Nat} {f : FuncId} {fn : GFn} (hf : fns f = some (fromGFn fn)) (hb : fnB fn = true) {args : List Value} {s : St} {Q : Value → St → Prop}
    (h : fnP T (callO T O fns m n) m fn args s Q) : callK (callO T O fns m (n + 1)) f args s Q := by
  unfold callK
  simp only [fnB, Bool.and_eq_true, Bool.not_eq_true'] at hb
  simp only [callO, hf, fromGFn, hb.2]
  replace hb := hb.1
  rw [Out.all_bind]
  have he : EnvOk fn.ntmps (argsEnv 0 args) (padded args fn.ntmps) := by
    refine ⟨by simp [padded]; omega, fun k v hk => ?_⟩
    obtain ⟨j, h1, h2⟩ := argsEnv_get args 0 k v hk
    have hlt : j < args.length := by
      by_cases hj : j < args.length
      · exact hj
      · rw [List.getElem?_eq_none (by omega)] at h2; cases h2
    refine lget_eq _ _ ?_
    rw [padded, h1, Nat.zero_add, List.getElem?_append_left hlt]
    exact h2
  refine Out.all_mono (fun r hr => ?_) (sx_runs fn.body _ s _ _ _ hb h _ he)
  have fin : ∀ l s', (∃ e, EnvOk fn.ntmps e l ∧ resP e s' fn.results Q) → (resO fn.results l s').all fun r => Q r.1 r.2 := fun l s' hh => by
    obtain ⟨e, h1, h2⟩ := hh
    unfold resP at h2
    unfold resO
    cases hv : resE e s' fn.results with
    | none => rw [hv] at h2; exact h2.elim
    | some vs =>
      rw [hv] at h2
      rw [tupled_ok (resE_ok h1 hv)]
      exact h2
  cases r with
  | norm l s => exact fin l s hr
  | ret l s => exact fin l s hr
  | exit id l s => obtain ⟨e, _, h⟩ := hr; exact h.elim

theorem defsK_runs {D : CallF} {rs : List (Nat × Nat)} {l : List Value} {e : Env} {nt : Nat} (he : EnvOk nt e l) {Q : Value → St → Prop} : ∀ (es : List Value) (s : St), defsK D es s (fun s => resP e s rs Q) → ((runDefs D es s).bind fun s => resO rs l s).all fun r => Q r.1 r.2 := by
  intro es
  induction es with
  | nil => intro s h; simp only [defsK] at h
  | cons v es ih =>
    intro s h
    cases v <;> (try (simp only [defsK] at h; done))
    · rename_i fn first cap
      cases fn <;> (try (simp only [defsK] at h; done))
      rename_i f
      simp only [defsK, callK] at h
      simp only [runDefs]
      rw [Out.all_bind, Out.all_bind]
      refine Out.all_mono (fun r hr => ?_) h
      have := ih r.2 hr
      rw [Out.all_bind] at this
      exact this
    · simp only [defsK] at h
      simp only [runDefs, Out.bind]
      unfold resP at h
      unfold resO
      cases hv : resE e s rs with
      | none => rw [hv] at h; exact h.elim
      | some vs =>
        rw [hv] at h
        rw [tupled_ok (resE_ok he hv)]
        exact h

theorem fnD_runs {O : CallF} {fns : FuncId → Option AFn} {n : Nat} {f : FuncId} {fn : GFn} (hf : fns f = some (fromGFn fn)) (hb : fnDB fn = true) {args : List Value} (hle : Nat.ble args.length fn.ntmps = true) {s : St} {Q : Value → St → Prop}
    (h : fnD T (callO T O fns m n) (deferF T fns n (callO T O fns m n)) m fn args s Q) : callK (callO T O fns m (n + 1)) f args s Q := by
  unfold callK
  simp only [fnDB, Bool.and_eq_true] at hb
  simp only [callO, hf, fromGFn, hb.2, hle, cond_true]
  replace hb := hb.1
  rw [Out.all_bind]
  have hle' : args.length ≤ fn.ntmps := Nat.le_of_ble_eq_true hle
  have hlen : (padded args fn.ntmps).length = fn.ntmps := by simp [padded]; omega
  have he : EnvOk (fn.ntmps + 1) ((fn.ntmps, .tuple #[.nilIface]) :: argsEnv 0 args) (padded args fn.ntmps ++ [.tuple #[.nilIface]]) := by
    refine ⟨by simp [hlen], fun k v hk => ?_⟩
    simp only [Env.get?] at hk
    split at hk
    · rename_i he
      cases hk
      have := @lget_at (padded args fn.ntmps) (.tuple #[.nilIface])
      rw [hlen] at this
      rw [← he]
      exact this
    · obtain ⟨j, h1, h2⟩ := argsEnv_get args 0 k v hk
      have hlt : j < args.length := by
        by_cases hj : j < args.length
        · exact hj
        · rw [List.getElem?_eq_none (by omega)] at h2; cases h2
      refine lget_eq _ _ ?_
      rw [List.getElem?_append_left (by omega), padded, h1, Nat.zero_add, List.getElem?_append_left hlt]
      exact h2
  refine Out.all_mono (fun r hr => ?_) (sx_runs fn.body _ s _ _ _ hb h _ he)
  have fin : ∀ l s', (∃ e, EnvOk (fn.ntmps + 1) e l ∧ endK (deferF T fns n (callO T O fns m n)) fn.ntmps e s' fn.results Q) → (endD (deferF T fns n (callO T O fns m n)) fn.ntmps fn.results l s').all fun r => Q r.1 r.2 := fun l s' hh => by
    obtain ⟨e, h1, h2⟩ := hh
    unfold endK at h2
    unfold endD
    cases hg : e.get? fn.ntmps with
    | none => rw [hg] at h2; exact h2.elim
    | some v =>
      rw [hg] at h2
      cases v <;> (try (exact h2.elim))
      rw [h1.at_ _ _ hg]
      exact defsK_runs h1 _ _ h2
  cases r with
  | norm l s => exact fin l s hr
  | ret l s => exact fin l s hr
  | exit id l s => obtain ⟨e, _, h⟩ := hr; exact h.elim

theorem deferK {T : Tab} {O : CallF} {fns : FuncId → Option AFn} {n m : Nat} {f : FuncId} {fn : GFn} (hf : fns f = some (fromGFn fn)) (hp : gPush fn.body = false) (args : List Value) (s : St) (K : Value → St → Prop) : callK (deferF T fns (n + 1) (callO T O fns m (n + 1))) f args s K = callK (callO T O fns m (n + 1)) f args s K := by
  unfold callK
  simp only [deferF, hf, fromGFn, hp, cond_false]

/-- a deferred call of a function whose text is not at hand -/
theorem deferO {T : Tab} {C : CallF} {fns : FuncId → Option AFn} {n : Nat} {f : FuncId} (hf : fns f = none) (args : List Value) (s : St) (K : Value → St → Prop) : callK (deferF T fns n C) f args s K = callK T.dfr f args s K := by
  unfold callK
  simp only [deferF, hf]

/-- a function that is one value, one heap -/
theorem callK_ret {F : CallF} {f : FuncId} {args : List Value} {s : St} {v : Value} {s' : St} (h : F f args s = .ret (v, s')) {K : Value → St → Prop} : callK F f args s K ↔ K v s' := by
  unfold callK
  rw [h]
  rfl

theorem callK_mono {F : CallF} {f : FuncId} {args : List Value} {s : St} {Q K : Value → St → Prop} (h : callK F f args s Q) (hk : ∀ v s', Q v s' → K v s') : callK F f args s K := Out.all_mono (fun r hr => hk r.1 r.2 hr) h

end
end Go.Am
