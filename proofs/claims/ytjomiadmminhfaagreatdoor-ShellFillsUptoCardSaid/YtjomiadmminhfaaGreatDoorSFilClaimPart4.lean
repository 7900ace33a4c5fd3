/-
  Regions, code, calls: what the second machine comes to, the first one does, whatever its tape holds.
  A region that draws its order: its operations, each pair of which waits or may be exchanged, come to the same in every order.
  Code and calls: what the second machine's run comes to, the first one's does.
-/
import Derived.Test.YtjomiadmminhfaaGreatDoorSFilClaimPart3
import Derived.LoopN
import Derived.Defers
section
set_option linter.unusedSimpArgs false
set_option linter.unusedVariables false
set_option maxRecDepth 10000
namespace Go.Am
open Go.RowKit (Below)

/-- the program's variables have their own blocks' names -/
def Glob (P : Program) (μ : Nat → Spot) (n : Nat) : Prop := ∀ g, g < P.globals.size → g < n ∧ (μ g).block = g ∧ (μ g).base = 0

theorem Glob.mono {P : Program} {μ μ' : Nat → Spot} {n n' : Nat} (h : Glob P μ n) (ha : Agree μ n μ' n') : Glob P μ' n' := fun g hg => by
  obtain ⟨h1, h2, h3⟩ := h g hg
  rw [ha.2 g h1]
  exact ⟨Nat.lt_of_lt_of_le h1 ha.1, h2, h3⟩

/-- what a call is good for -/
def CallOk (P : Program) (f : FuncId) (vs : List Value) (s : St) (Q : Value × St → Prop) : Prop :=
  ∀ (B0 : Nat) (W0 : World) (μ : Nat → Spot) (w : World) (args : List Value), Rel B0 W0 μ s w → Glob P μ s.next → VRs μ s.next vs args →
    Calls P f args.toArray w fun e w' => ∃ v s' v', Q (v, s') ∧ e = .returned v' ∧ After B0 W0 μ s v s' v' w'

def FSound (P : Program) (F : CallF) : Prop := ∀ f vs s Q, (F f vs s).all Q → (∃ fn, P.funcs[f]? = some fn ∧ fn.body.isSome = true ∧ (fn.name == "runtime.NumGoroutine") = false) ∧ CallOk P f vs s Q

def TabOk (P : Program) (T : Tab) : Prop := ∀ t name f, T.meth t name = some f → ∀ v w, (method (P.types.size + Made.depth) t v name).run P w = .ok (f, v) w

/-- what a deferred call is, as a value -/
def dV (d : Deferred) : Value :=
  match d.target with
  | .fn fn cap => .func fn d.args cap
  | _ => undef

/-- the slots behind the function's own: none, or one that holds what is deferred -/
def Stk (μ : Nat → Spot) (n : Nat) (fl : Bool) (k : List Value) (ds : List Deferred) : Prop :=
  (k = [] ∧ ds = [] ∧ fl = false) ∨ ∃ es, fl = true ∧ k = [.tuple (es ++ [.nilIface]).toArray] ∧ VRs μ n es (ds.map dV) ∧ ∀ d ∈ ds, ∃ f cap, d.target = .fn (.func f) cap

/-- the slots: b of them the function's own -/
structure LR (μ : Nat → Spot) (n b : Nat) (fl : Bool) (l : List Value) (a : Act) : Prop where
  size : b ≤ a.tmps.size ∧ (fl = true → a.tmps.size = b)
  ex : ∃ l0 k, l = l0 ++ k ∧ VRs μ n l0 a.tmps.toList ∧ Stk μ n fl k a.defers

/-- how the first machine stands, as against the second one's slots and heap; where the function began: (μ0, n0) -/
structure Sim (P : Program) (B0 : Nat) (W0 : World) (μ0 : Nat → Spot) (n0 b : Nat) (fl : Bool) (l : List Value) (s : St) (a : Act) (w : World) : Prop where
  ex : ∃ μ, Agree μ0 n0 μ s.next ∧ Rel B0 W0 μ s w ∧ Glob P μ s.next ∧ LR μ s.next b fl l a

section
variable {P : Program} {B0 : Nat} {W0 : World} {μ : Nat → Spot} {n b : Nat} {fl : Bool}

theorem Stk.mono {μ' : Nat → Spot} {n' : Nat} {k : List Value} {ds : List Deferred} (h : Stk μ n fl k ds) (ha : Agree μ n μ' n') : Stk μ' n' fl k ds := by
  rcases h with h | ⟨es, h0, h1, h2, h3⟩
  · exact .inl h
  · exact .inr ⟨es, h0, h1, h2.mono ha, h3⟩

theorem LR.mono {μ' : Nat → Spot} {n' : Nat} {l : List Value} {a : Act} (h : LR μ n b fl l a) (ha : Agree μ n μ' n') : LR μ' n' b fl l a := by
  obtain ⟨h0, l0, k, h1, h2, h3⟩ := h
  exact ⟨h0, l0, k, h1, h2.mono ha, h3.mono ha⟩

theorem lget_append {l k : List Value} {t : Nat} (h : t < l.length) : lget (l ++ k) t = lget l t := by
  induction l generalizing t with
  | nil => simp at h
  | cons x l ih => cases t with
    | zero => rfl
    | succ t => simp only [List.cons_append, lget]; exact ih (by simpa using h)

theorem lget_at {l : List Value} {x : Value} : lget (l ++ [x]) l.length = x := by
  induction l with
  | nil => rfl
  | cons y l ih => simpa [lget] using ih

theorem lget_out {l : List Value} {t : Nat} (h : l.length ≤ t) : lget l t = undef := by
  induction l generalizing t with
  | nil => rfl
  | cons x l ih => cases t with
    | zero => simp at h
    | succ t => simp only [lget]; exact ih (by simpa using h)

theorem lset_append {l k : List Value} {t : Nat} {v : Value} (h : t < l.length) : lset (l ++ k) t v = lset l t v ++ k := by
  induction l generalizing t with
  | nil => simp at h
  | cons x l ih => cases t with
    | zero => rfl
    | succ t => simp only [List.cons_append, lset]; rw [ih (by simpa using h)]

theorem lset_at {l : List Value} {x v : Value} : lset (l ++ [x]) l.length v = l ++ [v] := by
  induction l with
  | nil => rfl
  | cons y l ih => simpa [lset] using ih

theorem LR.get {l : List Value} {a : Act} (h : LR μ n b fl l a) {t : Nat} (ht : t < b) : VR μ n (lget l t) (a.tmps.toList.getD t undef) := by
  obtain ⟨⟨h0, _⟩, l0, k, rfl, h2, _⟩ := h
  have hlen := h2.length
  rw [Array.length_toList] at hlen
  rw [lget_append (by omega)]
  exact h2.lget t

theorem argOf_rel (hg : Glob P μ n) {l : List Value} {a : Act} (hl : LR μ n b fl l a) {x : Operand} {y : Arg} (h : argOf P b x = some y) : VR μ n (y.ev l) (a.eval x) := by
  cases x with
  | tmp t =>
    simp [argOf] at h
    obtain ⟨ht, rfl⟩ := h
    have := hl.get ht
    simpa [Arg.ev, Act.eval] using this
  | const v =>
    simp [argOf] at h
    obtain ⟨h1, rfl⟩ := h
    exact plainV_rel h1
  | global g =>
    simp [argOf] at h
    obtain ⟨h1, rfl⟩ := h
    obtain ⟨k1, k2, k3⟩ := hg g h1
    have := VR.ptr (μ := μ) (n := n) g 0 k1
    rw [k2, k3] at this
    exact this
  | func f =>
    simp [argOf] at h
    subst h
    exact .func _ _ _ _ _ .nil .nil

theorem argsOf_rel (hg : Glob P μ n) {l : List Value} {a : Act} (hl : LR μ n b fl l a) : ∀ {xs : List Operand} {ys : List Arg}, argsOf P b xs = some ys → VRs μ n (ys.map (Arg.ev l)) (xs.map a.eval)
  | [], ys, h => by simp [argsOf] at h; subst h; exact .nil
  | x :: xs, ys, h => by
    simp only [argsOf, Option.bind_eq_some_iff, Option.map_eq_some_iff] at h
    obtain ⟨y, hy, ys', hys, rfl⟩ := h
    exact .cons _ _ _ _ (argOf_rel hg hl hy) (argsOf_rel hg hl hys)

theorem put_rel {l : List Value} {a : Act} (hl : LR μ n b fl l a) {v v' : Value} (hv : VR μ n v v') (d : Option Nat) (hd : dstIn b d = true) : LR μ n b fl (putL l d v) (a.put d v') := by
  cases d with
  | none => exact hl
  | some d =>
    obtain ⟨h0, l0, k, rfl, h2, h3⟩ := hl
    have hlen := h2.length
    rw [Array.length_toList] at hlen
    have hd' : d < b := by simpa [dstIn] using hd
    have h0' := h0.1
    refine ⟨by simpa [Act.put] using h0, lset l0 d v, k, ?_, ?_, h3⟩
    · simp only [putL]; exact lset_append (by omega)
    · simp only [Act.put, Array.toList_setIfInBounds]
      exact h2.lset hv d

def AOp.plain : AOp → Bool
  | .p _ | .r _ | .w _ => true
  | _ => false

theorem compOp_shape {op : Op} {p : AOp} {xs : List Operand} (hc : compOp P op = some (p, xs)) : p.plain = true ∨ (∃ it str, op = .next it str ∧ p = .next str ∧ xs = [it]) ∨ ∃ c, op = .call c ∧ compCall P c = some (p, xs) := by
  cases op with
  | next it str => simp [compOp] at hc; exact .inr (.inl ⟨it, str, rfl, hc.1.symm, hc.2.symm⟩)
  | call c => exact .inr (.inr ⟨c, rfl, hc⟩)
  | makeMap t r => cases r <;> simp [compOp] at hc; exact .inl (by rw [← hc.1]; rfl)
  | _ =>
    refine .inl ?_
    simp only [compOp] at hc
    repeat' (first
      | (cases hc; done)
      | (injection hc with hc; injection hc with hc _; subst hc; rfl)
      | (obtain ⟨rfl, _⟩ := hc; rfl)
      | (simp only [Option.bind_eq_some_iff, Option.map_eq_some_iff, Prod.mk.injEq] at hc; done)
      | (simp only [Option.bind_eq_some_iff, Option.map_eq_some_iff, Prod.mk.injEq] at hc)
      | (obtain ⟨_, _, hc⟩ := hc)
      | (split at hc))

theorem compCall_shape {c : Call} {p : AOp} {xs : List Operand} (hc : compCall P c = some (p, xs)) : p.plain = true ∨ (∃ f, c.callee = .value (.func f) ∧ p = .call f ∧ xs = c.args.toList) ∨ (∃ x, c.callee = .value x ∧ p = .callV ∧ xs = x :: c.args.toList) ∨
    ∃ r name, c.callee = .invoke r name ∧ p = .invoke name ∧ xs = r :: c.args.toList := by
  unfold compCall at hc
  split at hc
  · rename_i f hf; simp at hc; exact .inr (.inl ⟨f, hf, hc.1.symm, hc.2.symm⟩)
  · rename_i x _ hx; simp at hc; exact .inr (.inr (.inl ⟨x, hx, hc.1.symm, hc.2.symm⟩))
  · rename_i r name hx; simp at hc; exact .inr (.inr (.inr ⟨r, name, hx, hc.1.symm, hc.2.symm⟩))
  · refine .inl ?_
    repeat' (first
      | (cases hc; done)
      | (injection hc with hc; injection hc with hc _; subst hc; rfl)
      | (obtain ⟨rfl, _⟩ := hc; rfl)
      | (simp only [Option.bind_eq_some_iff, Option.map_eq_some_iff, Prod.mk.injEq] at hc; done)
      | (simp only [Option.bind_eq_some_iff, Option.map_eq_some_iff, Prod.mk.injEq] at hc)
      | (obtain ⟨_, _, hc⟩ := hc)
      | (split at hc))

/-- the operation's wp, out of what the second machine's step comes to -/
theorem step_sound {T : Tab} {F : CallF} (hF : FSound P F) (hT : TabOk P T) {μ0 : Nat → Spot} {n0 : Nat} {o : Oper} {p : AOp} {xs : List Operand} {ys : List Arg} (hc : compOp P o.op = some (p, xs)) (hy : argsOf P b xs = some ys) (hdst : dstIn b o.dst = true)
    {l : List Value} {s : St} {a : Act} {w : World} (hs : Sim P B0 W0 μ0 n0 b fl l s a w) {K : List Value → St → Prop} {Q : Exit → Act → World → Prop} {next : Act → World → Prop}
    (hn : ∀ l s a w, K l s → Sim P B0 W0 μ0 n0 b fl l s a w → next a w)
    (h : (opStep T F p (ys.map (Arg.ev l)) s).all fun r => K (putL l o.dst r.1) r.2) : o.wp P a w next Q := by
  obtain ⟨⟨μ, ha, hr, hg, hl⟩⟩ := hs
  have hv := argsOf_rel hg hl hy
  -- behind a step that is known: on
  have go : ∀ {v : Value} {s' : St} {v' : Value} {w' : World}, K (putL l o.dst v) s' → After B0 W0 μ s v s' v' w' → next (a.put o.dst v') w' := fun {v s' v' w'} hk haf => by
    obtain ⟨μ', m1, m2, m3⟩ := haf
    exact hn _ _ _ _ hk ⟨⟨μ', ha.trans m1, m2, hg.mono m1, put_rel (hl.mono m1) m3 _ hdst⟩⟩
  have did : ∀ {v : Value} {s' : St} {v' : Value} {w' : World}, K (putL l o.dst v) s' → Did P a.eval o w v' w' → After B0 W0 μ s v s' v' w' → o.wp P a w next Q := fun {v s' v' w'} hk hdid haf => by
    unfold Oper.wp
    rcases hdid with hdid | ⟨hdid, rfl⟩
    · rw [hdid]; exact go hk haf
    · rw [hdid]; exact go hk haf
  have call : ∀ {f : FuncId} {vs : List Value} {args : Array Value}, (execOp a.eval o).run P w = (callFunc f args).run P w → VRs μ s.next vs args.toList → (F f vs s).all (fun r => K (putL l o.dst r.1) r.2) → o.wp P a w next Q := fun {f vs args} he hvs hf => by
    obtain ⟨⟨fn, h1, h2, h3⟩, h4⟩ := hF f vs s _ hf
    have hcf : (callFunc f args).run P w = .ok (.enter f args) w := by
      have : fn.body.isNone = false := by cases hb : fn.body <;> simp [hb] at h2 ⊢
      simp only [callFunc, Sem.run_bind, run_program, Result.andThen_ok, h1, h3, this, Bool.false_eq_true, if_false, Sem.run_pure]
    unfold Oper.wp
    rw [he, hcf]
    have := h4 B0 W0 μ w args.toList hr hg hvs
    simp only [Array.toArray_toList] at this
    refine this.mono fun e w' hq => ?_
    obtain ⟨v, s', v', hk, rfl, haf⟩ := hq
    exact go hk haf
  cases p with
  | p p =>
    simp only [opStep] at h
    cases hp : pop p (ys.map (Arg.ev l)) with
    | none => rw [hp] at h; exact h.elim
    | some v =>
      rw [hp] at h
      obtain ⟨v', k1, k2⟩ := pop_sound (μ := μ) (n := s.next) hc a.eval _ v w hv hp
      exact did h (.inl k1) ⟨μ, Agree.refl _ _, hr, k2⟩
  | r r =>
    simp only [opStep] at h
    cases hp : rop r (ys.map (Arg.ev l)) s with
    | none => rw [hp] at h; exact h.elim
    | some v =>
      rw [hp] at h
      obtain ⟨v', k1, k2⟩ := rop_sound (B0 := B0) (W0 := W0) (μ := μ) (s := s) (w := w) hc a.eval _ v hr hv hp
      exact did h (.inl k1) ⟨μ, Agree.refl _ _, hr, k2⟩
  | w q =>
    simp only [opStep] at h
    cases hp : wop q (ys.map (Arg.ev l)) s with
    | none => rw [hp] at h; exact h.elim
    | some r =>
      rw [hp] at h
      obtain ⟨v', w', k1, k2⟩ := wop_sound (B0 := B0) (W0 := W0) (μ := μ) (s := s) (w := w) hc a.eval _ r.1 r.2 hr hv hp
      exact did h k1 k2
  | next str =>
    simp only [opStep] at h
    have hx : ∃ x, xs = [x] ∧ o.op = .next x str := by
      rcases compOp_shape hc with h0 | ⟨it, str', h1, h2, h3⟩ | ⟨c, h1, h2⟩
      · cases h0
      · cases h2; exact ⟨it, h3, h1⟩
      · rcases compCall_shape h2 with h0 | ⟨f, _, h0, _⟩ | ⟨x, _, h0, _⟩ | ⟨r, nm, _, h0, _⟩ <;> cases h0
    obtain ⟨x, hx1, hx2⟩ := hx
    obtain ⟨v, s', v', w', k1, k2, k3⟩ := next_sound (P := P) (B0 := B0) (W0 := W0) (μ := μ) (s := s) (w := w) hx1 hx2 a.eval _ _ hr hv h
    exact did k1 k2 k3
  | call f =>
    simp only [opStep] at h
    rcases compOp_shape hc with h0 | ⟨it, str', h1, h2, h3⟩ | ⟨c, h1, h2⟩
    · cases h0
    · cases h2
    · rcases compCall_shape h2 with h0 | ⟨f', hf, h0, rfl⟩ | ⟨x, _, h0, _⟩ | ⟨r, nm, _, h0, _⟩ <;> cases h0
      refine call (args := c.args.map a.eval) ?_ (by simpa using hv) h
      simp [execOp, h1, resolve, hf, Act.eval, Deferred.ofValue, invoke]
  | callV =>
    simp only [opStep] at h
    rcases compOp_shape hc with h0 | ⟨it, str', h1, h2, h3⟩ | ⟨c, h1, h2⟩
    · cases h0
    · cases h2
    · rcases compCall_shape h2 with h0 | ⟨f', hf, h0, _⟩ | ⟨x, hx, h0, rfl⟩ | ⟨r, nm, _, h0, _⟩ <;> cases h0
      obtain ⟨u, us, hu, hur, husr⟩ := hv.invc
      rw [hu] at h
      generalize hxe : a.eval x = x' at hur
      cases hur <;> (try (exact h.elim))
      rename_i fn f1 c1 f2 c2 k1 k2
      cases fn <;> (try (exact h.elim))
      rename_i f
      refine call (args := f2 ++ (c.args.map a.eval) ++ c2) ?_ ?_ h
      · simp [execOp, h1, resolve, hx, hxe, Deferred.ofValue, invoke]
      · simp only [Array.toList_append, Array.toList_map]
        exact (k1.append husr).append k2
  | invoke name =>
    simp only [opStep] at h
    rcases compOp_shape hc with h0 | ⟨it, str', h1, h2, h3⟩ | ⟨c, h1, h2⟩
    · cases h0
    · cases h2
    · rcases compCall_shape h2 with h0 | ⟨f', hf, h0, _⟩ | ⟨x, hx, h0, _⟩ | ⟨r, nm, hx, h0, rfl⟩ <;> cases h0
      obtain ⟨u, us, hu, hur, husr⟩ := hv.invc
      rw [hu] at h
      generalize hxe : a.eval r = x' at hur
      cases hur <;> (try (exact h.elim))
      rename_i t v v' k1
      simp only at h
      cases hm : T.meth t name with
      | none => rw [hm] at h; exact h.elim
      | some f =>
        rw [hm] at h
        refine call (args := #[v'] ++ (c.args.map a.eval)) ?_ ?_ h
        · have := hT t name f hm v' w
          have e0 : (#[Value.iface t v'] ++ c.args.map a.eval)[0]? = some (.iface t v') := by rw [Array.getElem?_append_left (by simp)]; rfl
          have e1 : (c.args.map a.eval).extract 0 c.args.size = c.args.map a.eval := by rw [show c.args.size = (c.args.map a.eval).size by simp, Array.extract_size]
          simp [execOp, h1, resolve, hx, hxe, invoke, callMethod, e0, this, e1]
        · simp only [Array.toList_append, Array.toList_map]
          exact .cons _ _ _ _ k1 husr

/-! ### a region in the order of its text -/
section
variable {T : Tab} {F : CallF} {μ0 : Nat → Spot} {n0 : Nat}

theorem yielded_rel {ops : Array Oper} {l : List Value} {a : Act} (hl : LR μ n b fl l a) {j d : Nat} (hj : (ops[j]?).bind (·.dst) = some d) (hdb : d < b) : yielded ops a.tmps j = yieldedL l d := by
  have h := hl.get hdb
  unfold yielded yieldedL
  rw [hj]
  simp only [Option.bind_some]
  have hget : a.tmps.toList.getD d undef = (a.tmps[d]?).getD undef := by simp [List.getD]
  rw [hget] at h
  cases ht : a.tmps[d]? with
  | none =>
    rw [ht] at h
    simp only [Option.getD_none] at h
    generalize Am.lget l d = x at h
    cases h <;> rfl
  | some y =>
    rw [ht] at h
    simp only [Option.getD_some] at h
    generalize Am.lget l d = x at h
    cases h <;> rfl

theorem wanted_rel {ops : Array Oper} {l : List Value} {a : Act} (hl : LR μ n b fl l a) {o : Oper} {ao : AOper} (hg : compGuard b ops o.guard = some ao.guard) : Region.wanted o (yielded ops a.tmps) = wantedL ao l := by
  unfold compGuard at hg
  unfold Region.wanted wantedL
  cases hgd : o.guard with
  | none => rw [hgd] at hg; simp at hg; rw [← hg]
  | some jw =>
    obtain ⟨j, want⟩ := jw
    rw [hgd] at hg
    simp only at hg
    cases hd : (ops[j]?).bind (·.dst) with
    | none => rw [hd] at hg; cases hg
    | some d =>
      rw [hd] at hg
      simp only at hg
      split at hg
      · rename_i hdb
        simp at hg
        rw [← hg]
        simp only
        rw [yielded_rel hl hd hdb]
      · cases hg

theorem compOper_spec {ops : Array Oper} {o : Oper} {ao : AOper} (h : compOper P b fl ops o = some ao) : (∃ xs, compOp P o.op = some (ao.op, xs) ∧ argsOf P b xs = some ao.args ∧ compGuard b ops o.guard = some ao.guard ∧ ao.dst = o.dst ∧ dstIn b o.dst = true) ∨
    ∃ c xs as, fl = true ∧ o.op = .defer c ∧ o.dst = none ∧ o.guard = none ∧ compDefer c = some xs ∧ argsOf P b xs = some as ∧ ao = { dst := some b, op := .p .push, args := .t b :: as, guard := none } := by
  unfold compOper at h
  cases hd : deferOf o.op with
  | none =>
    rw [hd] at h
    simp only [Option.bind_eq_some_iff] at h
    obtain ⟨⟨p, xs⟩, h1, as, h2, g, h3, h4⟩ := h
    split at h4
    · rename_i h5
      cases h4
      exact .inl ⟨xs, h1, h2, h3, rfl, h5⟩
    · cases h4
  | some c =>
    rw [hd] at h
    simp only at h
    have hop : o.op = .defer c := by
      unfold deferOf at hd
      split at hd
      · rename_i c' hc'; cases hd; exact hc'
      · cases hd
    split at h
    · rename_i hc
      simp only [Bool.and_eq_true, Option.isNone_iff_eq_none] at hc
      simp only [Option.bind_eq_some_iff, Option.map_eq_some_iff] at h
      obtain ⟨xs, h1, as, h2, rfl⟩ := h
      exact .inr ⟨c, xs, as, hc.1.1, hop, hc.1.2, hc.2, h1, h2, rfl⟩
    · cases h

theorem compDefer_spec {c : Call} {xs : List Operand} (h : compDefer c = some xs) : ∃ x, c.callee = .value x ∧ xs = x :: c.args.toList := by
  unfold compDefer at h
  split at h
  · cases h; exact ⟨_, rfl, rfl⟩
  · cases h

theorem Sim.put {l : List Value} {s : St} {a : Act} {w : World} (hs : Sim P B0 W0 μ0 n0 b fl l s a w) (d : Option Nat) (hd : dstIn b d = true) : Sim P B0 W0 μ0 n0 b fl (putL l d undef) s (a.put d undef) w := by
  obtain ⟨⟨μ, h1, h2, h3, h4⟩⟩ := hs
  exact ⟨⟨μ, h1, h2, h3, put_rel h4 (.tuple _ _ .nil) d hd⟩⟩

theorem oper_wanted {ops : Array Oper} {o : Oper} {ao : AOper} (hc : compOper P b fl ops o = some ao) {l : List Value} {s : St} {a : Act} {w : World} (hs : Sim P B0 W0 μ0 n0 b fl l s a w) : Region.wanted o (yielded ops a.tmps) = wantedL ao l := by
  rcases compOper_spec hc with ⟨xs, k1, k2, k3, k4, k5⟩ | ⟨c, xs, as, k0, k1, k2, k3, k4, k5, rfl⟩
  · obtain ⟨μ, _, _, _, h4⟩ := hs.ex
    exact wanted_rel h4 k3
  · simp [Region.wanted, wantedL, k3]

theorem oper_skip {ops : Array Oper} {o : Oper} {ao : AOper} (hc : compOper P b fl ops o = some ao) {l : List Value} {s : St} {a : Act} {w : World} (hs : Sim P B0 W0 μ0 n0 b fl l s a w) (hw : ¬wantedL ao l = true) : Sim P B0 W0 μ0 n0 b fl (putL l ao.dst undef) s (a.put o.dst undef) w := by
  rcases compOper_spec hc with ⟨xs, k1, k2, k3, k4, k5⟩ | ⟨c, xs, as, k0, k1, k2, k3, k4, k5, rfl⟩
  · rw [k4]; exact hs.put _ k5
  · exact absurd rfl hw

theorem oper_sound (hF : FSound P F) (hT : TabOk P T) {ops : Array Oper} {o : Oper} {ao : AOper} (hc : compOper P b fl ops o = some ao) {l : List Value} {s : St} {a : Act} {w : World} (hs : Sim P B0 W0 μ0 n0 b fl l s a w) {K : List Value → St → Prop} {Q : Exit → Act → World → Prop} {next : Act → World → Prop}
    (hn : ∀ l s a w, K l s → Sim P B0 W0 μ0 n0 b fl l s a w → next a w)
    (h : (opStep T F ao.op (ao.args.map (Arg.ev l)) s).all fun r => K (putL l ao.dst r.1) r.2) : o.wp P a w next Q := by
  rcases compOper_spec hc with ⟨xs, k1, k2, k3, k4, k5⟩ | ⟨c, xs, as, k0, k1, k2, k3, k4, k5, rfl⟩
  · rw [k4] at h
    exact step_sound hF hT k1 k2 k5 hs hn h
  · obtain ⟨⟨μ, ha, hr, hg, hl⟩⟩ := hs
    have hv := argsOf_rel hg hl k5
    obtain ⟨x, hx, rfl⟩ := compDefer_spec k4
    obtain ⟨h0, l0, k, rfl, h2, h3⟩ := hl
    have hlen := h2.length
    rw [Array.length_toList] at hlen
    rcases h3 with ⟨rfl, h4, hfl⟩ | ⟨es, hfl, rfl, h4, h5⟩
    · exfalso
      rw [hfl] at k0
      cases k0
    · have hb := h0.2 hfl
      rw [hb] at hlen
      subst hlen
      have hu : lget (l0 ++ [Value.tuple (es ++ [Value.nilIface]).toArray]) l0.length = .tuple (es ++ [Value.nilIface]).toArray := lget_at
      obtain ⟨u, us, hu2, hur, husr⟩ := hv.invc
      simp only [opStep, List.map_cons, Arg.ev, hu, hu2] at h
      generalize hxe : a.eval x = x' at hur
      cases hur <;> (try (exact h.elim))
      rename_i fn f1 c1 f2 c2 q1 q2
      cases fn <;> (try (exact h.elim))
      rename_i f
      simp only [pop] at h
      have hne : (es ++ [Value.nilIface]).toArray.toList.isEmpty = false := by simp
      rw [hne] at h
      simp only [Bool.false_eq_true, if_false] at h
      unfold Oper.wp
      have he : (execOp a.eval o).run P w = .ok (.defer { target := .fn (.func f) c2, args := f2 ++ c.args.map a.eval }) w := by
        simp [execOp, k1, resolve, hx, hxe, Deferred.ofValue]
      rw [he, Oper.upon_defer, k2]
      refine hn _ _ _ _ h ⟨⟨μ, ha, hr, hg, h0, l0, _, lset_at, h2, .inr ⟨.func (.func f) (f1.toList ++ us).toArray c1 :: es, hfl, ?_, ?_, ?_⟩⟩⟩
      · simp
      · refine .cons _ _ _ _ ?_ h4
        exact .func _ _ _ _ _ (by simpa using q1.append husr) q2
      · intro d hd
        rcases List.mem_cons.1 hd with rfl | hd
        · exact ⟨_, _, rfl⟩
        · exact h5 d hd

theorem list_sound (hF : FSound P F) (hT : TabOk P T) {ops : Array Oper} {Q : Exit → Act → World → Prop} {K : List Value × St → Prop} (hQ : ∀ l s a w, K (l, s) → Sim P B0 W0 μ0 n0 b fl l s a w → Q .normal a w) :
    ∀ (os : List Oper) (aops : List AOper) (l : List Value) (s : St) (a : Act) (w : World), compOpers P b fl ops os = some aops → Sim P B0 W0 μ0 n0 b fl l s a w → (runOps T F aops l s).all K → wpList P ops Q os a w
  | [], aops, l, s, a, w, hc, hs, h => by
    simp [compOpers] at hc
    subst hc
    exact wpList_nil (hQ l s a w h hs)
  | o :: os, aops, l, s, a, w, hc, hs, h => by
    simp only [compOpers, Option.bind_eq_some_iff, Option.map_eq_some_iff] at hc
    obtain ⟨ao, h1, aos, h2, rfl⟩ := hc
    have hw := oper_wanted h1 hs
    refine wpList_step fun K' hK' => ?_
    rw [hw]
    simp only [runOps] at h
    split
    · rename_i hwt
      rw [if_pos hwt] at h
      refine oper_sound hF hT h1 hs (K := fun l s => (runOps T F aos l s).all K) (fun l s a w hk hs' => hK' a w (list_sound hF hT hQ os aos l s a w h2 hs' hk)) ?_
      revert h
      generalize opStep T F ao.op (ao.args.map (Arg.ev l)) s = out
      intro h
      clear hw hwt
      induction out with
      | ret r => exact h
      | fail => exact h.elim
      | ask n k ih => exact ⟨h.1, fun i hi => ih i (h.2 i hi)⟩
    · rename_i hwt
      rw [if_neg hwt] at h
      exact hK' _ _ (list_sound hF hT hQ os aos _ s _ w h2 (oper_skip h1 hs hwt) h)

end

end
end Go.Am
end
section
set_option linter.unusedSimpArgs false
set_option linter.unusedVariables false
set_option maxRecDepth 10000
namespace Go.Am
open Go.RowKit (Below)

theorem Out.all_mono {α : Type} {p q : α → Prop} (h : ∀ a, p a → q a) : ∀ {o : Out α}, o.all p → o.all q
  | .ret a, hp => h a hp
  | .fail, hp => hp
  | .ask _ _, hp => ⟨hp.1, fun i hi => Out.all_mono h (hp.2 i hi)⟩
theorem Out.all_some {α : Type} {p : α → Prop} : ∀ {o : Out α}, o.all p → ∃ a, p a
  | .ret a, hp => ⟨a, hp⟩
  | .fail, hp => hp.elim
  | .ask _ _, hp => Out.all_some (hp.2 0 hp.1)
theorem Out.all_bind {α β : Type} {f : α → Out β} {p : β → Prop} : ∀ {o : Out α}, (o.bind f).all p ↔ o.all fun a => (f a).all p
  | .ret a => Iff.rfl
  | .fail => Iff.rfl
  | .ask n k => by
    simp only [Out.bind, Out.all]
    exact and_congr Iff.rfl (forall_congr' fun i => imp_congr Iff.rfl Out.all_bind)

section
variable {T : Tab} {F : CallF}

/-- an operation that reads at most: its value -/
def stepV (o : AOp) (vs : List Value) (s : St) : Option Value :=
  match o with
  | .p o => pop o vs
  | .r o => rop o vs s
  | _ => none

def YV (o : AOper) (l : List Value) (s : St) (v : Value) : Prop :=
  (wantedL o l = true ∧ stepV o.op (o.args.map (Arg.ev l)) s = some v) ∨ (wantedL o l = false ∧ v = undef)

theorem YV.unique {o : AOper} {l : List Value} {s : St} {u v : Value} (h : YV o l s u) (k : YV o l s v) : u = v := by
  rcases h with ⟨h1, h2⟩ | ⟨h1, h2⟩ <;> rcases k with ⟨k1, k2⟩ | ⟨k1, k2⟩
  · rw [h2] at k2; exact Option.some.inj k2
  · rw [h1] at k1; cases k1
  · rw [h1] at k1; cases k1
  · rw [h2, k2]

/-- operation number i is next -/
def oneOp (T : Tab) (F : CallF) (o : AOper) (l : List Value) (s : St) (C : List Value → St → Prop) : Prop :=
  if wantedL o l then (opStep T F o.op (o.args.map (Arg.ev l)) s).all fun r => C (putL l o.dst r.1) r.2 else C (putL l o.dst undef) s

theorem oneOp_mono {o : AOper} {l : List Value} {s : St} {C C' : List Value → St → Prop} (h : ∀ l s, C l s → C' l s) (k : oneOp T F o l s C) : oneOp T F o l s C' := by
  unfold oneOp at *
  split
  · rename_i hw; rw [if_pos hw] at k; exact Out.all_mono (fun r => h _ _) k
  · rename_i hw; rw [if_neg hw] at k; exact h _ _ k

theorem oneOp_reads {o : AOper} (hr : o.op.reads = true) {l : List Value} {s : St} {C : List Value → St → Prop} : oneOp T F o l s C ↔ ∃ v, YV o l s v ∧ C (putL l o.dst v) s := by
  unfold oneOp YV
  by_cases hw : wantedL o l = true
  · rw [if_pos hw]
    have hs : ∀ {q : AOp}, q.reads = true → (((opStep T F q (o.args.map (Arg.ev l)) s).all fun r => C (putL l o.dst r.1) r.2) ↔ ∃ v, stepV q (o.args.map (Arg.ev l)) s = some v ∧ C (putL l o.dst v) s) := fun {q} hq => by
      cases q <;> simp [AOp.reads] at hq
      · simp only [opStep, stepV]
        rename_i p
        cases hp : pop p (o.args.map (Arg.ev l)) <;> simp [Out.all]
      · simp only [opStep, stepV]
        rename_i p
        cases hp : rop p (o.args.map (Arg.ev l)) s <;> simp [Out.all]
    rw [hs hr]
    constructor
    · rintro ⟨v, h1, h2⟩; exact ⟨v, .inl ⟨hw, h1⟩, h2⟩
    · rintro ⟨v, h1 | h1, h2⟩
      · exact ⟨v, h1.2, h2⟩
      · rw [hw] at h1; cases h1.1
  · rw [if_neg hw]
    have hw' : wantedL o l = false := by simpa using hw
    constructor
    · intro h; exact ⟨undef, .inr ⟨hw', rfl⟩, h⟩
    · rintro ⟨v, h1 | h1, h2⟩
      · exact absurd h1.1 hw
      · rw [h1.2] at h2; exact h2

theorem lget_lset (v : Value) : ∀ (l : List Value) (d k : Nat), k ≠ d → lget (lset l d v) k = lget l k
  | [], _, _, _ => rfl
  | x :: l, 0, 0, h => absurd rfl h
  | x :: l, 0, k + 1, _ => rfl
  | x :: l, d + 1, 0, _ => rfl
  | x :: l, d + 1, k + 1, h => by simp only [lset, lget]; exact lget_lset v l d k (by omega)

theorem lset_comm (u v : Value) : ∀ (l : List Value) (d e : Nat), d ≠ e → lset (lset l d u) e v = lset (lset l e v) d u
  | [], _, _, _ => rfl
  | x :: l, 0, 0, h => absurd rfl h
  | x :: l, 0, k + 1, _ => rfl
  | x :: l, d + 1, 0, _ => rfl
  | x :: l, d + 1, k + 1, h => by simp only [lset]; rw [lset_comm u v l d k (by omega)]

theorem put_other {o : AOper} {d : Option Nat} (h : ∀ k, d = some k → k ∉ looks o) (l : List Value) (v : Value) : o.args.map (Arg.ev (putL l d v)) = o.args.map (Arg.ev l) ∧ wantedL o (putL l d v) = wantedL o l := by
  cases d with
  | none => exact ⟨rfl, rfl⟩
  | some k =>
    have hk := h k rfl
    simp only [looks, List.mem_append, List.mem_filterMap, not_or, not_exists, not_and] at hk
    refine ⟨List.map_congr_left fun x hx => ?_, ?_⟩
    · cases x with
      | t n =>
        simp only [Arg.ev, putL]
        exact lget_lset v l k n fun e => hk.1 (.t n) hx (by simp [e])
      | _ => rfl
    · unfold wantedL
      cases hg : o.guard with
      | none => rfl
      | some gw =>
        obtain ⟨g, want⟩ := gw
        have hne : g ≠ k := fun e => hk.2 (by rw [hg]; simp [e])
        simp only [yieldedL, putL]
        rw [lget_lset v l k g hne]

theorem putL_comm {x y : Option Nat} (h : ∀ d, x = some d → y ≠ some d) (l : List Value) (u v : Value) : putL (putL l x u) y v = putL (putL l y v) x u := by
  cases x with
  | none => rfl
  | some d =>
    cases y with
    | none => rfl
    | some e => exact lset_comm u v l d e fun he => h d rfl (by rw [he])

/-- two operations, apart and exchangeable -/
theorem oneOp_swap {oi oj : AOper} (h1 : ∀ d, oi.dst = some d → d ∉ looks oj) (h2 : ∀ d, oi.dst = some d → oj.dst ≠ some d) (h3 : ∀ d, oj.dst = some d → d ∉ looks oi) (hs : oi.op.swap oj.op = true) {l : List Value} {s : St} {C : List Value → St → Prop}
    (h : oneOp T F oi l s fun l s => oneOp T F oj l s C) : oneOp T F oj l s fun l s => oneOp T F oi l s C := by
  have yi : ∀ (u : Value) (s1 s2 : St) (v : Value), (oi.op.pure = true ∨ s1 = s2) → (YV oi (putL l oj.dst u) s1 v ↔ YV oi l s2 v) := fun u s1 s2 v hp => by
    obtain ⟨e1, e2⟩ := put_other h3 l u
    unfold YV
    rw [e1, e2]
    rcases hp with hp | rfl
    · cases hq : oi.op <;> rw [hq] at hp <;> simp [AOp.pure] at hp; rfl
    · rfl
  have yj : ∀ (u : Value) (s1 s2 : St) (v : Value), (oj.op.pure = true ∨ s1 = s2) → (YV oj (putL l oi.dst u) s1 v ↔ YV oj l s2 v) := fun u s1 s2 v hp => by
    obtain ⟨e1, e2⟩ := put_other h1 l u
    unfold YV
    rw [e1, e2]
    rcases hp with hp | rfl
    · cases hq : oj.op <;> rw [hq] at hp <;> simp [AOp.pure] at hp; rfl
    · rfl
  have pr : ∀ {q : AOp}, q.pure = true → q.reads = true := fun {q} hq => by cases q <;> simp [AOp.pure] at hq; rfl
  by_cases hip : oi.op.pure = true
  · rw [oneOp_reads (pr hip)] at h
    obtain ⟨v, hv, hj⟩ := h
    obtain ⟨e1, e2⟩ := put_other h1 l v
    unfold oneOp at hj ⊢
    rw [e1, e2] at hj
    have fin : ∀ (u : Value) (s1 : St), C (putL (putL l oi.dst v) oj.dst u) s1 → oneOp T F oi (putL l oj.dst u) s1 C := fun u s1 hc => by
      rw [oneOp_reads (pr hip)]
      exact ⟨v, (yi u s1 s v (.inl hip)).2 hv, by rw [putL_comm (fun d hd he => h2 d he hd)]; exact hc⟩
    split
    · rename_i hw; rw [if_pos hw] at hj; exact Out.all_mono (fun r => fin _ _) hj
    · rename_i hw; rw [if_neg hw] at hj; exact fin _ _ hj
  · by_cases hjp : oj.op.pure = true
    · rw [oneOp_reads (pr hjp)]
      unfold oneOp at h
      by_cases hw : wantedL oi l = true
      · rw [if_pos hw] at h
        have h' : (opStep T F oi.op (oi.args.map (Arg.ev l)) s).all fun r => ∃ u, YV oj l s u ∧ C (putL (putL l oi.dst r.1) oj.dst u) r.2 := Out.all_mono (fun r hr => by
          rw [show (fun (l : List Value) (s : St) => if wantedL oj l = true then (opStep T F oj.op (oj.args.map (Arg.ev l)) s).all fun r => C (putL l oj.dst r.1) r.2 else C (putL l oj.dst undef) s) = fun l s => oneOp T F oj l s C from rfl] at *
          have := (oneOp_reads (T := T) (F := F) (pr hjp)).1 hr
          obtain ⟨u, hu, hc⟩ := this
          exact ⟨u, (yj r.1 r.2 s u (.inl hjp)).1 hu, hc⟩) h
        obtain ⟨_, u, hu, _⟩ := Out.all_some h'
        refine ⟨u, hu, ?_⟩
        obtain ⟨e1, e2⟩ := put_other h3 l u
        unfold oneOp
        rw [e1, e2, if_pos hw]
        refine Out.all_mono (fun r hr => ?_) h'
        obtain ⟨u', hu', hc⟩ := hr
        rw [YV.unique hu hu', putL_comm (fun d hd he => h2 d he hd)]
        exact hc
      · rw [if_neg hw] at h
        obtain ⟨u, hu, hc⟩ := (oneOp_reads (T := T) (F := F) (pr hjp)).1 h
        refine ⟨u, (yj undef s s u (.inl hjp)).1 hu, ?_⟩
        obtain ⟨e1, e2⟩ := put_other h3 l u
        unfold oneOp
        rw [e2, if_neg hw, putL_comm (fun d hd he => h2 d he hd)]
        exact hc
    · have hir : oi.op.reads = true ∧ oj.op.reads = true := by
        simp only [AOp.swap, Bool.or_eq_true, Bool.and_eq_true] at hs
        rcases hs with (hs | hs) | hs
        · exact absurd hs hip
        · exact absurd hs hjp
        · exact hs
      rw [oneOp_reads hir.1] at h
      obtain ⟨v, hv, hj⟩ := h
      rw [oneOp_reads hir.2] at hj
      obtain ⟨u, hu, hc⟩ := hj
      rw [oneOp_reads hir.2]
      refine ⟨u, (yj v s s u (.inr rfl)).1 hu, ?_⟩
      rw [oneOp_reads hir.1]
      exact ⟨v, (yi u s s v (.inr rfl)).2 hv, by rw [putL_comm (fun d hd he => h2 d he hd)]; exact hc⟩

/-! ### whatever order the tape picks -/
def anyOrder (T : Tab) (F : CallF) (ops : Array Oper) (aops : List AOper) (K : List Value → St → Prop) : Nat → Array Bool → List Value → St → Prop
  | 0, listed, l, s => Region.ready .any ops listed = [] ∧ K l s
  | fuel + 1, listed, l, s => (Region.ready .any ops listed = [] → K l s) ∧
    ∀ i ∈ Region.ready .any ops listed, ∀ o, aops[i]? = some o → oneOp T F o l s (anyOrder T F ops aops K fuel (listed.setIfInBounds i true))

/-- what two operations of a region owe each other -/
def FreeOf (oi oj : AOper) : Prop := (∀ d, oi.dst = some d → d ∉ looks oj) ∧ (∀ d, oi.dst = some d → oj.dst ≠ some d) ∧ (∀ d, oj.dst = some d → d ∉ looks oi) ∧ oi.op.swap oj.op = true

/-- what is listed waits for nothing that is not -/
def Closed (ops : Array Oper) (listed : Array Bool) : Prop :=
  ∀ (k : Nat) (ok : Oper), ops[k]? = some ok → listed.getD k false = true → ∀ e ∈ ok.after, Region.binds .any e = true → listed.getD e.on false = true

theorem getD_tf {listed : Array Bool} {i : Nat} (h : listed.getD i false = true) : listed.getD i true = true := by
  rcases Nat.lt_or_ge i listed.size with h' | h'
  · simp [h'] at h ⊢; exact h
  · simp [Array.getElem?_eq_none h'] at h

theorem Closed.put {ops : Array Oper} {listed : Array Bool} (h : Closed ops listed) {j : Nat} (hj : j ∈ Region.ready .any ops listed) : Closed ops (listed.setIfInBounds j true) := by
  intro k ok hk hl e he hb
  obtain ⟨_, oj, hoj, hall⟩ := mem_ready.1 hj
  by_cases hjk : j = k
  · subst hjk
    rw [hoj] at hk
    cases hk
    exact getD_set_true (hall e he hb)
  · rw [getD_set_ne false hjk] at hl
    exact getD_set_true (h k ok hk hl e he hb)

theorem fold_bit (acc : List Nat) : ∀ (es : List Edge) (m i : Nat), (es.foldl (fun m e => bif Region.binds .any e then m ||| (1 <<< e.on) ||| (acc.getD e.on 0) else m) m).testBit i = true →
    m.testBit i = true ∨ ∃ e ∈ es, Region.binds .any e = true ∧ (e.on = i ∨ (acc.getD e.on 0).testBit i = true)
  | [], m, i, h => .inl h
  | e :: es, m, i, h => by
    simp only [List.foldl_cons] at h
    rcases fold_bit acc es _ i h with h | ⟨e', h1, h2, h3⟩
    · cases hb : Region.binds .any e with
      | false => rw [hb] at h; exact .inl h
      | true =>
        rw [hb] at h
        simp only [cond_true, Nat.testBit_or, Bool.or_eq_true] at h
        rcases h with (h | h) | h
        · exact .inl h
        · refine .inr ⟨e, by simp, hb, .inl ?_⟩
          rw [Nat.testBit_shiftLeft] at h
          simp only [Bool.and_eq_true, decide_eq_true_eq] at h
          obtain ⟨h1, h2⟩ := h
          have : i - e.on = 0 := by
            cases hd : i - e.on with
            | zero => rfl
            | succ n => rw [hd] at h2; simp [Nat.testBit_succ] at h2
          omega
        · exact .inr ⟨e, by simp, hb, .inr h⟩
    · exact .inr ⟨e', by simp [h1], h2, h3⟩

/-- what an operation whose own edges are listed waits for is listed -/
theorem ancs_listed {ops : Array Oper} {listed : Array Bool} (hc : Closed ops listed) : ∀ (os : List Oper) (acc : List Nat), (∀ j, os[j]? = ops[acc.length + j]?) →
    (∀ k, k < acc.length → ∀ ok, ops[k]? = some ok → (∀ e ∈ ok.after, Region.binds .any e = true → listed.getD e.on false = true) → ∀ i, (acc.getD k 0).testBit i = true → listed.getD i false = true) →
    ∀ k ok, ops[k]? = some ok → (∀ e ∈ ok.after, Region.binds .any e = true → listed.getD e.on false = true) → ∀ i, ((ancs os acc).getD k 0).testBit i = true → listed.getD i false = true
  | [], acc, hos, hacc, k, ok, hk, hall, i, hb => by
    simp only [ancs] at hb
    rcases Nat.lt_or_ge k acc.length with h | h
    · exact hacc k h ok hk hall i hb
    · rw [List.getD_eq_getElem?_getD, List.getElem?_eq_none h] at hb
      simp at hb
  | o :: os, acc, hos, hacc, k, ok, hk, hall, i, hb => by
    simp only [ancs] at hb
    have h0 : ops[acc.length]? = some o := by have := hos 0; simpa using this.symm
    refine ancs_listed hc os (acc ++ [ancOf acc o]) (fun j => ?_) (fun k hk ok hok hall i hb => ?_) k ok hk hall i hb
    · have := hos (j + 1)
      simp only [List.getElem?_cons_succ] at this
      rw [this]
      simp [Nat.add_assoc, Nat.add_comm 1 j]
    · simp only [List.length_append, List.length_cons, List.length_nil] at hk
      rcases Nat.lt_or_ge k acc.length with h | h
      · rw [List.getD_eq_getElem?_getD, List.getElem?_append_left h, ← List.getD_eq_getElem?_getD] at hb
        exact hacc k h ok hok hall i hb
      · have hke : k = acc.length := by omega
        subst hke
        rw [h0] at hok
        cases hok
        rw [List.getD_eq_getElem?_getD, List.getElem?_append_right (Nat.le_refl _)] at hb
        simp only [Nat.sub_self, List.getElem?_cons_zero, Option.getD_some] at hb
        rcases fold_bit acc _ 0 i hb with h1 | ⟨e, h1, h2, h3⟩
        · simp at h1
        · have hl := hall e (by simpa using h1) h2
          rcases h3 with h3 | h3
          · rw [← h3]; exact hl
          · rcases Nat.lt_or_ge e.on acc.length with h4 | h4
            · have : ∃ oe, ops[e.on]? = some oe := by
                have hlt : acc.length < ops.size := by
                  rcases Nat.lt_or_ge acc.length ops.size with hh | hh
                  · exact hh
                  · rw [Array.getElem?_eq_none hh] at h0; cases h0
                exact ⟨_, Array.getElem?_eq_getElem (by omega : e.on < ops.size)⟩
              obtain ⟨oe, hoe⟩ := this
              exact hacc e.on h4 oe hoe (fun e' he' hb' => hc e.on oe hoe hl e' he' hb') i h3
            · rw [List.getD_eq_getElem?_getD, List.getElem?_eq_none h4] at h3
              simp at h3

theorem any_first {ops : Array Oper} {aops : List AOper} {K : List Value → St → Prop} {i : Nat} {oi : AOper} (hi : aops[i]? = some oi) : ∀ (fuel : Nat) (listed : Array Bool) (l : List Value) (s : St), Closed ops listed →
    (∀ (j : Nat) (oj : Oper) (aj : AOper), ops[j]? = some oj → aops[j]? = some aj → j ≠ i → listed.getD j true = false → ((ancs ops.toList []).getD j 0).testBit i = false → FreeOf oi aj) →
    i ∈ Region.ready .any ops listed → oneOp T F oi l s (anyOrder T F ops aops K fuel (listed.setIfInBounds i true)) → anyOrder T F ops aops K (fuel + 1) listed l s := by
  intro fuel
  induction fuel with
  | zero =>
    intro listed l s _ _ hr H
    refine ⟨fun h => (by rw [h] at hr; cases hr), fun j hj o ho => ?_⟩
    by_cases hji : j = i
    · subst hji; rw [hi] at ho; cases ho; exact H
    · have h1 := ready_mono hj hji
      have : ∃ l s, anyOrder T F ops aops K 0 (listed.setIfInBounds i true) l s := by
        unfold oneOp at H
        split at H
        · obtain ⟨r, hr⟩ := Out.all_some H; exact ⟨_, _, hr⟩
        · exact ⟨_, _, H⟩
      obtain ⟨_, _, h2, _⟩ := this
      rw [h2] at h1
      cases h1
  | succ fuel ih =>
    intro listed l s hcl hfree hr H
    refine ⟨fun h => (by rw [h] at hr; cases hr), fun j hj o ho => ?_⟩
    by_cases hji : j = i
    · subst hji; rw [hi] at ho; cases ho; exact H
    · obtain ⟨hjun, oj, hoj, hall⟩ := mem_ready.1 hj
      have hnot : ((ancs ops.toList []).getD j 0).testBit i = false := by
        cases hb : ((ancs ops.toList []).getD j 0).testBit i with
        | false => rfl
        | true =>
          have h1 := getD_tf (ancs_listed hcl ops.toList [] (fun j => by simp) (fun k hk => absurd hk (by simp)) j oj hoj hall i hb)
          rw [(mem_ready.1 hr).1] at h1
          cases h1
      obtain ⟨f1, f2, f3, f4⟩ := hfree j oj o hoj ho hji hjun hnot
      have hjr := ready_mono hj hji
      have H' : oneOp T F oi l s fun l s => oneOp T F o l s (anyOrder T F ops aops K fuel ((listed.setIfInBounds i true).setIfInBounds j true)) :=
        oneOp_mono (fun l s h => h.2 j hjr o ho) H
      have hsw := oneOp_swap f1 f2 f3 f4 H'
      have hfree' : ∀ (k : Nat) (ok : Oper) (ak : AOper), ops[k]? = some ok → aops[k]? = some ak → k ≠ i → (listed.setIfInBounds j true).getD k true = false → ((ancs ops.toList []).getD k 0).testBit i = false → FreeOf oi ak := fun k ok ak hok hak hki hun hno => by
        refine hfree k ok ak hok hak hki ?_ hno
        by_cases hjk : j = k
        · subst hjk; exact hjun
        · rw [getD_set_ne true hjk] at hun; exact hun
      refine oneOp_mono (fun l s h => ih (listed.setIfInBounds j true) l s (hcl.put hj) hfree' (ready_mono hr (Ne.symm hji)) ?_) hsw
      rw [Array.setIfInBounds_comm _ _ hji]
      exact h

theorem any_lex {ops : Array Oper} {aops : List AOper} {K : List Value × St → Prop}
    (hfr : ∀ (i j : Nat) (oj : Oper) (ai aj : AOper), i < j → ops[j]? = some oj → aops[i]? = some ai → aops[j]? = some aj → ((ancs ops.toList []).getD j 0).testBit i = false → FreeOf ai aj) :
    ∀ (rest : List AOper) (k : Nat) (listed : Array Bool) (l : List Value) (s : St), Closed ops listed → (∀ j, rest[j]? = aops[k + j]?) → (∀ j, j < k → listed.getD j true = true) → Region.lexFrom .any ops rest.length k listed = true →
      (runOps T F rest l s).all K → anyOrder T F ops aops (fun l s => K (l, s)) rest.length listed l s
  | [], k, listed, l, s, _, _, _, hB, h => ⟨by simpa [Region.lexFrom] using hB, h⟩
  | o :: rest, k, listed, l, s, hcl, hr, hlt, hB, h => by
    have h0 : aops[k]? = some o := by simpa using (hr 0).symm
    simp only [List.length_cons, Region.lexFrom, Bool.and_eq_true] at hB
    obtain ⟨⟨hrd, hf⟩, hB'⟩ := hB
    have hks : k < listed.size := by
      have := (mem_ready.1 (by simpa using hrd : k ∈ Region.ready .any ops listed)).1
      rcases Nat.lt_or_ge k listed.size with h' | h'
      · exact h'
      · simp [Array.getElem?_eq_none h'] at this
    have hkr : k ∈ Region.ready .any ops listed := by simpa using hrd
    have ih := fun l s => any_lex (K := K) hfr rest (k + 1) (listed.setIfInBounds k true) l s (hcl.put hkr)
    have hr' : ∀ j, rest[j]? = aops[k + 1 + j]? := fun j => by have := hr (j + 1); simpa [Nat.add_assoc, Nat.add_comm 1 j] using this
    have hlt' : ∀ j, j < k + 1 → (listed.setIfInBounds k true).getD j true = true := fun j hj => by
      by_cases hjk : j = k
      · subst hjk; simp [hks]
      · rw [getD_set_ne true (Ne.symm hjk)]; exact hlt j (by omega)
    refine any_first h0 rest.length listed l s hcl (fun j oj aj hoj haj hjk hun hno => ?_) (by simpa using hrd) ?_
    · have hkj : k < j := by
        rcases Nat.lt_or_ge k j with h' | h'
        · exact h'
        · have := hlt j (by omega)
          rw [hun] at this
          cases this
      exact hfr k j oj o aj hkj hoj h0 haj hno
    · simp only [runOps] at h
      unfold oneOp
      split
      · rename_i hw
        rw [if_pos hw, Out.all_bind] at h
        exact Out.all_mono (fun r hr0 => ih _ _ hr' hlt' hB' hr0) h
      · rename_i hw
        rw [if_neg hw] at h
        exact ih _ _ hr' hlt' hB' h

/-! ### reads that are asked for again -/
/-- what was read is still there -/
def Chk (o : AOper) (l : List Value) (s : St) : Prop := wantedL o l = true → ∃ d, o.dst = some d ∧ stepV o.op (o.args.map (Arg.ev l)) s = some (lget l d)

def Win (m : List Nat) (aops : List AOper) (i j : Nat) : Prop :=
  ∃ ai aj, aops[i]? = some ai ∧ aops[j]? = some aj ∧ i < j ∧ isLoad ai = true ∧ aj.op.reads = false ∧ (m.getD j 0).testBit i = false

/-- y doesn't look at x's slot, nor has it -/
def Unseen (x y : AOper) : Prop := ∀ d, x.dst = some d → d ∉ looks y ∧ y.dst ≠ some d

def FreeOf2 (oi oj : AOper) : Prop := Unseen oi oj ∧ (∀ d, oj.dst = some d → d ∉ looks oi) ∧ (oi.op.swap oj.op = true ∨ (isLoad oi = true ∧ oj.op.reads = false))

def anyC (T : Tab) (F : CallF) (ops : Array Oper) (aops : List AOper) (K : List Value → St → Prop) : Nat → Array Bool → List Value → St → Prop
  | 0, listed, l, s => Region.ready .any ops listed = [] ∧ K l s
  | fuel + 1, listed, l, s => (Region.ready .any ops listed = [] → K l s) ∧
    ∀ i ∈ Region.ready .any ops listed, ∀ o, aops[i]? = some o → oneOp T F o l s fun l s => (∀ k ok, listed.getD k false = true → aops[k]? = some ok → Win (ancs ops.toList []) aops k i → Chk ok l s) ∧ anyC T F ops aops K fuel (listed.setIfInBounds i true) l s

theorem anyC_order {ops : Array Oper} {aops : List AOper} {K : List Value → St → Prop} : ∀ (fuel : Nat) (listed : Array Bool) (l : List Value) (s : St), anyC T F ops aops K fuel listed l s → anyOrder T F ops aops K fuel listed l s
  | 0, _, _, _, h => h
  | fuel + 1, listed, l, s, h => ⟨h.1, fun i hi o ho => oneOp_mono (fun l s h => anyC_order fuel _ l s h.2) (h.2 i hi o ho)⟩

theorem lget_lset_at (v : Value) : ∀ (l : List Value) (d : Nat), d < l.length → lget (lset l d v) d = v
  | [], d, h => by simp at h
  | x :: l, 0, _ => rfl
  | x :: l, d + 1, h => by simp only [lset, lget]; exact lget_lset_at v l d (by simpa using h)
theorem lset_len (v : Value) : ∀ (l : List Value) (d : Nat), (lset l d v).length = l.length
  | [], _ => rfl
  | x :: l, 0 => rfl
  | x :: l, d + 1 => by simp only [lset, List.length_cons, lset_len v l d]
theorem putL_length (l : List Value) (d : Option Nat) (v : Value) : (putL l d v).length = l.length := by
  cases d with
  | none => rfl
  | some d => exact lset_len v l d

theorem Chk.put {o x : AOper} (h : Unseen x o) (l : List Value) (v : Value) (s : St) : Chk o (putL l x.dst v) s ↔ Chk o l s := by
  obtain ⟨e1, e2⟩ := put_other (o := o) (d := x.dst) (fun d hd => (h d hd).1) l v
  unfold Chk
  rw [e1, e2]
  cases hx : x.dst with
  | none => exact Iff.rfl
  | some d =>
    have : ∀ e, o.dst = some e → lget (putL l (some d) v) e = lget l e := fun e he => lget_lset v l d e fun hh => (h d hx).2 (by rw [he, hh])
    constructor
    · intro k hw
      obtain ⟨e, h1, h2⟩ := k hw
      exact ⟨e, h1, by rw [this e h1] at h2; exact h2⟩
    · intro k hw
      obtain ⟨e, h1, h2⟩ := k hw
      exact ⟨e, h1, by rw [this e h1]; exact h2⟩

theorem isLoad_reads {o : AOper} (h : isLoad o = true) : o.op.reads = true ∧ o.op.pure = false := by
  unfold isLoad at h
  split at h
  · rename_i hq; rw [hq]; exact ⟨rfl, rfl⟩
  · cases h

theorem Win.noread {m : List Nat} {aops : List AOper} {i j : Nat} (h : Win m aops i j) {o : AOper} (ho : aops[j]? = some o) (hr : o.op.reads = true) : False := by
  obtain ⟨_, aj, _, h2, _, _, h5, _⟩ := h
  rw [ho] at h2
  cases h2
  rw [hr] at h5
  cases h5

/-- what holds of a region whose reads are asked for again -/
structure Stat (ops : Array Oper) (aops : List AOper) (N : Nat) : Prop where
  free : ∀ (i j : Nat) (oj : Oper) (ai aj : AOper), i < j → ops[j]? = some oj → aops[i]? = some ai → aops[j]? = some aj → ((ancs ops.toList []).getD j 0).testBit i = false → FreeOf2 ai aj
  self : ∀ (k : Nat) (ok : AOper), aops[k]? = some ok → isLoad ok = true → ∀ d, ok.dst = some d → d ∉ looks ok
  safe : ∀ (k j : Nat) (ok oj : AOper), k < j → aops[k]? = some ok → aops[j]? = some oj → isLoad ok = true → Unseen oj ok
  dst : ∀ (k : Nat) (ok : AOper), aops[k]? = some ok → isLoad ok = true → ∀ d, ok.dst = some d → d < N
  same : ∀ k : Nat, aops[k]?.isSome = ops[k]?.isSome

/-- two operations change places, what is asked for with them -/
theorem oneOp_swapC {oi oj : AOper} {N : Nat} (hf : FreeOf2 oi oj) (hself : isLoad oi = true → ∀ d, oi.dst = some d → d ∉ looks oi) (hdst : isLoad oi = true → ∀ d, oi.dst = some d → d < N) {l : List Value} (hl : l.length = N) {s : St}
    {A A' B B' : List Value → St → Prop} {C : List Value → St → Prop}
    (hAr : oi.op.reads = true → ∀ l s, A' l s) (hBr : oj.op.reads = true → ∀ l s, B' l s)
    (hA : oi.op.reads = false → oj.op.pure = true → ∀ l v s, A l s → A' (putL l oj.dst v) s)
    (hB : ∀ l v s, l.length = N → B (putL l oi.dst v) s → B' l s) (hBc : isLoad oi = true → oj.op.reads = false → ∀ l s, B l s → Chk oi l s)
    (h : oneOp T F oi l s fun l s => A l s ∧ oneOp T F oj l s fun l s => B l s ∧ C l s) :
    oneOp T F oj l s fun l s => B' l s ∧ oneOp T F oi l s fun l s => A' l s ∧ C l s := by
  obtain ⟨hu, hji, hs⟩ := hf
  have h1 : ∀ d, oi.dst = some d → d ∉ looks oj := fun d hd => (hu d hd).1
  have h2 : ∀ d, oi.dst = some d → oj.dst ≠ some d := fun d hd => (hu d hd).2
  have pr : ∀ {q : AOp}, q.pure = true → q.reads = true := fun {q} hq => by cases q <;> simp [AOp.pure] at hq; rfl
  have comm : ∀ u v, putL (putL l oi.dst v) oj.dst u = putL (putL l oj.dst u) oi.dst v := fun u v => putL_comm h2 l v u
  -- what reads reads the same where nothing but the other's slot is another
  have yi : ∀ (u : Value) (s1 s2 : St) (v : Value), (oi.op.pure = true ∨ s1 = s2) → (YV oi (putL l oj.dst u) s1 v ↔ YV oi l s2 v) := fun u s1 s2 v hp => by
    obtain ⟨e1, e2⟩ := put_other hji l u
    unfold YV
    rw [e1, e2]
    rcases hp with hp | rfl
    · cases hq : oi.op <;> rw [hq] at hp <;> simp [AOp.pure] at hp; rfl
    · rfl
  have yj : ∀ (u : Value) (s1 s2 : St) (v : Value), (oj.op.pure = true ∨ s1 = s2) → (YV oj (putL l oi.dst u) s1 v ↔ YV oj l s2 v) := fun u s1 s2 v hp => by
    obtain ⟨e1, e2⟩ := put_other h1 l u
    unfold YV
    rw [e1, e2]
    rcases hp with hp | rfl
    · cases hq : oj.op <;> rw [hq] at hp <;> simp [AOp.pure] at hp; rfl
    · rfl
  by_cases hir : oi.op.reads = true
  · rw [oneOp_reads hir] at h
    obtain ⟨v, hv, _, hj⟩ := h
    -- it reads the same behind the other one
    have again : ∀ (u : Value) (s1 : St), (B (putL (putL l oi.dst v) oj.dst u) s1) → (oi.op.pure = true ∨ s1 = s ∨ (isLoad oi = true ∧ oj.op.reads = false)) → YV oi (putL l oj.dst u) s1 v := fun u s1 hb hh => by
      rcases hh with hh | hh | hh
      · exact (yi u s1 s v (.inl hh)).2 hv
      · exact (yi u s1 s v (.inr hh)).2 hv
      · have hc := hBc hh.1 hh.2 _ _ hb
        rw [comm] at hc
        obtain ⟨e1, e2⟩ := put_other (hself hh.1) (putL l oj.dst u) v
        obtain ⟨e3, e4⟩ := put_other hji l u
        rcases hv with ⟨w1, w2⟩ | ⟨w1, w2⟩
        · left
          refine ⟨by rw [e4]; exact w1, ?_⟩
          obtain ⟨d, hd, hval⟩ := hc (by rw [e2, e4]; exact w1)
          rw [e1, hd] at hval
          have : lget (putL (putL l oj.dst u) (some d) v) d = v := lget_lset_at v _ d (by rw [putL_length, hl]; exact hdst hh.1 d hd)
          rw [this] at hval
          exact hval
        · exact .inr ⟨by rw [e4]; exact w1, w2⟩
    obtain ⟨e1, e2⟩ := put_other h1 l v
    unfold oneOp at hj ⊢
    rw [e1, e2] at hj
    have fin : ∀ (u : Value) (s1 : St), (oi.op.pure = true ∨ s1 = s ∨ (isLoad oi = true ∧ oj.op.reads = false)) → B (putL (putL l oi.dst v) oj.dst u) s1 ∧ C (putL (putL l oi.dst v) oj.dst u) s1 → B' (putL l oj.dst u) s1 ∧ oneOp T F oi (putL l oj.dst u) s1 fun l s => A' l s ∧ C l s := fun u s1 hh hc => by
      refine ⟨hB _ v s1 (by rw [putL_length]; exact hl) (by rw [← comm]; exact hc.1), ?_⟩
      rw [oneOp_reads hir]
      exact ⟨v, again u s1 hc.1 hh, hAr hir _ _, by rw [← comm]; exact hc.2⟩
    have hcase : oi.op.pure = true ∨ oj.op.reads = true ∨ (isLoad oi = true ∧ oj.op.reads = false) := by
      rcases hs with hs | hs
      · simp only [AOp.swap, Bool.or_eq_true, Bool.and_eq_true] at hs
        rcases hs with (hs | hs) | hs
        · exact .inl hs
        · exact .inr (.inl (pr hs))
        · exact .inr (.inl hs.2)
      · exact .inr (.inr hs)
    split
    · rename_i hw
      rw [if_pos hw] at hj
      rcases hcase with hp | hr | hd
      · exact Out.all_mono (fun r => fin _ _ (.inl hp)) hj
      · -- both read: the heap is as it was
        have hj' : oneOp T F oj (putL l oi.dst v) s fun l1 s1 => B l1 s1 ∧ C l1 s1 := by
          unfold oneOp
          rw [e1, e2, if_pos hw]
          exact hj
        rw [oneOp_reads hr] at hj'
        obtain ⟨u, hu', hc⟩ := hj'
        have hu2 := (yj v s s u (.inr rfl)).1 hu'
        have : oneOp T F oj l s fun l s => B' l s ∧ oneOp T F oi l s fun l s => A' l s ∧ C l s := by
          rw [oneOp_reads hr]
          exact ⟨u, hu2, fin u s (.inr (.inl rfl)) hc⟩
        unfold oneOp at this
        rw [if_pos hw] at this
        exact this
      · exact Out.all_mono (fun r => fin _ _ (.inr (.inr hd))) hj
    · rename_i hw
      rw [if_neg hw] at hj
      exact fin undef s (.inr (.inl rfl)) hj
  · -- it turns the heap: the other one is pure
    have hjp : oj.op.pure = true := by
      rcases hs with hs | hs
      · simp only [AOp.swap, Bool.or_eq_true, Bool.and_eq_true] at hs
        rcases hs with (hs | hs) | hs
        · exact absurd (pr hs) hir
        · exact hs
        · exact absurd hs.1 hir
      · exact absurd (isLoad_reads hs.1).1 hir
    have hir' : oi.op.reads = false := by simpa using hir
    rw [oneOp_reads (pr hjp)]
    have step : ∀ (v : Value) (s1 : St), (A (putL l oi.dst v) s1 ∧ oneOp T F oj (putL l oi.dst v) s1 fun l s => B l s ∧ C l s) → ∃ u, YV oj l s u ∧ A' (putL (putL l oj.dst u) oi.dst v) s1 ∧ C (putL (putL l oj.dst u) oi.dst v) s1 := fun v s1 hh => by
      obtain ⟨u, hu', hc⟩ := (oneOp_reads (pr hjp)).1 hh.2
      refine ⟨u, (yj v s1 s u (.inl hjp)).1 hu', ?_⟩
      rw [← comm]
      exact ⟨hA hir' hjp _ u s1 hh.1, hc.2⟩
    unfold oneOp at h
    by_cases hw : wantedL oi l = true
    · rw [if_pos hw] at h
      have h' := Out.all_mono (fun r hr => step r.1 r.2 hr) h
      obtain ⟨_, u, hu', _⟩ := Out.all_some h'
      refine ⟨u, hu', hBr (pr hjp) _ _, ?_⟩
      obtain ⟨e1, e2⟩ := put_other hji l u
      unfold oneOp
      rw [e1, e2, if_pos hw]
      refine Out.all_mono (fun r hr => ?_) h'
      obtain ⟨u', hu2, hc⟩ := hr
      rw [YV.unique hu' hu2]
      exact hc
    · rw [if_neg hw] at h
      obtain ⟨u, hu', hc⟩ := step undef s h
      refine ⟨u, hu', hBr (pr hjp) _ _, ?_⟩
      obtain ⟨e1, e2⟩ := put_other hji l u
      unfold oneOp
      rw [e2, if_neg hw]
      exact hc

theorem any_firstC {ops : Array Oper} {aops : List AOper} {N : Nat} (S : Stat ops aops N) {K : List Value → St → Prop} {i : Nat} {oi : AOper} (hi : aops[i]? = some oi) : ∀ (fuel : Nat) (listed : Array Bool) (l : List Value) (s : St), Closed ops listed → l.length = N →
    (∀ j, j < i → listed.getD j true = true) → i ∈ Region.ready .any ops listed →
    (oneOp T F oi l s fun l s => (∀ k ok, listed.getD k false = true → aops[k]? = some ok → Win (ancs ops.toList []) aops k i → Chk ok l s) ∧ anyC T F ops aops K fuel (listed.setIfInBounds i true) l s) → anyC T F ops aops K (fuel + 1) listed l s := by
  intro fuel
  induction fuel with
  | zero =>
    intro listed l s _ _ _ hr H
    refine ⟨fun h => (by rw [h] at hr; cases hr), fun j hj o ho => ?_⟩
    by_cases hji : j = i
    · subst hji; rw [hi] at ho; cases ho; exact H
    · have h1 := ready_mono hj hji
      have : ∃ l s, anyC T F ops aops K 0 (listed.setIfInBounds i true) l s := by
        unfold oneOp at H
        split at H
        · obtain ⟨r, hr⟩ := Out.all_some H; exact ⟨_, _, hr.2⟩
        · exact ⟨_, _, H.2⟩
      obtain ⟨_, _, h2, _⟩ := this
      rw [h2] at h1
      cases h1
  | succ fuel ih =>
    intro listed l s hcl hlen hmin hr H
    refine ⟨fun h => (by rw [h] at hr; cases hr), fun j hj o ho => ?_⟩
    by_cases hji : j = i
    · subst hji; rw [hi] at ho; cases ho; exact H
    · obtain ⟨hjun, oj, hoj, hall⟩ := mem_ready.1 hj
      obtain ⟨hiun, _⟩ := mem_ready.1 hr
      have hij : i < j := by
        rcases Nat.lt_or_ge i j with h' | h'
        · exact h'
        · have := hmin j (by omega)
          rw [hjun] at this
          cases this
      have wait : ∀ k ok', ops[k]? = some ok' → (∀ e ∈ ok'.after, Region.binds .any e = true → listed.getD e.on false = true) → ((ancs ops.toList []).getD k 0).testBit i = false := fun k ok' hk hal => by
        cases hb : ((ancs ops.toList []).getD k 0).testBit i with
        | false => rfl
        | true =>
          have h1 := getD_tf (ancs_listed hcl ops.toList [] (fun j => by simp) (fun k hk => absurd hk (by simp)) k ok' hk hal i hb)
          rw [hiun] at h1
          cases h1
      have hfree := S.free i j oj oi o hij hoj hi ho (wait j oj hoj hall)
      have hjr := ready_mono hj hji
      have hlisted : ∀ k, (listed.setIfInBounds i true).getD k false = true → k ≠ i → listed.getD k false = true := fun k hk hne => by rwa [getD_set_ne false (Ne.symm hne)] at hk
      -- nobody that is listed looks at the slot of the one that isn't
      have unseen : ∀ k ok, listed.getD k false = true → aops[k]? = some ok → isLoad ok = true → Unseen oi ok := fun k ok hk hok hld => by
        rcases Nat.lt_trichotomy k i with h' | h' | h'
        · exact S.safe k i ok oi h' hok hi hld
        · subst h'
          have := getD_tf hk
          rw [hiun] at this
          cases this
        · have : ops[k]?.isSome = true := by rw [← S.same k, hok]; rfl
          obtain ⟨ok', hok'⟩ := Option.isSome_iff_exists.1 this
          exact (S.free i k ok' oi ok h' hok' hi hok (wait k ok' hok' fun e he hb => hcl k ok' hok' hk e he hb)).1
      have H' : oneOp T F oi l s fun l s => (∀ k ok, listed.getD k false = true → aops[k]? = some ok → Win (ancs ops.toList []) aops k i → Chk ok l s) ∧ oneOp T F o l s fun l s => (∀ k ok, (listed.setIfInBounds i true).getD k false = true → aops[k]? = some ok → Win (ancs ops.toList []) aops k j → Chk ok l s) ∧ anyC T F ops aops K fuel ((listed.setIfInBounds i true).setIfInBounds j true) l s :=
        oneOp_mono (fun l s h => ⟨h.1, h.2.2 j hjr o ho⟩) H
      have his : i < listed.size := by
        rcases Nat.lt_or_ge i listed.size with h' | h'
        · exact h'
        · simp [Array.getElem?_eq_none h'] at hiun
      have hsw := oneOp_swapC (N := N) (A' := fun l s => ∀ k ok, (listed.setIfInBounds j true).getD k false = true → aops[k]? = some ok → Win (ancs ops.toList []) aops k i → Chk ok l s) (B' := fun l s => ∀ k ok, listed.getD k false = true → aops[k]? = some ok → Win (ancs ops.toList []) aops k j → Chk ok l s)
        hfree (fun hld => S.self i oi hi hld) (fun hld d hd => S.dst i oi hi hld d hd) hlen
        (fun hrd l s k ok _ _ hw => (hw.noread hi hrd).elim) (fun hrd l s k ok _ _ hw => (hw.noread ho hrd).elim)
        (fun _ hjp l v s hA k ok hk hok hw => by
          have hkj : k ≠ j := fun e => by
            subst e
            obtain ⟨ai, aj, w1, w2, w3, w4, w5, w6⟩ := hw
            omega
          have hki : k < i := by obtain ⟨_, _, _, _, w3, _⟩ := hw; exact w3
          have hld : isLoad ok = true := by
            obtain ⟨ai, aj, w1, w2, w3, w4, w5, w6⟩ := hw
            rw [hok] at w1
            cases w1
            exact w4
          refine (Chk.put (S.safe k j ok o (by omega) hok ho hld) l v s).2 (hA k ok ?_ hok hw)
          rwa [getD_set_ne false (Ne.symm hkj)] at hk)
        (fun l v s _ hB k ok hk hok hw => by
          have hld : isLoad ok = true := by
            obtain ⟨ai, aj, w1, w2, w3, w4, w5, w6⟩ := hw
            rw [hok] at w1
            cases w1
            exact w4
          have hne : i ≠ k := fun e => by
            subst e
            have := getD_tf hk
            rw [hiun] at this
            cases this
          refine (Chk.put (unseen k ok hk hok hld) l v s).1 (hB k ok ?_ hok hw)
          rw [getD_set_ne false hne]
          exact hk)
        (fun hld hnr l s hB => hB i oi (by simp [his]) hi ⟨oi, o, hi, ho, hij, hld, hnr, wait j oj hoj hall⟩)
        H'
      refine oneOp_mono (fun l' s' h => ⟨h.1, ?_⟩) (?_ : oneOp T F o l s fun l' s' => (∀ k ok, listed.getD k false = true → aops[k]? = some ok → Win (ancs ops.toList []) aops k j → Chk ok l' s') ∧ l'.length = N ∧ oneOp T F oi l' s' fun l s => (∀ k ok, (listed.setIfInBounds j true).getD k false = true → aops[k]? = some ok → Win (ancs ops.toList []) aops k i → Chk ok l s) ∧ anyC T F ops aops K fuel ((listed.setIfInBounds i true).setIfInBounds j true) l s)
      · refine ih (listed.setIfInBounds j true) l' s' (hcl.put hj) h.2.1 (fun k hk => ?_) (ready_mono hr (Ne.symm hji)) ?_
        · rw [getD_set_ne true (by omega)]; exact hmin k hk
        · rw [Array.setIfInBounds_comm _ _ hji]
          exact h.2.2
      · unfold oneOp at hsw ⊢
        split
        · rename_i hw
          rw [if_pos hw] at hsw
          exact Out.all_mono (fun r h => ⟨h.1, by rw [putL_length]; exact hlen, h.2⟩) hsw
        · rename_i hw
          rw [if_neg hw] at hsw
          exact ⟨hsw.1, by rw [putL_length]; exact hlen, hsw.2⟩

theorem same1_spec {v u : Value} {vs : List Value} {s : St} (h : rop .same1 (v :: vs) s = some u) : rop .load1 vs s = some v := by
  match vs, h with
  | [.pointer (some a)], h =>
    simp only [rop] at h ⊢
    cases hget : s.get a.block with
    | none => rw [hget] at h; cases h
    | some ob =>
      cases ob with
      | row cs g ro =>
        rw [hget] at h
        simp only at h ⊢
        cases hc : cs[a.off]? with
        | none => rw [hc] at h; cases h
        | some x =>
          rw [hc] at h
          simp only at h
          split at h
          · rename_i he; rw [cellEq_eq he]
          · cases h
      | _ => rw [hget] at h; cases h

theorem chk_run {o : AOper} (hld : isLoad o = true) {rest : List AOper} {l : List Value} {s : St} {K : List Value × St → Prop} (h : (runOps T F (chkOp o :: rest) l s).all K) : Chk o l s ∧ (runOps T F rest l s).all K := by
  unfold isLoad at hld
  split at hld
  · rename_i hop
    obtain ⟨d, hd⟩ := Option.isSome_iff_exists.1 hld
    simp only [chkOp, hd, runOps] at h
    have hwant : wantedL ⟨none, .r .same1, .t d :: o.args, o.guard⟩ l = wantedL o l := rfl
    rw [hwant] at h
    by_cases hw : wantedL o l = true
    · rw [if_pos hw, Out.all_bind] at h
      simp only [opStep, List.map_cons, Arg.ev] at h
      have key : ∀ vs : List Value, (match rop .same1 (lget l d :: vs) s with | some v => Out.ret (v, s) | none => Out.fail).all (fun a => (runOps T F rest (putL l none a.1) a.2).all K) → rop .load1 vs s = some (lget l d) ∧ (runOps T F rest l s).all K := fun vs hh => by
        cases hr : rop .same1 (lget l d :: vs) s with
        | none => rw [hr] at hh; exact hh.elim
        | some v =>
          rw [hr] at hh
          exact ⟨same1_spec hr, hh⟩
      obtain ⟨k1, k2⟩ := key _ h
      exact ⟨fun _ => ⟨d, hd, by rw [hop]; exact k1⟩, k2⟩
    · rw [if_neg hw] at h
      exact ⟨fun hh => absurd hh hw, h⟩
  · cases hld

theorem chks_run {rest : List AOper} {K : List Value × St → Prop} : ∀ (os : List AOper) (l : List Value) (s : St), (∀ o ∈ os, isLoad o = true) → (runOps T F (os.map chkOp ++ rest) l s).all K → (∀ o ∈ os, Chk o l s) ∧ (runOps T F rest l s).all K
  | [], l, s, _, h => ⟨fun o ho => (by cases ho), h⟩
  | o :: os, l, s, hld, h => by
    obtain ⟨h1, h2⟩ := chk_run (hld o (by simp)) h
    obtain ⟨h3, h4⟩ := chks_run os l s (fun o ho => hld o (by simp [ho])) h2
    refine ⟨fun x hx => ?_, h4⟩
    rcases List.mem_cons.1 hx with rfl | hx
    · exact h1
    · exact h3 x hx

/-- those that are asked for again behind number j -/
def winOps (m : List Nat) (aops : List AOper) (j : Nat) : List AOper := (List.range j).filterMap fun i => match aops[i]? with
  | some b => if isLoad b && !((m.getD j 0).testBit i) then some b else none
  | none => none

theorem chksOf_eq (m : List Nat) (aops : List AOper) (j : Nat) (a : AOper) : chksOf m aops j a = if a.op.reads then [] else (winOps m aops j).map chkOp := by
  unfold chksOf winOps
  split
  · rfl
  · rw [List.map_filterMap]
    congr 1
    funext i
    cases aops[i]? with
    | none => rfl
    | some b => simp only; split <;> rfl

theorem any_lexC {ops : Array Oper} {aops : List AOper} {N : Nat} (S : Stat ops aops N) {K : List Value × St → Prop} :
    ∀ (rest : List AOper) (k : Nat) (listed : Array Bool) (l : List Value) (s : St), Closed ops listed → l.length = N → (∀ j, rest[j]? = aops[k + j]?) → (∀ j, j < k → listed.getD j true = true) → Region.lexFrom .any ops rest.length k listed = true →
      (runOps T F (withChks (ancs ops.toList []) aops rest k) l s).all K → anyC T F ops aops (fun l s => K (l, s)) rest.length listed l s
  | [], k, listed, l, s, _, _, _, _, hB, h => ⟨by simpa [Region.lexFrom] using hB, h⟩
  | o :: rest, k, listed, l, s, hcl, hlen, hr, hlt, hB, h => by
    have h0 : aops[k]? = some o := by simpa using (hr 0).symm
    simp only [List.length_cons, Region.lexFrom, Bool.and_eq_true] at hB
    obtain ⟨⟨hrd, hf⟩, hB'⟩ := hB
    have hks : k < listed.size := by
      have := (mem_ready.1 (by simpa using hrd : k ∈ Region.ready .any ops listed)).1
      rcases Nat.lt_or_ge k listed.size with h' | h'
      · exact h'
      · simp [Array.getElem?_eq_none h'] at this
    have hkr : k ∈ Region.ready .any ops listed := by simpa using hrd
    have ih := fun l s hl => any_lexC S (K := K) rest (k + 1) (listed.setIfInBounds k true) l s (hcl.put hkr) hl
    have hr' : ∀ j, rest[j]? = aops[k + 1 + j]? := fun j => by have := hr (j + 1); simpa [Nat.add_assoc, Nat.add_comm 1 j] using this
    have hlt' : ∀ j, j < k + 1 → (listed.setIfInBounds k true).getD j true = true := fun j hj => by
      by_cases hjk : j = k
      · subst hjk; simp [hks]
      · rw [getD_set_ne true (Ne.symm hjk)]; exact hlt j (by omega)
    refine any_firstC S h0 rest.length listed l s hcl hlen hlt (by simpa using hrd) ?_
    simp only [withChks, runOps] at h
    have fin : ∀ l' s', l'.length = N → (runOps T F (chksOf (ancs ops.toList []) aops k o ++ withChks (ancs ops.toList []) aops rest (k + 1)) l' s').all K → (∀ j oj, listed.getD j false = true → aops[j]? = some oj → Win (ancs ops.toList []) aops j k → Chk oj l' s') ∧ anyC T F ops aops (fun l s => K (l, s)) rest.length (listed.setIfInBounds k true) l' s' := fun l' s' hl' hh => by
      rw [chksOf_eq] at hh
      split at hh
      · rename_i hrd
        exact ⟨fun j oj _ _ hw => (hw.noread h0 hrd).elim, ih l' s' hl' hr' hlt' hB' hh⟩
      · obtain ⟨h1, h2⟩ := chks_run (winOps (ancs ops.toList []) aops k) l' s' (fun x hx => by
          simp only [winOps, List.mem_filterMap] at hx
          obtain ⟨i, _, hi⟩ := hx
          split at hi
          · rename_i hc
            split at hi
            · rename_i hcond
              cases hi
              simp only [Bool.and_eq_true] at hcond
              exact hcond.1
            · cases hi
          · cases hi) hh
        refine ⟨fun j oj _ hoj hw => h1 oj ?_, ih l' s' hl' hr' hlt' hB' h2⟩
        obtain ⟨ai, aj, w1, w2, w3, w4, w5, w6⟩ := hw
        rw [hoj] at w1
        cases w1
        simp only [winOps, List.mem_filterMap]
        exact ⟨j, List.mem_range.2 w3, by rw [hoj]; simp [w4]; simpa using w6⟩
    unfold oneOp
    split
    · rename_i hw
      rw [if_pos hw, Out.all_bind] at h
      exact Out.all_mono (fun r hr0 => fin _ _ (by rw [putL_length]; exact hlen) hr0) h
    · rename_i hw
      rw [if_neg hw] at h
      exact fin _ _ (by rw [putL_length]; exact hlen) h

end

section
variable {P : Program} {B0 : Nat} {W0 : World} {T : Tab} {F : CallF} {μ0 : Nat → Spot} {n0 b : Nat} {fl : Bool}

theorem compOpers_get {ops : Array Oper} : ∀ {os : List Oper} {aops : List AOper}, compOpers P b fl ops os = some aops → aops.length = os.length ∧ ∀ (i : Nat) (o : Oper), os[i]? = some o → ∃ ao, aops[i]? = some ao ∧ compOper P b fl ops o = some ao
  | [], aops, h => by simp [compOpers] at h; subst h; exact ⟨rfl, fun i o hi => by simp at hi⟩
  | x :: os, aops, h => by
    simp only [compOpers, Option.bind_eq_some_iff, Option.map_eq_some_iff] at h
    obtain ⟨ax, h1, aos, h2, rfl⟩ := h
    obtain ⟨k1, k2⟩ := compOpers_get h2
    refine ⟨by simp [k1], fun i o hi => ?_⟩
    cases i with
    | zero => simp at hi; subst hi; exact ⟨ax, rfl, h1⟩
    | succ i => simpa using k2 i o (by simpa using hi)

theorem step_out {o : AOper} {l : List Value} {s : St} {C : List Value → St → Prop} (h : oneOp T F o l s C) (hw : wantedL o l = true) : (opStep T F o.op (o.args.map (Arg.ev l)) s).all fun r => C (putL l o.dst r.1) r.2 := by
  unfold oneOp at h
  rwa [if_pos hw] at h

/-- out of the second machine's any order the first one's -/
theorem any_sound (hF : FSound P F) (hT : TabOk P T) {ops : Array Oper} {aops : List AOper} (hc : compOpers P b fl ops ops.toList = some aops) {Q : Exit → Act → World → Prop} {K : List Value → St → Prop} (hQ : ∀ l s a w, K l s → Sim P B0 W0 μ0 n0 b fl l s a w → Q .normal a w) :
    ∀ (fuel : Nat) (listed : Array Bool) (l : List Value) (s : St) (a : Act) (w : World), Sim P B0 W0 μ0 n0 b fl l s a w → anyOrder T F ops aops K fuel listed l s → wpAny P .any ops Q fuel listed a w
  | 0, listed, l, s, a, w, hs, h => ⟨h.1, hQ l s a w h.2 hs⟩
  | fuel + 1, listed, l, s, a, w, hs, h => by
    refine ⟨fun h0 => hQ l s a w (h.1 h0) hs, fun i hi => ?_⟩
    obtain ⟨_, o, ho, _⟩ := mem_ready.1 hi
    obtain ⟨ao, h1, h2⟩ := (compOpers_get hc).2 i o (by simpa using ho)
    have hone := h.2 i hi ao h1
    have hw := oper_wanted h2 hs
    unfold wpOp
    simp only [ho]
    rw [hw]
    split
    · rename_i hwt
      refine .inl (oper_sound hF hT h2 hs (K := fun l s => anyOrder T F ops aops K fuel (listed.setIfInBounds i true) l s) (fun l s a w hk hs' => any_sound hF hT hc hQ fuel _ l s a w hs' hk) ?_)
      exact step_out hone hwt
    · rename_i hwt
      unfold oneOp at hone
      rw [if_neg hwt] at hone
      exact any_sound hF hT hc hQ fuel _ _ s _ w (oper_skip h2 hs hwt) hone

theorem freeB_spec {x y : AOper} (h : freeB x y = true) : FreeOf x y := by
  simp only [freeB, Bool.and_eq_true] at h
  obtain ⟨⟨h1, h2⟩, h3⟩ := h
  refine ⟨fun d hd => ?_, fun d hd => ?_, fun d hd => ?_, h3⟩
  · rw [hd] at h1; simp at h1; exact h1.1
  · rw [hd] at h1; simp at h1; exact h1.2
  · rw [hd] at h2; simpa using h2

theorem swapsOk_spec {aops : List AOper} {ops : Array Oper} (h : swapsOk aops ops.toList = true) {i j : Nat} {oj : Oper} {ai aj : AOper} (hij : i < j) (hj : ops[j]? = some oj) (hai : aops[i]? = some ai) (haj : aops[j]? = some aj)
    (hno : ((ancs ops.toList []).getD j 0).testBit i = false) : FreeOf ai aj := by
  simp only [swapsOk, List.all_eq_true, List.mem_range] at h
  have hjl : j < ops.toList.length := by
    rcases Nat.lt_or_ge j ops.size with hh | hh
    · simpa using hh
    · rw [Array.getElem?_eq_none hh] at hj; cases hj
  have h1 := h j hjl
  rw [haj] at h1
  simp only [List.all_eq_true, List.mem_range] at h1
  have h2 := h1 i hij
  rw [hai, hno] at h2
  simp only [Bool.false_or] at h2
  exact freeB_spec h2

theorem sim_length {l : List Value} {s : St} {a : Act} {w : World} (h : Sim P B0 W0 μ0 n0 b fl l s a w) : b ≤ l.length := by
  obtain ⟨μ, _, _, _, h1, l0, k, rfl, h2, _⟩ := h
  have := h2.length
  simp only [Array.length_toList] at this
  rw [List.length_append]
  omega

theorem compOpers_dst {ops : Array Oper} {aops : List AOper} (hc : compOpers P b fl ops ops.toList = some aops) {N : Nat} (hb : b ≤ N) {k : Nat} {ok : AOper} (hk : aops[k]? = some ok) (hld : isLoad ok = true) {d : Nat} (hd : ok.dst = some d) : d < N := by
  obtain ⟨h1, h2⟩ := compOpers_get hc
  have hlt : k < ops.toList.length := by rw [← h1]; exact (List.getElem?_eq_some_iff.1 hk).1
  obtain ⟨ao, h3, h4⟩ := h2 k _ (List.getElem?_eq_getElem hlt)
  rw [hk] at h3
  cases h3
  unfold compOper at h4
  split at h4
  · split at h4
    · simp only [Option.bind_eq_some_iff, Option.map_eq_some_iff] at h4
      obtain ⟨_, _, _, _, rfl⟩ := h4
      simp [isLoad] at hld
    · cases h4
  · simp only [Option.bind_eq_some_iff] at h4
    obtain ⟨_, _, _, _, _, _, h5⟩ := h4
    split at h5
    · rename_i hdst
      cases h5
      simp only at hd
      rw [hd] at hdst
      simp only [dstIn, Nat.blt_eq] at hdst
      omega
    · cases h5

theorem unseenB_spec {x y : AOper} (h : unseenB x y = true) : Unseen x y := fun d hd => by
  unfold unseenB at h
  rw [hd] at h
  simpa using h

theorem swapsOk2_spec {aops : List AOper} {ops : Array Oper} (h : swapsOk2 aops ops.toList = true) (hlen : aops.length = ops.size) {N : Nat} (hd : ∀ (k : Nat) (ok : AOper), aops[k]? = some ok → isLoad ok = true → ∀ d, ok.dst = some d → d < N) : Stat ops aops N := by
  simp only [swapsOk2, List.all_eq_true, List.mem_range, Array.length_toList] at h
  have lt : ∀ (j : Nat) (a : AOper), aops[j]? = some a → j < ops.size := fun j a ha => by
    rw [← hlen]
    exact (List.getElem?_eq_some_iff.1 ha).1
  have two : ∀ (i j : Nat) (ai aj : AOper), i < j → aops[i]? = some ai → aops[j]? = some aj → ((((ancs ops.toList []).getD j 0).testBit i || freeB2 ai aj) && (!isLoad ai || unseenB aj ai)) = true := fun i j ai aj hij hai haj => by
    have h1 := h j (lt j aj haj)
    rw [haj] at h1
    simp only [Bool.and_eq_true, List.all_eq_true, List.mem_range] at h1
    have h2 := h1.2 i hij
    rw [hai] at h2
    simpa using h2
  refine ⟨fun i j oj ai aj hij hoj hai haj hno => ?_, fun k ok hk hld d hdd => ?_, fun k j ok oj hkj hk hj hld => ?_, hd, fun k => ?_⟩
  · have h2 := two i j ai aj hij hai haj
    rw [hno] at h2
    simp only [Bool.false_or, Bool.and_eq_true, freeB2] at h2
    obtain ⟨⟨⟨h3, h4⟩, h5⟩, _⟩ := h2
    refine ⟨unseenB_spec h3, fun d hdd => ?_, ?_⟩
    · rw [hdd] at h4; simpa using h4
    · simp only [Bool.or_eq_true, Bool.and_eq_true, Bool.not_eq_true'] at h5
      exact h5
  · have h1 := h k (lt k ok hk)
    rw [hk] at h1
    simp only [Bool.and_eq_true, selfB] at h1
    have h2 := h1.1
    rw [hld, hdd] at h2
    simpa using h2
  · have h2 := two k j ok oj hkj hk hj
    simp only [Bool.and_eq_true] at h2
    have h3 := h2.2
    rw [hld] at h3
    simp only [Bool.not_true, Bool.false_or] at h3
    exact unseenB_spec h3
  · rw [Bool.eq_iff_iff]
    simp only [Option.isSome_iff_exists]
    constructor
    · rintro ⟨a, ha⟩
      exact ⟨_, Array.getElem?_eq_getElem (lt k a ha)⟩
    · rintro ⟨a, ha⟩
      have : k < aops.length := by
        rw [hlen]
        rcases Nat.lt_or_ge k ops.size with hh | hh
        · exact hh
        · rw [Array.getElem?_eq_none hh] at ha; cases ha
      exact ⟨_, List.getElem?_eq_getElem this⟩

theorem region_sound (hm : P.follows .mixedOrders = true) (hF : FSound P F) (hT : TabOk P T) {id : Nat} {ops : Array Oper} {draw : Bool} {aops : List AOper} (hc : compRegion P b fl ops draw = .region aops) {Q : Exit → Act → World → Prop} {K : List Value × St → Prop}
    (hQ : ∀ l s a w, K (l, s) → Sim P B0 W0 μ0 n0 b fl l s a w → Q .normal a w) {l : List Value} {s : St} {a : Act} {w : World} (hs : Sim P B0 W0 μ0 n0 b fl l s a w) (h : (runOps T F aops l s).all K) : (Code.region id ops draw).wp P Q a w := by
  unfold compRegion at hc
  cases ho : compOpers P b fl ops ops.toList with
  | none => rw [ho] at hc; cases hc
  | some aops' =>
    rw [ho] at hc
    simp only at hc
    split at hc
    · rename_i hdd
      split at hc
      · rename_i hd
        injection hc with hc
        cases draw with
        | false => simp at hdd
        | true =>
        simp only [Bool.and_eq_true] at hd
        obtain ⟨hl, hsw⟩ := hd
        simp only [Region.lexB, Bool.and_eq_true] at hl
        have hlen := (compOpers_get ho).1
        simp only [Array.length_toList] at hlen
        refine wp_region_any hm ?_
        have hs' : Sim P B0 W0 μ0 n0 b fl l s a { w with drawn := w.drawn + 1 } := by
          obtain ⟨⟨μ, k1, k2, k3, k4⟩⟩ := hs
          exact ⟨⟨μ, k1, k2.drew _, k3, k4⟩⟩
        rw [← hlen]
        have hb := sim_length hs
        rw [← hc] at h
        refine any_sound hF hT ho (K := fun l s => K (l, s)) hQ _ _ l s a _ hs' (anyC_order _ _ l s (any_lexC (N := l.length) (swapsOk2_spec hsw hlen fun k ok hk hld d hd => compOpers_dst ho hb hk hld hd) aops' 0 _ l s (fun k ok hk hl => (by exfalso; rw [Array.getD_eq_getD_getElem?, Array.getElem?_replicate] at hl; split at hl <;> simp at hl)) rfl (by simp) (fun j hj => by omega) (by rw [hlen]; exact hl.2) h))
      · cases hc
    · rename_i hd
      cases hc
      cases draw with
      | false => exact wp_region_list (list_sound hF hT hQ _ _ l s a w ho hs h)
      | true =>
        simp only [Bool.true_and, Bool.not_eq_true', Bool.not_eq_false', Bool.not_eq_true, Bool.and_eq_true, Bool.not_eq_false] at hd
        obtain ⟨hl, hsw⟩ := hd
        simp only [Region.lexB, Bool.and_eq_true] at hl
        have hlen := (compOpers_get ho).1
        simp only [Array.length_toList] at hlen
        refine wp_region_any hm ?_
        have hs' : Sim P B0 W0 μ0 n0 b fl l s a { w with drawn := w.drawn + 1 } := by
          obtain ⟨⟨μ, k1, k2, k3, k4⟩⟩ := hs
          exact ⟨⟨μ, k1, k2.drew _, k3, k4⟩⟩
        rw [← hlen]
        refine any_sound hF hT ho (K := fun l s => K (l, s)) hQ _ _ l s a _ hs' (any_lex (fun i j oj ai aj hij hj hai haj hno => swapsOk_spec hsw hij hj hai haj hno) aops 0 _ l s (fun k ok hk hl => (by exfalso; rw [Array.getD_eq_getD_getElem?, Array.getElem?_replicate] at hl; split at hl <;> simp at hl)) (by simp) (fun j hj => by omega) (by rw [hlen]; exact hl.2) h)

end
end Go.Am
end
section
set_option linter.unusedSimpArgs false
set_option linter.unusedVariables false
set_option maxRecDepth 10000
namespace Go.Am
open Go.RowKit (Below)

def Res.out : Res → Exit
  | .norm _ _ => .normal
  | .exit id _ _ => .exit id
  | .ret _ _ => .ret

def Res.slots : Res → List Value
  | .norm l _ | .exit _ l _ | .ret l _ => l

def Res.st : Res → St
  | .norm _ s | .exit _ _ s | .ret _ s => s

section
variable {P : Program} {T : Tab} {F : CallF} {B0 : Nat} {W0 : World} {μ0 : Nat → Spot} {n0 nb : Nat} {fl : Bool}

/-- whatever end a run comes to that K holds of: Q holds of it -/
def Ends (P : Program) (B0 : Nat) (W0 : World) (μ0 : Nat → Spot) (n0 nb : Nat) (fl : Bool) (K : Res → Prop) (Q : Exit → Act → World → Prop) : Prop :=
  ∀ (r : Res) (a : Act) (w : World), K r → Sim P B0 W0 μ0 n0 nb fl r.slots r.st a w → Q r.out a w

theorem code_sound (hm : P.follows .mixedOrders = true) (hF : FSound P F) (hT : TabOk P T) (m : Nat) : ∀ (c : Code) (l : List Value) (s : St) (a : Act) (w : World) (K : Res → Prop) (Q : Exit → Act → World → Prop),
    Ends P B0 W0 μ0 n0 nb fl K Q → Sim P B0 W0 μ0 n0 nb fl l s a w → (code T F m (comp P nb fl c) l s).all K → c.wp P Q a w
  | .skip, l, s, a, w, K, Q, hQ, hs, h => wp_skip (hQ (.norm l s) a w h hs)
  | .exit id, l, s, a, w, K, Q, hQ, hs, h => wp_exit (hQ (.exit id l s) a w h hs)
  | .ret, l, s, a, w, K, Q, hQ, hs, h => wp_ret (hQ (.ret l s) a w h hs)
  | .region id ops draw, l, s, a, w, K, Q, hQ, hs, h => by
    simp only [comp] at h
    cases hc : compRegion P nb fl ops draw with
    | region aops =>
      rw [hc] at h
      simp only [code] at h
      rw [Out.all_bind] at h
      exact region_sound hm hF hT hc (K := fun r => K (.norm r.1 r.2)) (fun l s a w hk hs' => hQ (.norm l s) a w hk hs') hs h
    | _ =>
      exfalso
      unfold compRegion at hc
      split at hc
      · split at hc
        · split at hc
          · cases hc
          · cases hc <;> (rw [compRegion] at h; simp_all [code, Out.all])
        · cases hc
      · cases hc <;> (rw [compRegion] at h; simp_all [code, Out.all])
  | .seq x y, l, s, a, w, K, Q, hQ, hs, h => by
    simp only [comp, code] at h
    rw [Out.all_bind] at h
    refine wp_seq (code_sound hm hF hT m x l s a w _ _ ?_ hs h)
    intro r a w hk hs'
    cases r with
    | norm l s => exact code_sound hm hF hT m y l s a w K Q hQ hs' hk
    | exit id l s => exact hQ (.exit id l s) a w hk hs'
    | ret l s => exact hQ (.ret l s) a w hk hs'
  | .cond c x y, l, s, a, w, K, Q, hQ, hs, h => by
    simp only [comp] at h
    cases hc : argOf P nb c with
    | none => rw [hc] at h; exact h.elim
    | some c' =>
      rw [hc] at h
      simp only [code] at h
      have hv : ∃ μ n, VR μ n (c'.ev l) (a.eval c) := by
        obtain ⟨μ, _, _, hg, hl⟩ := hs.ex
        exact ⟨μ, s.next, argOf_rel hg hl hc⟩
      obtain ⟨μ, n, hv⟩ := hv
      generalize hu : c'.ev l = u at hv h
      generalize hu' : a.eval c = u' at hv
      cases hv <;> (try (exact h.elim))
      rename_i b
      refine wp_cond hu' ?_
      cases b with
      | true => exact code_sound hm hF hT m x l s a w K Q hQ hs h
      | false => exact code_sound hm hF hT m y l s a w K Q hQ hs h
  | .block id b, l, s, a, w, K, Q, hQ, hs, h => by
    simp only [comp, code] at h
    rw [Out.all_bind] at h
    refine wp_block (code_sound hm hF hT m b l s a w _ _ ?_ hs h)
    intro r a w hk hs'
    cases r with
    | norm l s => exact hQ (.norm l s) a w hk hs'
    | exit id' l s =>
      simp only at hk
      simp only [Res.out, Exit.inBlock]
      split at hk
      · rename_i he; rw [if_pos he]; exact hQ (.norm l s) a w hk hs'
      · rename_i he; rw [if_neg he]; exact hQ (.exit id' l s) a w hk hs'
    | ret l s => exact hQ (.ret l s) a w hk hs'
  | .loop b, l, s, a, w, K, Q, hQ, hs, h => by
    simp only [comp, code] at h
    have key : ∀ (k : Nat) (l : List Value) (s : St) (a : Act) (w : World), Sim P B0 W0 μ0 n0 nb fl l s a w → (iter (code T F m (comp P nb fl b)) k l s).all K → Code.rounds P b Q k a w := by
      intro k
      induction k with
      | zero => intro l s a w _ h; exact h.elim
      | succ k ih =>
        intro l s a w hs h
        simp only [iter] at h
        rw [Out.all_bind] at h
        rw [rounds_succ]
        refine code_sound hm hF hT m b l s a w _ _ ?_ hs h
        intro r a w hk hs'
        cases r with
        | norm l s => exact ih l s a w hs' hk
        | exit id l s => exact hQ (.exit id l s) a w hk hs'
        | ret l s => exact hQ (.ret l s) a w hk hs'
    exact wp_loop_rounds m (key m l s a w hs h)
  | .scope _, _, _, _, _, _, _, _, _, h => h.elim
  | .label _, _, _, _, _, _, _, _, _, h => h.elim
  | .goto _, _, _, _, _, _, _, _, _, h => h.elim

/-- what was deferred is done -/
def runDefs (F : CallF) : List Value → St → Out St
  | .func (.func f) first cap :: es, s => (F f (first.toList ++ cap.toList) s).bind fun r => runDefs F es r.2
  | .nilIface :: _, s => .ret s
  | _, _ => .fail

/-- a deferred call: of a function of the table that does not defer, or one whose text is not at hand -/
def deferF (T : Tab) (fns : FuncId → Option AFn) (n : Nat) (C : CallF) : CallF := fun f vs s =>
  match fns f with
  | none => T.dfr f vs s
  | some fn => match n with
    | _ + 1 => bif fn.defs then .fail else C f vs s
    | 0 => .fail

def resO (rs : List (Nat × Nat)) (l : List Value) (s : St) : Out (Value × St) :=
  match resultV l s rs with
  | some v => .ret (v, s)
  | none => .fail

/-- a function's end where it defers -/
def endD (C : CallF) (nt : Nat) (rs : List (Nat × Nat)) (l : List Value) (s : St) : Out (Value × St) :=
  match lget l nt with
  | .tuple es => (runDefs C es.toList s).bind fun s => resO rs l s
  | _ => .fail

/-- a function's call: n: how deep, m: how many rounds of a loop; what no text is at hand for (or lies deeper): O -/
def callO (T : Tab) (O : CallF) (fns : FuncId → Option AFn) (m : Nat) : Nat → CallF
  | 0, f, args, s => O f args s
  | n + 1, f, args, s => match fns f with
    | none => O f args s
    | some fn => match fn.defs with
      | false => (code T (callO T O fns m n) m fn.body (padded args fn.ntmps) s).bind fun
        | .norm l s | .ret l s => resO fn.results l s
        | .exit _ _ _ => .fail
      | true => bif Nat.ble args.length fn.ntmps then (code T (callO T O fns m n) m fn.body (padded args fn.ntmps ++ [.tuple #[.nilIface]]) s).bind fun
        | .norm l s | .ret l s => endD (deferF T fns n (callO T O fns m n)) fn.ntmps fn.results l s
        | .exit _ _ _ => .fail
        else .fail

/-- what the first machine does for one result -/
def resAct (tmps : Array Value) : ResultVar → Sem Value
  | .tmp t => pure (tmps.getD t undef)
  | .cell a t => do loadVar t (← asAddr (tmps.getD a undef))

theorem result1_sound {μ : Nat → Spot} {s : St} {w : World} (hr : Rel B0 W0 μ s w) {l : List Value} {tmps : Array Value} (hl : ∀ t, t < nb → VR μ s.next (lget l t) (tmps.toList.getD t undef)) {r : ResultVar} {p : Nat × Nat} (hc : compResult P nb r = some p) {v : Value} (hv : results1 l s p = some v) :
    ∃ v', (resAct tmps r).run P w = .ok v' w ∧ VR μ s.next v v' := by
  have hget : ∀ t, tmps.toList.getD t undef = tmps.getD t undef := fun t => by simp [List.getD]
  cases r with
  | tmp t =>
    simp [compResult] at hc
    obtain ⟨ht, rfl⟩ := hc
    simp [results1] at hv
    subst hv
    refine ⟨_, rfl, ?_⟩
    have := hl t ht
    rwa [hget] at this
  | cell a t =>
    simp only [compResult] at hc
    split at hc
    rotate_left
    · cases hc
    rename_i hab
    have ha := hl a hab
    rw [hget] at ha
    split at hc
    · rename_i h1 h2
      cases hc
      simp only [results1] at hv
      generalize Am.lget l a = x at ha hv
      generalize hx' : tmps.getD a undef = x' at ha
      cases ha <;> simp [rop] at hv
      rename_i i off hi
      split at hv
      · rename_i cs g ro hg
        obtain ⟨v', k1, k2⟩ := (hr.known i _ hg).2.2.cellAt hv
        exact ⟨v', by unfold resAct; simp only [hx']; simp [asAddr, loadVar, r_agg w h1, run_load, k1], k2⟩
      · cases hv
    · rename_i n h1 h2
      cases hc
      simp only [results1] at hv
      generalize Am.lget l a = x at ha hv
      generalize hx' : tmps.getD a undef = x' at ha
      cases ha <;> simp [rop] at hv
      rename_i i off hi
      obtain ⟨cs, hcs, rfl⟩ := hv
      obtain ⟨l', k1, k2⟩ := load_cells (P := P) hr hcs
      exact ⟨.agg l'.toArray, by unfold resAct; simp only [hx']; simp [asAddr, loadVar, r_agg w h1, r_size w h2, k1], .agg _ _ (by simpa using k2)⟩
    · cases hc

theorem results_sound {μ : Nat → Spot} {s : St} {w : World} (hr : Rel B0 W0 μ s w) {l : List Value} {tmps : Array Value} (hl : ∀ t, t < nb → VR μ s.next (lget l t) (tmps.toList.getD t undef)) : ∀ {rs : List ResultVar} {ps : List (Nat × Nat)} (_ : compResults P nb rs = some ps) {vs : List Value} (_ : resultsL l s ps = some vs),
    ∃ vs', (List.mapM (m := Sem) (resAct tmps) rs).run P w = .ok vs' w ∧ VRs μ s.next vs vs'
  | [], ps, hc, vs, hv => by
    simp [compResults] at hc
    subst hc
    simp [resultsL] at hv
    subst hv
    exact ⟨[], by simp, .nil⟩
  | r :: rs, ps, hc, vs, hv => by
    simp only [compResults, Option.bind_eq_some_iff, Option.map_eq_some_iff] at hc
    obtain ⟨p, hp, ps', hps, rfl⟩ := hc
    simp only [resultsL, Option.bind_eq_some_iff, Option.map_eq_some_iff] at hv
    obtain ⟨v, hv1, vs1, hv2, rfl⟩ := hv
    obtain ⟨v', k1, k2⟩ := result1_sound hr hl hp hv1
    obtain ⟨vs', k3, k4⟩ := results_sound hr hl hps hv2
    exact ⟨v' :: vs', by rw [List.mapM_cons]; simp only [Sem.run_bind, k1, k3, Result.andThen_ok, Sem.run_pure], .cons _ _ _ _ k2 k4⟩

theorem resultV_sound {fn : Func} {μ : Nat → Spot} {s : St} {w : World} (hr : Rel B0 W0 μ s w) {l : List Value} {tmps : Array Value} (hl : ∀ t, t < nb → VR μ s.next (lget l t) (tmps.toList.getD t undef)) {ps : List (Nat × Nat)} (hc : compResults P nb fn.results.toList = some ps) {v : Value} (hv : resultV l s ps = some v) :
    ∃ v', (results fn tmps).run P w = .ok v' w ∧ VR μ s.next v v' := by
  have hsome : ∃ vs, resultsL l s ps = some vs := by
    unfold resultV at hv
    cases h : resultsL l s ps with
    | none => rw [h] at hv; cases hv
    | some vs => exact ⟨vs, rfl⟩
  obtain ⟨vs, hvs⟩ := hsome
  obtain ⟨vs', k1, k2⟩ := results_sound hr hl hc hvs
  unfold resultV at hv
  rw [hvs] at hv
  have hrun : (results fn tmps).run P w = .ok (if h : vs'.length = 1 then vs'[0] else .tuple vs'.toArray) w := by
    have e : results fn tmps = ((do
        let vs ← fn.results.mapM (resAct tmps)
        pure (if h : vs.size = 1 then vs[0] else .tuple vs)) : Sem Value) := rfl
    rw [e, Array.mapM_eq_mapM_toList]
    simp [k1]
  refine ⟨_, hrun, ?_⟩
  match vs, vs', k2, hv with
  | [], [], _, hv => simp at hv; subst hv; exact .tuple _ _ .nil
  | [_], [_], .cons _ _ _ _ h _, hv => simp at hv; subst hv; exact h
  | _ :: _ :: _, [_], k2, _ => exact absurd k2.length (by simp)
  | _ :: _ :: _, _ :: _ :: _, k2, hv => simp at hv; subst hv; simpa using VR.tuple _ _ (by simpa using k2)

theorem padded_rel {μ : Nat → Spot} {n : Nat} {vs : List Value} {args : List Value} (h : VRs μ n vs args) (k : Nat) : VRs μ n (padded vs k) (args.toArray ++ Array.replicate (k - args.toArray.size) undef).toList := by
  unfold padded
  simp only [Array.toList_append, Array.toList_replicate, List.size_toArray]
  rw [← h.length]
  exact h.append (.replicate_undef _)

/-- what a deferred call is good for -/
def DefOk (P : Program) (f : FuncId) (vs : List Value) (s : St) (Q : Value × St → Prop) : Prop :=
  ∀ (B0 : Nat) (W0 : World) (μ : Nat → Spot) (w : World) (args : List Value), Rel B0 W0 μ s w → Glob P μ s.next → VRs μ s.next vs args →
    CallsD P f args.toArray .returning w fun e u' w' => u' = .returning ∧ ∃ v s' v', Q (v, s') ∧ e = .returned v' ∧ After B0 W0 μ s v s' v' w'

def DSound (P : Program) (C : CallF) : Prop := ∀ f vs s Q, (C f vs s).all Q → (∃ fn, P.funcs[f]? = some fn ∧ fn.body.isSome = true ∧ (fn.name == "runtime.NumGoroutine") = false) ∧ DefOk P f vs s Q

/-- a function's body, where it does not defer -/
theorem body_sound (hm : P.follows .mixedOrders = true) (hT : TabOk P T) {F : CallF} (hF : FSound P F) (m : Nat) {f : FuncId} {fn : AFn} (hc : compFn P f = some fn) (hd : fn.defs = false) {vs : List Value} {s : St} {Q : Value × St → Prop}
    (h : ((code T F m fn.body (padded vs fn.ntmps) s).bind fun
        | .norm l s | .ret l s => resO fn.results l s
        | .exit _ _ _ => .fail).all Q) :
    ∃ fn0 b, P.funcs[f]? = some fn0 ∧ fn0.body = some b ∧ (fn0.name == "runtime.NumGoroutine") = false ∧ ∀ (B0 : Nat) (W0 : World) (μ : Nat → Spot) (w : World) (args : List Value), Rel B0 W0 μ s w → Glob P μ s.next → VRs μ s.next vs args →
      b.wp P (bodyPost P fn0 fun e w' => ∃ v s' v', Q (v, s') ∧ e = .returned v' ∧ After B0 W0 μ s v s' v' w') { tmps := args.toArray ++ Array.replicate (fn0.ntmps - args.toArray.size) undef, defers := [] } w := by
  unfold compFn at hc
  split at hc
  · rename_i fn0 hfn
    split at hc
    · rename_i b hb
      split at hc
      · cases hc
      · rename_i hnm
        simp only [Option.map_eq_some_iff] at hc
        obtain ⟨ps, hps, rfl⟩ := hc
        refine ⟨fn0, b, hfn, hb, by simpa using hnm, ?_⟩
        intro B0 W0 μ w args hr hg hv
        rw [Out.all_bind] at h
        simp only at hd h
        rw [hd] at h
        have hst : LR μ s.next fn0.ntmps false (padded vs fn0.ntmps) { tmps := args.toArray ++ Array.replicate (fn0.ntmps - args.toArray.size) undef, defers := [] } :=
          ⟨⟨by simp; omega, fun h => by cases h⟩, _, [], (List.append_nil _).symm, padded_rel hv _, .inl ⟨rfl, rfl, rfl⟩⟩
        refine code_sound (B0 := B0) (W0 := W0) (μ0 := μ) (n0 := s.next) (nb := fn0.ntmps) (fl := false) hm hF hT m b _ s _ w _ _ ?_ ⟨⟨μ, Agree.refl _ _, hr, hg, hst⟩⟩ h
        intro r a w' hk hs
        have fin : ∀ l s', (resO ps l s').all Q → Sim P B0 W0 μ s.next fn0.ntmps false l s' a w' → a.defers = [] ∧ ∃ v, (results fn0 a.tmps).run P w' = .ok v w' ∧ (∃ v1 s1 v', Q (v1, s1) ∧ Ending.returned v = .returned v' ∧ After B0 W0 μ s v1 s1 v' w') := fun l s' hk hs => by
          obtain ⟨⟨μ', k1, k2, k3, k4⟩⟩ := hs
          have k5 : a.defers = [] := by
            obtain ⟨_, _, k, _, _, h3⟩ := k4
            rcases h3 with ⟨_, h, _⟩ | ⟨_, h, _⟩
            · exact h
            · cases h
          unfold resO at hk
          cases hv : resultV l s' ps with
          | none => rw [hv] at hk; exact hk.elim
          | some v =>
            rw [hv] at hk
            obtain ⟨v', j1, j2⟩ := resultV_sound (nb := fn0.ntmps) k2 (fun t ht => k4.get ht) hps hv
            exact ⟨k5, v', j1, v, s', v', hk, rfl, μ', k1, k2, j2⟩
        cases r with
        | norm l s => exact fin l s hk hs
        | ret l s => exact fin l s hk hs
        | exit id l s => exact hk.elim
    · cases hc
  · cases hc

/-- what is deferred is done, and the function's results are there -/
theorem leaves_sound {C : CallF} (hC : DSound P C) {fn0 : Func} {ps : List (Nat × Nat)} (hps : compResults P nb fn0.results.toList = some ps) {tmps : Array Value} {l : List Value} {Q : Value × St → Prop} {s0 : St} :
    ∀ (ds : List Deferred) (es : List Value) (s : St) (μ : Nat → Spot) (w : World), Agree μ0 s0.next μ s.next → Rel B0 W0 μ s w → Glob P μ s.next → (∀ t, t < nb → VR μ s.next (lget l t) (tmps.toList.getD t undef)) → VRs μ s.next es (ds.map dV) → (∀ d ∈ ds, ∃ f cap, d.target = .fn (.func f) cap) →
      ((runDefs C (es ++ [.nilIface]) s).bind fun s => resO ps l s).all Q → Leaves P fn0 tmps (fun e w' => ∃ v s' v', Q (v, s') ∧ e = .returned v' ∧ After B0 W0 μ0 s0 v s' v' w') ds .returning w
  | [], es, s, μ, w, ha, hr, hg, hl, hes, hd, h => by
    cases hes
    simp only [List.nil_append, runDefs, Out.bind] at h
    unfold resO at h
    cases hv : resultV l s ps with
    | none => rw [hv] at h; exact h.elim
    | some v =>
      rw [hv] at h
      obtain ⟨v', j1, j2⟩ := resultV_sound (nb := nb) hr hl hps hv
      exact ⟨v', j1, v, s, v', h, rfl, μ, ha, hr, j2⟩
  | d :: ds, es, s, μ, w, ha, hr, hg, hl, hes, hd, h => by
    obtain ⟨f, cap, hf⟩ := hd d (List.mem_cons_self ..)
    obtain ⟨u, us, rfl, hu, hus⟩ := hes.invc
    have hdv : dV d = .func (.func f) d.args cap := by unfold dV; rw [hf]
    rw [hdv] at hu
    cases hu with
    | func fn f1 c1 f2 c2 q1 q2 =>
      simp only [List.cons_append, runDefs] at h
      rw [Out.all_bind, Out.all_bind] at h
      obtain ⟨⟨fnx, h1, h2, h3⟩, h4⟩ := hC f _ s _ h
      have hcf : (invoke (.fn (.func f) cap) d.args).run P w = .ok (.enter f (d.args ++ cap)) w := by
        have : fnx.body.isNone = false := by cases hb : fnx.body <;> simp [hb] at h2 ⊢
        simp only [invoke, callFunc, Sem.run_bind, run_program, Result.andThen_ok, h1, h3, this, Bool.false_eq_true, if_false, Sem.run_pure]
      have hdd : d = { target := .fn (.func f) cap, args := d.args } := by cases d; simp at hf; simp [hf]
      rw [hdd]
      refine leaves_cons (by simp) hcf ?_
      have := h4 B0 W0 μ w (d.args.toList ++ cap.toList) hr hg (q1.append q2)
      have he : (d.args.toList ++ cap.toList).toArray = d.args ++ cap := by simp
      rw [he] at this
      refine this.mono fun e u' w' hq => ?_
      obtain ⟨rfl, v, s', v', hk, rfl, μ', m1, m2, m3⟩ := hq
      have hk' : ((runDefs C (us ++ [.nilIface]) s').bind fun s => resO ps l s).all Q := by rw [Out.all_bind]; exact hk
      exact leaves_sound hC hps ds us s' μ' w' (ha.trans m1) m2 (hg.mono m1) (fun t ht => (hl t ht).mono m1) (hus.mono m1) (fun d hd' => hd d (List.mem_cons_of_mem _ hd')) hk'

theorem callO_sound2 (hm : P.follows .mixedOrders = true) (hT : TabOk P T) {O : CallF} (hO : FSound P O) (hD : DSound P T.dfr) {fns : FuncId → Option AFn} (hfns : ∀ f fn, fns f = some fn → compFn P f = some fn) (m : Nat) : ∀ n, FSound P (callO T O fns m n) ∧ DSound P (deferF T fns n (callO T O fns m n))
  | 0 => ⟨hO, fun f vs s Q h => by
    simp only [deferF] at h
    cases hf : fns f with
    | none => rw [hf] at h; exact hD f vs s Q h
    | some fn => rw [hf] at h; exact h.elim⟩
  | n + 1 => by
    obtain ⟨ih1, ih2⟩ := callO_sound2 hm hT hO hD hfns m n
    refine ⟨fun f vs s Q h => ?_, fun f vs s Q h => ?_⟩
    · simp only [callO] at h
      cases hf : fns f with
      | none => rw [hf] at h; exact hO f vs s Q h
      | some fn =>
        rw [hf] at h
        simp only at h
        have hc := hfns f fn hf
        cases hd : fn.defs with
        | false =>
          rw [hd] at h
          obtain ⟨fn0, b, h1, h2, h3, h4⟩ := body_sound hm hT ih1 m hc hd h
          refine ⟨⟨fn0, h1, by rw [h2]; rfl, h3⟩, fun B0 W0 μ w args hr hg hv => ?_⟩
          exact calls_of_wp h1 h2 (h4 B0 W0 μ w args hr hg hv)
        | true =>
          rw [hd] at h
          simp only at h
          unfold compFn at hc
          split at hc
          · rename_i fn0 hfn
            split at hc
            · rename_i b hb
              split at hc
              · cases hc
              · rename_i hnm
                simp only [Option.map_eq_some_iff] at hc
                obtain ⟨ps, hps, rfl⟩ := hc
                refine ⟨⟨fn0, hfn, by rw [hb]; rfl, by simpa using hnm⟩, ?_⟩
                intro B0 W0 μ w args hr hg hv
                simp only at hd h
                rw [hd] at h
                cases hle : Nat.ble vs.length fn0.ntmps with
                | false => rw [hle] at h; exact h.elim
                | true =>
                  rw [hle] at h
                  simp only [cond_true] at h
                  rw [Out.all_bind] at h
                  have hle' : vs.length ≤ fn0.ntmps := Nat.le_of_ble_eq_true hle
                  have hlen := hv.length
                  refine calls_of_wp_defers hfn hb ?_
                  have hst : LR μ s.next fn0.ntmps true (padded vs fn0.ntmps ++ [.tuple #[.nilIface]]) { tmps := args.toArray ++ Array.replicate (fn0.ntmps - args.toArray.size) undef, defers := [] } :=
                    ⟨⟨by simp; omega, fun _ => by simp; omega⟩, _, _, rfl, padded_rel hv _, .inr ⟨[], rfl, rfl, .nil, fun d hd => by cases hd⟩⟩
                  refine code_sound (B0 := B0) (W0 := W0) (μ0 := μ) (n0 := s.next) (nb := fn0.ntmps) (fl := true) hm ih1 hT m b _ s _ w _ _ ?_ ⟨⟨μ, Agree.refl _ _, hr, hg, hst⟩⟩ h
                  intro r a w' hk hs
                  have fin : ∀ l s', (endD (deferF T fns n (callO T O fns m n)) fn0.ntmps ps l s').all Q → Sim P B0 W0 μ s.next fn0.ntmps true l s' a w' → Leaves P fn0 a.tmps (fun e w' => ∃ v s' v', Q (v, s') ∧ e = .returned v' ∧ After B0 W0 μ s v s' v' w') a.defers .returning w' := fun l s' hk hs => by
                    obtain ⟨⟨μ', k1, k2, k3, k4⟩⟩ := hs
                    have hk4 := k4
                    obtain ⟨⟨_, hsz⟩, l0, k, rfl, h2, h3⟩ := k4
                    rcases h3 with ⟨_, _, h⟩ | ⟨es, _, rfl, h4, h5⟩
                    · cases h
                    have hl0 := h2.length
                    rw [Array.length_toList, hsz rfl] at hl0
                    have hu : lget (l0 ++ [Value.tuple (es ++ [Value.nilIface]).toArray]) fn0.ntmps = .tuple (es ++ [Value.nilIface]).toArray := by rw [hl0]; exact lget_at
                    unfold endD at hk
                    rw [hu] at hk
                    simp only [List.toList_toArray] at hk
                    exact leaves_sound ih2 hps a.defers es s' μ' w' k1 k2 k3 (fun t ht => hk4.get ht) h4 h5 hk
                  cases r with
                  | norm l s => exact fin l s hk hs
                  | ret l s => exact fin l s hk hs
                  | exit id l s => exact hk.elim
            · cases hc
          · cases hc
    · simp only [deferF] at h
      cases hf : fns f with
      | none => rw [hf] at h; exact hD f vs s Q h
      | some fn =>
        rw [hf] at h
        simp only at h
        cases hd : fn.defs with
        | true => rw [hd] at h; exact h.elim
        | false =>
          rw [hd] at h
          simp only [cond_false, callO, hf] at h
          rw [hd] at h
          have hc := hfns f fn hf
          obtain ⟨fn0, b, h1, h2, h3, h4⟩ := body_sound hm hT ih1 m hc hd h
          refine ⟨⟨fn0, h1, by rw [h2]; rfl, h3⟩, fun B0 W0 μ w args hr hg hv => ?_⟩
          exact callsD_of_wp h1 h2 (h4 B0 W0 μ w args hr hg hv)

theorem dsound_fail {D : CallF} (h : D = fun _ _ _ => .fail) : DSound P D := by
  subst h
  exact fun f vs s Q h => h.elim

theorem callO_sound (hm : P.follows .mixedOrders = true) (hT : TabOk P T) {O : CallF} (hO : FSound P O) {fns : FuncId → Option AFn} (hfns : ∀ f fn, fns f = some fn → compFn P f = some fn) (m n : Nat) (hD : DSound P T.dfr := by exact dsound_fail rfl) : FSound P (callO T O fns m n) := (callO_sound2 hm hT hO hD hfns m n).1

end
end Go.Am
end
