/-
  Regions, code, calls: what the second machine comes to, the first one does, whatever its tape holds.
-/
import Derived.Test.YtdmemibnphcedaaGreatDoorAmOps8
set_option linter.unusedSimpArgs false
set_option linter.unusedVariables false
set_option maxRecDepth 10000
namespace Go.Am
open Go.RowKit (Below)

/-- the program's variables have their own blocks' names -/
def Glob (P : Program) (μ : Nat → Spot) (n : Nat) : Prop := ∀ g, g < P.globals.size → g < n ∧ (μ g).block = g ∧ (μ g).base = 0

theorem Glob.mono {P : Program} {μ μ' : Nat → Spot} {n n' : Nat} (h : Glob P μ n) (ha : Agree μ n μ' n') : Glob P μ' n' := fun g hg => by
  obtain ⟨h1, h2, h3⟩ := h g hg
  rw [ha.2 g h1]
  exact ⟨Nat.lt_of_lt_of_le h1 ha.1, h2, h3⟩

/-- what a call is good for -/
def CallOk (P : Program) (f : FuncId) (vs : List Value) (s : St) (Q : Value × St → Prop) : Prop :=
  ∀ (B0 : Nat) (W0 : World) (μ : Nat → Spot) (w : World) (args : List Value), Rel B0 W0 μ s w → Glob P μ s.next → VRs μ s.next vs args →
    Calls P f args.toArray w fun e w' => ∃ v s' v', Q (v, s') ∧ e = .returned v' ∧ After B0 W0 μ s v s' v' w'

def FSound (P : Program) (F : CallF) : Prop := ∀ f vs s Q, (F f vs s).all Q → (∃ fn, P.funcs[f]? = some fn ∧ fn.body.isSome = true ∧ (fn.name == "runtime.NumGoroutine") = false) ∧ CallOk P f vs s Q

def TabOk (P : Program) (T : Tab) : Prop := ∀ t name f, T.meth t name = some f → ∀ v w, (method (P.types.size + Made.depth) t v name).run P w = .ok (f, v) w

/-- what a deferred call is, as a value -/
def dV (d : Deferred) : Value :=
  match d.target with
  | .fn fn cap => .func fn d.args cap
  | _ => undef

/-- the slots behind the function's own: none, or one that holds what is deferred -/
def Stk (μ : Nat → Spot) (n : Nat) (fl : Bool) (k : List Value) (ds : List Deferred) : Prop :=
  (k = [] ∧ ds = [] ∧ fl = false) ∨ ∃ es, fl = true ∧ k = [.tuple (es ++ [.nilIface]).toArray] ∧ VRs μ n es (ds.map dV) ∧ ∀ d ∈ ds, ∃ f cap, d.target = .fn (.func f) cap

/-- the slots: b of them the function's own -/
structure LR (μ : Nat → Spot) (n b : Nat) (fl : Bool) (l : List Value) (a : Act) : Prop where
  size : b ≤ a.tmps.size ∧ (fl = true → a.tmps.size = b)
  ex : ∃ l0 k, l = l0 ++ k ∧ VRs μ n l0 a.tmps.toList ∧ Stk μ n fl k a.defers

/-- how the first machine stands, as against the second one's slots and heap; where the function began: (μ0, n0) -/
structure Sim (P : Program) (B0 : Nat) (W0 : World) (μ0 : Nat → Spot) (n0 b : Nat) (fl : Bool) (l : List Value) (s : St) (a : Act) (w : World) : Prop where
  ex : ∃ μ, Agree μ0 n0 μ s.next ∧ Rel B0 W0 μ s w ∧ Glob P μ s.next ∧ LR μ s.next b fl l a

section
variable {P : Program} {B0 : Nat} {W0 : World} {μ : Nat → Spot} {n b : Nat} {fl : Bool}

theorem Stk.mono {μ' : Nat → Spot} {n' : Nat} {k : List Value} {ds : List Deferred} (h : Stk μ n fl k ds) (ha : Agree μ n μ' n') : Stk μ' n' fl k ds := by
  rcases h with h | ⟨es, h0, h1, h2, h3⟩
  · exact .inl h
  · exact .inr ⟨es, h0, h1, h2.mono ha, h3⟩

theorem LR.mono {μ' : Nat → Spot} {n' : Nat} {l : List Value} {a : Act} (h : LR μ n b fl l a) (ha : Agree μ n μ' n') : LR μ' n' b fl l a := by
  obtain ⟨h0, l0, k, h1, h2, h3⟩ := h
  exact ⟨h0, l0, k, h1, h2.mono ha, h3.mono ha⟩

theorem lget_append {l k : List Value} {t : Nat} (h : t < l.length) : lget (l ++ k) t = lget l t := by
  induction l generalizing t with
  | nil => simp at h
  | cons x l ih => cases t with
    | zero => rfl
    | succ t => simp only [List.cons_append, lget]; exact ih (by simpa using h)

theorem lget_at {l : List Value} {x : Value} : lget (l ++ [x]) l.length = x := by
  induction l with
  | nil => rfl
  | cons y l ih => simpa [lget] using ih

theorem lget_out {l : List Value} {t : Nat} (h : l.length ≤ t) : lget l t = undef := by
  induction l generalizing t with
  | nil => rfl
  | cons x l ih => cases t with
    | zero => simp at h
    | succ t => simp only [lget]; exact ih (by simpa using h)

theorem lset_append {l k : List Value} {t : Nat} {v : Value} (h : t < l.length) : lset (l ++ k) t v = lset l t v ++ k := by
  induction l generalizing t with
  | nil => simp at h
  | cons x l ih => cases t with
    | zero => rfl
    | succ t => simp only [List.cons_append, lset]; rw [ih (by simpa using h)]

theorem lset_at {l : List Value} {x v : Value} : lset (l ++ [x]) l.length v = l ++ [v] := by
  induction l with
  | nil => rfl
  | cons y l ih => simpa [lset] using ih

theorem LR.get {l : List Value} {a : Act} (h : LR μ n b fl l a) {t : Nat} (ht : t < b) : VR μ n (lget l t) (a.tmps.toList.getD t undef) := by
  obtain ⟨⟨h0, _⟩, l0, k, rfl, h2, _⟩ := h
  have hlen := h2.length
  rw [Array.length_toList] at hlen
  rw [lget_append (by omega)]
  exact h2.lget t

theorem argOf_rel (hg : Glob P μ n) {l : List Value} {a : Act} (hl : LR μ n b fl l a) {x : Operand} {y : Arg} (h : argOf P b x = some y) : VR μ n (y.ev l) (a.eval x) := by
  cases x with
  | tmp t =>
    simp [argOf] at h
    obtain ⟨ht, rfl⟩ := h
    have := hl.get ht
    simpa [Arg.ev, Act.eval] using this
  | const v =>
    simp [argOf] at h
    obtain ⟨h1, rfl⟩ := h
    exact plainV_rel h1
  | global g =>
    simp [argOf] at h
    obtain ⟨h1, rfl⟩ := h
    obtain ⟨k1, k2, k3⟩ := hg g h1
    have := VR.ptr (μ := μ) (n := n) g 0 k1
    rw [k2, k3] at this
    exact this
  | func f =>
    simp [argOf] at h
    subst h
    exact .func _ _ _ _ _ .nil .nil

theorem argsOf_rel (hg : Glob P μ n) {l : List Value} {a : Act} (hl : LR μ n b fl l a) : ∀ {xs : List Operand} {ys : List Arg}, argsOf P b xs = some ys → VRs μ n (ys.map (Arg.ev l)) (xs.map a.eval)
  | [], ys, h => by simp [argsOf] at h; subst h; exact .nil
  | x :: xs, ys, h => by
    simp only [argsOf, Option.bind_eq_some_iff, Option.map_eq_some_iff] at h
    obtain ⟨y, hy, ys', hys, rfl⟩ := h
    exact .cons _ _ _ _ (argOf_rel hg hl hy) (argsOf_rel hg hl hys)

theorem put_rel {l : List Value} {a : Act} (hl : LR μ n b fl l a) {v v' : Value} (hv : VR μ n v v') (d : Option Nat) (hd : dstIn b d = true) : LR μ n b fl (putL l d v) (a.put d v') := by
  cases d with
  | none => exact hl
  | some d =>
    obtain ⟨h0, l0, k, rfl, h2, h3⟩ := hl
    have hlen := h2.length
    rw [Array.length_toList] at hlen
    have hd' : d < b := by simpa [dstIn] using hd
    have h0' := h0.1
    refine ⟨by simpa [Act.put] using h0, lset l0 d v, k, ?_, ?_, h3⟩
    · simp only [putL]; exact lset_append (by omega)
    · simp only [Act.put, Array.toList_setIfInBounds]
      exact h2.lset hv d

def AOp.plain : AOp → Bool
  | .p _ | .r _ | .w _ => true
  | _ => false

theorem compOp_shape {op : Op} {p : AOp} {xs : List Operand} (hc : compOp P op = some (p, xs)) : p.plain = true ∨ (∃ it str, op = .next it str ∧ p = .next str ∧ xs = [it]) ∨ ∃ c, op = .call c ∧ compCall P c = some (p, xs) := by
  cases op with
  | next it str => simp [compOp] at hc; exact .inr (.inl ⟨it, str, rfl, hc.1.symm, hc.2.symm⟩)
  | call c => exact .inr (.inr ⟨c, rfl, hc⟩)
  | makeMap t r => cases r <;> simp [compOp] at hc; exact .inl (by rw [← hc.1]; rfl)
  | _ =>
    refine .inl ?_
    simp only [compOp] at hc
    repeat' (first
      | (cases hc; done)
      | (injection hc with hc; injection hc with hc _; subst hc; rfl)
      | (obtain ⟨rfl, _⟩ := hc; rfl)
      | (simp only [Option.bind_eq_some_iff, Option.map_eq_some_iff, Prod.mk.injEq] at hc; done)
      | (simp only [Option.bind_eq_some_iff, Option.map_eq_some_iff, Prod.mk.injEq] at hc)
      | (obtain ⟨_, _, hc⟩ := hc)
      | (split at hc))

theorem compCall_shape {c : Call} {p : AOp} {xs : List Operand} (hc : compCall P c = some (p, xs)) : p.plain = true ∨ (∃ f, c.callee = .value (.func f) ∧ p = .call f ∧ xs = c.args.toList) ∨ (∃ x, c.callee = .value x ∧ p = .callV ∧ xs = x :: c.args.toList) ∨
    ∃ r name, c.callee = .invoke r name ∧ p = .invoke name ∧ xs = r :: c.args.toList := by
  unfold compCall at hc
  split at hc
  · rename_i f hf; simp at hc; exact .inr (.inl ⟨f, hf, hc.1.symm, hc.2.symm⟩)
  · rename_i x _ hx; simp at hc; exact .inr (.inr (.inl ⟨x, hx, hc.1.symm, hc.2.symm⟩))
  · rename_i r name hx; simp at hc; exact .inr (.inr (.inr ⟨r, name, hx, hc.1.symm, hc.2.symm⟩))
  · refine .inl ?_
    repeat' (first
      | (cases hc; done)
      | (injection hc with hc; injection hc with hc _; subst hc; rfl)
      | (obtain ⟨rfl, _⟩ := hc; rfl)
      | (simp only [Option.bind_eq_some_iff, Option.map_eq_some_iff, Prod.mk.injEq] at hc; done)
      | (simp only [Option.bind_eq_some_iff, Option.map_eq_some_iff, Prod.mk.injEq] at hc)
      | (obtain ⟨_, _, hc⟩ := hc)
      | (split at hc))

/-- the operation's wp, out of what the second machine's step comes to -/
theorem step_sound {T : Tab} {F : CallF} (hF : FSound P F) (hT : TabOk P T) {μ0 : Nat → Spot} {n0 : Nat} {o : Oper} {p : AOp} {xs : List Operand} {ys : List Arg} (hc : compOp P o.op = some (p, xs)) (hy : argsOf P b xs = some ys) (hdst : dstIn b o.dst = true)
    {l : List Value} {s : St} {a : Act} {w : World} (hs : Sim P B0 W0 μ0 n0 b fl l s a w) {K : List Value → St → Prop} {Q : Exit → Act → World → Prop} {next : Act → World → Prop}
    (hn : ∀ l s a w, K l s → Sim P B0 W0 μ0 n0 b fl l s a w → next a w)
    (h : (opStep T F p (ys.map (Arg.ev l)) s).all fun r => K (putL l o.dst r.1) r.2) : o.wp P a w next Q := by
  obtain ⟨⟨μ, ha, hr, hg, hl⟩⟩ := hs
  have hv := argsOf_rel hg hl hy
  -- behind a step that is known: on
  have go : ∀ {v : Value} {s' : St} {v' : Value} {w' : World}, K (putL l o.dst v) s' → After B0 W0 μ s v s' v' w' → next (a.put o.dst v') w' := fun {v s' v' w'} hk haf => by
    obtain ⟨μ', m1, m2, m3⟩ := haf
    exact hn _ _ _ _ hk ⟨⟨μ', ha.trans m1, m2, hg.mono m1, put_rel (hl.mono m1) m3 _ hdst⟩⟩
  have did : ∀ {v : Value} {s' : St} {v' : Value} {w' : World}, K (putL l o.dst v) s' → Did P a.eval o w v' w' → After B0 W0 μ s v s' v' w' → o.wp P a w next Q := fun {v s' v' w'} hk hdid haf => by
    unfold Oper.wp
    rcases hdid with hdid | ⟨hdid, rfl⟩
    · rw [hdid]; exact go hk haf
    · rw [hdid]; exact go hk haf
  have call : ∀ {f : FuncId} {vs : List Value} {args : Array Value}, (execOp a.eval o).run P w = (callFunc f args).run P w → VRs μ s.next vs args.toList → (F f vs s).all (fun r => K (putL l o.dst r.1) r.2) → o.wp P a w next Q := fun {f vs args} he hvs hf => by
    obtain ⟨⟨fn, h1, h2, h3⟩, h4⟩ := hF f vs s _ hf
    have hcf : (callFunc f args).run P w = .ok (.enter f args) w := by
      have : fn.body.isNone = false := by cases hb : fn.body <;> simp [hb] at h2 ⊢
      simp only [callFunc, Sem.run_bind, run_program, Result.andThen_ok, h1, h3, this, Bool.false_eq_true, if_false, Sem.run_pure]
    unfold Oper.wp
    rw [he, hcf]
    have := h4 B0 W0 μ w args.toList hr hg hvs
    simp only [Array.toArray_toList] at this
    refine this.mono fun e w' hq => ?_
    obtain ⟨v, s', v', hk, rfl, haf⟩ := hq
    exact go hk haf
  cases p with
  | p p =>
    simp only [opStep] at h
    cases hp : pop p (ys.map (Arg.ev l)) with
    | none => rw [hp] at h; exact h.elim
    | some v =>
      rw [hp] at h
      obtain ⟨v', k1, k2⟩ := pop_sound (μ := μ) (n := s.next) hc a.eval _ v w hv hp
      exact did h (.inl k1) ⟨μ, Agree.refl _ _, hr, k2⟩
  | r r =>
    simp only [opStep] at h
    cases hp : rop r (ys.map (Arg.ev l)) s with
    | none => rw [hp] at h; exact h.elim
    | some v =>
      rw [hp] at h
      obtain ⟨v', k1, k2⟩ := rop_sound (B0 := B0) (W0 := W0) (μ := μ) (s := s) (w := w) hc a.eval _ v hr hv hp
      exact did h (.inl k1) ⟨μ, Agree.refl _ _, hr, k2⟩
  | w q =>
    simp only [opStep] at h
    cases hp : wop q (ys.map (Arg.ev l)) s with
    | none => rw [hp] at h; exact h.elim
    | some r =>
      rw [hp] at h
      obtain ⟨v', w', k1, k2⟩ := wop_sound (B0 := B0) (W0 := W0) (μ := μ) (s := s) (w := w) hc a.eval _ r.1 r.2 hr hv hp
      exact did h k1 k2
  | next str =>
    simp only [opStep] at h
    have hx : ∃ x, xs = [x] ∧ o.op = .next x str := by
      rcases compOp_shape hc with h0 | ⟨it, str', h1, h2, h3⟩ | ⟨c, h1, h2⟩
      · cases h0
      · cases h2; exact ⟨it, h3, h1⟩
      · rcases compCall_shape h2 with h0 | ⟨f, _, h0, _⟩ | ⟨x, _, h0, _⟩ | ⟨r, nm, _, h0, _⟩ <;> cases h0
    obtain ⟨x, hx1, hx2⟩ := hx
    obtain ⟨v, s', v', w', k1, k2, k3⟩ := next_sound (P := P) (B0 := B0) (W0 := W0) (μ := μ) (s := s) (w := w) hx1 hx2 a.eval _ _ hr hv h
    exact did k1 k2 k3
  | call f =>
    simp only [opStep] at h
    rcases compOp_shape hc with h0 | ⟨it, str', h1, h2, h3⟩ | ⟨c, h1, h2⟩
    · cases h0
    · cases h2
    · rcases compCall_shape h2 with h0 | ⟨f', hf, h0, rfl⟩ | ⟨x, _, h0, _⟩ | ⟨r, nm, _, h0, _⟩ <;> cases h0
      refine call (args := c.args.map a.eval) ?_ (by simpa using hv) h
      simp [execOp, h1, resolve, hf, Act.eval, Deferred.ofValue, invoke]
  | callV =>
    simp only [opStep] at h
    rcases compOp_shape hc with h0 | ⟨it, str', h1, h2, h3⟩ | ⟨c, h1, h2⟩
    · cases h0
    · cases h2
    · rcases compCall_shape h2 with h0 | ⟨f', hf, h0, _⟩ | ⟨x, hx, h0, rfl⟩ | ⟨r, nm, _, h0, _⟩ <;> cases h0
      obtain ⟨u, us, hu, hur, husr⟩ := hv.invc
      rw [hu] at h
      generalize hxe : a.eval x = x' at hur
      cases hur <;> (try (exact h.elim))
      rename_i fn f1 c1 f2 c2 k1 k2
      cases fn <;> (try (exact h.elim))
      rename_i f
      refine call (args := f2 ++ (c.args.map a.eval) ++ c2) ?_ ?_ h
      · simp [execOp, h1, resolve, hx, hxe, Deferred.ofValue, invoke]
      · simp only [Array.toList_append, Array.toList_map]
        exact (k1.append husr).append k2
  | invoke name =>
    simp only [opStep] at h
    rcases compOp_shape hc with h0 | ⟨it, str', h1, h2, h3⟩ | ⟨c, h1, h2⟩
    · cases h0
    · cases h2
    · rcases compCall_shape h2 with h0 | ⟨f', hf, h0, _⟩ | ⟨x, hx, h0, _⟩ | ⟨r, nm, hx, h0, rfl⟩ <;> cases h0
      obtain ⟨u, us, hu, hur, husr⟩ := hv.invc
      rw [hu] at h
      generalize hxe : a.eval r = x' at hur
      cases hur <;> (try (exact h.elim))
      rename_i t v v' k1
      simp only at h
      cases hm : T.meth t name with
      | none => rw [hm] at h; exact h.elim
      | some f =>
        rw [hm] at h
        refine call (args := #[v'] ++ (c.args.map a.eval)) ?_ ?_ h
        · have := hT t name f hm v' w
          have e0 : (#[Value.iface t v'] ++ c.args.map a.eval)[0]? = some (.iface t v') := by rw [Array.getElem?_append_left (by simp)]; rfl
          have e1 : (c.args.map a.eval).extract 0 c.args.size = c.args.map a.eval := by rw [show c.args.size = (c.args.map a.eval).size by simp, Array.extract_size]
          simp [execOp, h1, resolve, hx, hxe, invoke, callMethod, e0, this, e1]
        · simp only [Array.toList_append, Array.toList_map]
          exact .cons _ _ _ _ k1 husr

/-! ### a region in the order of its text -/
section
variable {T : Tab} {F : CallF} {μ0 : Nat → Spot} {n0 : Nat}

theorem yielded_rel {ops : Array Oper} {l : List Value} {a : Act} (hl : LR μ n b fl l a) {j d : Nat} (hj : (ops[j]?).bind (·.dst) = some d) (hdb : d < b) : yielded ops a.tmps j = yieldedL l d := by
  have h := hl.get hdb
  unfold yielded yieldedL
  rw [hj]
  simp only [Option.bind_some]
  have hget : a.tmps.toList.getD d undef = (a.tmps[d]?).getD undef := by simp [List.getD]
  rw [hget] at h
  cases ht : a.tmps[d]? with
  | none =>
    rw [ht] at h
    simp only [Option.getD_none] at h
    generalize Am.lget l d = x at h
    cases h <;> rfl
  | some y =>
    rw [ht] at h
    simp only [Option.getD_some] at h
    generalize Am.lget l d = x at h
    cases h <;> rfl

theorem wanted_rel {ops : Array Oper} {l : List Value} {a : Act} (hl : LR μ n b fl l a) {o : Oper} {ao : AOper} (hg : compGuard b ops o.guard = some ao.guard) : Region.wanted o (yielded ops a.tmps) = wantedL ao l := by
  unfold compGuard at hg
  unfold Region.wanted wantedL
  cases hgd : o.guard with
  | none => rw [hgd] at hg; simp at hg; rw [← hg]
  | some jw =>
    obtain ⟨j, want⟩ := jw
    rw [hgd] at hg
    simp only at hg
    cases hd : (ops[j]?).bind (·.dst) with
    | none => rw [hd] at hg; cases hg
    | some d =>
      rw [hd] at hg
      simp only at hg
      split at hg
      · rename_i hdb
        simp at hg
        rw [← hg]
        simp only
        rw [yielded_rel hl hd hdb]
      · cases hg

theorem compOper_spec {ops : Array Oper} {o : Oper} {ao : AOper} (h : compOper P b fl ops o = some ao) : (∃ xs, compOp P o.op = some (ao.op, xs) ∧ argsOf P b xs = some ao.args ∧ compGuard b ops o.guard = some ao.guard ∧ ao.dst = o.dst ∧ dstIn b o.dst = true) ∨
    ∃ c xs as, fl = true ∧ o.op = .defer c ∧ o.dst = none ∧ o.guard = none ∧ compDefer c = some xs ∧ argsOf P b xs = some as ∧ ao = { dst := some b, op := .p .push, args := .t b :: as, guard := none } := by
  unfold compOper at h
  cases hd : deferOf o.op with
  | none =>
    rw [hd] at h
    simp only [Option.bind_eq_some_iff] at h
    obtain ⟨⟨p, xs⟩, h1, as, h2, g, h3, h4⟩ := h
    split at h4
    · rename_i h5
      cases h4
      exact .inl ⟨xs, h1, h2, h3, rfl, h5⟩
    · cases h4
  | some c =>
    rw [hd] at h
    simp only at h
    have hop : o.op = .defer c := by
      unfold deferOf at hd
      split at hd
      · rename_i c' hc'; cases hd; exact hc'
      · cases hd
    split at h
    · rename_i hc
      simp only [Bool.and_eq_true, Option.isNone_iff_eq_none] at hc
      simp only [Option.bind_eq_some_iff, Option.map_eq_some_iff] at h
      obtain ⟨xs, h1, as, h2, rfl⟩ := h
      exact .inr ⟨c, xs, as, hc.1.1, hop, hc.1.2, hc.2, h1, h2, rfl⟩
    · cases h

theorem compDefer_spec {c : Call} {xs : List Operand} (h : compDefer c = some xs) : ∃ x, c.callee = .value x ∧ xs = x :: c.args.toList := by
  unfold compDefer at h
  split at h
  · cases h; exact ⟨_, rfl, rfl⟩
  · cases h

theorem Sim.put {l : List Value} {s : St} {a : Act} {w : World} (hs : Sim P B0 W0 μ0 n0 b fl l s a w) (d : Option Nat) (hd : dstIn b d = true) : Sim P B0 W0 μ0 n0 b fl (putL l d undef) s (a.put d undef) w := by
  obtain ⟨⟨μ, h1, h2, h3, h4⟩⟩ := hs
  exact ⟨⟨μ, h1, h2, h3, put_rel h4 (.tuple _ _ .nil) d hd⟩⟩

theorem oper_wanted {ops : Array Oper} {o : Oper} {ao : AOper} (hc : compOper P b fl ops o = some ao) {l : List Value} {s : St} {a : Act} {w : World} (hs : Sim P B0 W0 μ0 n0 b fl l s a w) : Region.wanted o (yielded ops a.tmps) = wantedL ao l := by
  rcases compOper_spec hc with ⟨xs, k1, k2, k3, k4, k5⟩ | ⟨c, xs, as, k0, k1, k2, k3, k4, k5, rfl⟩
  · obtain ⟨μ, _, _, _, h4⟩ := hs.ex
    exact wanted_rel h4 k3
  · simp [Region.wanted, wantedL, k3]

theorem oper_skip {ops : Array Oper} {o : Oper} {ao : AOper} (hc : compOper P b fl ops o = some ao) {l : List Value} {s : St} {a : Act} {w : World} (hs : Sim P B0 W0 μ0 n0 b fl l s a w) (hw : ¬wantedL ao l = true) : Sim P B0 W0 μ0 n0 b fl (putL l ao.dst undef) s (a.put o.dst undef) w := by
  rcases compOper_spec hc with ⟨xs, k1, k2, k3, k4, k5⟩ | ⟨c, xs, as, k0, k1, k2, k3, k4, k5, rfl⟩
  · rw [k4]; exact hs.put _ k5
  · exact absurd rfl hw

theorem oper_sound (hF : FSound P F) (hT : TabOk P T) {ops : Array Oper} {o : Oper} {ao : AOper} (hc : compOper P b fl ops o = some ao) {l : List Value} {s : St} {a : Act} {w : World} (hs : Sim P B0 W0 μ0 n0 b fl l s a w) {K : List Value → St → Prop} {Q : Exit → Act → World → Prop} {next : Act → World → Prop}
    (hn : ∀ l s a w, K l s → Sim P B0 W0 μ0 n0 b fl l s a w → next a w)
    (h : (opStep T F ao.op (ao.args.map (Arg.ev l)) s).all fun r => K (putL l ao.dst r.1) r.2) : o.wp P a w next Q := by
  rcases compOper_spec hc with ⟨xs, k1, k2, k3, k4, k5⟩ | ⟨c, xs, as, k0, k1, k2, k3, k4, k5, rfl⟩
  · rw [k4] at h
    exact step_sound hF hT k1 k2 k5 hs hn h
  · obtain ⟨⟨μ, ha, hr, hg, hl⟩⟩ := hs
    have hv := argsOf_rel hg hl k5
    obtain ⟨x, hx, rfl⟩ := compDefer_spec k4
    obtain ⟨h0, l0, k, rfl, h2, h3⟩ := hl
    have hlen := h2.length
    rw [Array.length_toList] at hlen
    rcases h3 with ⟨rfl, h4, hfl⟩ | ⟨es, hfl, rfl, h4, h5⟩
    · exfalso
      rw [hfl] at k0
      cases k0
    · have hb := h0.2 hfl
      rw [hb] at hlen
      subst hlen
      have hu : lget (l0 ++ [Value.tuple (es ++ [Value.nilIface]).toArray]) l0.length = .tuple (es ++ [Value.nilIface]).toArray := lget_at
      obtain ⟨u, us, hu2, hur, husr⟩ := hv.invc
      simp only [opStep, List.map_cons, Arg.ev, hu, hu2] at h
      generalize hxe : a.eval x = x' at hur
      cases hur <;> (try (exact h.elim))
      rename_i fn f1 c1 f2 c2 q1 q2
      cases fn <;> (try (exact h.elim))
      rename_i f
      simp only [pop] at h
      have hne : (es ++ [Value.nilIface]).toArray.toList.isEmpty = false := by simp
      rw [hne] at h
      simp only [Bool.false_eq_true, if_false] at h
      unfold Oper.wp
      have he : (execOp a.eval o).run P w = .ok (.defer { target := .fn (.func f) c2, args := f2 ++ c.args.map a.eval }) w := by
        simp [execOp, k1, resolve, hx, hxe, Deferred.ofValue]
      rw [he, Oper.upon_defer, k2]
      refine hn _ _ _ _ h ⟨⟨μ, ha, hr, hg, h0, l0, _, lset_at, h2, .inr ⟨.func (.func f) (f1.toList ++ us).toArray c1 :: es, hfl, ?_, ?_, ?_⟩⟩⟩
      · simp
      · refine .cons _ _ _ _ ?_ h4
        exact .func _ _ _ _ _ (by simpa using q1.append husr) q2
      · intro d hd
        rcases List.mem_cons.1 hd with rfl | hd
        · exact ⟨_, _, rfl⟩
        · exact h5 d hd

theorem list_sound (hF : FSound P F) (hT : TabOk P T) {ops : Array Oper} {Q : Exit → Act → World → Prop} {K : List Value × St → Prop} (hQ : ∀ l s a w, K (l, s) → Sim P B0 W0 μ0 n0 b fl l s a w → Q .normal a w) :
    ∀ (os : List Oper) (aops : List AOper) (l : List Value) (s : St) (a : Act) (w : World), compOpers P b fl ops os = some aops → Sim P B0 W0 μ0 n0 b fl l s a w → (runOps T F aops l s).all K → wpList P ops Q os a w
  | [], aops, l, s, a, w, hc, hs, h => by
    simp [compOpers] at hc
    subst hc
    exact wpList_nil (hQ l s a w h hs)
  | o :: os, aops, l, s, a, w, hc, hs, h => by
    simp only [compOpers, Option.bind_eq_some_iff, Option.map_eq_some_iff] at hc
    obtain ⟨ao, h1, aos, h2, rfl⟩ := hc
    have hw := oper_wanted h1 hs
    refine wpList_step fun K' hK' => ?_
    rw [hw]
    simp only [runOps] at h
    split
    · rename_i hwt
      rw [if_pos hwt] at h
      refine oper_sound hF hT h1 hs (K := fun l s => (runOps T F aos l s).all K) (fun l s a w hk hs' => hK' a w (list_sound hF hT hQ os aos l s a w h2 hs' hk)) ?_
      revert h
      generalize opStep T F ao.op (ao.args.map (Arg.ev l)) s = out
      intro h
      clear hw hwt
      induction out with
      | ret r => exact h
      | fail => exact h.elim
      | ask n k ih => exact ⟨h.1, fun i hi => ih i (h.2 i hi)⟩
    · rename_i hwt
      rw [if_neg hwt] at h
      exact hK' _ _ (list_sound hF hT hQ os aos _ s _ w h2 (oper_skip h1 hs hwt) h)

end

end
end Go.Am
