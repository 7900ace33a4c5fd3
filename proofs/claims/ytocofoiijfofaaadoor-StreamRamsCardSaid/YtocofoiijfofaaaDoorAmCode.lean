/-
  Regions, code, calls: what the second machine comes to, the first one does, whatever its tape holds.
-/
import Derived.Test.YtocofoiijfofaaaDoorAmOps8
set_option linter.unusedSimpArgs false
set_option linter.unusedVariables false
set_option maxRecDepth 10000
namespace Go.Am
open Go.RowKit (Below)

/-- the program's variables have their own blocks' names -/
def Glob (P : Program) (μ : Nat → Spot) (n : Nat) : Prop := ∀ g, g < P.globals.size → g < n ∧ (μ g).block = g ∧ (μ g).base = 0

theorem Glob.mono {P : Program} {μ μ' : Nat → Spot} {n n' : Nat} (h : Glob P μ n) (ha : Agree μ n μ' n') : Glob P μ' n' := fun g hg => by
  obtain ⟨h1, h2, h3⟩ := h g hg
  rw [ha.2 g h1]
  exact ⟨Nat.lt_of_lt_of_le h1 ha.1, h2, h3⟩

/-- what a call is good for -/
def CallOk (P : Program) (f : FuncId) (vs : List Value) (s : St) (Q : Value × St → Prop) : Prop :=
  ∀ (B0 : Nat) (W0 : World) (μ : Nat → Spot) (w : World) (args : List Value), Rel B0 W0 μ s w → Glob P μ s.next → VRs μ s.next vs args →
    Calls P f args.toArray w fun e w' => ∃ v s' v', Q (v, s') ∧ e = .returned v' ∧ After B0 W0 μ s v s' v' w'

def FSound (P : Program) (F : CallF) : Prop := ∀ f vs s Q, (F f vs s).all Q → (∃ fn, P.funcs[f]? = some fn ∧ fn.body.isSome = true ∧ (fn.name == "runtime.NumGoroutine") = false) ∧ CallOk P f vs s Q

def TabOk (P : Program) (T : Tab) : Prop := ∀ t name f, T.meth t name = some f → ∀ v w, (method (P.types.size + Made.depth) t v name).run P w = .ok (f, v) w

/-- how the first machine stands, as against the second one's slots and heap; where the function began: (μ0, n0) -/
structure Sim (P : Program) (B0 : Nat) (W0 : World) (μ0 : Nat → Spot) (n0 : Nat) (l : List Value) (s : St) (a : Act) (w : World) : Prop where
  ex : ∃ μ, Agree μ0 n0 μ s.next ∧ Rel B0 W0 μ s w ∧ Glob P μ s.next ∧ VRs μ s.next l a.tmps.toList
  defers : a.defers = []

section
variable {P : Program} {B0 : Nat} {W0 : World} {μ : Nat → Spot} {n : Nat}

theorem argOf_rel (hg : Glob P μ n) {l : List Value} {a : Act} (hl : VRs μ n l a.tmps.toList) {x : Operand} {y : Arg} (h : argOf P x = some y) : VR μ n (y.ev l) (a.eval x) := by
  cases x with
  | tmp t =>
    simp [argOf] at h
    subst h
    have := hl.lget t
    simpa [Arg.ev, Act.eval] using this
  | const v =>
    simp [argOf] at h
    obtain ⟨h1, rfl⟩ := h
    exact plainV_rel h1
  | global g =>
    simp [argOf] at h
    obtain ⟨h1, rfl⟩ := h
    obtain ⟨k1, k2, k3⟩ := hg g h1
    have := VR.ptr (μ := μ) (n := n) g 0 k1
    rw [k2, k3] at this
    exact this
  | func f =>
    simp [argOf] at h
    subst h
    exact .func _ _ _ _ _ .nil .nil

theorem argsOf_rel (hg : Glob P μ n) {l : List Value} {a : Act} (hl : VRs μ n l a.tmps.toList) : ∀ {xs : List Operand} {ys : List Arg}, argsOf P xs = some ys → VRs μ n (ys.map (Arg.ev l)) (xs.map a.eval)
  | [], ys, h => by simp [argsOf] at h; subst h; exact .nil
  | x :: xs, ys, h => by
    simp only [argsOf, Option.bind_eq_some_iff, Option.map_eq_some_iff] at h
    obtain ⟨y, hy, ys', hys, rfl⟩ := h
    exact .cons _ _ _ _ (argOf_rel hg hl hy) (argsOf_rel hg hl hys)

theorem put_rel {l : List Value} {a : Act} (hl : VRs μ n l a.tmps.toList) {v v' : Value} (hv : VR μ n v v') (d : Option Nat) : VRs μ n (putL l d v) (a.put d v').tmps.toList := by
  cases d with
  | none => exact hl
  | some d =>
    simp only [putL, Act.put, Array.toList_setIfInBounds]
    exact hl.lset hv d

theorem put_defers (a : Act) (d : Option Nat) (v : Value) : (a.put d v).defers = a.defers := by cases d <;> rfl

def AOp.plain : AOp → Bool
  | .p _ | .r _ | .w _ => true
  | _ => false

theorem compOp_shape {op : Op} {p : AOp} {xs : List Operand} (hc : compOp P op = some (p, xs)) : p.plain = true ∨ (∃ it str, op = .next it str ∧ p = .next str ∧ xs = [it]) ∨ ∃ c, op = .call c ∧ compCall P c = some (p, xs) := by
  cases op with
  | next it str => simp [compOp] at hc; exact .inr (.inl ⟨it, str, rfl, hc.1.symm, hc.2.symm⟩)
  | call c => exact .inr (.inr ⟨c, rfl, hc⟩)
  | makeMap t r => cases r <;> simp [compOp] at hc; exact .inl (by rw [← hc.1]; rfl)
  | _ =>
    refine .inl ?_
    simp only [compOp] at hc
    repeat' (first
      | (cases hc; done)
      | (injection hc with hc; injection hc with hc _; subst hc; rfl)
      | (obtain ⟨rfl, _⟩ := hc; rfl)
      | (simp only [Option.bind_eq_some_iff, Option.map_eq_some_iff, Prod.mk.injEq] at hc; done)
      | (simp only [Option.bind_eq_some_iff, Option.map_eq_some_iff, Prod.mk.injEq] at hc)
      | (obtain ⟨_, _, hc⟩ := hc)
      | (split at hc))

theorem compCall_shape {c : Call} {p : AOp} {xs : List Operand} (hc : compCall P c = some (p, xs)) : p.plain = true ∨ (∃ f, c.callee = .value (.func f) ∧ p = .call f ∧ xs = c.args.toList) ∨ (∃ x, c.callee = .value x ∧ p = .callV ∧ xs = x :: c.args.toList) ∨
    ∃ r name, c.callee = .invoke r name ∧ p = .invoke name ∧ xs = r :: c.args.toList := by
  unfold compCall at hc
  split at hc
  · rename_i f hf; simp at hc; exact .inr (.inl ⟨f, hf, hc.1.symm, hc.2.symm⟩)
  · rename_i x _ hx; simp at hc; exact .inr (.inr (.inl ⟨x, hx, hc.1.symm, hc.2.symm⟩))
  · rename_i r name hx; simp at hc; exact .inr (.inr (.inr ⟨r, name, hx, hc.1.symm, hc.2.symm⟩))
  · refine .inl ?_
    repeat' (first
      | (cases hc; done)
      | (injection hc with hc; injection hc with hc _; subst hc; rfl)
      | (obtain ⟨rfl, _⟩ := hc; rfl)
      | (simp only [Option.bind_eq_some_iff, Option.map_eq_some_iff, Prod.mk.injEq] at hc; done)
      | (simp only [Option.bind_eq_some_iff, Option.map_eq_some_iff, Prod.mk.injEq] at hc)
      | (obtain ⟨_, _, hc⟩ := hc)
      | (split at hc))

/-- the operation's wp, out of what the second machine's step comes to -/
theorem step_sound {T : Tab} {F : CallF} (hF : FSound P F) (hT : TabOk P T) {μ0 : Nat → Spot} {n0 : Nat} {o : Oper} {p : AOp} {xs : List Operand} {ys : List Arg} (hc : compOp P o.op = some (p, xs)) (hy : argsOf P xs = some ys)
    {l : List Value} {s : St} {a : Act} {w : World} (hs : Sim P B0 W0 μ0 n0 l s a w) {K : List Value → St → Prop} {Q : Exit → Act → World → Prop} {next : Act → World → Prop}
    (hn : ∀ l s a w, K l s → Sim P B0 W0 μ0 n0 l s a w → next a w)
    (h : (opStep T F p (ys.map (Arg.ev l)) s).all fun r => K (putL l o.dst r.1) r.2) : o.wp P a w next Q := by
  obtain ⟨⟨μ, ha, hr, hg, hl⟩, hd⟩ := hs
  have hv := argsOf_rel hg hl hy
  -- behind a step that is known: on
  have go : ∀ {v : Value} {s' : St} {v' : Value} {w' : World}, K (putL l o.dst v) s' → After B0 W0 μ s v s' v' w' → next (a.put o.dst v') w' := fun {v s' v' w'} hk haf => by
    obtain ⟨μ', m1, m2, m3⟩ := haf
    exact hn _ _ _ _ hk ⟨⟨μ', ha.trans m1, m2, hg.mono m1, put_rel (hl.mono m1) m3 _⟩, by rw [put_defers]; exact hd⟩
  have did : ∀ {v : Value} {s' : St} {v' : Value} {w' : World}, K (putL l o.dst v) s' → Did P a.eval o w v' w' → After B0 W0 μ s v s' v' w' → o.wp P a w next Q := fun {v s' v' w'} hk hdid haf => by
    unfold Oper.wp
    rcases hdid with hdid | ⟨hdid, rfl⟩
    · rw [hdid]; exact go hk haf
    · rw [hdid]; exact go hk haf
  have call : ∀ {f : FuncId} {vs : List Value} {args : Array Value}, (execOp a.eval o).run P w = (callFunc f args).run P w → VRs μ s.next vs args.toList → (F f vs s).all (fun r => K (putL l o.dst r.1) r.2) → o.wp P a w next Q := fun {f vs args} he hvs hf => by
    obtain ⟨⟨fn, h1, h2, h3⟩, h4⟩ := hF f vs s _ hf
    have hcf : (callFunc f args).run P w = .ok (.enter f args) w := by
      have : fn.body.isNone = false := by cases hb : fn.body <;> simp [hb] at h2 ⊢
      simp only [callFunc, Sem.run_bind, run_program, Result.andThen_ok, h1, h3, this, Bool.false_eq_true, if_false, Sem.run_pure]
    unfold Oper.wp
    rw [he, hcf]
    have := h4 B0 W0 μ w args.toList hr hg hvs
    simp only [Array.toArray_toList] at this
    refine this.mono fun e w' hq => ?_
    obtain ⟨v, s', v', hk, rfl, haf⟩ := hq
    exact go hk haf
  cases p with
  | p p =>
    simp only [opStep] at h
    cases hp : pop p (ys.map (Arg.ev l)) with
    | none => rw [hp] at h; exact h.elim
    | some v =>
      rw [hp] at h
      obtain ⟨v', k1, k2⟩ := pop_sound (μ := μ) (n := s.next) hc a.eval _ v w hv hp
      exact did h (.inl k1) ⟨μ, Agree.refl _ _, hr, k2⟩
  | r r =>
    simp only [opStep] at h
    cases hp : rop r (ys.map (Arg.ev l)) s with
    | none => rw [hp] at h; exact h.elim
    | some v =>
      rw [hp] at h
      obtain ⟨v', k1, k2⟩ := rop_sound (B0 := B0) (W0 := W0) (μ := μ) (s := s) (w := w) hc a.eval _ v hr hv hp
      exact did h (.inl k1) ⟨μ, Agree.refl _ _, hr, k2⟩
  | w q =>
    simp only [opStep] at h
    cases hp : wop q (ys.map (Arg.ev l)) s with
    | none => rw [hp] at h; exact h.elim
    | some r =>
      rw [hp] at h
      obtain ⟨v', w', k1, k2⟩ := wop_sound (B0 := B0) (W0 := W0) (μ := μ) (s := s) (w := w) hc a.eval _ r.1 r.2 hr hv hp
      exact did h k1 k2
  | next str =>
    simp only [opStep] at h
    have hx : ∃ x, xs = [x] ∧ o.op = .next x str := by
      rcases compOp_shape hc with h0 | ⟨it, str', h1, h2, h3⟩ | ⟨c, h1, h2⟩
      · cases h0
      · cases h2; exact ⟨it, h3, h1⟩
      · rcases compCall_shape h2 with h0 | ⟨f, _, h0, _⟩ | ⟨x, _, h0, _⟩ | ⟨r, nm, _, h0, _⟩ <;> cases h0
    obtain ⟨x, hx1, hx2⟩ := hx
    obtain ⟨v, s', v', w', k1, k2, k3⟩ := next_sound (P := P) (B0 := B0) (W0 := W0) (μ := μ) (s := s) (w := w) hx1 hx2 a.eval _ _ hr hv h
    exact did k1 k2 k3
  | call f =>
    simp only [opStep] at h
    rcases compOp_shape hc with h0 | ⟨it, str', h1, h2, h3⟩ | ⟨c, h1, h2⟩
    · cases h0
    · cases h2
    · rcases compCall_shape h2 with h0 | ⟨f', hf, h0, rfl⟩ | ⟨x, _, h0, _⟩ | ⟨r, nm, _, h0, _⟩ <;> cases h0
      refine call (args := c.args.map a.eval) ?_ (by simpa using hv) h
      simp [execOp, h1, resolve, hf, Act.eval, Deferred.ofValue, invoke]
  | callV =>
    simp only [opStep] at h
    rcases compOp_shape hc with h0 | ⟨it, str', h1, h2, h3⟩ | ⟨c, h1, h2⟩
    · cases h0
    · cases h2
    · rcases compCall_shape h2 with h0 | ⟨f', hf, h0, _⟩ | ⟨x, hx, h0, rfl⟩ | ⟨r, nm, _, h0, _⟩ <;> cases h0
      obtain ⟨u, us, hu, hur, husr⟩ := hv.invc
      rw [hu] at h
      generalize hxe : a.eval x = x' at hur
      cases hur <;> (try (exact h.elim))
      rename_i fn f1 c1 f2 c2 k1 k2
      cases fn <;> (try (exact h.elim))
      rename_i f
      refine call (args := f2 ++ (c.args.map a.eval) ++ c2) ?_ ?_ h
      · simp [execOp, h1, resolve, hx, hxe, Deferred.ofValue, invoke]
      · simp only [Array.toList_append, Array.toList_map]
        exact (k1.append husr).append k2
  | invoke name =>
    simp only [opStep] at h
    rcases compOp_shape hc with h0 | ⟨it, str', h1, h2, h3⟩ | ⟨c, h1, h2⟩
    · cases h0
    · cases h2
    · rcases compCall_shape h2 with h0 | ⟨f', hf, h0, _⟩ | ⟨x, hx, h0, _⟩ | ⟨r, nm, hx, h0, rfl⟩ <;> cases h0
      obtain ⟨u, us, hu, hur, husr⟩ := hv.invc
      rw [hu] at h
      generalize hxe : a.eval r = x' at hur
      cases hur <;> (try (exact h.elim))
      rename_i t v v' k1
      simp only at h
      cases hm : T.meth t name with
      | none => rw [hm] at h; exact h.elim
      | some f =>
        rw [hm] at h
        refine call (args := #[v'] ++ (c.args.map a.eval)) ?_ ?_ h
        · have := hT t name f hm v' w
          have e0 : (#[Value.iface t v'] ++ c.args.map a.eval)[0]? = some (.iface t v') := by rw [Array.getElem?_append_left (by simp)]; rfl
          have e1 : (c.args.map a.eval).extract 0 c.args.size = c.args.map a.eval := by rw [show c.args.size = (c.args.map a.eval).size by simp, Array.extract_size]
          simp [execOp, h1, resolve, hx, hxe, invoke, callMethod, e0, this, e1]
        · simp only [Array.toList_append, Array.toList_map]
          exact .cons _ _ _ _ k1 husr

/-! ### a region in the order of its text -/
section
variable {T : Tab} {F : CallF} {μ0 : Nat → Spot} {n0 : Nat}

theorem yielded_rel {ops : Array Oper} {l : List Value} {tmps : Array Value} (hl : VRs μ n l tmps.toList) {j d : Nat} (hj : (ops[j]?).bind (·.dst) = some d) : yielded ops tmps j = yieldedL l d := by
  have h := hl.lget d
  unfold yielded yieldedL
  rw [hj]
  simp only [Option.bind_some]
  have hget : tmps.toList.getD d undef = (tmps[d]?).getD undef := by simp [List.getD]
  rw [hget] at h
  cases ht : tmps[d]? with
  | none =>
    rw [ht] at h
    simp only [Option.getD_none] at h
    generalize Am.lget l d = x at h
    cases h <;> rfl
  | some y =>
    rw [ht] at h
    simp only [Option.getD_some] at h
    generalize Am.lget l d = x at h
    cases h <;> rfl

theorem wanted_rel {ops : Array Oper} {l : List Value} {tmps : Array Value} (hl : VRs μ n l tmps.toList) {o : Oper} {ao : AOper} (hg : compGuard ops o.guard = some ao.guard) : Region.wanted o (yielded ops tmps) = wantedL ao l := by
  unfold compGuard at hg
  unfold Region.wanted wantedL
  cases hgd : o.guard with
  | none => rw [hgd] at hg; simp at hg; rw [← hg]
  | some jw =>
    obtain ⟨j, want⟩ := jw
    rw [hgd] at hg
    simp only at hg
    cases hd : (ops[j]?).bind (·.dst) with
    | none => rw [hd] at hg; cases hg
    | some d =>
      rw [hd] at hg
      simp at hg
      rw [← hg]
      simp only
      rw [yielded_rel hl hd]

theorem compOper_spec {ops : Array Oper} {o : Oper} {ao : AOper} (h : compOper P ops o = some ao) : ∃ xs, compOp P o.op = some (ao.op, xs) ∧ argsOf P xs = some ao.args ∧ compGuard ops o.guard = some ao.guard ∧ ao.dst = o.dst := by
  simp only [compOper, Option.bind_eq_some_iff, Option.map_eq_some_iff] at h
  obtain ⟨⟨p, xs⟩, h1, as, h2, g, h3, rfl⟩ := h
  exact ⟨xs, h1, h2, h3, rfl⟩

theorem Sim.put {l : List Value} {s : St} {a : Act} {w : World} (hs : Sim P B0 W0 μ0 n0 l s a w) (d : Option Nat) : Sim P B0 W0 μ0 n0 (putL l d undef) s (a.put d undef) w := by
  obtain ⟨⟨μ, h1, h2, h3, h4⟩, h5⟩ := hs
  exact ⟨⟨μ, h1, h2, h3, put_rel h4 (.tuple _ _ .nil) d⟩, by rw [put_defers]; exact h5⟩

theorem list_sound (hF : FSound P F) (hT : TabOk P T) {ops : Array Oper} {Q : Exit → Act → World → Prop} {K : List Value × St → Prop} (hQ : ∀ l s a w, K (l, s) → Sim P B0 W0 μ0 n0 l s a w → Q .normal a w) :
    ∀ (os : List Oper) (aops : List AOper) (l : List Value) (s : St) (a : Act) (w : World), compOpers P ops os = some aops → Sim P B0 W0 μ0 n0 l s a w → (runOps T F aops l s).all K → wpList P ops Q os a w
  | [], aops, l, s, a, w, hc, hs, h => by
    simp [compOpers] at hc
    subst hc
    exact wpList_nil (hQ l s a w h hs)
  | o :: os, aops, l, s, a, w, hc, hs, h => by
    simp only [compOpers, Option.bind_eq_some_iff, Option.map_eq_some_iff] at hc
    obtain ⟨ao, h1, aos, h2, rfl⟩ := hc
    obtain ⟨xs, k1, k2, k3, k4⟩ := compOper_spec h1
    have hw : Region.wanted o (yielded ops a.tmps) = wantedL ao l := by
      obtain ⟨μ, _, _, _, h4⟩ := hs.ex
      exact wanted_rel h4 k3
    refine wpList_step fun K' hK' => ?_
    rw [hw]
    simp only [runOps] at h
    split
    · rename_i hwt
      rw [if_pos hwt] at h
      rw [k4] at h
      refine step_sound hF hT k1 k2 hs (K := fun l s => (runOps T F aos l s).all K) (fun l s a w hk hs' => hK' a w (list_sound hF hT hQ os aos l s a w h2 hs' hk)) ?_
      revert h
      generalize opStep T F ao.op (ao.args.map (Arg.ev l)) s = out
      intro h
      clear hw hwt
      induction out with
      | ret r => exact h
      | fail => exact h.elim
      | ask n k ih => exact ⟨h.1, fun i hi => ih i (h.2 i hi)⟩
    · rename_i hwt
      rw [if_neg hwt] at h
      rw [k4] at h
      exact hK' _ _ (list_sound hF hT hQ os aos _ s _ w h2 (hs.put o.dst) h)
end

end
end Go.Am
