/-
  Code and calls: what the second machine's run comes to, the first one's does.
-/
import Derived.Test.YtdmemibnphcedaaGreatDoorAmDraw
import Derived.LoopN
import Derived.Defers
set_option linter.unusedSimpArgs false
set_option linter.unusedVariables false
set_option maxRecDepth 10000
namespace Go.Am
open Go.RowKit (Below)

def Res.out : Res → Exit
  | .norm _ _ => .normal
  | .exit id _ _ => .exit id
  | .ret _ _ => .ret

def Res.slots : Res → List Value
  | .norm l _ | .exit _ l _ | .ret l _ => l

def Res.st : Res → St
  | .norm _ s | .exit _ _ s | .ret _ s => s

section
variable {P : Program} {T : Tab} {F : CallF} {B0 : Nat} {W0 : World} {μ0 : Nat → Spot} {n0 nb : Nat} {fl : Bool}

/-- whatever end a run comes to that K holds of: Q holds of it -/
def Ends (P : Program) (B0 : Nat) (W0 : World) (μ0 : Nat → Spot) (n0 nb : Nat) (fl : Bool) (K : Res → Prop) (Q : Exit → Act → World → Prop) : Prop :=
  ∀ (r : Res) (a : Act) (w : World), K r → Sim P B0 W0 μ0 n0 nb fl r.slots r.st a w → Q r.out a w

theorem code_sound (hm : P.follows .mixedOrders = true) (hF : FSound P F) (hT : TabOk P T) (m : Nat) : ∀ (c : Code) (l : List Value) (s : St) (a : Act) (w : World) (K : Res → Prop) (Q : Exit → Act → World → Prop),
    Ends P B0 W0 μ0 n0 nb fl K Q → Sim P B0 W0 μ0 n0 nb fl l s a w → (code T F m (comp P nb fl c) l s).all K → c.wp P Q a w
  | .skip, l, s, a, w, K, Q, hQ, hs, h => wp_skip (hQ (.norm l s) a w h hs)
  | .exit id, l, s, a, w, K, Q, hQ, hs, h => wp_exit (hQ (.exit id l s) a w h hs)
  | .ret, l, s, a, w, K, Q, hQ, hs, h => wp_ret (hQ (.ret l s) a w h hs)
  | .region id ops draw, l, s, a, w, K, Q, hQ, hs, h => by
    simp only [comp] at h
    cases hc : compRegion P nb fl ops draw with
    | region aops =>
      rw [hc] at h
      simp only [code] at h
      rw [Out.all_bind] at h
      exact region_sound hm hF hT hc (K := fun r => K (.norm r.1 r.2)) (fun l s a w hk hs' => hQ (.norm l s) a w hk hs') hs h
    | _ =>
      exfalso
      unfold compRegion at hc
      split at hc
      · split at hc
        · split at hc
          · cases hc
          · cases hc <;> (rw [compRegion] at h; simp_all [code, Out.all])
        · cases hc
      · cases hc <;> (rw [compRegion] at h; simp_all [code, Out.all])
  | .seq x y, l, s, a, w, K, Q, hQ, hs, h => by
    simp only [comp, code] at h
    rw [Out.all_bind] at h
    refine wp_seq (code_sound hm hF hT m x l s a w _ _ ?_ hs h)
    intro r a w hk hs'
    cases r with
    | norm l s => exact code_sound hm hF hT m y l s a w K Q hQ hs' hk
    | exit id l s => exact hQ (.exit id l s) a w hk hs'
    | ret l s => exact hQ (.ret l s) a w hk hs'
  | .cond c x y, l, s, a, w, K, Q, hQ, hs, h => by
    simp only [comp] at h
    cases hc : argOf P nb c with
    | none => rw [hc] at h; exact h.elim
    | some c' =>
      rw [hc] at h
      simp only [code] at h
      have hv : ∃ μ n, VR μ n (c'.ev l) (a.eval c) := by
        obtain ⟨μ, _, _, hg, hl⟩ := hs.ex
        exact ⟨μ, s.next, argOf_rel hg hl hc⟩
      obtain ⟨μ, n, hv⟩ := hv
      generalize hu : c'.ev l = u at hv h
      generalize hu' : a.eval c = u' at hv
      cases hv <;> (try (exact h.elim))
      rename_i b
      refine wp_cond hu' ?_
      cases b with
      | true => exact code_sound hm hF hT m x l s a w K Q hQ hs h
      | false => exact code_sound hm hF hT m y l s a w K Q hQ hs h
  | .block id b, l, s, a, w, K, Q, hQ, hs, h => by
    simp only [comp, code] at h
    rw [Out.all_bind] at h
    refine wp_block (code_sound hm hF hT m b l s a w _ _ ?_ hs h)
    intro r a w hk hs'
    cases r with
    | norm l s => exact hQ (.norm l s) a w hk hs'
    | exit id' l s =>
      simp only at hk
      simp only [Res.out, Exit.inBlock]
      split at hk
      · rename_i he; rw [if_pos he]; exact hQ (.norm l s) a w hk hs'
      · rename_i he; rw [if_neg he]; exact hQ (.exit id' l s) a w hk hs'
    | ret l s => exact hQ (.ret l s) a w hk hs'
  | .loop b, l, s, a, w, K, Q, hQ, hs, h => by
    simp only [comp, code] at h
    have key : ∀ (k : Nat) (l : List Value) (s : St) (a : Act) (w : World), Sim P B0 W0 μ0 n0 nb fl l s a w → (iter (code T F m (comp P nb fl b)) k l s).all K → Code.rounds P b Q k a w := by
      intro k
      induction k with
      | zero => intro l s a w _ h; exact h.elim
      | succ k ih =>
        intro l s a w hs h
        simp only [iter] at h
        rw [Out.all_bind] at h
        rw [rounds_succ]
        refine code_sound hm hF hT m b l s a w _ _ ?_ hs h
        intro r a w hk hs'
        cases r with
        | norm l s => exact ih l s a w hs' hk
        | exit id l s => exact hQ (.exit id l s) a w hk hs'
        | ret l s => exact hQ (.ret l s) a w hk hs'
    exact wp_loop_rounds m (key m l s a w hs h)
  | .scope _, _, _, _, _, _, _, _, _, h => h.elim
  | .label _, _, _, _, _, _, _, _, _, h => h.elim
  | .goto _, _, _, _, _, _, _, _, _, h => h.elim

/-- what was deferred is done -/
def runDefs (F : CallF) : List Value → St → Out St
  | .func (.func f) first cap :: es, s => (F f (first.toList ++ cap.toList) s).bind fun r => runDefs F es r.2
  | .nilIface :: _, s => .ret s
  | _, _ => .fail

/-- a deferred call: of a function of the table that does not defer -/
def deferF (fns : FuncId → Option AFn) (n : Nat) (C : CallF) : CallF := fun f vs s =>
  match n, fns f with
  | _ + 1, some fn => bif fn.defs then .fail else C f vs s
  | _, _ => .fail

def resO (rs : List (Nat × Nat)) (l : List Value) (s : St) : Out (Value × St) :=
  match resultV l s rs with
  | some v => .ret (v, s)
  | none => .fail

/-- a function's end where it defers -/
def endD (C : CallF) (nt : Nat) (rs : List (Nat × Nat)) (l : List Value) (s : St) : Out (Value × St) :=
  match lget l nt with
  | .tuple es => (runDefs C es.toList s).bind fun s => resO rs l s
  | _ => .fail

/-- a function's call: n: how deep, m: how many rounds of a loop; what no text is at hand for (or lies deeper): O -/
def callO (T : Tab) (O : CallF) (fns : FuncId → Option AFn) (m : Nat) : Nat → CallF
  | 0, f, args, s => O f args s
  | n + 1, f, args, s => match fns f with
    | none => O f args s
    | some fn => match fn.defs with
      | false => (code T (callO T O fns m n) m fn.body (padded args fn.ntmps) s).bind fun
        | .norm l s | .ret l s => resO fn.results l s
        | .exit _ _ _ => .fail
      | true => bif Nat.ble args.length fn.ntmps then (code T (callO T O fns m n) m fn.body (padded args fn.ntmps ++ [.tuple #[.nilIface]]) s).bind fun
        | .norm l s | .ret l s => endD (deferF fns n (callO T O fns m n)) fn.ntmps fn.results l s
        | .exit _ _ _ => .fail
        else .fail

/-- what the first machine does for one result -/
def resAct (tmps : Array Value) : ResultVar → Sem Value
  | .tmp t => pure (tmps.getD t undef)
  | .cell a t => do loadVar t (← asAddr (tmps.getD a undef))

theorem result1_sound {μ : Nat → Spot} {s : St} {w : World} (hr : Rel B0 W0 μ s w) {l : List Value} {tmps : Array Value} (hl : ∀ t, t < nb → VR μ s.next (lget l t) (tmps.toList.getD t undef)) {r : ResultVar} {p : Nat × Nat} (hc : compResult P nb r = some p) {v : Value} (hv : results1 l s p = some v) :
    ∃ v', (resAct tmps r).run P w = .ok v' w ∧ VR μ s.next v v' := by
  have hget : ∀ t, tmps.toList.getD t undef = tmps.getD t undef := fun t => by simp [List.getD]
  cases r with
  | tmp t =>
    simp [compResult] at hc
    obtain ⟨ht, rfl⟩ := hc
    simp [results1] at hv
    subst hv
    refine ⟨_, rfl, ?_⟩
    have := hl t ht
    rwa [hget] at this
  | cell a t =>
    simp only [compResult] at hc
    split at hc
    rotate_left
    · cases hc
    rename_i hab
    have ha := hl a hab
    rw [hget] at ha
    split at hc
    · rename_i h1 h2
      cases hc
      simp only [results1] at hv
      generalize Am.lget l a = x at ha hv
      generalize hx' : tmps.getD a undef = x' at ha
      cases ha <;> simp [rop] at hv
      rename_i i off hi
      split at hv
      · rename_i cs g ro hg
        obtain ⟨v', k1, k2⟩ := (hr.known i _ hg).2.2.cellAt hv
        exact ⟨v', by unfold resAct; simp only [hx']; simp [asAddr, loadVar, r_agg w h1, run_load, k1], k2⟩
      · cases hv
    · rename_i n h1 h2
      cases hc
      simp only [results1] at hv
      generalize Am.lget l a = x at ha hv
      generalize hx' : tmps.getD a undef = x' at ha
      cases ha <;> simp [rop] at hv
      rename_i i off hi
      obtain ⟨cs, hcs, rfl⟩ := hv
      obtain ⟨l', k1, k2⟩ := load_cells (P := P) hr hcs
      exact ⟨.agg l'.toArray, by unfold resAct; simp only [hx']; simp [asAddr, loadVar, r_agg w h1, r_size w h2, k1], .agg _ _ (by simpa using k2)⟩
    · cases hc

theorem results_sound {μ : Nat → Spot} {s : St} {w : World} (hr : Rel B0 W0 μ s w) {l : List Value} {tmps : Array Value} (hl : ∀ t, t < nb → VR μ s.next (lget l t) (tmps.toList.getD t undef)) : ∀ {rs : List ResultVar} {ps : List (Nat × Nat)} (_ : compResults P nb rs = some ps) {vs : List Value} (_ : resultsL l s ps = some vs),
    ∃ vs', (List.mapM (m := Sem) (resAct tmps) rs).run P w = .ok vs' w ∧ VRs μ s.next vs vs'
  | [], ps, hc, vs, hv => by
    simp [compResults] at hc
    subst hc
    simp [resultsL] at hv
    subst hv
    exact ⟨[], by simp, .nil⟩
  | r :: rs, ps, hc, vs, hv => by
    simp only [compResults, Option.bind_eq_some_iff, Option.map_eq_some_iff] at hc
    obtain ⟨p, hp, ps', hps, rfl⟩ := hc
    simp only [resultsL, Option.bind_eq_some_iff, Option.map_eq_some_iff] at hv
    obtain ⟨v, hv1, vs1, hv2, rfl⟩ := hv
    obtain ⟨v', k1, k2⟩ := result1_sound hr hl hp hv1
    obtain ⟨vs', k3, k4⟩ := results_sound hr hl hps hv2
    exact ⟨v' :: vs', by rw [List.mapM_cons]; simp only [Sem.run_bind, k1, k3, Result.andThen_ok, Sem.run_pure], .cons _ _ _ _ k2 k4⟩

theorem resultV_sound {fn : Func} {μ : Nat → Spot} {s : St} {w : World} (hr : Rel B0 W0 μ s w) {l : List Value} {tmps : Array Value} (hl : ∀ t, t < nb → VR μ s.next (lget l t) (tmps.toList.getD t undef)) {ps : List (Nat × Nat)} (hc : compResults P nb fn.results.toList = some ps) {v : Value} (hv : resultV l s ps = some v) :
    ∃ v', (results fn tmps).run P w = .ok v' w ∧ VR μ s.next v v' := by
  have hsome : ∃ vs, resultsL l s ps = some vs := by
    unfold resultV at hv
    cases h : resultsL l s ps with
    | none => rw [h] at hv; cases hv
    | some vs => exact ⟨vs, rfl⟩
  obtain ⟨vs, hvs⟩ := hsome
  obtain ⟨vs', k1, k2⟩ := results_sound hr hl hc hvs
  unfold resultV at hv
  rw [hvs] at hv
  have hrun : (results fn tmps).run P w = .ok (if h : vs'.length = 1 then vs'[0] else .tuple vs'.toArray) w := by
    have e : results fn tmps = ((do
        let vs ← fn.results.mapM (resAct tmps)
        pure (if h : vs.size = 1 then vs[0] else .tuple vs)) : Sem Value) := rfl
    rw [e, Array.mapM_eq_mapM_toList]
    simp [k1]
  refine ⟨_, hrun, ?_⟩
  match vs, vs', k2, hv with
  | [], [], _, hv => simp at hv; subst hv; exact .tuple _ _ .nil
  | [_], [_], .cons _ _ _ _ h _, hv => simp at hv; subst hv; exact h
  | _ :: _ :: _, [_], k2, _ => exact absurd k2.length (by simp)
  | _ :: _ :: _, _ :: _ :: _, k2, hv => simp at hv; subst hv; simpa using VR.tuple _ _ (by simpa using k2)

theorem padded_rel {μ : Nat → Spot} {n : Nat} {vs : List Value} {args : List Value} (h : VRs μ n vs args) (k : Nat) : VRs μ n (padded vs k) (args.toArray ++ Array.replicate (k - args.toArray.size) undef).toList := by
  unfold padded
  simp only [Array.toList_append, Array.toList_replicate, List.size_toArray]
  rw [← h.length]
  exact h.append (.replicate_undef _)

/-- what a deferred call is good for -/
def DefOk (P : Program) (f : FuncId) (vs : List Value) (s : St) (Q : Value × St → Prop) : Prop :=
  ∀ (B0 : Nat) (W0 : World) (μ : Nat → Spot) (w : World) (args : List Value), Rel B0 W0 μ s w → Glob P μ s.next → VRs μ s.next vs args →
    CallsD P f args.toArray .returning w fun e u' w' => u' = .returning ∧ ∃ v s' v', Q (v, s') ∧ e = .returned v' ∧ After B0 W0 μ s v s' v' w'

def DSound (P : Program) (C : CallF) : Prop := ∀ f vs s Q, (C f vs s).all Q → (∃ fn, P.funcs[f]? = some fn ∧ fn.body.isSome = true ∧ (fn.name == "runtime.NumGoroutine") = false) ∧ DefOk P f vs s Q

/-- a function's body, where it does not defer -/
theorem body_sound (hm : P.follows .mixedOrders = true) (hT : TabOk P T) {F : CallF} (hF : FSound P F) (m : Nat) {f : FuncId} {fn : AFn} (hc : compFn P f = some fn) (hd : fn.defs = false) {vs : List Value} {s : St} {Q : Value × St → Prop}
    (h : ((code T F m fn.body (padded vs fn.ntmps) s).bind fun
        | .norm l s | .ret l s => resO fn.results l s
        | .exit _ _ _ => .fail).all Q) :
    ∃ fn0 b, P.funcs[f]? = some fn0 ∧ fn0.body = some b ∧ (fn0.name == "runtime.NumGoroutine") = false ∧ ∀ (B0 : Nat) (W0 : World) (μ : Nat → Spot) (w : World) (args : List Value), Rel B0 W0 μ s w → Glob P μ s.next → VRs μ s.next vs args →
      b.wp P (bodyPost P fn0 fun e w' => ∃ v s' v', Q (v, s') ∧ e = .returned v' ∧ After B0 W0 μ s v s' v' w') { tmps := args.toArray ++ Array.replicate (fn0.ntmps - args.toArray.size) undef, defers := [] } w := by
  unfold compFn at hc
  split at hc
  · rename_i fn0 hfn
    split at hc
    · rename_i b hb
      split at hc
      · cases hc
      · rename_i hnm
        simp only [Option.map_eq_some_iff] at hc
        obtain ⟨ps, hps, rfl⟩ := hc
        refine ⟨fn0, b, hfn, hb, by simpa using hnm, ?_⟩
        intro B0 W0 μ w args hr hg hv
        rw [Out.all_bind] at h
        simp only at hd h
        rw [hd] at h
        have hst : LR μ s.next fn0.ntmps false (padded vs fn0.ntmps) { tmps := args.toArray ++ Array.replicate (fn0.ntmps - args.toArray.size) undef, defers := [] } :=
          ⟨⟨by simp; omega, fun h => by cases h⟩, _, [], (List.append_nil _).symm, padded_rel hv _, .inl ⟨rfl, rfl, rfl⟩⟩
        refine code_sound (B0 := B0) (W0 := W0) (μ0 := μ) (n0 := s.next) (nb := fn0.ntmps) (fl := false) hm hF hT m b _ s _ w _ _ ?_ ⟨⟨μ, Agree.refl _ _, hr, hg, hst⟩⟩ h
        intro r a w' hk hs
        have fin : ∀ l s', (resO ps l s').all Q → Sim P B0 W0 μ s.next fn0.ntmps false l s' a w' → a.defers = [] ∧ ∃ v, (results fn0 a.tmps).run P w' = .ok v w' ∧ (∃ v1 s1 v', Q (v1, s1) ∧ Ending.returned v = .returned v' ∧ After B0 W0 μ s v1 s1 v' w') := fun l s' hk hs => by
          obtain ⟨⟨μ', k1, k2, k3, k4⟩⟩ := hs
          have k5 : a.defers = [] := by
            obtain ⟨_, _, k, _, _, h3⟩ := k4
            rcases h3 with ⟨_, h, _⟩ | ⟨_, h, _⟩
            · exact h
            · cases h
          unfold resO at hk
          cases hv : resultV l s' ps with
          | none => rw [hv] at hk; exact hk.elim
          | some v =>
            rw [hv] at hk
            obtain ⟨v', j1, j2⟩ := resultV_sound (nb := fn0.ntmps) k2 (fun t ht => k4.get ht) hps hv
            exact ⟨k5, v', j1, v, s', v', hk, rfl, μ', k1, k2, j2⟩
        cases r with
        | norm l s => exact fin l s hk hs
        | ret l s => exact fin l s hk hs
        | exit id l s => exact hk.elim
    · cases hc
  · cases hc

/-- what is deferred is done, and the function's results are there -/
theorem leaves_sound {C : CallF} (hC : DSound P C) {fn0 : Func} {ps : List (Nat × Nat)} (hps : compResults P nb fn0.results.toList = some ps) {tmps : Array Value} {l : List Value} {Q : Value × St → Prop} {s0 : St} :
    ∀ (ds : List Deferred) (es : List Value) (s : St) (μ : Nat → Spot) (w : World), Agree μ0 s0.next μ s.next → Rel B0 W0 μ s w → Glob P μ s.next → (∀ t, t < nb → VR μ s.next (lget l t) (tmps.toList.getD t undef)) → VRs μ s.next es (ds.map dV) → (∀ d ∈ ds, ∃ f cap, d.target = .fn (.func f) cap) →
      ((runDefs C (es ++ [.nilIface]) s).bind fun s => resO ps l s).all Q → Leaves P fn0 tmps (fun e w' => ∃ v s' v', Q (v, s') ∧ e = .returned v' ∧ After B0 W0 μ0 s0 v s' v' w') ds .returning w
  | [], es, s, μ, w, ha, hr, hg, hl, hes, hd, h => by
    cases hes
    simp only [List.nil_append, runDefs, Out.bind] at h
    unfold resO at h
    cases hv : resultV l s ps with
    | none => rw [hv] at h; exact h.elim
    | some v =>
      rw [hv] at h
      obtain ⟨v', j1, j2⟩ := resultV_sound (nb := nb) hr hl hps hv
      exact ⟨v', j1, v, s, v', h, rfl, μ, ha, hr, j2⟩
  | d :: ds, es, s, μ, w, ha, hr, hg, hl, hes, hd, h => by
    obtain ⟨f, cap, hf⟩ := hd d (List.mem_cons_self ..)
    obtain ⟨u, us, rfl, hu, hus⟩ := hes.invc
    have hdv : dV d = .func (.func f) d.args cap := by unfold dV; rw [hf]
    rw [hdv] at hu
    cases hu with
    | func fn f1 c1 f2 c2 q1 q2 =>
      simp only [List.cons_append, runDefs] at h
      rw [Out.all_bind, Out.all_bind] at h
      obtain ⟨⟨fnx, h1, h2, h3⟩, h4⟩ := hC f _ s _ h
      have hcf : (invoke (.fn (.func f) cap) d.args).run P w = .ok (.enter f (d.args ++ cap)) w := by
        have : fnx.body.isNone = false := by cases hb : fnx.body <;> simp [hb] at h2 ⊢
        simp only [invoke, callFunc, Sem.run_bind, run_program, Result.andThen_ok, h1, h3, this, Bool.false_eq_true, if_false, Sem.run_pure]
      have hdd : d = { target := .fn (.func f) cap, args := d.args } := by cases d; simp at hf; simp [hf]
      rw [hdd]
      refine leaves_cons (by simp) hcf ?_
      have := h4 B0 W0 μ w (d.args.toList ++ cap.toList) hr hg (q1.append q2)
      have he : (d.args.toList ++ cap.toList).toArray = d.args ++ cap := by simp
      rw [he] at this
      refine this.mono fun e u' w' hq => ?_
      obtain ⟨rfl, v, s', v', hk, rfl, μ', m1, m2, m3⟩ := hq
      have hk' : ((runDefs C (us ++ [.nilIface]) s').bind fun s => resO ps l s).all Q := by rw [Out.all_bind]; exact hk
      exact leaves_sound hC hps ds us s' μ' w' (ha.trans m1) m2 (hg.mono m1) (fun t ht => (hl t ht).mono m1) (hus.mono m1) (fun d hd' => hd d (List.mem_cons_of_mem _ hd')) hk'

theorem callO_sound2 (hm : P.follows .mixedOrders = true) (hT : TabOk P T) {O : CallF} (hO : FSound P O) {fns : FuncId → Option AFn} (hfns : ∀ f fn, fns f = some fn → compFn P f = some fn) (m : Nat) : ∀ n, FSound P (callO T O fns m n) ∧ DSound P (deferF fns n (callO T O fns m n))
  | 0 => ⟨hO, fun f vs s Q h => by simp only [deferF] at h; exact h.elim⟩
  | n + 1 => by
    obtain ⟨ih1, ih2⟩ := callO_sound2 hm hT hO hfns m n
    refine ⟨fun f vs s Q h => ?_, fun f vs s Q h => ?_⟩
    · simp only [callO] at h
      cases hf : fns f with
      | none => rw [hf] at h; exact hO f vs s Q h
      | some fn =>
        rw [hf] at h
        simp only at h
        have hc := hfns f fn hf
        cases hd : fn.defs with
        | false =>
          rw [hd] at h
          obtain ⟨fn0, b, h1, h2, h3, h4⟩ := body_sound hm hT ih1 m hc hd h
          refine ⟨⟨fn0, h1, by rw [h2]; rfl, h3⟩, fun B0 W0 μ w args hr hg hv => ?_⟩
          exact calls_of_wp h1 h2 (h4 B0 W0 μ w args hr hg hv)
        | true =>
          rw [hd] at h
          simp only at h
          unfold compFn at hc
          split at hc
          · rename_i fn0 hfn
            split at hc
            · rename_i b hb
              split at hc
              · cases hc
              · rename_i hnm
                simp only [Option.map_eq_some_iff] at hc
                obtain ⟨ps, hps, rfl⟩ := hc
                refine ⟨⟨fn0, hfn, by rw [hb]; rfl, by simpa using hnm⟩, ?_⟩
                intro B0 W0 μ w args hr hg hv
                simp only at hd h
                rw [hd] at h
                cases hle : Nat.ble vs.length fn0.ntmps with
                | false => rw [hle] at h; exact h.elim
                | true =>
                  rw [hle] at h
                  simp only [cond_true] at h
                  rw [Out.all_bind] at h
                  have hle' : vs.length ≤ fn0.ntmps := Nat.le_of_ble_eq_true hle
                  have hlen := hv.length
                  refine calls_of_wp_defers hfn hb ?_
                  have hst : LR μ s.next fn0.ntmps true (padded vs fn0.ntmps ++ [.tuple #[.nilIface]]) { tmps := args.toArray ++ Array.replicate (fn0.ntmps - args.toArray.size) undef, defers := [] } :=
                    ⟨⟨by simp; omega, fun _ => by simp; omega⟩, _, _, rfl, padded_rel hv _, .inr ⟨[], rfl, rfl, .nil, fun d hd => by cases hd⟩⟩
                  refine code_sound (B0 := B0) (W0 := W0) (μ0 := μ) (n0 := s.next) (nb := fn0.ntmps) (fl := true) hm ih1 hT m b _ s _ w _ _ ?_ ⟨⟨μ, Agree.refl _ _, hr, hg, hst⟩⟩ h
                  intro r a w' hk hs
                  have fin : ∀ l s', (endD (deferF fns n (callO T O fns m n)) fn0.ntmps ps l s').all Q → Sim P B0 W0 μ s.next fn0.ntmps true l s' a w' → Leaves P fn0 a.tmps (fun e w' => ∃ v s' v', Q (v, s') ∧ e = .returned v' ∧ After B0 W0 μ s v s' v' w') a.defers .returning w' := fun l s' hk hs => by
                    obtain ⟨⟨μ', k1, k2, k3, k4⟩⟩ := hs
                    have hk4 := k4
                    obtain ⟨⟨_, hsz⟩, l0, k, rfl, h2, h3⟩ := k4
                    rcases h3 with ⟨_, _, h⟩ | ⟨es, _, rfl, h4, h5⟩
                    · cases h
                    have hl0 := h2.length
                    rw [Array.length_toList, hsz rfl] at hl0
                    have hu : lget (l0 ++ [Value.tuple (es ++ [Value.nilIface]).toArray]) fn0.ntmps = .tuple (es ++ [Value.nilIface]).toArray := by rw [hl0]; exact lget_at
                    unfold endD at hk
                    rw [hu] at hk
                    simp only [List.toList_toArray] at hk
                    exact leaves_sound ih2 hps a.defers es s' μ' w' k1 k2 k3 (fun t ht => hk4.get ht) h4 h5 hk
                  cases r with
                  | norm l s => exact fin l s hk hs
                  | ret l s => exact fin l s hk hs
                  | exit id l s => exact hk.elim
            · cases hc
          · cases hc
    · simp only [deferF] at h
      cases hf : fns f with
      | none => rw [hf] at h; exact h.elim
      | some fn =>
        rw [hf] at h
        simp only at h
        cases hd : fn.defs with
        | true => rw [hd] at h; exact h.elim
        | false =>
          rw [hd] at h
          simp only [cond_false, callO, hf] at h
          rw [hd] at h
          have hc := hfns f fn hf
          obtain ⟨fn0, b, h1, h2, h3, h4⟩ := body_sound hm hT ih1 m hc hd h
          refine ⟨⟨fn0, h1, by rw [h2]; rfl, h3⟩, fun B0 W0 μ w args hr hg hv => ?_⟩
          exact callsD_of_wp h1 h2 (h4 B0 W0 μ w args hr hg hv)

theorem callO_sound (hm : P.follows .mixedOrders = true) (hT : TabOk P T) {O : CallF} (hO : FSound P O) {fns : FuncId → Option AFn} (hfns : ∀ f fn, fns f = some fn → compFn P f = some fn) (m n : Nat) : FSound P (callO T O fns m n) := (callO_sound2 hm hT hO hfns m n).1

end
end Go.Am
