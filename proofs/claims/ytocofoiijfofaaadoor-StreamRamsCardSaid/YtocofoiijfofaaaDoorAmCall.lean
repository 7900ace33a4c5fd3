/-
  Code and calls: what the second machine's run comes to, the first one's does.
-/
import Derived.Test.YtocofoiijfofaaaDoorAmDraw
import Derived.LoopN
set_option linter.unusedSimpArgs false
set_option linter.unusedVariables false
set_option maxRecDepth 10000
namespace Go.Am
open Go.RowKit (Below)

def Res.out : Res → Exit
  | .norm _ _ => .normal
  | .exit id _ _ => .exit id
  | .ret _ _ => .ret

def Res.slots : Res → List Value
  | .norm l _ | .exit _ l _ | .ret l _ => l

def Res.st : Res → St
  | .norm _ s | .exit _ _ s | .ret _ s => s

section
variable {P : Program} {T : Tab} {F : CallF} {B0 : Nat} {W0 : World} {μ0 : Nat → Spot} {n0 : Nat}

/-- whatever end a run comes to that K holds of: Q holds of it -/
def Ends (P : Program) (B0 : Nat) (W0 : World) (μ0 : Nat → Spot) (n0 : Nat) (K : Res → Prop) (Q : Exit → Act → World → Prop) : Prop :=
  ∀ (r : Res) (a : Act) (w : World), K r → Sim P B0 W0 μ0 n0 r.slots r.st a w → Q r.out a w

theorem code_sound (hm : P.follows .mixedOrders = true) (hF : FSound P F) (hT : TabOk P T) (m : Nat) : ∀ (c : Code) (l : List Value) (s : St) (a : Act) (w : World) (K : Res → Prop) (Q : Exit → Act → World → Prop),
    Ends P B0 W0 μ0 n0 K Q → Sim P B0 W0 μ0 n0 l s a w → (code T F m (comp P c) l s).all K → c.wp P Q a w
  | .skip, l, s, a, w, K, Q, hQ, hs, h => wp_skip (hQ (.norm l s) a w h hs)
  | .exit id, l, s, a, w, K, Q, hQ, hs, h => wp_exit (hQ (.exit id l s) a w h hs)
  | .ret, l, s, a, w, K, Q, hQ, hs, h => wp_ret (hQ (.ret l s) a w h hs)
  | .region id ops draw, l, s, a, w, K, Q, hQ, hs, h => by
    simp only [comp] at h
    cases hc : compRegion P ops draw with
    | region aops =>
      rw [hc] at h
      simp only [code] at h
      rw [Out.all_bind] at h
      exact region_sound hm hF hT hc (K := fun r => K (.norm r.1 r.2)) (fun l s a w hk hs' => hQ (.norm l s) a w hk hs') hs h
    | _ =>
      exfalso
      unfold compRegion at hc
      split at hc
      · split at hc
        · cases hc <;> (rw [compRegion] at h; simp_all [code, Out.all])
        · cases hc
      · cases hc <;> (rw [compRegion] at h; simp_all [code, Out.all])
  | .seq x y, l, s, a, w, K, Q, hQ, hs, h => by
    simp only [comp, code] at h
    rw [Out.all_bind] at h
    refine wp_seq (code_sound hm hF hT m x l s a w _ _ ?_ hs h)
    intro r a w hk hs'
    cases r with
    | norm l s => exact code_sound hm hF hT m y l s a w K Q hQ hs' hk
    | exit id l s => exact hQ (.exit id l s) a w hk hs'
    | ret l s => exact hQ (.ret l s) a w hk hs'
  | .cond c x y, l, s, a, w, K, Q, hQ, hs, h => by
    simp only [comp] at h
    cases hc : argOf P c with
    | none => rw [hc] at h; exact h.elim
    | some c' =>
      rw [hc] at h
      simp only [code] at h
      have hv : ∃ μ n, VR μ n (c'.ev l) (a.eval c) := by
        obtain ⟨μ, _, _, hg, hl⟩ := hs.ex
        exact ⟨μ, s.next, argOf_rel hg hl hc⟩
      obtain ⟨μ, n, hv⟩ := hv
      generalize hu : c'.ev l = u at hv h
      generalize hu' : a.eval c = u' at hv
      cases hv <;> (try (exact h.elim))
      rename_i b
      refine wp_cond hu' ?_
      cases b with
      | true => exact code_sound hm hF hT m x l s a w K Q hQ hs h
      | false => exact code_sound hm hF hT m y l s a w K Q hQ hs h
  | .block id b, l, s, a, w, K, Q, hQ, hs, h => by
    simp only [comp, code] at h
    rw [Out.all_bind] at h
    refine wp_block (code_sound hm hF hT m b l s a w _ _ ?_ hs h)
    intro r a w hk hs'
    cases r with
    | norm l s => exact hQ (.norm l s) a w hk hs'
    | exit id' l s =>
      simp only at hk
      simp only [Res.out, Exit.inBlock]
      split at hk
      · rename_i he; rw [if_pos he]; exact hQ (.norm l s) a w hk hs'
      · rename_i he; rw [if_neg he]; exact hQ (.exit id' l s) a w hk hs'
    | ret l s => exact hQ (.ret l s) a w hk hs'
  | .loop b, l, s, a, w, K, Q, hQ, hs, h => by
    simp only [comp, code] at h
    have key : ∀ (k : Nat) (l : List Value) (s : St) (a : Act) (w : World), Sim P B0 W0 μ0 n0 l s a w → (iter (code T F m (comp P b)) k l s).all K → Code.rounds P b Q k a w := by
      intro k
      induction k with
      | zero => intro l s a w _ h; exact h.elim
      | succ k ih =>
        intro l s a w hs h
        simp only [iter] at h
        rw [Out.all_bind] at h
        rw [rounds_succ]
        refine code_sound hm hF hT m b l s a w _ _ ?_ hs h
        intro r a w hk hs'
        cases r with
        | norm l s => exact ih l s a w hs' hk
        | exit id l s => exact hQ (.exit id l s) a w hk hs'
        | ret l s => exact hQ (.ret l s) a w hk hs'
    exact wp_loop_rounds m (key m l s a w hs h)
  | .scope _, _, _, _, _, _, _, _, _, h => h.elim
  | .label _, _, _, _, _, _, _, _, _, h => h.elim
  | .goto _, _, _, _, _, _, _, _, _, h => h.elim

/-- a function's call: n: how deep, m: how many rounds of a loop; what no text is at hand for (or lies deeper): O -/
def callO (T : Tab) (O : CallF) (fns : FuncId → Option AFn) (m : Nat) : Nat → CallF
  | 0, f, args, s => O f args s
  | n + 1, f, args, s => match fns f with
    | none => O f args s
    | some fn => (code T (callO T O fns m n) m fn.body (padded args fn.ntmps) s).bind fun
      | .norm l s | .ret l s => match resultV l s fn.results with
        | some v => .ret (v, s)
        | none => .fail
      | .exit _ _ _ => .fail

/-- what the first machine does for one result -/
def resAct (tmps : Array Value) : ResultVar → Sem Value
  | .tmp t => pure (tmps.getD t undef)
  | .cell a t => do loadVar t (← asAddr (tmps.getD a undef))

theorem result1_sound {μ : Nat → Spot} {s : St} {w : World} (hr : Rel B0 W0 μ s w) {l : List Value} {tmps : Array Value} (hl : VRs μ s.next l tmps.toList) {r : ResultVar} {p : Nat × Nat} (hc : compResult P r = some p) {v : Value} (hv : results1 l s p = some v) :
    ∃ v', (resAct tmps r).run P w = .ok v' w ∧ VR μ s.next v v' := by
  have hget : ∀ t, tmps.toList.getD t undef = tmps.getD t undef := fun t => by simp [List.getD]
  cases r with
  | tmp t =>
    simp [compResult] at hc
    subst hc
    simp [results1] at hv
    subst hv
    refine ⟨_, rfl, ?_⟩
    have := hl.lget t
    rwa [hget] at this
  | cell a t =>
    have ha := hl.lget a
    rw [hget] at ha
    simp only [compResult] at hc
    split at hc
    · rename_i h1 h2
      cases hc
      simp only [results1] at hv
      generalize Am.lget l a = x at ha hv
      generalize hx' : tmps.getD a undef = x' at ha
      cases ha <;> simp [rop] at hv
      rename_i i off hi
      split at hv
      · rename_i cs g ro hg
        obtain ⟨v', k1, k2⟩ := (hr.known i _ hg).2.2.cellAt hv
        exact ⟨v', by unfold resAct; simp only [hx']; simp [asAddr, loadVar, r_agg w h1, run_load, k1], k2⟩
      · cases hv
    · rename_i n h1 h2
      cases hc
      simp only [results1] at hv
      generalize Am.lget l a = x at ha hv
      generalize hx' : tmps.getD a undef = x' at ha
      cases ha <;> simp [rop] at hv
      rename_i i off hi
      obtain ⟨cs, hcs, rfl⟩ := hv
      obtain ⟨l', k1, k2⟩ := load_cells (P := P) hr hcs
      exact ⟨.agg l'.toArray, by unfold resAct; simp only [hx']; simp [asAddr, loadVar, r_agg w h1, r_size w h2, k1], .agg _ _ (by simpa using k2)⟩
    · cases hc

theorem results_sound {μ : Nat → Spot} {s : St} {w : World} (hr : Rel B0 W0 μ s w) {l : List Value} {tmps : Array Value} (hl : VRs μ s.next l tmps.toList) : ∀ {rs : List ResultVar} {ps : List (Nat × Nat)} (_ : compResults P rs = some ps) {vs : List Value} (_ : resultsL l s ps = some vs),
    ∃ vs', (List.mapM (m := Sem) (resAct tmps) rs).run P w = .ok vs' w ∧ VRs μ s.next vs vs'
  | [], ps, hc, vs, hv => by
    simp [compResults] at hc
    subst hc
    simp [resultsL] at hv
    subst hv
    exact ⟨[], by simp, .nil⟩
  | r :: rs, ps, hc, vs, hv => by
    simp only [compResults, Option.bind_eq_some_iff, Option.map_eq_some_iff] at hc
    obtain ⟨p, hp, ps', hps, rfl⟩ := hc
    simp only [resultsL, Option.bind_eq_some_iff, Option.map_eq_some_iff] at hv
    obtain ⟨v, hv1, vs1, hv2, rfl⟩ := hv
    obtain ⟨v', k1, k2⟩ := result1_sound hr hl hp hv1
    obtain ⟨vs', k3, k4⟩ := results_sound hr hl hps hv2
    exact ⟨v' :: vs', by rw [List.mapM_cons]; simp only [Sem.run_bind, k1, k3, Result.andThen_ok, Sem.run_pure], .cons _ _ _ _ k2 k4⟩

theorem resultV_sound {fn : Func} {μ : Nat → Spot} {s : St} {w : World} (hr : Rel B0 W0 μ s w) {l : List Value} {tmps : Array Value} (hl : VRs μ s.next l tmps.toList) {ps : List (Nat × Nat)} (hc : compResults P fn.results.toList = some ps) {v : Value} (hv : resultV l s ps = some v) :
    ∃ v', (results fn tmps).run P w = .ok v' w ∧ VR μ s.next v v' := by
  have hsome : ∃ vs, resultsL l s ps = some vs := by
    unfold resultV at hv
    cases h : resultsL l s ps with
    | none => rw [h] at hv; cases hv
    | some vs => exact ⟨vs, rfl⟩
  obtain ⟨vs, hvs⟩ := hsome
  obtain ⟨vs', k1, k2⟩ := results_sound hr hl hc hvs
  unfold resultV at hv
  rw [hvs] at hv
  have hrun : (results fn tmps).run P w = .ok (if h : vs'.length = 1 then vs'[0] else .tuple vs'.toArray) w := by
    have e : results fn tmps = ((do
        let vs ← fn.results.mapM (resAct tmps)
        pure (if h : vs.size = 1 then vs[0] else .tuple vs)) : Sem Value) := rfl
    rw [e, Array.mapM_eq_mapM_toList]
    simp [k1]
  refine ⟨_, hrun, ?_⟩
  match vs, vs', k2, hv with
  | [], [], _, hv => simp at hv; subst hv; exact .tuple _ _ .nil
  | [_], [_], .cons _ _ _ _ h _, hv => simp at hv; subst hv; exact h
  | _ :: _ :: _, [_], k2, _ => exact absurd k2.length (by simp)
  | _ :: _ :: _, _ :: _ :: _, k2, hv => simp at hv; subst hv; simpa using VR.tuple _ _ (by simpa using k2)

theorem padded_rel {μ : Nat → Spot} {n : Nat} {vs : List Value} {args : List Value} (h : VRs μ n vs args) (k : Nat) : VRs μ n (padded vs k) (args.toArray ++ Array.replicate (k - args.toArray.size) undef).toList := by
  unfold padded
  simp only [Array.toList_append, Array.toList_replicate, List.size_toArray]
  rw [← h.length]
  exact h.append (.replicate_undef _)

theorem callO_sound (hm : P.follows .mixedOrders = true) (hT : TabOk P T) {O : CallF} (hO : FSound P O) {fns : FuncId → Option AFn} (hfns : ∀ f fn, fns f = some fn → compFn P f = some fn) (m : Nat) : ∀ n, FSound P (callO T O fns m n)
  | 0 => hO
  | n + 1 => fun f vs s Q h => by
    simp only [callO] at h
    cases hf : fns f with
    | none => rw [hf] at h; exact hO f vs s Q h
    | some fn =>
      rw [hf] at h
      simp only at h
      have hc := hfns f fn hf
      unfold compFn at hc
      split at hc
      · rename_i fn0 hfn
        split at hc
        · rename_i b hb
          split at hc
          · cases hc
          · rename_i hnm
            simp only [Option.map_eq_some_iff] at hc
            obtain ⟨ps, hps, rfl⟩ := hc
            refine ⟨⟨fn0, hfn, by rw [hb]; rfl, by simpa using hnm⟩, ?_⟩
            intro B0 W0 μ w args hr hg hv
            refine calls_of_wp hfn hb ?_
            rw [Out.all_bind] at h
            refine code_sound (B0 := B0) (W0 := W0) (μ0 := μ) (n0 := s.next) hm (callO_sound hm hT hO hfns m n) hT m b _ s _ w _ _ ?_ ⟨⟨μ, Agree.refl _ _, hr, hg, padded_rel hv _⟩, rfl⟩ h
            intro r a w' hk hs
            have fin : ∀ l s', (match resultV l s' ps with
                | some v => Out.ret (v, s')
                | none => Out.fail).all Q → Sim P B0 W0 μ s.next l s' a w' → a.defers = [] ∧ ∃ v, (results fn0 a.tmps).run P w' = .ok v w' ∧ (∃ v1 s1 v', Q (v1, s1) ∧ Ending.returned v = .returned v' ∧ After B0 W0 μ s v1 s1 v' w') := fun l s' hk hs => by
              obtain ⟨⟨μ', k1, k2, k3, k4⟩, k5⟩ := hs
              cases hv : resultV l s' ps with
              | none => rw [hv] at hk; exact hk.elim
              | some v =>
                rw [hv] at hk
                obtain ⟨v', j1, j2⟩ := resultV_sound k2 k4 hps hv
                exact ⟨k5, v', j1, v, s', v', hk, rfl, μ', k1, k2, j2⟩
            cases r with
            | norm l s' => exact fin l s' hk hs
            | ret l s' => exact fin l s' hk hs
            | exit id l s' => exact hk.elim
        · cases hc
      · cases hc

end
end Go.Am
