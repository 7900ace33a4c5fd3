/-
  Deferred functions that begin with recover, where nothing panics: recover gives nil.
-/
import Derived.Test.YtjomiadmminhfaaGreatDoorSFilClaimPart4
import Derived.Recover
set_option linter.unusedVariables false
set_option linter.unusedSimpArgs false
namespace Go.Am
variable {P : Program} {T : Tab}

def isRec (o : Oper) : Bool :=
  match o.op, o.guard with
  | .call c, none => match c.callee with
    | .builtin .recover => true
    | _ => false
  | _, _ => false

/-- the slot that recover fills, and the function behind it -/
def recOf (P : Program) (f : FuncId) : Option (Nat × AFn) :=
  match P.funcs[f]? with
  | some fn => match fn.body with
    | some (.seq (.region _ ops false) rest) => match ops[0]?, ops.size with
      | some o, 1 => match o.dst with
        | some t => if isRec o = true ∧ t < fn.ntmps ∧ (fn.name == "runtime.NumGoroutine") = false then (compResults P fn.ntmps fn.results.toList).map fun rs => (t, { ntmps := fn.ntmps, body := comp P fn.ntmps false rest, results := rs, defs := false }) else none
        | none => none
      | _, _ => none
    | _ => none
  | none => none

theorem isRec_run {o : Oper} (h : isRec o = true) (ρ : Operand → Value) (w : World) : o.guard = none ∧ (execOp ρ o).run P w = .ok .recover w := by
  obtain ⟨dst, op, ty, pos, after, guard⟩ := o
  unfold isRec at h
  split at h
  · rename_i c h1 h2
    simp only at h1 h2
    subst h1 h2
    split at h
    · rename_i h3
      obtain ⟨callee, args, ats⟩ := c
      simp only at h3
      subst h3
      exact ⟨rfl, rfl⟩
    · cases h
  · cases h

theorem rec_sound (hm : P.follows .mixedOrders = true) (hT : TabOk P T) {F : CallF} (hF : FSound P F) (m : Nat) {f : FuncId} {t : Nat} {fn : AFn} (hr : recOf P f = some (t, fn)) {vs : List Value} {s : St} {Q : Value × St → Prop}
    (h : ((code T F m fn.body (putL (padded vs fn.ntmps) (some t) .nilIface) s).bind fun
        | .norm l s | .ret l s => resO fn.results l s
        | .exit _ _ _ => .fail).all Q) :
    (∃ fn, P.funcs[f]? = some fn ∧ fn.body.isSome = true ∧ (fn.name == "runtime.NumGoroutine") = false) ∧ DefOk P f vs s Q := by
  unfold recOf at hr
  split at hr
  case h_2 => cases hr
  rename_i fn0 hfn
  split at hr
  case h_2 => cases hr
  rename_i id ops rest hb
  split at hr
  case h_2 => cases hr
  rename_i o ho hsz
  split at hr
  case h_2 => cases hr
  rename_i t' ht
  split at hr
  case isFalse => cases hr
  rename_i hh
  obtain ⟨h1, h2, h3⟩ := hh
  simp only [Option.map_eq_some_iff, Prod.mk.injEq] at hr
  obtain ⟨ps, hps, rfl, rfl⟩ := hr
  refine ⟨⟨fn0, hfn, by rw [hb]; rfl, h3⟩, fun B0 W0 μ w args hrel hg hv => ?_⟩
  refine callsD_of_wpS hfn hb fun c₀ cs hu => ?_
  refine wpS_seq (wpS_region ?_)
  obtain ⟨g1, g2⟩ := isRec_run (P := P) h1 (({ tmps := args.toArray ++ Array.replicate (fn0.ntmps - args.toArray.size) undef, defers := [] } : Act).eval) w
  have hl : List.range ops.size = [0] := by rw [hsz]; rfl
  have hw : Region.wanted o (yielded ops (args.toArray ++ Array.replicate (fn0.ntmps - args.toArray.size) undef)) = true := by unfold Region.wanted; rw [g1]
  have hrec : recoverD (c₀ :: cs) = none := by simp [recoverD, hu]
  rw [hl]
  simp only [wpOpsS, ho, hw, if_true, g2, hrec, Exit.thenS, ht]
  rw [Out.all_bind] at h
  have hst : LR μ s.next fn0.ntmps false (padded vs fn0.ntmps) { tmps := args.toArray ++ Array.replicate (fn0.ntmps - args.toArray.size) undef, defers := [] } :=
    ⟨⟨by simp; omega, fun h => by cases h⟩, _, [], (List.append_nil _).symm, padded_rel hv _, .inl ⟨rfl, rfl, rfl⟩⟩
  have hst2 := put_rel hst (v := .nilIface) (v' := .nilIface) .nilIface (some t') (by simpa [dstIn] using h2)
  refine wpS_of_wp (code_sound (B0 := B0) (W0 := W0) (μ0 := μ) (n0 := s.next) (nb := fn0.ntmps) (fl := false) hm hF hT m rest _ s _ w _ _ ?_ ⟨⟨μ, Agree.refl _ _, hrel, hg, hst2⟩⟩ h)
  intro r a w' hk hs
  have fin : ∀ l s', (resO ps l s').all Q → Sim P B0 W0 μ s.next fn0.ntmps false l s' a w' → a.defers = [] ∧ ∃ u', c₀ :: cs = { c₀ with mode := u' } :: cs ∧ ∃ v, (results fn0 a.tmps).run P w' = .ok v w' ∧ (u' = .returning ∧ ∃ v1 s1 v', Q (v1, s1) ∧ Ending.returned v = .returned v' ∧ After B0 W0 μ s v1 s1 v' w') := by
    intro l s' hk hs
    obtain ⟨⟨μ', k1, k2, k3, k4⟩⟩ := hs
    have k5 : a.defers = [] := by
      obtain ⟨_, _, k, _, _, h3⟩ := k4
      rcases h3 with ⟨_, h, _⟩ | ⟨_, h, _⟩
      · exact h
      · cases h
    unfold resO at hk
    cases hv : resultV l s' ps with
    | none => rw [hv] at hk; exact hk.elim
    | some v =>
      rw [hv] at hk
      obtain ⟨v', j1, j2⟩ := resultV_sound (nb := fn0.ntmps) k2 (fun t ht => k4.get ht) hps hv
      exact ⟨k5, .returning, by rw [← hu], v', j1, rfl, v, s', v', hk, rfl, μ', k1, k2, j2⟩
  cases r with
  | norm l s => exact fin l s hk hs
  | ret l s => exact fin l s hk hs
  | exit id l s => exact hk.elim

/-- deferred calls of such functions -/
def recF (T : Tab) (F : CallF) (m : Nat) (recs : FuncId → Option (Nat × AFn)) : CallF := fun f vs s =>
  match recs f with
  | some (t, fn) => (code T F m fn.body (putL (padded vs fn.ntmps) (some t) .nilIface) s).bind fun
    | .norm l s | .ret l s => resO fn.results l s
    | .exit _ _ _ => .fail
  | none => .fail
theorem recF_sound (hm : P.follows .mixedOrders = true) (hT : TabOk P T) {F : CallF} (hF : FSound P F) (m : Nat) {recs : FuncId → Option (Nat × AFn)} (h : ∀ f x, recs f = some x → recOf P f = some x) : DSound P (recF T F m recs) := fun f vs s Q hq => by
  unfold recF at hq
  cases hr : recs f with
  | none => rw [hr] at hq; exact hq.elim
  | some x =>
    obtain ⟨t, fn⟩ := x
    rw [hr] at hq
    exact rec_sound hm hT hF m (h f _ hr) hq
end Go.Am
