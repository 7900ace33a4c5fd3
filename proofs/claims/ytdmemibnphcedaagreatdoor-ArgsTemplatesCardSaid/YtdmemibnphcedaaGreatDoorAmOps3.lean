/-
  Slices, lengths; the operations that read the heap.
-/
import Derived.Test.YtdmemibnphcedaaGreatDoorAmOps2
import Derived.MapKept
set_option linter.unusedSimpArgs false
set_option linter.unusedVariables false
set_option maxRecDepth 10000
namespace Go.Am
open Go.RowKit (Below)

section
variable {P : Program} {μ : Nat → Spot} {n : Nat} {o : Oper}

theorem bound_sound {lo hi hi' k : Nat} {v v' : Value} (w : World) (hv : VR μ n v v') (h : bound lo hi v = some k) (hh : hi ≤ hi') (code : BoundsCode) : (Instr.sliceBound v' hi' code).run P w = .ok k w ∧ k ≤ hi := by
  unfold bound at h
  split at h
  · rename_i q i
    cases hv
    split at h
    · rename_i hc
      simp at h
      subst h
      exact ⟨by have h0 : 0 ≤ i := by omega
                have h1 : i ≤ (hi' : Int) := by omega
                simp [Instr.sliceBound, asIntOf, h0, h1], by omega⟩
    · cases h
  · cases h

theorem bounds_sound {len cap cap' l h : Nat} {lo hi : Option Operand} {ρ : Operand → Value} {vs : List Value} (w : World) (isS : Bool) (hv : VRs μ n vs ((lo.toList ++ hi.toList).map ρ)) (hlen : len ≤ cap) (hcap : cap ≤ cap')
    (hb : bounds len cap lo.isSome hi.isSome vs = some (l, h)) : (Instr.sliceBounds isS len cap' (lo.map ρ) (hi.map ρ) none).run P w = .ok (l, h, cap') w ∧ l ≤ h ∧ h ≤ cap := by
  cases lo with
  | none =>
    cases hi with
    | none =>
      obtain rfl := hv.inv0
      simp [bounds] at hb
      obtain ⟨rfl, rfl⟩ := hb
      exact ⟨by simp [Instr.sliceBounds], by omega, hlen⟩
    | some b =>
      obtain ⟨x, rfl, hx⟩ := hv.inv1
      simp [bounds] at hb
      obtain ⟨h1, h2, rfl⟩ := hb
      obtain ⟨h3, h4⟩ := bound_sound (P := P) w hx h1 hcap (if isS then .sliceAcap else .sliceAlen)
      exact ⟨by simp [Instr.sliceBounds, h3], by omega, h4⟩
  | some a =>
    cases hi with
    | none =>
      obtain ⟨x, rfl, hx⟩ := hv.inv1
      simp [bounds] at hb
      obtain ⟨q, h1, rfl, rfl⟩ := hb
      obtain ⟨h3, h4⟩ := bound_sound (P := P) w hx h1 (Nat.le_refl _) .sliceB
      exact ⟨by simp [Instr.sliceBounds, h3], h4, hlen⟩
    | some b =>
      obtain ⟨x, y, rfl, hx, hy⟩ := hv.inv2
      simp only [bounds, Option.isSome_some, Option.bind_eq_some_iff, Option.map_eq_some_iff, Prod.mk.injEq] at hb
      obtain ⟨k, h1, q, h2, rfl, rfl⟩ := hb
      obtain ⟨h3, h4⟩ := bound_sound (P := P) w hy h1 hcap (if isS then .sliceAcap else .sliceAlen)
      obtain ⟨h5, h6⟩ := bound_sound (P := P) w hx h2 (Nat.le_refl _) .sliceB
      exact ⟨by simp [Instr.sliceBounds, h3, h5], h6, h4⟩

theorem ps_slStr {t : TypeId} {x : Operand} {lo hi : Option Operand} (ht : P.underlying t = some .string) (ho : o.op = .slice t x lo hi none) : PSound P μ n o (.slStr lo.isSome hi.isSome) (x :: (lo.toList ++ hi.toList)) := by
  intro ρ vs v w hv hp
  obtain ⟨a, as, rfl, ha, has⟩ := hv.invc
  generalize hx : ρ x = x' at ha
  cases ha <;> simp [pop] at hp
  rename_i s
  obtain ⟨l, h, hb, rfl⟩ := hp
  obtain ⟨h1, h2, h3⟩ := bounds_sound (P := P) w false has (Nat.le_refl _) (Nat.le_refl _) hb
  exact ⟨_, by simp [execOp, ho, hx, Instr.sliceAt, Instr.slice, r_under w ht, h1], .string _⟩

theorem call_eq {b : Builtin} {ts : List TypeId} {xs : List Operand} {c : Call} (h1 : c.callee = .builtin b) (h2 : c.argTypes.toList = ts) (h3 : c.args.toList = xs) : c = { callee := .builtin b, args := xs.toArray, argTypes := ts.toArray } := by
  cases c
  simp at h1 h2 h3
  subst h1; subst h2; subst h3
  simp

theorem ps_lenStr {t : TypeId} {x : Operand} (ht : P.underlying t = some .string) (ho : o.op = .call { callee := .builtin .len, args := #[x], argTypes := #[t] }) : PSound P μ n o .lenStr [x] := by
  intro ρ vs v w hv hp
  obtain ⟨a, rfl, ha⟩ := hv.inv1
  generalize hx : ρ x = x' at ha
  cases ha <;> simp [pop] at hp
  subst hp
  exact ⟨_, by simp [execOp, ho, resolve, invoke, builtin, Builtin.len_, hx, r_under w ht, goInt], .int _ _⟩

theorem ps_lenSl {t e : TypeId} {x : Operand} (ht : P.underlying t = some (.slice e)) (ho : o.op = .call { callee := .builtin .len, args := #[x], argTypes := #[t] }) : PSound P μ n o .lenSl [x] := by
  intro ρ vs v w hv hp
  obtain ⟨a, rfl, ha⟩ := hv.inv1
  generalize hx : ρ x = x' at ha
  cases ha <;> simp [pop] at hp
  all_goals subst hp
  · exact ⟨_, by simp [execOp, ho, resolve, invoke, builtin, Builtin.len_, hx, r_under w ht, goInt], .int _ _⟩
  · exact ⟨_, by simp [execOp, ho, resolve, invoke, builtin, Builtin.len_, hx, r_under w ht, goInt], .int _ _⟩
  · exact ⟨_, by simp [execOp, ho, resolve, invoke, builtin, Builtin.len_, hx, r_under w ht, goInt], .int _ _⟩

theorem ps_lenArr {t e : TypeId} {k : Nat} {x : Operand} (ht : P.underlying t = some (.array k e)) (ho : o.op = .call { callee := .builtin .len, args := #[x], argTypes := #[t] }) : PSound P μ n o (.lenArr k) [x] := by
  intro ρ vs v w hv hp
  simp [pop] at hp
  subst hp
  exact ⟨_, by simp [execOp, ho, resolve, invoke, builtin, Builtin.len_, r_under w ht, goInt], .int _ _⟩

theorem VRs.int2 {k k' : IntKind} {a b : Int} {l : List Value} (h : VRs μ n [.int k a, .int k' b] l) : l = [.int k a, .int k' b] := by
  cases h with | cons _ x _ l h hs => cases hs with | cons _ y _ l h2 hs => cases hs; cases h; cases h2; rfl
theorem VRs.int3 {k k' k'' : IntKind} {a b c : Int} {l : List Value} (h : VRs μ n [.int k a, .int k' b, .int k'' c] l) : l = [.int k a, .int k' b, .int k'' c] := by
  cases h with | cons _ x _ l h hs => cases h; rw [hs.int2]

theorem ps_min {ts : Array TypeId} {xs : List Operand} (ho : o.op = .call { callee := .builtin .min, args := xs.toArray, argTypes := ts }) : PSound P μ n o .min xs := by
  intro ρ vs v w hv hp
  have hr : (execOp ρ o).run P w = ((Builtin.min_ ts o.type (xs.map ρ).toArray).run P w).andThen fun v w' => .ok (.value v) w' := by
    simp [execOp, ho, resolve, invoke, builtin]
  simp only [pop] at hp
  unfold minV at hp
  split at hp <;> simp at hp <;> subst hp
  · rw [hr, hv.int2]; exact ⟨_, by simp [Builtin.min_, Builtin.min2], .int _ _⟩
  · rw [hr, hv.int3]; exact ⟨_, by simp [Builtin.min_, Builtin.min2], .int _ _⟩
theorem ps_max {ts : Array TypeId} {xs : List Operand} (ho : o.op = .call { callee := .builtin .max, args := xs.toArray, argTypes := ts }) : PSound P μ n o .max xs := by
  intro ρ vs v w hv hp
  have hr : (execOp ρ o).run P w = ((Builtin.max_ ts o.type (xs.map ρ).toArray).run P w).andThen fun v w' => .ok (.value v) w' := by
    simp [execOp, ho, resolve, invoke, builtin]
  simp only [pop] at hp
  unfold maxV at hp
  split at hp <;> simp at hp <;> subst hp
  · rw [hr, hv.int2]; exact ⟨_, by simp [Builtin.max_, Builtin.max2], .int _ _⟩
  · rw [hr, hv.int3]; exact ⟨_, by simp [Builtin.max_, Builtin.max2], .int _ _⟩

/-! ### what compOp gives -/
theorem argsToArray (l : List Operand) : ∀ {a : Array Operand}, a.toList = l → a = l.toArray := fun h => by rw [← h]

theorem pop_sound {p : POp} {xs : List Operand} (hc : compOp P o.op = some (.p p, xs)) : PSound P μ n o p xs := by
  cases ho : o.op with
  | move x => simp [ho, compOp] at hc; obtain ⟨rfl, rfl⟩ := hc; exact ps_move (.inl ho)
  | assign x => simp [ho, compOp] at hc; obtain ⟨rfl, rfl⟩ := hc; exact ps_move (.inr ho)
  | pick c a b => simp [ho, compOp] at hc; obtain ⟨rfl, rfl⟩ := hc; exact ps_pick ho
  | build t parts =>
    simp only [ho, compOp] at hc
    split at hc <;> first | (cases hc; done) | skip
    · rename_i fs ht
      simp only [Option.bind_eq_some_iff, Option.map_eq_some_iff, Prod.mk.injEq, AOp.p.injEq] at hc
      obtain ⟨z, hz, ps, hps, rfl, rfl⟩ := hc
      exact ps_build ho (.inl ⟨_, ht⟩) hz hps
    · rename_i k e ht
      simp only [Option.bind_eq_some_iff, Option.map_eq_some_iff, Prod.mk.injEq, AOp.p.injEq] at hc
      obtain ⟨z, hz, ps, hps, rfl, rfl⟩ := hc
      exact ps_build ho (.inr ⟨_, _, ht⟩) hz hps
  | nilCheck x => simp [ho, compOp] at hc; obtain ⟨rfl, rfl⟩ := hc; exact ps_nilCheck ho
  | binOp op t x y t2 =>
    simp only [ho, compOp] at hc
    split at hc
    · simp at hc; obtain ⟨rfl, rfl⟩ := hc; exact ps_bin ho
    · simp at hc; obtain ⟨rfl, rfl⟩ := hc; exact ps_bin ho
    · rename_i ht
      split at hc <;> simp at hc <;> obtain ⟨rfl, rfl⟩ := hc
      · exact ps_binB (neg := false) ht ho
      · exact ps_binB (neg := true) ht ho
    · rename_i d _ _ _ ht
      split at hc
      · rename_i k hk
        split at hc
        · rename_i hcst
          split at hc <;> simp at hc <;> obtain ⟨rfl, rfl⟩ := hc
          · exact ps_nilEq (neg := false) ht hk hcst ho
          · exact ps_nilEq (neg := true) ht hk hcst ho
        · cases hc
      · cases hc
    · cases hc
  | unOp op t x => simp [ho, compOp] at hc; obtain ⟨rfl, rfl⟩ := hc; exact ps_un ho
  | convert s t x =>
    simp only [ho, compOp] at hc
    split at hc
    · rename_i h1 h2; simp at hc; obtain ⟨rfl, rfl⟩ := hc; exact ps_convInt h1 h2 ho
    · split at hc <;> simp at hc
    · split at hc <;> simp at hc
    · cases hc
  | makeInterface t x =>
    simp only [ho, compOp] at hc
    split at hc <;> first | (cases hc; done) | skip
    rename_i d hd ht
    simp at hc
    obtain ⟨rfl, rfl⟩ := hc
    exact ps_mkIface ht (fun ms e => hd ms e) ho
  | makeFunc fn first captured => simp [ho, compOp] at hc; obtain ⟨rfl, rfl⟩ := hc; exact ps_mkFunc ho
  | slice t x lo hi mx =>
    simp only [ho, compOp] at hc
    split at hc
    · rename_i ht; simp at hc; obtain ⟨rfl, rfl⟩ := hc; exact ps_slStr ht ho
    · simp at hc
    · simp at hc
    · split at hc <;> simp at hc
    · cases hc
  | fieldAddr t x f =>
    simp only [ho, compOp] at hc
    split at hc
    · rename_i fields ht
      split at hc
      · rename_i fd hf
        split at hc
        · rename_i m hm; simp at hc; obtain ⟨rfl, rfl⟩ := hc; exact ps_fieldAddr ht hf hm ho
        · cases hc
      · cases hc
    · cases hc
  | field t x f =>
    simp only [ho, compOp] at hc
    split at hc
    · rename_i fields ht
      split at hc
      · rename_i fd hf
        simp only [Option.bind_eq_some_iff, Option.map_eq_some_iff, Prod.mk.injEq, AOp.p.injEq] at hc
        obtain ⟨b, hb, m, hm, rfl, rfl⟩ := hc
        exact ps_field ht hf hb hm ho
      · cases hc
    · cases hc
  | indexAddr t x i =>
    simp only [ho, compOp] at hc
    split at hc
    · rename_i k e ht
      simp at hc; obtain ⟨m, hm, rfl, rfl⟩ := hc; exact ps_indexAddrArr ht hm ho
    · rename_i e ht
      simp at hc; obtain ⟨m, hm, rfl, rfl⟩ := hc; exact ps_indexAddr ht hm ho
    · cases hc
  | index t x i =>
    simp only [ho, compOp] at hc
    split at hc
    · rename_i ht; simp at hc; obtain ⟨rfl, rfl⟩ := hc; exact ps_indexStr ht ho
    · rename_i k e ht
      simp only [Option.bind_eq_some_iff, Option.map_eq_some_iff, Prod.mk.injEq, AOp.p.injEq] at hc
      obtain ⟨b, hb, m, hm, rfl, rfl⟩ := hc
      exact ps_indexArr ht hb hm ho
    · cases hc
  | typeAssert x tx t ok =>
    simp only [ho, compOp] at hc
    split at hc <;> first | (cases hc; done) | skip
    rename_i d hd ht
    simp at hc
    obtain ⟨z, hz, rfl, rfl⟩ := hc
    exact ps_assertT ht (fun ms e => hd ms e) hz ho
  | extract x i => simp [ho, compOp] at hc; obtain ⟨rfl, rfl⟩ := hc; exact ps_extract ho
  | call c =>
    simp only [ho, compOp, compCall] at hc
    split at hc
    · simp at hc
    · simp at hc
    · simp at hc
    · rename_i b hb
      split at hc
      · rename_i t x h2 h3
        have hcall := call_eq hb h2 h3
        rw [hcall] at ho
        split at hc
        · rename_i ht; simp at hc; obtain ⟨rfl, rfl⟩ := hc; exact ps_lenStr ht (by simpa using ho)
        · rename_i ht; simp at hc; obtain ⟨rfl, rfl⟩ := hc; exact ps_lenSl ht (by simpa using ho)
        · simp at hc
        · rename_i ht; simp at hc; obtain ⟨rfl, rfl⟩ := hc; exact ps_lenArr ht (by simpa using ho)
        · cases hc
      · split at hc
        · simp only [Option.bind_eq_some_iff] at hc
          obtain ⟨_, _, _, _, _, _, hc⟩ := hc
          split at hc <;> simp at hc
        · simp only [Option.bind_eq_some_iff] at hc
          obtain ⟨_, _, _, _, _, _, hc⟩ := hc
          split at hc <;> simp at hc
        · cases hc
      · split at hc
        · simp at hc
        · cases hc
      · split at hc
        · simp at hc
        · cases hc
      · simp at hc; obtain ⟨rfl, rfl⟩ := hc
        have hcall := call_eq hb rfl rfl
        rw [hcall] at ho
        exact ps_min ho
      · simp at hc; obtain ⟨rfl, rfl⟩ := hc
        have hcall := call_eq hb rfl rfl
        rw [hcall] at ho
        exact ps_max ho
      · cases hc
  | buildSlice t len parts =>
    simp only [ho, compOp] at hc
    split at hc
    · simp only [Option.bind_eq_some_iff] at hc
      obtain ⟨_, _, _, _, _, _, hc⟩ := hc
      split at hc <;> simp at hc
    · cases hc
  | load t a =>
    simp only [ho, compOp, Option.bind_eq_some_iff] at hc
    obtain ⟨b, _, hc⟩ := hc
    cases b <;> simp at hc
  | alloc e =>
    simp only [ho, compOp, Option.bind_eq_some_iff] at hc
    obtain ⟨z, _, hc⟩ := hc
    split at hc <;> simp at hc
  | makeSlice t l c =>
    simp only [ho, compOp] at hc
    split at hc
    · simp only [Option.bind_eq_some_iff] at hc
      obtain ⟨_, _, _, _, _, _, hc⟩ := hc
      split at hc <;> simp at hc
    · cases hc
  | makeMap t r => cases r <;> simp [ho, compOp] at hc
  | lookup t x i ok =>
    simp only [ho, compOp] at hc
    split at hc
    · simp only [Option.bind_eq_some_iff, Option.map_eq_some_iff, Prod.mk.injEq, reduceCtorEq, false_and, and_false, exists_false] at hc
    · cases hc
  | mapUpdate t m k x =>
    simp only [ho, compOp] at hc
    split at hc
    · simp at hc
    · cases hc
  | insert t m k x =>
    simp only [ho, compOp] at hc
    split at hc
    · simp at hc
    · cases hc
  | range t x =>
    simp only [ho, compOp] at hc
    split at hc <;> simp at hc
  | _ => simp [ho, compOp] at hc

end
end Go.Am
