/-
  The operations that look at their operands alone: what the second machine reckons, the first one does.
-/
import Derived.Test.YtdmemibnphcedaaGreatDoorAmHeap
import Derived.Test.YtdmemibnphcedaaGreatDoorAmComp
import Derived.WideLaws
import Derived.Laws.Strings
set_option linter.unusedSimpArgs false
set_option linter.unusedVariables false
set_option maxRecDepth 10000
namespace Go.Am
open Go.RowKit (Below)

section runs
variable {P : Program} {t : TypeId} (w : World)
theorem r_under {d : TypeDesc} (h : P.underlying t = some d) : (underlying t).run P w = .ok d w := by simp [underlying, h]
theorem r_info {i : TypeInfo} (h : P.info? t = some i) : (typeInfo t).run P w = .ok i w := by simp [typeInfo, h]
theorem r_size {n : Nat} (h : sizeT P t = some n) : (sizeOf t).run P w = .ok n w := by
  unfold sizeT at h
  cases hi : P.info? t with
  | none => simp [hi] at h
  | some i => simp [hi] at h; simp [sizeOf, r_info w hi, h]
theorem r_agg {b : Bool} (h : aggT P t = some b) : (isAgg t).run P w = .ok b w := by
  unfold aggT at h
  cases hi : P.underlying t with
  | none => simp [hi] at h
  | some d =>
    rw [hi] at h
    cases d <;> simp at h <;> subst h <;> simp [isAgg, r_under w hi]
theorem zeroT_spec {z : Value} (h : zeroT P t = some z) : ∃ i, P.info? t = some i ∧ i.zero = some z ∧ plainV z = true := by
  unfold zeroT at h
  cases hi : P.info? t with
  | none => simp [hi] at h
  | some i =>
    cases hz : i.zero with
    | none => simp [hi, hz] at h
    | some v => simp [hi, hz] at h; exact ⟨i, rfl, by rw [hz, h.2], by rw [← h.2]; exact h.1⟩
theorem r_zero {z : Value} (h : zeroT P t = some z) : (zeroValue t).run P w = .ok z w := by
  obtain ⟨i, h1, h2, _⟩ := zeroT_spec h
  simp [zeroValue, r_info w h1, h2]
end runs

theorem wrapF_eq (k : IntKind) (n : Int) : wrapF k n = k.wrap n := by
  cases k <;> simp only [wrapF] <;> (split <;> try rfl) <;> rename_i h <;> simp only [IntKind.wrap, IntKind.bits, IntKind.signed] <;> simp <;> omega

section inv
variable {μ : Nat → Spot} {n : Nat} {vs : List Value}
theorem VRs.inv0 (h : VRs μ n vs []) : vs = [] := by cases h; rfl
theorem VRs.inv1 {x : Value} (h : VRs μ n vs [x]) : ∃ a, vs = [a] ∧ VR μ n a x := by
  cases h with | cons v _ l _ h hs => obtain rfl := hs.inv0; exact ⟨v, rfl, h⟩
theorem VRs.invc {x : Value} {xs : List Value} (h : VRs μ n vs (x :: xs)) : ∃ a as, vs = a :: as ∧ VR μ n a x ∧ VRs μ n as xs := by
  cases h with | cons v _ l _ h hs => exact ⟨v, l, rfl, h, hs⟩
theorem VRs.inv2 {x y : Value} (h : VRs μ n vs [x, y]) : ∃ a b, vs = [a, b] ∧ VR μ n a x ∧ VR μ n b y := by
  obtain ⟨a, as, rfl, h1, h2⟩ := h.invc
  obtain ⟨b, rfl, h3⟩ := h2.inv1
  exact ⟨a, b, rfl, h1, h3⟩
theorem VRs.inv3 {x y z : Value} (h : VRs μ n vs [x, y, z]) : ∃ a b c, vs = [a, b, c] ∧ VR μ n a x ∧ VR μ n b y ∧ VR μ n c z := by
  obtain ⟨a, as, rfl, h1, h2⟩ := h.invc
  obtain ⟨b, c, rfl, h3, h4⟩ := h2.inv2
  exact ⟨a, b, c, rfl, h1, h3, h4⟩
end inv

theorem binInt_sound {P : Program} {op : BinOp} {k : IntKind} {a b : Int} {v : Value} (w : World) (t : TypeId) (hns : op ≠ .shl ∧ op ≠ .shr) (h : binInt op k a b = some v) : (binOp op t (.int k a) (.int k b)).run P w = .ok v w := by
  cases op <;> simp [binInt, wrapF_eq] at h hns <;> first
    | (subst h; simp [binOp, Op.intArith, Op.intCmp, Op.intBits, Op.intDiv]; done)
    | (obtain ⟨h1, h2⟩ := h; subst h2; simp [binOp, Op.intDiv, h1]; done)

theorem shiftInt_sound {P : Program} {op : BinOp} {k k' : IntKind} {a b : Int} {v : Value} (w : World) (t : TypeId) (hs : op = .shl ∨ op = .shr) (h : shiftInt op k a b = some v) : (binOp op t (.int k a) (.int k' b)).run P w = .ok v w := by
  unfold shiftInt at h
  split at h
  · cases h
  · rename_i hb
    rcases hs with rfl | rfl <;> simp at h <;> subst h <;> simp [binOp, Op.shift, hb] <;> rfl

theorem binStr_sound {P : Program} {op : BinOp} {a b : ByteArray} {v : Value} (w : World) (t : TypeId) (h : binStr op a b = some v) : (binOp op t (.string a) (.string b)).run P w = .ok v w := by
  cases op
  case add =>
    simp [binStr] at h
    have : ¬ ((a.size + b.size : Nat) : Int) > IntKind.i64.max := by show ¬ _ > (9223372036854775807 : Int); omega
    rw [← h.2]
    simp only [binOp, Op.stringOp, if_neg this]; rfl
  all_goals simp only [binStr, Option.some.injEq, reduceCtorEq] at h
  all_goals subst h; simp only [binOp, Op.stringOp, Go.ByteArray.toList_eq]; rfl

theorem binV_sound {P : Program} {μ : Nat → Spot} {n : Nat} {op : BinOp} {x y x' y' v : Value} (w : World) (t : TypeId) (hx : VR μ n x x') (hy : VR μ n y y') (h : binV op x y = some v) (ox oy : Operand) :
    (binOp op t x' y').run P w = .ok v w ∧ VR μ n v v ∧ (eqGuard op t ox oy x' y').run P w = .ok () w := by
  have fin : ∀ {v : Value}, (∃ k i, v = .int k i) ∨ (∃ b, v = .bool b) ∨ (∃ b, v = .string b) → VR μ n v v := fun {v} h => by
    rcases h with ⟨k, i, rfl⟩ | ⟨b, rfl⟩ | ⟨b, rfl⟩ <;> constructor
  unfold binV at h
  split at h
  · rename_i k a k' b
    cases hx; cases hy
    refine ⟨?_, ?_, ?_⟩
    · split at h
      · exact shiftInt_sound w t (Or.inl rfl) h
      · exact shiftInt_sound w t (Or.inr rfl) h
      · rename_i h1 h2
        split at h
        · rename_i hk
          subst hk
          exact binInt_sound w t ⟨fun e => h1 e, fun e => h2 e⟩ h
        · cases h
    · apply fin
      split at h
      · simp only [shiftInt] at h; split at h <;> simp at h; subst h; exact Or.inl ⟨_, _, rfl⟩
      · simp only [shiftInt] at h; split at h <;> simp at h; subst h; exact Or.inl ⟨_, _, rfl⟩
      · split at h
        · cases op <;> simp [binInt] at h <;> first | (subst h; first | exact Or.inl ⟨_, _, rfl⟩ | exact Or.inr (Or.inl ⟨_, rfl⟩)) | (obtain ⟨_, rfl⟩ := h; exact Or.inl ⟨_, _, rfl⟩)
        · cases h
    · cases op <;> simp [eqGuard]
  · rename_i a b
    cases hx; cases hy
    refine ⟨binStr_sound w t h, ?_, ?_⟩
    · apply fin
      cases op <;> simp [binStr] at h <;> first | (subst h; exact Or.inr (Or.inl ⟨_, rfl⟩)) | (obtain ⟨_, rfl⟩ := h; exact Or.inr (Or.inr ⟨_, rfl⟩))
    · cases op <;> simp [eqGuard]
  · cases h

theorem equal_step {P : Program} {w : World} {t : TypeId} {x y : Value} {r : Bool} (h : ∀ d, (Op.equalIn (d + 1) t x y).run P w = .ok r w) : (Op.equal t x y).run P w = .ok r w := h 9999

theorem binB_sound {P : Program} {t : TypeId} (ht : P.underlying t = some .bool) (w : World) (neg a b : Bool) (ox oy : Operand) :
    (binOp (if neg then .neq else .eql) t (.bool a) (.bool b)).run P w = .ok (.bool (xor neg (a == b))) w ∧ (eqGuard (if neg then .neq else .eql) t ox oy (.bool a) (.bool b)).run P w = .ok () w := by
  refine ⟨?_, by cases neg <;> simp [eqGuard]⟩
  have he : (Op.equal t (.bool a) (.bool b)).run P w = .ok (a == b) w := equal_step (fun d => by simp only [Op.equalIn, Sem.run_bind, r_under w ht, Result.andThen_ok]; rfl)
  cases neg <;> simp only [binOp, Sem.run_bind, he, Result.andThen_ok, if_true, Bool.false_eq_true, if_false] <;> simp

theorem nilEq_sound {P : Program} {μ : Nat → Spot} {n : Nat} {x y x' y' v : Value} {t : TypeId} {d : TypeDesc} {k : NilK} (w : World) (ht : P.underlying t = some d) (hd : nilKOf d = some k) (neg : Bool)
    (hx : VR μ n x x') (hy : VR μ n y y') (h : nilEqV k neg x y = some v) {ox oy : Operand} (hc : (isConst ox || isConst oy) = true) :
    (binOp (if neg then .neq else .eql) t x' y').run P w = .ok v w ∧ VR μ n v v ∧ (eqGuard (if neg then .neq else .eql) t ox oy x' y').run P w = .ok () w := by
  unfold nilEqV at h
  have run : ∀ {a b : Value} {r : Bool}, (∀ op, (binOp op t a b) = match op with | .eql => (do pure (.bool (← Op.equal t a b))) | .neq => (do pure (.bool (!(← Op.equal t a b)))) | _ => binOp op t a b) →
      (∀ d, (Op.equalIn (d + 1) t a b).run P w = .ok r w) → (binOp (if neg then .neq else .eql) t a b).run P w = .ok (.bool (xor neg r)) w := fun {a b r} hb he => by
    cases neg
    · rw [show (if false = true then BinOp.neq else BinOp.eql) = .eql from rfl, hb]
      simp only [Sem.run_bind, equal_step he, Result.andThen_ok]
      simp
    · rw [show (if true = true then BinOp.neq else BinOp.eql) = .neq from rfl, hb]
      simp only [Sem.run_bind, equal_step he, Result.andThen_ok]
      simp
  have hh : ∃ a b, isNil k x = some a ∧ isNil k y = some b ∧ (a || b) = true ∧ v = .bool (xor neg (a && b)) := by
    split at h
    · rename_i a b ha hb
      split at h
      · rename_i hab
        exact ⟨a, b, ha, hb, hab, by simpa using h.symm⟩
      · cases h
    · cases h
  clear h
  obtain ⟨a, b, ha, hb, hab, rfl⟩ := hh
  refine ⟨?_, .bool _, ?_⟩
  · refine run ?_ ?_
    · intro op
      cases k <;> cases hx <;> simp [isNil] at ha <;> cases hy <;> simp [isNil] at hb <;> cases op <;> rfl
    · intro e
      cases k <;> cases d <;> simp [nilKOf] at hd <;> cases hx <;> simp [isNil] at ha <;> cases hy <;> simp [isNil] at hb <;> subst ha <;> subst hb <;> simp at hab <;>
        (simp only [Op.equalIn, Sem.run_bind, r_under w ht, Result.andThen_ok]; simp)
  · have hg : ∀ op : BinOp, (eqGuard op t ox oy x' y').run P w = .ok () w := fun op => by
      have hnil : ∀ o : BinOp, (eqGuard o t ox oy .nilIface .nilIface).run P w = .ok () w := fun o => by
        cases ox <;> cases oy <;> simp [isConst] at hc <;> cases o <;> simp [eqGuard]
      cases k <;> cases hx <;> simp [isNil] at ha <;> cases hy <;> simp [isNil] at hb <;> first | exact hnil op | (cases op <;> simp [eqGuard])
    exact hg _
end Go.Am
