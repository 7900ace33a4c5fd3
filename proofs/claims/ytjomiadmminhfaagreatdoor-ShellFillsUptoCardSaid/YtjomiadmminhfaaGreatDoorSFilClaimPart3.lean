/-
  The operations that look at their operands alone: what the second machine reckons, the first one does.
  The operations that look at their operands alone, each held against the first machine's.
  Slices, lengths; the operations that read the heap.
  The operations that read the heap, each held against the first machine's.
  The operations that turn the heap, each held against the first machine's: what makes new blocks, stores, maps.
  Maps that are written, ranges, growing slices.
  append, copy.
  copy; all the operations that turn the heap; the step of a range.
-/
import Derived.Test.YtjomiadmminhfaaGreatDoorSFilClaimPart1
import Derived.Test.YtjomiadmminhfaaGreatDoorSFilClaimPart2
import Derived.WideLaws
import Derived.Laws.Strings
import Derived.Laws.Tables
import Derived.MapKept
import Derived.Laws.BytesString
import Derived.Laws.StructEq
section
set_option linter.unusedSimpArgs false
set_option linter.unusedVariables false
set_option maxRecDepth 10000
namespace Go.Am
open Go.RowKit (Below)

section runs
variable {P : Program} {t : TypeId} (w : World)
theorem r_under {d : TypeDesc} (h : P.underlying t = some d) : (underlying t).run P w = .ok d w := by simp [underlying, h]
theorem r_info {i : TypeInfo} (h : P.info? t = some i) : (typeInfo t).run P w = .ok i w := by simp [typeInfo, h]
theorem r_size {n : Nat} (h : sizeT P t = some n) : (sizeOf t).run P w = .ok n w := by
  unfold sizeT at h
  cases hi : P.info? t with
  | none => simp [hi] at h
  | some i => simp [hi] at h; simp [sizeOf, r_info w hi, h]
theorem r_agg {b : Bool} (h : aggT P t = some b) : (isAgg t).run P w = .ok b w := by
  unfold aggT at h
  cases hi : P.underlying t with
  | none => simp [hi] at h
  | some d =>
    rw [hi] at h
    cases d <;> simp at h <;> subst h <;> simp [isAgg, r_under w hi]
theorem zeroT_spec {z : Value} (h : zeroT P t = some z) : ∃ i, P.info? t = some i ∧ i.zero = some z ∧ plainV z = true := by
  unfold zeroT at h
  cases hi : P.info? t with
  | none => simp [hi] at h
  | some i =>
    cases hz : i.zero with
    | none => simp [hi, hz] at h
    | some v => simp [hi, hz] at h; exact ⟨i, rfl, by rw [hz, h.2], by rw [← h.2]; exact h.1⟩
theorem r_zero {z : Value} (h : zeroT P t = some z) : (zeroValue t).run P w = .ok z w := by
  obtain ⟨i, h1, h2, _⟩ := zeroT_spec h
  simp [zeroValue, r_info w h1, h2]
end runs

theorem wrapF_eq (k : IntKind) (n : Int) : wrapF k n = k.wrap n := by
  cases k <;> simp only [wrapF] <;> (split <;> try rfl) <;> rename_i h <;> simp only [IntKind.wrap, IntKind.bits, IntKind.signed] <;> simp <;> omega

section inv
variable {μ : Nat → Spot} {n : Nat} {vs : List Value}
theorem VRs.inv0 (h : VRs μ n vs []) : vs = [] := by cases h; rfl
theorem VRs.inv1 {x : Value} (h : VRs μ n vs [x]) : ∃ a, vs = [a] ∧ VR μ n a x := by
  cases h with | cons v _ l _ h hs => obtain rfl := hs.inv0; exact ⟨v, rfl, h⟩
theorem VRs.invc {x : Value} {xs : List Value} (h : VRs μ n vs (x :: xs)) : ∃ a as, vs = a :: as ∧ VR μ n a x ∧ VRs μ n as xs := by
  cases h with | cons v _ l _ h hs => exact ⟨v, l, rfl, h, hs⟩
theorem VRs.inv2 {x y : Value} (h : VRs μ n vs [x, y]) : ∃ a b, vs = [a, b] ∧ VR μ n a x ∧ VR μ n b y := by
  obtain ⟨a, as, rfl, h1, h2⟩ := h.invc
  obtain ⟨b, rfl, h3⟩ := h2.inv1
  exact ⟨a, b, rfl, h1, h3⟩
theorem VRs.inv3 {x y z : Value} (h : VRs μ n vs [x, y, z]) : ∃ a b c, vs = [a, b, c] ∧ VR μ n a x ∧ VR μ n b y ∧ VR μ n c z := by
  obtain ⟨a, as, rfl, h1, h2⟩ := h.invc
  obtain ⟨b, c, rfl, h3, h4⟩ := h2.inv2
  exact ⟨a, b, c, rfl, h1, h3, h4⟩
end inv

theorem binInt_sound {P : Program} {op : BinOp} {k : IntKind} {a b : Int} {v : Value} (w : World) (t : TypeId) (hns : op ≠ .shl ∧ op ≠ .shr) (h : binInt op k a b = some v) : (binOp op t (.int k a) (.int k b)).run P w = .ok v w := by
  cases op <;> simp [binInt, wrapF_eq] at h hns <;> first
    | (subst h; simp [binOp, Op.intArith, Op.intCmp, Op.intBits, Op.intDiv]; done)
    | (obtain ⟨h1, h2⟩ := h; subst h2; simp [binOp, Op.intDiv, h1]; done)

theorem shiftInt_sound {P : Program} {op : BinOp} {k k' : IntKind} {a b : Int} {v : Value} (w : World) (t : TypeId) (hs : op = .shl ∨ op = .shr) (h : shiftInt op k a b = some v) : (binOp op t (.int k a) (.int k' b)).run P w = .ok v w := by
  unfold shiftInt at h
  split at h
  · cases h
  · rename_i hb
    rcases hs with rfl | rfl <;> simp at h <;> subst h <;> simp [binOp, Op.shift, hb] <;> rfl

theorem binStr_sound {P : Program} {op : BinOp} {a b : ByteArray} {v : Value} (w : World) (t : TypeId) (h : binStr op a b = some v) : (binOp op t (.string a) (.string b)).run P w = .ok v w := by
  cases op
  case add =>
    simp [binStr] at h
    have : ¬ ((a.size + b.size : Nat) : Int) > IntKind.i64.max := by show ¬ _ > (9223372036854775807 : Int); omega
    rw [← h.2]
    simp only [binOp, Op.stringOp, if_neg this]; rfl
  all_goals simp only [binStr, Option.some.injEq, reduceCtorEq] at h
  all_goals subst h; simp only [binOp, Op.stringOp, Go.ByteArray.toList_eq]; rfl

theorem binV_sound {P : Program} {μ : Nat → Spot} {n : Nat} {op : BinOp} {x y x' y' v : Value} (w : World) (t : TypeId) (hx : VR μ n x x') (hy : VR μ n y y') (h : binV op x y = some v) (ox oy : Operand) :
    (binOp op t x' y').run P w = .ok v w ∧ VR μ n v v ∧ (eqGuard op t ox oy x' y').run P w = .ok () w := by
  have fin : ∀ {v : Value}, (∃ k i, v = .int k i) ∨ (∃ b, v = .bool b) ∨ (∃ b, v = .string b) → VR μ n v v := fun {v} h => by
    rcases h with ⟨k, i, rfl⟩ | ⟨b, rfl⟩ | ⟨b, rfl⟩ <;> constructor
  unfold binV at h
  split at h
  · rename_i k a k' b
    cases hx; cases hy
    refine ⟨?_, ?_, ?_⟩
    · split at h
      · exact shiftInt_sound w t (Or.inl rfl) h
      · exact shiftInt_sound w t (Or.inr rfl) h
      · rename_i h1 h2
        split at h
        · rename_i hk
          subst hk
          exact binInt_sound w t ⟨fun e => h1 e, fun e => h2 e⟩ h
        · cases h
    · apply fin
      split at h
      · simp only [shiftInt] at h; split at h <;> simp at h; subst h; exact Or.inl ⟨_, _, rfl⟩
      · simp only [shiftInt] at h; split at h <;> simp at h; subst h; exact Or.inl ⟨_, _, rfl⟩
      · split at h
        · cases op <;> simp [binInt] at h <;> first | (subst h; first | exact Or.inl ⟨_, _, rfl⟩ | exact Or.inr (Or.inl ⟨_, rfl⟩)) | (obtain ⟨_, rfl⟩ := h; exact Or.inl ⟨_, _, rfl⟩)
        · cases h
    · cases op <;> simp [eqGuard]
  · rename_i a b
    cases hx; cases hy
    refine ⟨binStr_sound w t h, ?_, ?_⟩
    · apply fin
      cases op <;> simp [binStr] at h <;> first | (subst h; exact Or.inr (Or.inl ⟨_, rfl⟩)) | (obtain ⟨_, rfl⟩ := h; exact Or.inr (Or.inr ⟨_, rfl⟩))
    · cases op <;> simp [eqGuard]
  · cases h

theorem equal_step {P : Program} {w : World} {t : TypeId} {x y : Value} {r : Bool} (h : ∀ d, (Op.equalIn (d + 1) t x y).run P w = .ok r w) : (Op.equal t x y).run P w = .ok r w := h 9999

theorem binB_sound {P : Program} {t : TypeId} (ht : P.underlying t = some .bool) (w : World) (neg a b : Bool) (ox oy : Operand) :
    (binOp (if neg then .neq else .eql) t (.bool a) (.bool b)).run P w = .ok (.bool (xor neg (a == b))) w ∧ (eqGuard (if neg then .neq else .eql) t ox oy (.bool a) (.bool b)).run P w = .ok () w := by
  refine ⟨?_, by cases neg <;> simp [eqGuard]⟩
  have he : (Op.equal t (.bool a) (.bool b)).run P w = .ok (a == b) w := equal_step (fun d => by simp only [Op.equalIn, Sem.run_bind, r_under w ht, Result.andThen_ok]; rfl)
  cases neg <;> simp only [binOp, Sem.run_bind, he, Result.andThen_ok, if_true, Bool.false_eq_true, if_false] <;> simp

theorem nilEq_sound {P : Program} {μ : Nat → Spot} {n : Nat} {x y x' y' v : Value} {t : TypeId} {d : TypeDesc} {k : NilK} (w : World) (ht : P.underlying t = some d) (hd : nilKOf d = some k) (neg : Bool)
    (hx : VR μ n x x') (hy : VR μ n y y') (h : nilEqV k neg x y = some v) {ox oy : Operand} (hc : (isConst ox || isConst oy) = true) :
    (binOp (if neg then .neq else .eql) t x' y').run P w = .ok v w ∧ VR μ n v v ∧ (eqGuard (if neg then .neq else .eql) t ox oy x' y').run P w = .ok () w := by
  unfold nilEqV at h
  have run : ∀ {a b : Value} {r : Bool}, (∀ op, (binOp op t a b) = match op with | .eql => (do pure (.bool (← Op.equal t a b))) | .neq => (do pure (.bool (!(← Op.equal t a b)))) | _ => binOp op t a b) →
      (∀ d, (Op.equalIn (d + 1) t a b).run P w = .ok r w) → (binOp (if neg then .neq else .eql) t a b).run P w = .ok (.bool (xor neg r)) w := fun {a b r} hb he => by
    cases neg
    · rw [show (if false = true then BinOp.neq else BinOp.eql) = .eql from rfl, hb]
      simp only [Sem.run_bind, equal_step he, Result.andThen_ok]
      simp
    · rw [show (if true = true then BinOp.neq else BinOp.eql) = .neq from rfl, hb]
      simp only [Sem.run_bind, equal_step he, Result.andThen_ok]
      simp
  have hh : ∃ a b, isNil k x = some a ∧ isNil k y = some b ∧ (a || b) = true ∧ v = .bool (xor neg (a && b)) := by
    split at h
    · rename_i a b ha hb
      split at h
      · rename_i hab
        exact ⟨a, b, ha, hb, hab, by simpa using h.symm⟩
      · cases h
    · cases h
  clear h
  obtain ⟨a, b, ha, hb, hab, rfl⟩ := hh
  refine ⟨?_, .bool _, ?_⟩
  · refine run ?_ ?_
    · intro op
      cases k <;> cases hx <;> simp [isNil] at ha <;> cases hy <;> simp [isNil] at hb <;> cases op <;> rfl
    · intro e
      cases k <;> cases d <;> simp [nilKOf] at hd <;> cases hx <;> simp [isNil] at ha <;> cases hy <;> simp [isNil] at hb <;> subst ha <;> subst hb <;> simp at hab <;>
        (simp only [Op.equalIn, Sem.run_bind, r_under w ht, Result.andThen_ok]; simp)
  · have hg : ∀ op : BinOp, (eqGuard op t ox oy x' y').run P w = .ok () w := fun op => by
      have hnil : ∀ o : BinOp, (eqGuard o t ox oy .nilIface .nilIface).run P w = .ok () w := fun o => by
        cases ox <;> cases oy <;> simp [isConst] at hc <;> cases o <;> simp [eqGuard]
      cases k <;> cases hx <;> simp [isNil] at ha <;> cases hy <;> simp [isNil] at hb <;> first | exact hnil op | (cases op <;> simp [eqGuard])
    exact hg _
end Go.Am
end
section
set_option linter.unusedSimpArgs false
set_option linter.unusedVariables false
set_option maxRecDepth 10000
namespace Go.Am
open Go.RowKit (Below)

theorem foldl_put : ∀ (l : List Value) (k off : Nat) (cs : Array Value), off + k + l.length ≤ cs.size →
    ((l.zipIdx k).foldl (fun (cs : Array Value) (x : Value × Nat) => cs.setIfInBounds (off + x.2) x.1) cs).toList = lputs cs.toList (off + k) l
  | [], k, off, cs, _ => by simp [lputs]
  | v :: l, k, off, cs, h => by
    simp only [List.length_cons] at h
    rw [List.zipIdx_cons, List.foldl_cons, foldl_put l (k + 1) off _ (by simp; omega)]
    simp only [Array.toList_setIfInBounds, lputs]
    have h1 : (cs.toList.set (off + k) v).take (off + (k + 1)) = cs.toList.take (off + k) ++ [v] := by
      rw [List.take_set]
      rw [show off + (k + 1) = (off + k) + 1 by omega, List.take_succ_eq_append_getElem (by simp; omega)]
      rw [List.set_append_right _ _ (by simp; omega)]
      simp
      rw [show off + k - min (off + k) cs.size = 0 by omega]
      rfl
    have h2 : (cs.toList.set (off + k) v).drop (off + (k + 1) + l.length) = cs.toList.drop (off + k + (v :: l).length) := by
      rw [List.drop_set_of_lt (by omega)]
      congr 1
      simp; omega
    rw [h1, h2]
    simp

theorem fill_sound {μ : Nat → Spot} {n : Nat} {f : Nat → Option (Nat × Nat)} : ∀ (is : List Nat) (ps : List (Nat × Nat)) (vs vs' : List Value) (cells : List Value) (cells' : Array Value) (cs : List Value),
    VRs μ n cells cells'.toList → VRs μ n vs vs' → placesBy f is = some ps → fillL cells ps vs = some cs → ∃ cs', Instr.fill f cells' (is.zip vs') = some cs' ∧ VRs μ n cs cs'.toList
  | [], ps, vs, vs', cells, cells', cs, hc, hv, hp, hf => by
    simp [placesBy] at hp
    subst hp
    cases hv with
    | nil => simp [fillL] at hf; subst hf; exact ⟨cells', by simp [Instr.fill], hc⟩
    | cons => simp [fillL] at hf
  | i :: is, ps, vs, vs', cells, cells', cs, hc, hv, hp, hf => by
    simp only [placesBy] at hp
    cases hfi : f i with
    | none => simp [hfi] at hp
    | some p =>
      cases hps : placesBy f is with
      | none => simp [hfi, hps] at hp
      | some ps' =>
        simp [hfi, hps] at hp
        subst hp
        obtain ⟨off, size⟩ := p
        cases hv with
        | nil => simp [fillL] at hf
        | cons v v' l l' h hs =>
          simp only [fillL] at hf
          split at hf
          · rename_i hcond
            obtain ⟨h1, h2⟩ := hcond
            have hcl := h.cellsOf
            have hl := hcl.length
            have hlc := hc.length
            simp only [Array.length_toList] at hl hlc
            have hput := foldl_put v'.cells.toList 0 off cells' (by simp; omega)
            have hrel : VRs μ n (lputs cells off (cellsOf v)) (lputs cells'.toList off v'.cells.toList) := by
              unfold lputs
              rw [hcl.length]
              exact ((hc.take _).append hcl).append (hc.drop _)
            simp only [Nat.add_zero] at hput
            have heq : (v'.cells.zipIdx.foldl (fun cs x => cs.setIfInBounds (off + x.2) x.1) cells').toList = lputs cells'.toList off v'.cells.toList := by
              rw [← hput, ← Array.foldl_toList, Array.toList_zipIdx]
            obtain ⟨cs', k1, k2⟩ := fill_sound is ps' l l' _ (v'.cells.zipIdx.foldl (fun cs x => cs.setIfInBounds (off + x.2) x.1) cells') cs (by rw [heq]; exact hrel) hs hps hf
            refine ⟨cs', ?_, k2⟩
            simp only [List.zip_cons_cons, Instr.fill, hfi]
            have hno : ¬ (v'.cells.size ≠ size || decide (off + v'.cells.size > cells'.size)) = true := by simp; omega
            rw [if_neg hno]
            exact k1
          · cases hf

/-- the operation, carried out on values that stand for its operands', comes to what p reckons -/
def PSound (P : Program) (μ : Nat → Spot) (n : Nat) (o : Oper) (p : POp) (xs : List Operand) : Prop :=
  ∀ (ρ : Operand → Value) (vs : List Value) (v : Value) (w : World), VRs μ n vs (xs.map ρ) → pop p vs = some v → ∃ v', (execOp ρ o).run P w = .ok (.value v') w ∧ VR μ n v v'

section
variable {P : Program} {μ : Nat → Spot} {n : Nat} {o : Oper}

theorem ps_move {x : Operand} (ho : o.op = .move x ∨ o.op = .assign x) : PSound P μ n o .move [x] := by
  intro ρ vs v w hv hp
  obtain ⟨a, rfl, ha⟩ := hv.inv1
  simp [pop] at hp
  subst hp
  exact ⟨ρ x, by rcases ho with ho | ho <;> simp [execOp, ho], ha⟩

theorem ps_pick {c a a2 : Operand} (ho : o.op = .pick c a a2) : PSound P μ n o .pick [c, a, a2] := by
  intro ρ vs v w hv hp
  obtain ⟨x, y, z, rfl, hx, hy, hz⟩ := hv.inv3
  generalize hc : ρ c = c' at hx
  cases hx <;> simp [pop] at hp
  rename_i b
  subst hp
  refine ⟨if b then ρ a else ρ a2, by cases b <;> simp [execOp, ho, hc, asBool], ?_⟩
  cases b <;> assumption

theorem ps_build {t : TypeId} {parts : Array (Nat × Operand)} {z : Value} {ps : List (Nat × Nat)} (ho : o.op = .build t parts) (ht : (∃ fs, P.underlying t = some (.struct fs)) ∨ ∃ k e, P.underlying t = some (.array k e))
    (hz : zeroT P t = some z) (hp : placesOf P t (parts.toList.map (·.1)) = some ps) : PSound P μ n o (.build (cellsOf z) ps) (parts.toList.map (·.2)) := by
  intro ρ vs v w hv hpop
  obtain ⟨i, hi, hiz, hpl⟩ := zeroT_spec hz
  simp only [pop, Option.map_eq_some_iff] at hpop
  obtain ⟨cs, hcs, rfl⟩ := hpop
  unfold placesOf at hp
  cases hf : placeFn P t with
  | none => simp [hf] at hp
  | some f =>
    simp [hf] at hp
    obtain ⟨cs', k1, k2⟩ := fill_sound _ ps vs _ (cellsOf z) z.cells cs (plainV_rel hpl).cellsOf hv hp hcs
    refine ⟨.agg cs', ?_, .agg _ _ (by simpa using k2)⟩
    have hb : P.built t (parts.map fun (i, x) => (i, ρ x)).toList = some cs' := by
      have hzip : (parts.map fun (i, x) => (i, ρ x)).toList = (parts.toList.map (·.1)).zip ((parts.toList.map (·.2)).map ρ) := by
        rw [Array.toList_map, List.map_map]
        generalize parts.toList = l
        induction l with
        | nil => rfl
        | cons x l ih => simp [ih]
      rw [hzip]
      unfold Program.built
      rcases ht with ⟨fs, ht⟩ | ⟨k, e, ht⟩
      · simp only [placeFn, ht, Option.map_eq_some_iff] at hf
        obtain ⟨places, hpl', rfl⟩ := hf
        simp only [hi, ht, hiz, hpl']
        simpa using k1
      · simp only [placeFn, ht, Option.map_eq_some_iff, sizeT] at hf
        obtain ⟨m, ⟨ie, hie, rfl⟩, rfl⟩ := hf
        simp only [hi, ht, hiz, hie]
        exact k1
    simp only [execOp, ho, Sem.run_bind, run_build w t _ cs' hb, Result.andThen_ok]
    rfl

theorem ps_nilCheck {x : Operand} (ho : o.op = .nilCheck x) : PSound P μ n o .nilCheck [x] := by
  intro ρ vs v w hv hp
  obtain ⟨a, rfl, ha⟩ := hv.inv1
  generalize hx : ρ x = x' at ha
  have := ha
  cases ha <;> simp [pop] at hp
  case ptr i o' h => subst hp; exact ⟨_, by simp [execOp, ho, hx], this⟩
  case iface t v1 v1' h => subst hp; exact ⟨_, by simp [execOp, ho, hx], this⟩
  case func fn f1 c1 f2 c2 h1 h2 =>
    cases fn <;> simp at hp
    subst hp
    exact ⟨_, by simp [execOp, ho, hx], this⟩

theorem ps_bin {op : BinOp} {t t2 : TypeId} {x y : Operand} (ho : o.op = .binOp op t x y t2) : PSound P μ n o (.bin op) [x, y] := by
  intro ρ vs v w hv hp
  obtain ⟨a, b, rfl, ha, hb⟩ := hv.inv2
  obtain ⟨h1, h2, h3⟩ := binV_sound (P := P) w t ha hb (by simpa [pop] using hp) x y
  exact ⟨v, by simp [execOp, ho, h1, h3], h2⟩

theorem ps_binB {neg : Bool} {t t2 : TypeId} {x y : Operand} (ht : P.underlying t = some .bool) (ho : o.op = .binOp (if neg then .neq else .eql) t x y t2) : PSound P μ n o (.binB neg) [x, y] := by
  intro ρ vs v w hv hp
  obtain ⟨a, b, rfl, ha, hb⟩ := hv.inv2
  generalize hx : ρ x = x' at ha
  generalize hy : ρ y = y' at hb
  cases ha <;> cases hb <;> simp [pop] at hp
  rename_i b1 b2
  subst hp
  obtain ⟨h1, h2⟩ := binB_sound ht w neg b1 b2 x y
  exact ⟨_, by simp only [execOp, ho, hx, hy, Sem.run_bind, h1, h2, Result.andThen_ok]; rfl, .bool _⟩

theorem ps_nilEq {neg : Bool} {t t2 : TypeId} {x y : Operand} {d : TypeDesc} {k : NilK} (ht : P.underlying t = some d) (hd : nilKOf d = some k) (hc : (isConst x || isConst y) = true) (ho : o.op = .binOp (if neg then .neq else .eql) t x y t2) :
    PSound P μ n o (.nilEq k neg) [x, y] := by
  intro ρ vs v w hv hp
  obtain ⟨a, b, rfl, ha, hb⟩ := hv.inv2
  obtain ⟨h1, h2, h3⟩ := nilEq_sound w ht hd neg ha hb (by simpa [pop] using hp) hc
  exact ⟨_, by simp only [execOp, ho, Sem.run_bind, h1, h3, Result.andThen_ok]; rfl, h2⟩

theorem ps_un {op : UnOp} {t : TypeId} {x : Operand} (ho : o.op = .unOp op t x) : PSound P μ n o (.un op) [x] := by
  intro ρ vs v w hv hp
  obtain ⟨a, rfl, ha⟩ := hv.inv1
  generalize hx : ρ x = x' at ha
  simp only [pop] at hp
  cases ha <;> cases op <;> simp only [unV, wrapF_eq, Option.some.injEq, reduceCtorEq] at hp <;> subst hp <;> refine ⟨_, ?_, by first | exact .int _ _ | exact .bool _⟩ <;>
    simp only [execOp, ho, hx, Op.unary, Op.intArith, Op.intBits, Sem.run_bind, Sem.run_pure, Result.andThen_ok]

theorem ps_convInt {k : IntKind} {s t : TypeId} {x : Operand} {ks : IntKind} (hs : P.underlying s = some (.int ks)) (ht : P.underlying t = some (.int k)) (ho : o.op = .convert s t x) : PSound P μ n o (.convInt k) [x] := by
  intro ρ vs v w hv hp
  obtain ⟨a, rfl, ha⟩ := hv.inv1
  generalize hx : ρ x = x' at ha
  cases ha <;> simp [pop, wrapF_eq] at hp
  subst hp
  exact ⟨_, by simp [execOp, ho, hx, convert, r_under w hs, r_under w ht, Conv.intToInt], .int _ _⟩

theorem ps_mkIface {t : TypeId} {x : Operand} {d : TypeDesc} (ht : P.underlying t = some d) (hd : ∀ ms, d ≠ .interface ms) (ho : o.op = .makeInterface t x) : PSound P μ n o (.mkIface t) [x] := by
  intro ρ vs v w hv hp
  obtain ⟨a, rfl, ha⟩ := hv.inv1
  simp [pop] at hp
  subst hp
  refine ⟨_, ?_, .iface _ _ _ ha⟩
  cases d <;> first | exact absurd rfl (hd _) | (simp [execOp, ho, Instr.makeInterface, r_under w ht])

theorem ps_mkFunc {fn : Fn} {first captured : Array Operand} (ho : o.op = .makeFunc fn first captured) : PSound P μ n o (.mkFunc fn first.size) (first.toList ++ captured.toList) := by
  intro ρ vs v w hv hp
  simp [pop] at hp
  subst hp
  have h1 := hv.take first.size
  have h2 := hv.drop first.size
  simp only [List.map_append] at h1 h2
  rw [show (List.map ρ first.toList ++ List.map ρ captured.toList).take first.size = List.map ρ first.toList by rw [List.take_append_of_le_length (by simp)]; exact List.take_of_length_le (by simp)] at h1
  rw [show (List.map ρ first.toList ++ List.map ρ captured.toList).drop first.size = List.map ρ captured.toList by rw [List.drop_append_of_le_length (by simp), List.drop_of_length_le (by simp), List.nil_append]] at h2
  exact ⟨.func fn (first.map ρ) (captured.map ρ), by simp [execOp, ho, Instr.makeFunc], .func _ _ _ _ _ (by simpa using h1) (by simpa using h2)⟩

theorem add_rel {i k : Nat} (h : i < n) {o' : Nat} : VR μ n (.pointer (some (addA ⟨i, o', none⟩ k))) (.pointer (some ((⟨(μ i).block, (μ i).base + o', none⟩ : Addr).add k))) := by
  unfold addA Addr.add
  split
  · exact .ptr _ _ h
  · simp only []
    rw [show (μ i).base + o' + k = (μ i).base + (o' + k) by omega]
    exact .ptr _ _ h

theorem ps_fieldAddr {t : TypeId} {x : Operand} {f : Nat} {fields : Array Field} {fd : Field} {m : Nat} (ht : P.underlying t = some (.struct fields)) (hf : fields[f]? = some fd) (hm : sizeT P fd.type = some (m + 1)) (ho : o.op = .fieldAddr t x f) :
    PSound P μ n o (.fieldAddr fd.offset) [x] := by
  intro ρ vs v w hv hp
  obtain ⟨a, rfl, ha⟩ := hv.inv1
  generalize hx : ρ x = x' at ha
  cases ha <;> simp [pop] at hp
  rename_i i o' h
  subst hp
  refine ⟨_, ?_, add_rel h⟩
  simp [execOp, ho, hx, Instr.fieldAt, r_under w ht, hf, Instr.sureAddr, fieldPlace, r_size w hm]

theorem part_sound {t : TypeId} {b : Bool} {m off : Nat} {cs : Array Value} {l : List Value} {v : Value} (w : World) (hb : aggT P t = some b) (hm : sizeT P t = some m) (hl : VRs μ n l cs.toList)
    (h : (if b then some (.agg ((l.drop off).take m).toArray) else l[off]?) = some v) : ∃ v', (part t cs off).run P w = .ok v' w ∧ VR μ n v v' := by
  cases b
  · simp at h
    obtain ⟨v', h1, h2⟩ := hl.get h
    refine ⟨v', ?_, h2⟩
    have h3 : cs[off]? = some v' := by simpa using h1
    simp [part, r_agg w hb, h3]
  · simp at h
    subst h
    refine ⟨.agg (cs.extract off (off + m)), by simp [part, r_agg w hb, r_size w hm], .agg _ _ ?_⟩
    have := (hl.drop off).take m
    simp only [Array.toList_extract, List.extract_eq_take_drop]
    rw [show off + m - off = m by omega]
    exact this

theorem ps_field {t : TypeId} {x : Operand} {f : Nat} {fields : Array Field} {fd : Field} {m : Nat} {b : Bool} (ht : P.underlying t = some (.struct fields)) (hf : fields[f]? = some fd) (hb : aggT P fd.type = some b) (hm : sizeT P fd.type = some m) (ho : o.op = .field t x f) :
    PSound P μ n o (.field b fd.offset m) [x] := by
  intro ρ vs v w hv hp
  obtain ⟨a, rfl, ha⟩ := hv.inv1
  generalize hx : ρ x = x' at ha
  cases ha <;> (try (cases b <;> simp [pop] at hp; done))
  rename_i cs cs' h
  have h' : (if b then some (.agg ((cs.toList.drop fd.offset).take m).toArray) else cs.toList[fd.offset]?) = some v := by cases b <;> simpa [pop] using hp
  obtain ⟨v', h1, h2⟩ := part_sound (P := P) w hb hm h h'
  exact ⟨v', by simp [execOp, ho, hx, Instr.field, r_under w ht, hf, asAgg, h1], h2⟩

theorem ps_indexAddr {t e : TypeId} {x i : Operand} {m : Nat} (ht : P.underlying t = some (.slice e)) (hm : sizeT P e = some m) (ho : o.op = .indexAddr t x i) : PSound P μ n o (.indexAddr m) [x, i] := by
  intro ρ vs v w hv hp
  obtain ⟨a, b, rfl, ha, hb⟩ := hv.inv2
  generalize hx : ρ x = x' at ha
  generalize hy : ρ i = y' at hb
  cases ha <;> cases hb <;> simp [pop] at hp
  case void.int => exact absurd hp.1 (by omega)
  rename_i j o1 o2 len cap cap' h h0 h1 h2 h3 h4 h5 k q
  obtain ⟨⟨hq1, hq2⟩, rfl⟩ := hp
  have hoo := h3 (Or.inl (by omega))
  subst hoo
  refine ⟨_, ?_, add_rel h⟩
  simp [execOp, ho, hx, hy, Instr.indexAt, asIntOf, r_under w ht, hq1, hq2, r_size w hm]

theorem ps_indexAddrArr {t e : TypeId} {x i : Operand} {m len : Nat} (ht : P.underlying t = some (.array len e)) (hm : sizeT P e = some m) (ho : o.op = .indexAddr t x i) : PSound P μ n o (.indexAddrArr len m) [x, i] := by
  intro ρ vs v w hv hp
  obtain ⟨a, b, rfl, ha, hb⟩ := hv.inv2
  generalize hx : ρ x = x' at ha
  generalize hy : ρ i = y' at hb
  cases ha <;> cases hb <;> simp [pop] at hp
  rename_i j o1 h k q
  obtain ⟨⟨hq1, hq2⟩, rfl⟩ := hp
  refine ⟨_, ?_, add_rel h⟩
  simp [execOp, ho, hx, hy, Instr.indexAt, asIntOf, r_under w ht, hq1, hq2, r_size w hm, Instr.sureAddr]

theorem ps_indexStr {t : TypeId} {x i : Operand} (ht : P.underlying t = some .string) (ho : o.op = .index t x i) : PSound P μ n o .indexStr [x, i] := by
  intro ρ vs v w hv hp
  obtain ⟨a, b, rfl, ha, hb⟩ := hv.inv2
  generalize hx : ρ x = x' at ha
  generalize hy : ρ i = y' at hb
  cases ha <;> cases hb <;> simp [pop] at hp
  rename_i s k q
  obtain ⟨hq, c, hc, rfl⟩ := hp
  refine ⟨_, ?_, .int _ _⟩
  have hg : s[q.toNat]? = some c := by
    rw [show s[q.toNat]? = s.data[q.toNat]? from ?_]
    · simpa using hc
    · rfl
  simp [execOp, ho, hx, hy, Instr.index, asIntOf, r_under w ht, hq, hg]

theorem ps_indexArr {t e : TypeId} {x i : Operand} {m len : Nat} {b : Bool} (ht : P.underlying t = some (.array len e)) (hb : aggT P e = some b) (hm : sizeT P e = some m) (ho : o.op = .index t x i) : PSound P μ n o (.indexArr len m b) [x, i] := by
  intro ρ vs v w hv hp
  obtain ⟨a, c, rfl, ha, hc⟩ := hv.inv2
  generalize hx : ρ x = x' at ha
  generalize hy : ρ i = y' at hc
  cases ha <;> cases hc <;> simp only [pop] at hp <;> (try (cases hp; done))
  rename_i cs cs' h k q
  split at hp
  · rename_i hq
    obtain ⟨v', h1, h2⟩ := part_sound (P := P) w hb hm h hp
    exact ⟨v', by simp [execOp, ho, hx, hy, Instr.index, asIntOf, r_under w ht, hq.1, hq.2, r_size w hm, h1], h2⟩
  · cases hp

theorem ps_extract {x : Operand} {i : Nat} (ho : o.op = .extract x i) : PSound P μ n o (.extract i) [x] := by
  intro ρ vs v w hv hp
  obtain ⟨a, rfl, ha⟩ := hv.inv1
  generalize hx : ρ x = x' at ha
  cases ha <;> simp [pop] at hp
  rename_i l l' h
  obtain ⟨v', h1, h2⟩ := h.get (j := i) (v := v) (by simpa using hp)
  have h3 : l'[i]? = some v' := by simpa using h1
  exact ⟨v', by simp [execOp, ho, hx, Instr.extract, h3], h2⟩

theorem ps_assertT {t tx : TypeId} {x : Operand} {z : Value} {ok : Bool} {d : TypeDesc} (ht : P.underlying t = some d) (hd : ∀ ms, d ≠ .interface ms) (hz : zeroT P t = some z) (ho : o.op = .typeAssert x tx t ok) : PSound P μ n o (.assertT t z ok) [x] := by
  intro ρ vs v w hv hp
  obtain ⟨a, rfl, ha⟩ := hv.inv1
  generalize hx : ρ x = x' at ha
  have hzr : VR μ n z z := plainV_rel (zeroT_spec hz).choose_spec.2.2
  cases ha <;> (try (cases ok <;> simp [pop] at hp; done))
  case iface u v1 v1' h =>
    simp only [pop] at hp
    by_cases hu : u = t
    · subst hu
      simp at hp
      subst hp
      refine ⟨if ok then .tuple #[v1', .bool true] else v1', ?_, ?_⟩
      · cases d <;> first | exact absurd rfl (hd _) | (cases ok <;> simp [execOp, ho, hx, Instr.typeAssert, r_under w ht])
      · cases ok
        · exact h
        · exact .tuple _ _ (.cons _ _ _ _ h (.cons _ _ _ _ (.bool _) .nil))
    · cases ok <;> simp [hu] at hp
      subst hp
      refine ⟨.tuple #[z, .bool false], ?_, .tuple _ _ (.cons _ _ _ _ hzr (.cons _ _ _ _ (.bool _) .nil))⟩
      cases d <;> first | exact absurd rfl (hd _) | simp [execOp, ho, hx, Instr.typeAssert, r_under w ht, hu, r_zero w hz]
  case nilIface =>
    cases ok <;> simp [pop] at hp
    subst hp
    refine ⟨.tuple #[z, .bool false], ?_, .tuple _ _ (.cons _ _ _ _ hzr (.cons _ _ _ _ (.bool _) .nil))⟩
    cases d <;> first | exact absurd rfl (hd _) | simp [execOp, ho, hx, Instr.typeAssert, r_under w ht, r_zero w hz]

end
end Go.Am
end
section
set_option linter.unusedSimpArgs false
set_option linter.unusedVariables false
set_option maxRecDepth 10000
namespace Go.Am
open Go.RowKit (Below)

section
variable {P : Program} {μ : Nat → Spot} {n : Nat} {o : Oper}

theorem bound_sound {lo hi hi' k : Nat} {v v' : Value} (w : World) (hv : VR μ n v v') (h : bound lo hi v = some k) (hh : hi ≤ hi') (code : BoundsCode) : (Instr.sliceBound v' hi' code).run P w = .ok k w ∧ k ≤ hi := by
  unfold bound at h
  split at h
  · rename_i q i
    cases hv
    split at h
    · rename_i hc
      simp at h
      subst h
      exact ⟨by have h0 : 0 ≤ i := by omega
                have h1 : i ≤ (hi' : Int) := by omega
                simp [Instr.sliceBound, asIntOf, h0, h1], by omega⟩
    · cases h
  · cases h

theorem bounds_sound {len cap cap' l h : Nat} {lo hi : Option Operand} {ρ : Operand → Value} {vs : List Value} (w : World) (isS : Bool) (hv : VRs μ n vs ((lo.toList ++ hi.toList).map ρ)) (hlen : len ≤ cap) (hcap : cap ≤ cap')
    (hb : bounds len cap lo.isSome hi.isSome vs = some (l, h)) : (Instr.sliceBounds isS len cap' (lo.map ρ) (hi.map ρ) none).run P w = .ok (l, h, cap') w ∧ l ≤ h ∧ h ≤ cap := by
  cases lo with
  | none =>
    cases hi with
    | none =>
      obtain rfl := hv.inv0
      simp [bounds] at hb
      obtain ⟨rfl, rfl⟩ := hb
      exact ⟨by simp [Instr.sliceBounds], by omega, hlen⟩
    | some b =>
      obtain ⟨x, rfl, hx⟩ := hv.inv1
      simp [bounds] at hb
      obtain ⟨h1, h2, rfl⟩ := hb
      obtain ⟨h3, h4⟩ := bound_sound (P := P) w hx h1 hcap (if isS then .sliceAcap else .sliceAlen)
      exact ⟨by simp [Instr.sliceBounds, h3], by omega, h4⟩
  | some a =>
    cases hi with
    | none =>
      obtain ⟨x, rfl, hx⟩ := hv.inv1
      simp [bounds] at hb
      obtain ⟨q, h1, rfl, rfl⟩ := hb
      obtain ⟨h3, h4⟩ := bound_sound (P := P) w hx h1 (Nat.le_refl _) .sliceB
      exact ⟨by simp [Instr.sliceBounds, h3], h4, hlen⟩
    | some b =>
      obtain ⟨x, y, rfl, hx, hy⟩ := hv.inv2
      simp only [bounds, Option.isSome_some, Option.bind_eq_some_iff, Option.map_eq_some_iff, Prod.mk.injEq] at hb
      obtain ⟨k, h1, q, h2, rfl, rfl⟩ := hb
      obtain ⟨h3, h4⟩ := bound_sound (P := P) w hy h1 hcap (if isS then .sliceAcap else .sliceAlen)
      obtain ⟨h5, h6⟩ := bound_sound (P := P) w hx h2 (Nat.le_refl _) .sliceB
      exact ⟨by simp [Instr.sliceBounds, h3, h5], h6, h4⟩

theorem ps_slStr {t : TypeId} {x : Operand} {lo hi : Option Operand} (ht : P.underlying t = some .string) (ho : o.op = .slice t x lo hi none) : PSound P μ n o (.slStr lo.isSome hi.isSome) (x :: (lo.toList ++ hi.toList)) := by
  intro ρ vs v w hv hp
  obtain ⟨a, as, rfl, ha, has⟩ := hv.invc
  generalize hx : ρ x = x' at ha
  cases ha <;> simp [pop] at hp
  rename_i s
  obtain ⟨l, h, hb, rfl⟩ := hp
  obtain ⟨h1, h2, h3⟩ := bounds_sound (P := P) w false has (Nat.le_refl _) (Nat.le_refl _) hb
  exact ⟨_, by simp [execOp, ho, hx, Instr.sliceAt, Instr.slice, r_under w ht, h1], .string _⟩

theorem call_eq {b : Builtin} {ts : List TypeId} {xs : List Operand} {c : Call} (h1 : c.callee = .builtin b) (h2 : c.argTypes.toList = ts) (h3 : c.args.toList = xs) : c = { callee := .builtin b, args := xs.toArray, argTypes := ts.toArray } := by
  cases c
  simp at h1 h2 h3
  subst h1; subst h2; subst h3
  simp

theorem ps_lenStr {t : TypeId} {x : Operand} (ht : P.underlying t = some .string) (ho : o.op = .call { callee := .builtin .len, args := #[x], argTypes := #[t] }) : PSound P μ n o .lenStr [x] := by
  intro ρ vs v w hv hp
  obtain ⟨a, rfl, ha⟩ := hv.inv1
  generalize hx : ρ x = x' at ha
  cases ha <;> simp [pop] at hp
  subst hp
  exact ⟨_, by simp [execOp, ho, resolve, invoke, builtin, Builtin.len_, hx, r_under w ht, goInt], .int _ _⟩

theorem ps_lenSl {t e : TypeId} {x : Operand} (ht : P.underlying t = some (.slice e)) (ho : o.op = .call { callee := .builtin .len, args := #[x], argTypes := #[t] }) : PSound P μ n o .lenSl [x] := by
  intro ρ vs v w hv hp
  obtain ⟨a, rfl, ha⟩ := hv.inv1
  generalize hx : ρ x = x' at ha
  cases ha <;> simp [pop] at hp
  all_goals subst hp
  · exact ⟨_, by simp [execOp, ho, resolve, invoke, builtin, Builtin.len_, hx, r_under w ht, goInt], .int _ _⟩
  · exact ⟨_, by simp [execOp, ho, resolve, invoke, builtin, Builtin.len_, hx, r_under w ht, goInt], .int _ _⟩
  · exact ⟨_, by simp [execOp, ho, resolve, invoke, builtin, Builtin.len_, hx, r_under w ht, goInt], .int _ _⟩

theorem ps_lenArr {t e : TypeId} {k : Nat} {x : Operand} (ht : P.underlying t = some (.array k e)) (ho : o.op = .call { callee := .builtin .len, args := #[x], argTypes := #[t] }) : PSound P μ n o (.lenArr k) [x] := by
  intro ρ vs v w hv hp
  simp [pop] at hp
  subst hp
  exact ⟨_, by simp [execOp, ho, resolve, invoke, builtin, Builtin.len_, r_under w ht, goInt], .int _ _⟩

theorem VRs.int2 {k k' : IntKind} {a b : Int} {l : List Value} (h : VRs μ n [.int k a, .int k' b] l) : l = [.int k a, .int k' b] := by
  cases h with | cons _ x _ l h hs => cases hs with | cons _ y _ l h2 hs => cases hs; cases h; cases h2; rfl
theorem VRs.int3 {k k' k'' : IntKind} {a b c : Int} {l : List Value} (h : VRs μ n [.int k a, .int k' b, .int k'' c] l) : l = [.int k a, .int k' b, .int k'' c] := by
  cases h with | cons _ x _ l h hs => cases h; rw [hs.int2]

theorem ps_min {ts : Array TypeId} {xs : List Operand} (ho : o.op = .call { callee := .builtin .min, args := xs.toArray, argTypes := ts }) : PSound P μ n o .min xs := by
  intro ρ vs v w hv hp
  have hr : (execOp ρ o).run P w = ((Builtin.min_ ts o.type (xs.map ρ).toArray).run P w).andThen fun v w' => .ok (.value v) w' := by
    simp [execOp, ho, resolve, invoke, builtin]
  simp only [pop] at hp
  unfold minV at hp
  split at hp <;> simp at hp <;> subst hp
  · rw [hr, hv.int2]; exact ⟨_, by simp [Builtin.min_, Builtin.min2], .int _ _⟩
  · rw [hr, hv.int3]; exact ⟨_, by simp [Builtin.min_, Builtin.min2], .int _ _⟩
theorem ps_max {ts : Array TypeId} {xs : List Operand} (ho : o.op = .call { callee := .builtin .max, args := xs.toArray, argTypes := ts }) : PSound P μ n o .max xs := by
  intro ρ vs v w hv hp
  have hr : (execOp ρ o).run P w = ((Builtin.max_ ts o.type (xs.map ρ).toArray).run P w).andThen fun v w' => .ok (.value v) w' := by
    simp [execOp, ho, resolve, invoke, builtin]
  simp only [pop] at hp
  unfold maxV at hp
  split at hp <;> simp at hp <;> subst hp
  · rw [hr, hv.int2]; exact ⟨_, by simp [Builtin.max_, Builtin.max2], .int _ _⟩
  · rw [hr, hv.int3]; exact ⟨_, by simp [Builtin.max_, Builtin.max2], .int _ _⟩

/-! ### what compOp gives -/
theorem argsToArray (l : List Operand) : ∀ {a : Array Operand}, a.toList = l → a = l.toArray := fun h => by rw [← h]

theorem pop_sound {p : POp} {xs : List Operand} (hc : compOp P o.op = some (.p p, xs)) : PSound P μ n o p xs := by
  cases ho : o.op with
  | move x => simp [ho, compOp] at hc; obtain ⟨rfl, rfl⟩ := hc; exact ps_move (.inl ho)
  | assign x => simp [ho, compOp] at hc; obtain ⟨rfl, rfl⟩ := hc; exact ps_move (.inr ho)
  | pick c a b => simp [ho, compOp] at hc; obtain ⟨rfl, rfl⟩ := hc; exact ps_pick ho
  | build t parts =>
    simp only [ho, compOp] at hc
    split at hc <;> first | (cases hc; done) | skip
    · rename_i fs ht
      simp only [Option.bind_eq_some_iff, Option.map_eq_some_iff, Prod.mk.injEq, AOp.p.injEq] at hc
      obtain ⟨z, hz, ps, hps, rfl, rfl⟩ := hc
      exact ps_build ho (.inl ⟨_, ht⟩) hz hps
    · rename_i k e ht
      simp only [Option.bind_eq_some_iff, Option.map_eq_some_iff, Prod.mk.injEq, AOp.p.injEq] at hc
      obtain ⟨z, hz, ps, hps, rfl, rfl⟩ := hc
      exact ps_build ho (.inr ⟨_, _, ht⟩) hz hps
  | nilCheck x => simp [ho, compOp] at hc; obtain ⟨rfl, rfl⟩ := hc; exact ps_nilCheck ho
  | binOp op t x y t2 =>
    simp only [ho, compOp] at hc
    split at hc
    · simp at hc; obtain ⟨rfl, rfl⟩ := hc; exact ps_bin ho
    · simp at hc; obtain ⟨rfl, rfl⟩ := hc; exact ps_bin ho
    · rename_i ht
      split at hc <;> simp at hc <;> obtain ⟨rfl, rfl⟩ := hc
      · exact ps_binB (neg := false) ht ho
      · exact ps_binB (neg := true) ht ho
    · rename_i d _ _ _ ht
      split at hc
      · rename_i k hk
        split at hc
        · rename_i hcst
          split at hc <;> simp at hc <;> obtain ⟨rfl, rfl⟩ := hc
          · exact ps_nilEq (neg := false) ht hk hcst ho
          · exact ps_nilEq (neg := true) ht hk hcst ho
        · cases hc
      · cases hc
    · cases hc
  | unOp op t x => simp [ho, compOp] at hc; obtain ⟨rfl, rfl⟩ := hc; exact ps_un ho
  | convert s t x =>
    simp only [ho, compOp] at hc
    split at hc
    · rename_i h1 h2; simp at hc; obtain ⟨rfl, rfl⟩ := hc; exact ps_convInt h1 h2 ho
    · split at hc <;> simp at hc
    · split at hc <;> simp at hc
    · cases hc
  | makeInterface t x =>
    simp only [ho, compOp] at hc
    split at hc <;> first | (cases hc; done) | skip
    rename_i d hd ht
    simp at hc
    obtain ⟨rfl, rfl⟩ := hc
    exact ps_mkIface ht (fun ms e => hd ms e) ho
  | makeFunc fn first captured => simp [ho, compOp] at hc; obtain ⟨rfl, rfl⟩ := hc; exact ps_mkFunc ho
  | slice t x lo hi mx =>
    simp only [ho, compOp] at hc
    split at hc
    · rename_i ht; simp at hc; obtain ⟨rfl, rfl⟩ := hc; exact ps_slStr ht ho
    · simp at hc
    · simp at hc
    · split at hc <;> simp at hc
    · cases hc
  | fieldAddr t x f =>
    simp only [ho, compOp] at hc
    split at hc
    · rename_i fields ht
      split at hc
      · rename_i fd hf
        split at hc
        · rename_i m hm; simp at hc; obtain ⟨rfl, rfl⟩ := hc; exact ps_fieldAddr ht hf hm ho
        · cases hc
      · cases hc
    · cases hc
  | field t x f =>
    simp only [ho, compOp] at hc
    split at hc
    · rename_i fields ht
      split at hc
      · rename_i fd hf
        simp only [Option.bind_eq_some_iff, Option.map_eq_some_iff, Prod.mk.injEq, AOp.p.injEq] at hc
        obtain ⟨b, hb, m, hm, rfl, rfl⟩ := hc
        exact ps_field ht hf hb hm ho
      · cases hc
    · cases hc
  | indexAddr t x i =>
    simp only [ho, compOp] at hc
    split at hc
    · rename_i k e ht
      simp at hc; obtain ⟨m, hm, rfl, rfl⟩ := hc; exact ps_indexAddrArr ht hm ho
    · rename_i e ht
      simp at hc; obtain ⟨m, hm, rfl, rfl⟩ := hc; exact ps_indexAddr ht hm ho
    · cases hc
  | index t x i =>
    simp only [ho, compOp] at hc
    split at hc
    · rename_i ht; simp at hc; obtain ⟨rfl, rfl⟩ := hc; exact ps_indexStr ht ho
    · rename_i k e ht
      simp only [Option.bind_eq_some_iff, Option.map_eq_some_iff, Prod.mk.injEq, AOp.p.injEq] at hc
      obtain ⟨b, hb, m, hm, rfl, rfl⟩ := hc
      exact ps_indexArr ht hb hm ho
    · cases hc
  | typeAssert x tx t ok =>
    simp only [ho, compOp] at hc
    split at hc <;> first | (cases hc; done) | skip
    rename_i d hd ht
    simp at hc
    obtain ⟨z, hz, rfl, rfl⟩ := hc
    exact ps_assertT ht (fun ms e => hd ms e) hz ho
  | extract x i => simp [ho, compOp] at hc; obtain ⟨rfl, rfl⟩ := hc; exact ps_extract ho
  | call c =>
    simp only [ho, compOp, compCall] at hc
    split at hc
    · simp at hc
    · simp at hc
    · simp at hc
    · rename_i b hb
      split at hc
      · rename_i t x h2 h3
        have hcall := call_eq hb h2 h3
        rw [hcall] at ho
        split at hc
        · rename_i ht; simp at hc; obtain ⟨rfl, rfl⟩ := hc; exact ps_lenStr ht (by simpa using ho)
        · rename_i ht; simp at hc; obtain ⟨rfl, rfl⟩ := hc; exact ps_lenSl ht (by simpa using ho)
        · simp at hc
        · rename_i ht; simp at hc; obtain ⟨rfl, rfl⟩ := hc; exact ps_lenArr ht (by simpa using ho)
        · cases hc
      · split at hc
        · simp only [Option.bind_eq_some_iff] at hc
          obtain ⟨_, _, _, _, _, _, hc⟩ := hc
          split at hc <;> simp at hc
        · simp only [Option.bind_eq_some_iff] at hc
          obtain ⟨_, _, _, _, _, _, hc⟩ := hc
          split at hc <;> simp at hc
        · cases hc
      · split at hc
        · simp at hc
        · cases hc
      · split at hc
        · simp at hc
        · cases hc
      · simp at hc; obtain ⟨rfl, rfl⟩ := hc
        have hcall := call_eq hb rfl rfl
        rw [hcall] at ho
        exact ps_min ho
      · simp at hc; obtain ⟨rfl, rfl⟩ := hc
        have hcall := call_eq hb rfl rfl
        rw [hcall] at ho
        exact ps_max ho
      · cases hc
  | buildSlice t len parts =>
    simp only [ho, compOp] at hc
    split at hc
    · simp only [Option.bind_eq_some_iff] at hc
      obtain ⟨_, _, _, _, _, _, hc⟩ := hc
      split at hc <;> simp at hc
    · cases hc
  | load t a =>
    simp only [ho, compOp, Option.bind_eq_some_iff] at hc
    obtain ⟨b, _, hc⟩ := hc
    cases b <;> simp at hc
  | alloc e =>
    simp only [ho, compOp, Option.bind_eq_some_iff] at hc
    obtain ⟨z, _, hc⟩ := hc
    split at hc <;> simp at hc
  | makeSlice t l c =>
    simp only [ho, compOp] at hc
    split at hc
    · simp only [Option.bind_eq_some_iff] at hc
      obtain ⟨_, _, _, _, _, _, hc⟩ := hc
      split at hc <;> simp at hc
    · cases hc
  | makeMap t r => cases r <;> simp [ho, compOp] at hc
  | lookup t x i ok =>
    simp only [ho, compOp] at hc
    split at hc
    · simp only [Option.bind_eq_some_iff, Option.map_eq_some_iff, Prod.mk.injEq, reduceCtorEq, false_and, and_false, exists_false] at hc
    · cases hc
  | mapUpdate t m k x =>
    simp only [ho, compOp] at hc
    split at hc
    · simp at hc
    · cases hc
  | insert t m k x =>
    simp only [ho, compOp] at hc
    split at hc
    · simp at hc
    · cases hc
  | range t x =>
    simp only [ho, compOp] at hc
    split at hc <;> simp at hc
  | _ => simp [ho, compOp] at hc

end
end Go.Am
end
section
set_option linter.unusedSimpArgs false
set_option linter.unusedVariables false
set_option maxRecDepth 10000
namespace Go.Am
open Go.RowKit (Below)

variable {P : Program} {B0 : Nat} {W0 : World} {μ : Nat → Spot} {s : St} {w : World} {o : Oper}

def RSound (P : Program) (B0 : Nat) (W0 : World) (μ : Nat → Spot) (s : St) (w : World) (o : Oper) (r : ROp) (xs : List Operand) : Prop :=
  ∀ (ρ : Operand → Value) (vs : List Value) (v : Value), Rel B0 W0 μ s w → VRs μ s.next vs (xs.map ρ) → rop r vs s = some v → ∃ v', (execOp ρ o).run P w = .ok (.value v') w ∧ VR μ s.next v v'

theorem add_eq (b o k : Nat) : (⟨b, o, none⟩ : Addr).add k = ⟨b, o + k, none⟩ := by unfold Addr.add; split <;> simp_all

theorem cells_rel (h : Rel B0 W0 μ s w) {i off k : Nat} {l : List Value} (hc : s.cells ⟨i, off, none⟩ k = some l) :
    ∃ l', l'.length = k ∧ VRs μ s.next l l' ∧ ∀ (j : Nat) (v : Value), l'[j]? = some v → w.cell? ((⟨(μ i).block, (μ i).base + off, none⟩ : Addr).add j) = some v := by
  unfold St.cells at hc
  simp only at hc
  split at hc
  · rename_i cs g ro hi
    split at hc
    · rename_i hlen
      simp at hc
      subst hc
      have hid := (h.known i _ hi).2.2
      have hcell : ∀ j, j < k → ∃ v v', cs[off + j]? = some v ∧ w.cell? ⟨(μ i).block, (μ i).base + off + j, none⟩ = some v' ∧ VR μ s.next v v' := fun j hj => by
        have hlt : off + j < cs.length := by omega
        obtain ⟨v', h1, h2⟩ := hid.cellAt (List.getElem?_eq_getElem hlt)
        exact ⟨_, v', List.getElem?_eq_getElem hlt, by rw [Nat.add_assoc]; exact h1, h2⟩
      refine ⟨(List.range k).map fun j => (w.cell? ⟨(μ i).block, (μ i).base + off + j, none⟩).getD undef, by simp, ?_, ?_⟩
      · refine VRs.of_get (by simp; omega) fun j v hj => ?_
        simp only [List.getElem?_take, List.getElem?_drop] at hj
        split at hj
        · rename_i hjk
          obtain ⟨v1, v', h1, h2, h3⟩ := hcell j hjk
          rw [h1] at hj
          simp at hj
          subst hj
          exact ⟨v', by simp [hjk, h2], h3⟩
        · cases hj
      · intro j v hj
        by_cases hjk : j < k
        · obtain ⟨v1, v', h1, h2, h3⟩ := hcell j hjk
          simp [hjk, h2] at hj
          subst hj
          rw [add_eq]
          exact h2
        · simp [hjk] at hj
    · cases hc
  · cases hc

theorem load_cells (h : Rel B0 W0 μ s w) {i off k : Nat} {l : List Value} (hc : s.cells ⟨i, off, none⟩ k = some l) :
    ∃ l', (loadCells ⟨(μ i).block, (μ i).base + off, none⟩ k).run P w = .ok l'.toArray w ∧ VRs μ s.next l l' := by
  obtain ⟨l', h1, h2, h3⟩ := cells_rel h hc
  subst h1
  exact ⟨l', run_loadCells_list (P := P) w _ l' h3, h2⟩

theorem rs_load1 {t : TypeId} {x : Operand} (ht : aggT P t = some false) (ho : o.op = .load t x) : RSound P B0 W0 μ s w o .load1 [x] := by
  intro ρ vs v h hv hp
  obtain ⟨a, rfl, ha⟩ := hv.inv1
  generalize hx : ρ x = x' at ha
  cases ha <;> simp [rop] at hp
  rename_i i off hi
  split at hp
  · rename_i cs g ro hget
    obtain ⟨v', h1, h2⟩ := (h.known i _ hget).2.2.cellAt hp
    exact ⟨v', by simp [execOp, ho, hx, Instr.loadAt, Instr.sureAddr, loadVar, r_agg w ht, run_load, h1], h2⟩
  · cases hp

theorem rs_loadN {t : TypeId} {x : Operand} {k : Nat} (ht : aggT P t = some true) (hk : sizeT P t = some k) (ho : o.op = .load t x) : RSound P B0 W0 μ s w o (.loadN k) [x] := by
  intro ρ vs v h hv hp
  obtain ⟨a, rfl, ha⟩ := hv.inv1
  generalize hx : ρ x = x' at ha
  cases ha <;> simp [rop] at hp
  rename_i i off hi
  obtain ⟨l, hl, rfl⟩ := hp
  obtain ⟨l', h1, h2⟩ := load_cells (P := P) h hl
  exact ⟨.agg l'.toArray, by simp [execOp, ho, hx, Instr.loadAt, Instr.sureAddr, loadVar, r_agg w ht, r_size w hk, h1], .agg _ _ (by simpa using h2)⟩

/-- the first machine's word for a kind of key -/
theorem keyT_desc {kt : TypeId} {kk : KeyK} (h : keyT P kt = some kk) : ∃ d, P.underlying kt = some d ∧ ((kk = .int ∧ ∃ k, d = .int k) ∨ (kk = .str ∧ d = .string) ∨ (kk = .bool ∧ d = .bool)) := by
  unfold keyT at h
  split at h
  · rename_i k hk; simp at h; subst h; exact ⟨_, hk, .inl ⟨rfl, _, rfl⟩⟩
  · rename_i hk; simp at h; subst h; exact ⟨_, hk, .inr (.inl ⟨rfl, rfl⟩)⟩
  · rename_i hk; simp at h; subst h; exact ⟨_, hk, .inr (.inr ⟨rfl, rfl⟩)⟩
  · cases h

theorem check_key {kt : TypeId} {kk : KeyK} (h : keyT P kt = some kk) (e : Bool) (k : Nat) (v : Value) (w : World) : (Instr.checkKey e (k + 1) kt v).run P w = .ok () w := by
  obtain ⟨d, hd, hk⟩ := keyT_desc h
  unfold Instr.checkKey
  simp only [Sem.run_bind, r_under w hd, Result.andThen_ok]
  rcases hk with ⟨_, k, rfl⟩ | ⟨_, rfl⟩ | ⟨_, rfl⟩ <;> simp

theorem same_sound {n : Nat} {kk : KeyK} {d : TypeDesc} (hd : (kk = .int ∧ ∃ k, d = .int k) ∨ (kk = .str ∧ d = .string) ∨ (kk = .bool ∧ d = .bool)) {x y x' y' : Value} {b : Bool} (hx : VR μ n x x') (hy : VR μ n y y') (h : sameV kk x y = some b) : Instr.sameNow d x' y' = some b := by
  unfold sameV at h
  split at h
  · rename_i k a k' b'
    cases hx; cases hy
    rcases hd with ⟨_, q, rfl⟩ | ⟨h1, _⟩ | ⟨h1, _⟩ <;> first | (cases h1; done) | skip
    simpa [Instr.sameNow] using h
  · rename_i a b'
    cases hx; cases hy
    rcases hd with ⟨h1, _⟩ | ⟨_, rfl⟩ | ⟨h1, _⟩ <;> first | (cases h1; done) | skip
    simp only [Option.some.injEq] at h
    rw [Instr.sameNow, beq_toListBytes, Go.ByteArray.toList_eq, Go.ByteArray.toList_eq, h]
  · rename_i a b'
    cases hx; cases hy
    rcases hd with ⟨h1, _⟩ | ⟨h1, _⟩ | ⟨_, rfl⟩ <;> first | (cases h1; done) | skip
    simpa [Instr.sameNow] using h
  · cases h

theorem find_sound {n c : Nat} {kk : KeyK} {d : TypeDesc} (hd : (kk = .int ∧ ∃ k, d = .int k) ∨ (kk = .str ∧ d = .string) ∨ (kk = .bool ∧ d = .bool)) {k k' : Value} (hk : VR μ n k k') : ∀ (es : List (Value × Value × Nat)) (es' : List MapEntry) (i : Nat) (r : Option (Nat × Value)),
    ER μ n c es es' → findV kk k es i = some r → (r = none ∧ Instr.findNow d k' es' i = some none) ∨ ∃ j v v' e', r = some (i + j, v) ∧ Instr.findNow d k' es' i = some (some (i + j, v')) ∧ VR μ n v v' ∧ es'[j]? = some e' ∧ e'.val = v' ∧ (∃ e, es[j]? = some e ∧ sameV kk k e.1 = some true ∧ VR μ n e.1 e'.key) ∧ j < es.length
  | [], [], i, r, _, h => by simp [findV] at h; subst h; exact .inl ⟨rfl, rfl⟩
  | e :: es, e' :: es', i, r, ⟨h1, h2, h3, h4, h5⟩, h => by
    simp only [findV] at h
    split at h
    · rename_i hs
      simp at h
      subst h
      exact .inr ⟨0, e.2.1, e'.val, e', by simp, by simp [Instr.findNow, same_sound hd hk h1 hs], h2, rfl, rfl, ⟨e, rfl, hs, h1⟩, by simp⟩
    · rename_i hs
      rcases find_sound hd hk es es' (i + 1) r h5 h with ⟨k1, k2⟩ | ⟨j, v, v', e1, k1, k2, k3, k4, k5, ⟨e0, k6, k7⟩, k8⟩
      · exact .inl ⟨k1, by simp [Instr.findNow, same_sound hd hk h1 hs, k2]⟩
      · exact .inr ⟨j + 1, v, v', e1, by rw [k1]; congr 2; omega, by simp only [Instr.findNow, same_sound hd hk h1 hs, k2]; congr 3; omega, k3, by simpa using k4, k5, ⟨e0, by simpa using k6, k7⟩, by simp; omega⟩
    · cases h
  | [], _ :: _, _, _, h, _ => h.elim
  | _ :: _, [], _, _, h, _ => h.elim

theorem ER.length {n c : Nat} : ∀ {es : List (Value × Value × Nat)} {es' : List MapEntry}, ER μ n c es es' → es'.length = es.length
  | [], [], _ => rfl
  | _ :: _, _ :: _, ⟨_, _, _, _, h⟩ => by simp [h.length]
  | [], _ :: _, h => h.elim
  | _ :: _, [], h => h.elim

theorem rs_lookup {t k e : TypeId} {x i : Operand} {kk : KeyK} {z : Value} {ok : Bool} (ht : P.underlying t = some (.map k e)) (hkk : keyT P k = some kk) (hz : zeroT P e = some z) (ho : o.op = .lookup t x i ok) :
    RSound P B0 W0 μ s w o (.lookup kk z ok) [x, i] := by
  intro ρ vs v h hv hp
  obtain ⟨a, b, rfl, ha, hb⟩ := hv.inv2
  generalize hx : ρ x = x' at ha
  generalize hy : ρ i = y' at hb
  have hzr : VR μ s.next z z := plainV_rel (zeroT_spec hz).choose_spec.2.2
  obtain ⟨d, hd, hdk⟩ := keyT_desc hkk
  have fin : ∀ {u u' : Value} (b : Bool), VR μ s.next u u' → VR μ s.next (bif ok then .tuple #[u, .bool b] else u) (if ok then .tuple #[u', .bool b] else u') := fun {u u'} b hu => by
    cases ok
    · exact hu
    · exact .tuple _ _ (.cons _ _ _ _ hu (.cons _ _ _ _ (.bool _) .nil))
  cases ha <;> simp only [rop] at hp <;> (try (cases hp; done))
  case nilMap =>
    split at hp
    · simp at hp
      subst hp
      refine ⟨_, ?_, fin false hzr⟩
      simp [execOp, ho, hx, hy, Instr.lookup, r_under w ht, check_key (k := 9999) hkk, Instr.findKey, r_under w hd, Instr.findNow, r_zero w hz]
    · cases hp
  case map r hr =>
    split at hp
    · rename_i es clock hget
      split at hp
      · obtain ⟨hB, es', h1, h2⟩ := (h.known r _ hget).2.2
        have hgo := MapKept.run_getObj_map (P := P) h1
        split at hp
        · rename_i j u hf
          simp at hp
          subst hp
          rcases find_sound hdk hb es es'.toList 0 _ h2 hf with ⟨k1, _⟩ | ⟨j', u1, u', e', k1, k2, k3, _⟩
          · cases k1
          · simp at k1
            obtain ⟨rfl, rfl⟩ := k1
            refine ⟨_, ?_, fin true k3⟩
            simp [execOp, ho, hx, hy, Instr.lookup, r_under w ht, hgo, check_key (k := 9999) hkk, MapKept.run_findKey hd k2]
        · rename_i hf
          simp at hp
          subst hp
          rcases find_sound hdk hb es es'.toList 0 _ h2 hf with ⟨_, k2⟩ | ⟨j', u1, u', e', k1, _⟩
          · refine ⟨_, ?_, fin false hzr⟩
            simp [execOp, ho, hx, hy, Instr.lookup, r_under w ht, hgo, check_key (k := 9999) hkk, MapKept.run_findKey hd k2, r_zero w hz]
          · cases k1
        · cases hp
      · cases hp
    · cases hp

theorem rs_lenMap {t k e : TypeId} {x : Operand} (ht : P.underlying t = some (.map k e)) (ho : o.op = .call { callee := .builtin .len, args := #[x], argTypes := #[t] }) : RSound P B0 W0 μ s w o .lenMap [x] := by
  intro ρ vs v h hv hp
  obtain ⟨a, rfl, ha⟩ := hv.inv1
  generalize hx : ρ x = x' at ha
  cases ha <;> simp only [rop] at hp <;> (try (cases hp; done))
  case nilMap =>
    simp at hp
    subst hp
    exact ⟨_, by simp [execOp, ho, resolve, invoke, builtin, Builtin.len_, hx, r_under w ht, goInt], .int _ _⟩
  case map r hr =>
    split at hp
    · rename_i es clock hget
      obtain ⟨hB, es', h1, h2⟩ := (h.known r _ hget).2.2
      simp at hp
      subst hp
      have hl := h2.length
      simp at hl
      refine ⟨_, ?_, .int _ _⟩
      simp [execOp, ho, resolve, invoke, builtin, Builtin.len_, hx, r_under w ht, goInt, MapKept.run_getObj_map h1, hl]
    · cases hp

theorem u8s_sound {n : Nat} : ∀ {l l' : List Value} {bs : List UInt8}, VRs μ n l l' → u8s l = some bs → ∃ ns : List Int, l' = ns.map (Value.int .u8) ∧ bs = ns.map fun n => UInt8.ofNat n.toNat
  | [], [], bs, _, h => by simp [u8s] at h; subst h; exact ⟨[], rfl, rfl⟩
  | x :: l, x' :: l', bs, .cons _ _ _ _ hx hs, h => by
    unfold u8s at h
    split at h
    · rename_i heq; simp at heq
    · rename_i n0 l0 heq
      simp at heq
      obtain ⟨rfl, rfl⟩ := heq
      cases hx
      simp at h
      obtain ⟨r, hr, rfl⟩ := h
      obtain ⟨ns, rfl, rfl⟩ := u8s_sound hs hr
      exact ⟨n0 :: ns, rfl, rfl⟩
    · cases h

theorem foldl_push (ns : List Int) : ∀ (acc : ByteArray), (ns.foldl (fun r n => r.push (UInt8.ofNat n.toNat)) acc).data.toList = acc.data.toList ++ ns.map fun n => UInt8.ofNat n.toNat := by
  induction ns with
  | nil => intro acc; simp
  | cons n ns ih =>
    intro acc
    rw [List.foldl_cons, ih]
    simp [ByteArray.push]

theorem rs_bytesToStr {t1 t2 e : TypeId} {x : Operand} (h1 : P.underlying t1 = some (.slice e)) (he : P.underlying e = some (.int .u8)) (h2 : P.underlying t2 = some .string) (ho : o.op = .convert t1 t2 x) : RSound P B0 W0 μ s w o .bytesToStr [x] := by
  intro ρ vs v h hv hp
  obtain ⟨a, rfl, ha⟩ := hv.inv1
  generalize hx : ρ x = x' at ha
  cases ha <;> simp only [rop] at hp <;> (try (cases hp; done))
  case nilSlice =>
    simp at hp
    subst hp
    exact ⟨_, by simp [execOp, ho, hx, run_convert_bytes_string w t1 t2 e none 0 0 h1 he h2, Conv.bytesToString], .string _⟩
  case void ad =>
    simp only [Option.bind_eq_some_iff, Option.map_eq_some_iff] at hp
    obtain ⟨cs, hcs, bs, hbs, rfl⟩ := hp
    have hcs0 : cs = [] := by
      unfold St.cells at hcs
      simp only at hcs
      split at hcs
      · split at hcs <;> simp at hcs; exact hcs
      · cases hcs
    subst hcs0
    simp [u8s] at hbs
    subst hbs
    refine ⟨.string ⟨#[]⟩, ?_, .string _⟩
    have hr := run_bytesToString (P := P) w ad 0 0 [] (by simp [loadCells, loadCellsFrom])
    simp [execOp, ho, hx, run_convert_bytes_string w t1 t2 e _ 0 0 h1 he h2, hr]
    rfl
  case slice i off off' len cap cap' hi q0 q1 q2 q3 q4 q5 =>
    simp only [Option.bind_eq_some_iff, Option.map_eq_some_iff] at hp
    obtain ⟨cs, hcs, bs, hbs, rfl⟩ := hp
    by_cases hlen : len = 0
    · subst hlen
      have hcs0 : cs = [] := by
        unfold St.cells at hcs
        simp only at hcs
        split at hcs
        · split at hcs <;> simp at hcs; exact hcs
        · cases hcs
      subst hcs0
      simp [u8s] at hbs
      subst hbs
      refine ⟨.string ⟨#[]⟩, ?_, .string _⟩
      have hr := run_bytesToString (P := P) w ⟨(μ i).block, off', none⟩ 0 cap' [] (by simp [loadCells, loadCellsFrom])
      simp [execOp, ho, hx, run_convert_bytes_string w t1 t2 e _ 0 cap' h1 he h2, hr]
      rfl
    · have hoo := q3 (.inl (by omega))
      subst hoo
      obtain ⟨l', k1, k2⟩ := load_cells (P := P) h hcs
      obtain ⟨ns, rfl, rfl⟩ := u8s_sound k2 hbs
      refine ⟨.string (ns.foldl (fun r n => r.push (UInt8.ofNat n.toNat)) ByteArray.empty), ?_, ?_⟩
      · simp [execOp, ho, hx, run_convert_bytes_string w t1 t2 e _ len cap' h1 he h2, run_bytesToString w _ len cap' ns k1]
      · have : (ns.foldl (fun r n => r.push (UInt8.ofNat n.toNat)) ByteArray.empty) = ⟨(ns.map fun n => UInt8.ofNat n.toNat).toArray⟩ := by
          have := foldl_push ns ByteArray.empty
          cases hq : (ns.foldl (fun r n => r.push (UInt8.ofNat n.toNat)) ByteArray.empty) with
          | mk data =>
            rw [hq] at this
            simp at this
            congr 1
            apply Array.toList_inj.1
            simpa using this
        rw [this]
        exact .string _

theorem addA_rel (i o k : Nat) : addA ⟨i, o, none⟩ k = ⟨i, o + k, none⟩ := by unfold addA; split <;> simp_all

theorem rs_sl {t e : TypeId} {x : Operand} {lo hi : Option Operand} {m : Nat} (ht : P.underlying t = some (.slice e)) (hm : sizeT P e = some m) (ho : o.op = .slice t x lo hi none) :
    RSound P B0 W0 μ s w o (.sl m lo.isSome hi.isSome) (x :: (lo.toList ++ hi.toList)) := by
  intro ρ vs v h hv hp
  obtain ⟨a, as, rfl, ha, has⟩ := hv.invc
  generalize hx : ρ x = x' at ha
  cases ha <;> simp only [rop] at hp <;> (try (cases hp; done))
  case nilSlice =>
    simp at hp
    obtain ⟨⟨l, h', hb⟩, rfl⟩ := hp
    obtain ⟨h1, h2, h3⟩ := bounds_sound (P := P) w true has (Nat.le_refl _) (Nat.le_refl _) hb
    have hl : l = 0 := by omega
    have hh : h' = 0 := by omega
    subst hl; subst hh
    exact ⟨_, by simp [execOp, ho, hx, Instr.sliceAt, Instr.slice, r_under w ht, h1, r_size w hm], .nilSlice⟩
  case void ad =>
    simp at hp
    obtain ⟨l, h', hb, rfl⟩ := hp
    obtain ⟨h1, h2, h3⟩ := bounds_sound (P := P) w true has (Nat.le_refl _) (Nat.le_refl _) hb
    have hl : l = 0 := by omega
    have hh : h' = 0 := by omega
    subst hl; subst hh
    exact ⟨_, by simp [execOp, ho, hx, Instr.sliceAt, Instr.slice, r_under w ht, h1, r_size w hm], .void ad⟩
  case slice i off off' len cap cap' hi' q0 q1 q2 q3 q4 q5 =>
    split at hp
    · rename_i hz
      subst hz
      simp at hp
      obtain ⟨l, h', hb, rfl⟩ := hp
      obtain ⟨h1, h2, h3⟩ := bounds_sound (P := P) w true has q0 q1 hb
      have hl : l = 0 := by omega
      have hh : h' = 0 := by omega
      subst hl; subst hh
      refine ⟨.slice (some (if cap' = 0 then ⟨(μ i).block, off', none⟩ else (⟨(μ i).block, off', none⟩ : Addr).add (0 * m))) (0 - 0) (cap' - 0), ?_, ?_⟩
      · by_cases hc : cap' = 0
        · subst hc; simp [execOp, ho, hx, Instr.sliceAt, Instr.slice, r_under w ht, h1, r_size w hm]
        · simp [execOp, ho, hx, Instr.sliceAt, Instr.slice, r_under w ht, h1, r_size w hm, hc]
      · simp only [Nat.zero_mul, add_eq, Nat.add_zero, ite_self, Nat.sub_zero]
        exact .slice _ _ _ _ _ _ hi' (Nat.le_refl _) q1 q2 q3 q4 q5
    split at hp
    · rename_i cs g ro hget
      have hg := (h.known i _ hget).2.2.1
      split at hp
      · rename_i hgm
        simp at hp
        obtain ⟨l, h', hb, rfl⟩ := hp
        obtain ⟨h1, h2, h3⟩ := bounds_sound (P := P) w true has q0 q1 hb
        refine ⟨.slice (some (if cap' = l then ⟨(μ i).block, off', none⟩ else (⟨(μ i).block, off', none⟩ : Addr).add (l * m))) (h' - l) (cap' - l), ?_, ?_⟩
        · by_cases hc : cap' = l
          · subst hc; simp [execOp, ho, hx, Instr.sliceAt, Instr.slice, r_under w ht, h1, r_size w hm]
          · simp [execOp, ho, hx, Instr.sliceAt, Instr.slice, r_under w ht, h1, r_size w hm, hc]
        · by_cases hc : cap = l
          · subst hc
            by_cases hc' : cap' = cap
            · simp only [hc', if_true]
              exact .slice _ _ _ _ _ _ hi' (by omega) (Nat.le_refl _) (fun _ => rfl) (fun hh => q3 (by rcases hh with hh | hh; exact .inl (by omega); exact .inr hh)) q4 (fun hh => by have := q5 hh; simp; omega)
            · simp only [hc', if_true, if_false, add_eq]
              have hng : (μ i).grown ≠ 0 := fun e => hc' (q2 e)
              have hgm' : g = m := by rcases hgm with e | e; exact absurd (hg.trans e) hng; exact e
              refine .slice _ _ _ _ _ _ hi' (by omega) (by omega) (fun e => absurd e hng) (fun hh => by rcases hh with hh | hh; omega; exact absurd hh hng) (by omega) (fun hh => ?_)
              have := q5 hh
              rw [hg, hgm'] at this ⊢
              have e1 : cap' * m = cap * m + (cap' - cap) * m := by rw [← Nat.add_mul]; congr 1; omega
              omega
          · have hc' : cap' ≠ l := by omega
            have hoo := q3 (.inl (by omega))
            simp only [hc, hc', if_false, add_eq, addA_rel]
            refine .slice _ _ _ _ _ _ hi' (by omega) (by omega) (fun e => by rw [q2 e]) (fun _ => by omega) (by omega) (fun hh => ?_)
            have hgm' : g = m := by rcases hgm with e | e; exact absurd (hg.trans e) hh; exact e
            have := q5 hh
            rw [hg, hgm'] at this ⊢
            have e1 : cap' * m = l * m + (cap' - l) * m := by rw [← Nat.add_mul]; congr 1; omega
            omega
      · cases hp
    · cases hp

theorem rs_slArr {t e : TypeId} {x : Operand} {lo hi : Option Operand} {len m : Nat} (ht : P.underlying t = some (.array len e)) (hm : sizeT P e = some m) (ho : o.op = .slice t x lo hi none) :
    RSound P B0 W0 μ s w o (.slArr len m lo.isSome hi.isSome) (x :: (lo.toList ++ hi.toList)) := by
  intro ρ vs v h hv hp
  obtain ⟨a, as, rfl, ha, has⟩ := hv.invc
  generalize hx : ρ x = x' at ha
  cases ha <;> simp only [rop] at hp <;> (try (cases hp; done))
  case ptr i off hi' =>
    split at hp
    · rename_i cs ro hget
      have hg := (h.known i _ hget).2.2.1
      simp at hp
      obtain ⟨l, h', hb, rfl⟩ := hp
      obtain ⟨h1, h2, h3⟩ := bounds_sound (P := P) w false has (Nat.le_refl _) (Nat.le_refl _) hb
      refine ⟨.slice (some (if len = l then ⟨(μ i).block, (μ i).base + off, none⟩ else (⟨(μ i).block, (μ i).base + off, none⟩ : Addr).add (l * m))) (h' - l) (len - l), ?_, ?_⟩
      · by_cases hc : len = l
        · subst hc; simp [execOp, ho, hx, Instr.sliceAt, Instr.sureAddr, r_under w ht, h1, r_size w hm]
        · simp [execOp, ho, hx, Instr.sliceAt, Instr.sureAddr, r_under w ht, h1, r_size w hm, hc]
      · by_cases hc : len = l
        · simp only [hc, if_true]
          exact .slice _ _ _ _ _ _ hi' (by omega) (Nat.le_refl _) (fun _ => rfl) (fun _ => rfl) (by omega) (fun hh => absurd hg hh)
        · simp only [hc, if_false, add_eq, addA_rel]
          exact .slice _ _ _ _ _ _ hi' (by omega) (Nat.le_refl _) (fun _ => rfl) (fun _ => by omega) (by omega) (fun hh => absurd hg hh)
    · cases hp

theorem find_entry {n c st : Nat} : ∀ {es : List (Value × Value × Nat)} {es' : List MapEntry} {e : Value × Value × Nat}, ER μ n c es es' → es.find? (·.2.2 == st) = some e → ∃ e', es'.find? (·.born == st) = some e' ∧ VR μ n e.1 e'.key ∧ VR μ n e.2.1 e'.val
  | [], [], _, _, h => by simp at h
  | x :: es, x' :: es', e, ⟨h1, h2, h3, _, h5⟩, h => by
    simp only [List.find?_cons] at h ⊢
    rw [h3]
    cases hc : (x.2.2 == st)
    · rw [hc] at h
      exact find_entry h5 h
    · rw [hc] at h
      simp at h
      subst h
      exact ⟨x', rfl, h1, h2⟩
  | [], _ :: _, _, h, _ => h.elim
  | _ :: _, [], _, h, _ => h.elim

theorem rs_entry {x : Operand} (ho : o.op = .entry x) : RSound P B0 W0 μ s w o .entry [x] := by
  intro ρ vs v h hv hp
  obtain ⟨a, rfl, ha⟩ := hv.inv1
  generalize hx : ρ x = x' at ha
  cases ha <;> simp only [rop] at hp <;> (try (cases hp; done))
  case ptr i off hi =>
    split at hp <;> (try (cases hp; done))
    rename_i m since seen last hget
    split at hp <;> (try (cases hp; done))
    rename_i es clock hgetm
    split at hp <;> (try (cases hp; done))
    rename_i hcond
    obtain ⟨rfl, rfl⟩ := hcond
    split at hp <;> (try (cases hp; done))
    rename_i st hst
    simp only [Option.map_eq_some_iff] at hp
    obtain ⟨e, he, rfl⟩ := hp
    obtain ⟨_, hb0, _, hit⟩ := (h.known i _ hget).2.2
    obtain ⟨_, es', hm1, hm2⟩ := (h.known m _ hgetm).2.2
    obtain ⟨e', k1, k2, k3⟩ := find_entry hm2 he
    have hgo1 : (getObj (μ i).block).run P w = .ok (.mapIter (some (μ m).block) since seen.toArray clock) w := by simp [getObj, Sem.run, hit]
    have hgo2 := MapKept.run_getObj_map (P := P) hm1
    have hback : seen.toArray.back? = some st := by simpa using hst
    have hfind : es'.find? (·.born == st) = some e' := by rw [← Array.find?_toList]; exact k1
    exact ⟨.tuple #[e'.key, e'.val], by simp [execOp, ho, hx, hb0, Instr.entry, hgo1, hgo2, hback, hfind], .tuple _ _ (.cons _ _ _ _ k2 (.cons _ _ _ _ k3 .nil))⟩

theorem rop_sound {r : ROp} {xs : List Operand} (hc : compOp P o.op = some (.r r, xs)) : RSound P B0 W0 μ s w o r xs := by
  cases ho : o.op with
  | load t a =>
    simp only [ho, compOp, Option.bind_eq_some_iff] at hc
    obtain ⟨b, hb, hc⟩ := hc
    cases b
    · simp at hc; obtain ⟨rfl, rfl⟩ := hc; exact rs_load1 hb ho
    · simp at hc; obtain ⟨k, hk, rfl, rfl⟩ := hc; exact rs_loadN hb hk ho
  | lookup t x i ok =>
    simp only [ho, compOp] at hc
    split at hc
    · rename_i k e ht
      simp only [Option.bind_eq_some_iff, Option.map_eq_some_iff, Prod.mk.injEq, AOp.r.injEq] at hc
      obtain ⟨kk, hkk, z, hz, rfl, rfl⟩ := hc
      exact rs_lookup ht hkk hz ho
    · cases hc
  | entry x => simp [ho, compOp] at hc; obtain ⟨rfl, rfl⟩ := hc; exact rs_entry ho
  | slice t x lo hi mx =>
    simp only [ho, compOp] at hc
    split at hc
    · simp at hc
    · rename_i e ht; simp at hc; obtain ⟨m, hm, rfl, rfl⟩ := hc; exact rs_sl ht hm ho
    · rename_i k e ht; simp at hc; obtain ⟨m, hm, rfl, rfl⟩ := hc; exact rs_slArr ht hm ho
    · split at hc <;> simp at hc
    · cases hc
  | convert a b x =>
    simp only [ho, compOp] at hc
    split at hc
    · simp at hc
    · split at hc <;> simp at hc
    · rename_i e h1 h2
      split at hc
      · rename_i he; simp at hc; obtain ⟨rfl, rfl⟩ := hc; exact rs_bytesToStr h1 he h2 ho
      · cases hc
    · cases hc
  | call c =>
    simp only [ho, compOp, compCall] at hc
    split at hc
    · simp at hc
    · simp at hc
    · simp at hc
    · rename_i b hb
      split at hc
      · rename_i t x h2 h3
        have hcall := call_eq hb h2 h3
        rw [hcall] at ho
        split at hc
        · simp at hc
        · simp at hc
        · rename_i ht; simp at hc; obtain ⟨rfl, rfl⟩ := hc; exact rs_lenMap ht (by simpa using ho)
        · simp at hc
        · cases hc
      · split at hc
        · simp only [Option.bind_eq_some_iff] at hc
          obtain ⟨_, _, _, _, _, _, hc⟩ := hc
          split at hc <;> simp at hc
        · simp only [Option.bind_eq_some_iff] at hc
          obtain ⟨_, _, _, _, _, _, hc⟩ := hc
          split at hc <;> simp at hc
        · cases hc
      · split at hc
        · simp at hc
        · cases hc
      · split at hc
        · simp at hc
        · cases hc
      · simp at hc
      · simp at hc
      · cases hc
  | build t parts =>
    simp only [ho, compOp] at hc
    split at hc <;> first | (cases hc; done) | (simp only [Option.bind_eq_some_iff, Option.map_eq_some_iff, Prod.mk.injEq, reduceCtorEq, false_and, and_false, exists_false] at hc)
  | binOp op t x y t2 =>
    simp only [ho, compOp] at hc
    split at hc
    · simp at hc
    · simp at hc
    · split at hc <;> simp at hc
    · split at hc
      · split at hc
        · split at hc <;> simp at hc
        · cases hc
      · cases hc
    · cases hc
  | makeInterface t x => simp only [ho, compOp] at hc; split at hc <;> simp at hc
  | fieldAddr t x f =>
    simp only [ho, compOp] at hc
    split at hc
    · split at hc
      · split at hc <;> simp at hc
      · cases hc
    · cases hc
  | field t x f =>
    simp only [ho, compOp] at hc
    split at hc
    · split at hc
      · simp only [Option.bind_eq_some_iff, Option.map_eq_some_iff, Prod.mk.injEq, reduceCtorEq, false_and, and_false, exists_false] at hc
      · cases hc
    · cases hc
  | indexAddr t x i => simp only [ho, compOp] at hc; split at hc <;> simp at hc
  | index t x i =>
    simp only [ho, compOp] at hc
    split at hc
    · simp at hc
    · simp only [Option.bind_eq_some_iff, Option.map_eq_some_iff, Prod.mk.injEq, reduceCtorEq, false_and, and_false, exists_false] at hc
    · cases hc
  | typeAssert x tx t ok => simp only [ho, compOp] at hc; split at hc <;> simp at hc
  | buildSlice t len parts =>
    simp only [ho, compOp] at hc
    split at hc
    · simp only [Option.bind_eq_some_iff] at hc
      obtain ⟨_, _, _, _, _, _, hc⟩ := hc
      split at hc <;> simp at hc
    · cases hc
  | alloc e =>
    simp only [ho, compOp, Option.bind_eq_some_iff] at hc
    obtain ⟨z, _, hc⟩ := hc
    split at hc <;> simp at hc
  | makeSlice t l c =>
    simp only [ho, compOp] at hc
    split at hc
    · simp only [Option.bind_eq_some_iff] at hc
      obtain ⟨_, _, _, _, _, _, hc⟩ := hc
      split at hc <;> simp at hc
    · cases hc
  | makeMap t r => cases r <;> simp [ho, compOp] at hc
  | mapUpdate t m k x => simp only [ho, compOp] at hc; split at hc <;> simp at hc
  | insert t m k x => simp only [ho, compOp] at hc; split at hc <;> simp at hc
  | range t x => simp only [ho, compOp] at hc; split at hc <;> simp at hc
  | _ => simp [ho, compOp] at hc

end Go.Am
end
section
set_option linter.unusedSimpArgs false
set_option linter.unusedVariables false
set_option maxRecDepth 10000
namespace Go.Am
open Go.RowKit (Below)

variable {P : Program} {B0 : Nat} {W0 : World} {μ : Nat → Spot} {s : St} {w : World} {o : Oper}

theorem r_new (P : Program) (w : World) (c : Obj) : (newObj c).run P w = .ok w.heap.size (w.alloc c) := rfl

/-- the operation is carried out, and leaves this value (or nothing) in this world -/
def Did (P : Program) (ρ : Operand → Value) (o : Oper) (w : World) (v : Value) (w' : World) : Prop :=
  (execOp ρ o).run P w = .ok (.value v) w' ∨ ((execOp ρ o).run P w = .ok .skip w' ∧ v = undef)

/-- what is known after a step: the value stands for the other one, the heaps go together, nothing is forgotten -/
def After (B0 : Nat) (W0 : World) (μ : Nat → Spot) (s : St) (v : Value) (s' : St) (v' : Value) (w' : World) : Prop :=
  ∃ μ', Agree μ s.next μ' s'.next ∧ Rel B0 W0 μ' s' w' ∧ VR μ' s'.next v v'

def WSound (P : Program) (B0 : Nat) (W0 : World) (μ : Nat → Spot) (s : St) (w : World) (o : Oper) (q : WOp) (xs : List Operand) : Prop :=
  ∀ (ρ : Operand → Value) (vs : List Value) (v : Value) (s' : St), Rel B0 W0 μ s w → VRs μ s.next vs (xs.map ρ) → wop q vs s = some (v, s') → ∃ v' w', Did P ρ o w v' w' ∧ After B0 W0 μ s v s' v' w'

theorem newPtr_after (h : Rel B0 W0 μ s w) {cs : List Value} {c : Array Value} (hc : VRs μ s.next cs c.toList) {t : TypeId} {v : Value} {s' : St} (hp : s.newPtr cs = some (v, s')) :
    After B0 W0 μ s v s' (.pointer (some ⟨w.heap.size, 0, none⟩)) (w.alloc (.cells c t)) := by
  simp [St.newPtr] at hp
  obtain ⟨rfl, rfl⟩ := hp
  refine ⟨_, upd_agree _ _, h.newRow cs 0 c t (0, 0) (fun j v hj => ?_) (by have := hc.length; simp at this; omega) (fun x _ => by simp), ?_⟩
  · obtain ⟨v', h1, h2⟩ := hc.get hj
    exact ⟨v', by simpa using h1, h2⟩
  · have := VR.ptr (μ := upd μ s.next ⟨w.heap.size, 0, c.size, 0⟩) (n := s.next + 1) s.next 0 (by omega)
    simpa [upd_same] using this

theorem ws_new {e : TypeId} {z : Value} (hz : zeroT P e = some z) (ho : o.op = .alloc e) : WSound P B0 W0 μ s w o (.new (cellsOf z)) [] := by
  intro ρ vs v s' h hv hp
  obtain rfl := hv.inv0
  simp only [wop] at hp
  have hzr : VR μ s.next z z := plainV_rel (zeroT_spec hz).choose_spec.2.2
  exact ⟨.pointer (some ⟨w.heap.size, 0, none⟩), w.alloc (.cells z.cells e), .inl (by simp [execOp, ho, Instr.alloc, r_zero w hz, newVar, newRow]), newPtr_after h hzr.cellsOf hp⟩

theorem ws_box {e : TypeId} {x : Operand} {k : Nat} (ho : o.op = .box e x) : WSound P B0 W0 μ s w o (.box k) [x] := by
  intro ρ vs v s' h hv hp
  obtain ⟨a, rfl, ha⟩ := hv.inv1
  simp only [wop] at hp
  split at hp
  · exact ⟨.pointer (some ⟨w.heap.size, 0, none⟩), w.alloc (.cells (ρ x).cells e), .inl (by simp [execOp, ho, Instr.box, newVar, newRow]), newPtr_after h ha.cellsOf hp⟩
  · cases hp

theorem replicateL_length (k : Nat) (l : List Value) : (replicateL k l).length = k * l.length := by
  induction k with
  | zero => simp [replicateL]
  | succ k ih => simp [replicateL, ih, Nat.add_mul]; omega
theorem replicateL_get (k : Nat) (l : List Value) (i : Nat) (h : i < k * l.length) : (replicateL k l)[i]? = l[i % l.length]? := by
  induction k generalizing i with
  | zero => simp at h
  | succ k ih =>
    simp only [replicateL]
    by_cases hi : i < l.length
    · rw [List.getElem?_append_left hi, Nat.mod_eq_of_lt hi]
    · rw [List.getElem?_append_right (by omega), ih _ (by rw [Nat.add_mul] at h; omega)]
      congr 1
      rw [Nat.mod_eq_sub_mod (by omega : i ≥ l.length)]

theorem made_toList (z : Array Value) (k m : Nat) (hz : z.size = m) (hm : 0 < m) : ((Array.range (k * m)).map fun i => z[i % z.size]!).toList = replicateL k z.toList := by
  apply List.ext_getElem?
  intro i
  by_cases hi : i < k * m
  · rw [replicateL_get _ _ _ (by simpa [hz] using hi)]
    have hlt : i % z.size < z.size := Nat.mod_lt _ (by omega)
    simp [hi, hlt]
  · have h1 : (replicateL k z.toList).length ≤ i := by rw [replicateL_length]; simp [hz]; omega
    rw [List.getElem?_eq_none h1]
    simp; omega

theorem ws_sliceLit {t e : TypeId} {len m : Nat} {parts : Array (Nat × Operand)} {z : Value} {ps : List (Nat × Nat)} (ht : P.underlying t = some (.slice e)) (hz : zeroT P e = some z) (hm : sizeT P e = some m)
    (hps : placesOf P t (parts.toList.map (·.1)) = some ps) (hle : len * m ≤ 16777216) (hzm : (cellsOf z).length = m) (ho : o.op = .buildSlice t len parts) :
    WSound P B0 W0 μ s w o (.sliceLit (replicateL len (cellsOf z)) len ps) (parts.toList.map (·.2)) := by
  intro ρ vs v s' h hv hp
  have hzr : VR μ s.next z z := plainV_rel (zeroT_spec hz).choose_spec.2.2
  simp only [wop, Option.map_eq_some_iff, Prod.mk.injEq] at hp
  obtain ⟨cs, hcs, rfl, rfl⟩ := hp
  have hcl := hzr.cellsOf.length
  simp only [Array.length_toList] at hcl
  have hzz : cellsOf z = z.cells.toList := by cases z <;> rfl
  -- the zero cells, as the first machine makes them
  obtain ⟨zero, hzero, hzl⟩ : ∃ zero : Array Value, zero = (if len * m = 0 then #[] else z.cells) ∧ ((Array.range (len * m)).map fun i => zero[i % zero.size]!).toList = replicateL len (cellsOf z) := by
    by_cases hlm : len * m = 0
    · refine ⟨#[], by simp [hlm], ?_⟩
      have : (replicateL len (cellsOf z)).length = 0 := by rw [replicateL_length, hzm, hlm]
      rw [List.length_eq_zero_iff.1 this]
      simp [hlm]
    · refine ⟨z.cells, by simp [hlm], ?_⟩
      rw [made_toList z.cells len m (by omega) (by rcases Nat.eq_zero_or_pos m with e | e; simp [e] at hlm; exact e), hzz]
  unfold placesOf at hps
  simp only [placeFn, ht, Option.bind_eq_some_iff, Option.map_eq_some_iff] at hps
  obtain ⟨f, ⟨m', hm', rfl⟩, hpl⟩ := hps
  rw [hm] at hm'
  simp at hm'
  subst hm'
  have hcells : VRs μ s.next (replicateL len (cellsOf z)) ((Array.range (len * m)).map fun i => zero[i % zero.size]!).toList := by
    rw [hzl]
    refine VRs.of_get rfl fun j v hj => ⟨v, hj, ?_⟩
    have hjl : j < len * (cellsOf z).length := by
      rcases Nat.lt_or_ge j (replicateL len (cellsOf z)).length with hh | hh
      · rwa [replicateL_length] at hh
      · rw [List.getElem?_eq_none hh] at hj; cases hj
    rw [replicateL_get _ _ _ hjl] at hj
    obtain ⟨v', k1, k2⟩ := hzr.cellsOf.get hj
    rw [← hzz, hj] at k1
    simp at k1
    subst k1
    exact k2
  obtain ⟨cs', k1, k2⟩ := fill_sound _ ps vs _ _ _ cs hcells hv hpl hcs
  have hzip : (parts.map fun (i, x) => (i, ρ x)).toList = (parts.toList.map (·.1)).zip ((parts.toList.map (·.2)).map ρ) := by
    rw [Array.toList_map, List.map_map]
    generalize parts.toList = l
    induction l with
    | nil => rfl
    | cons x l ih => simp [ih]
  have hno : ¬ len * m > 2 ^ 24 := by omega
  refine ⟨.slice (some ⟨w.heap.size, 0, none⟩) len len, w.alloc (.cells cs' e), .inl ?_, ?_⟩
  · rw [← hzip] at k1
    simp only [execOp, ho, Instr.buildSlice, Sem.run_bind, r_under w ht, Result.andThen_ok, r_size w hm, if_neg hno]
    by_cases hlm : len * m = 0
    · simp only [hlm, if_true] at hzero k1 ⊢
      subst hzero
      simp only [Sem.run_bind, Sem.run_pure, Result.andThen_ok, k1, newRow, r_new]
    · simp only [hlm, if_false] at hzero k1 ⊢
      subst hzero
      simp only [Sem.run_bind, Sem.run_pure, r_zero w hz, Result.andThen_ok, k1, newRow, r_new]
  · refine ⟨_, upd_agree _ _, h.newRow cs 0 cs' e (0, 0) (fun j v hj => ?_) (by have := k2.length; simp at this; omega) (fun x _ => by simp), ?_⟩
    · obtain ⟨v', q1, q2⟩ := k2.get hj
      exact ⟨v', by simpa using q1, q2⟩
    · have := VR.slice (μ := upd μ s.next ⟨w.heap.size, 0, cs'.size, 0⟩) (n := s.next + 1) s.next 0 0 len len len (by omega) (Nat.le_refl _) (Nat.le_refl _) (fun _ => rfl) (fun _ => by simp [upd_same]) (by simp [upd_same]) (fun hh => by simp [upd_same] at hh)
      simpa [upd_same] using this

theorem oneCell_eq (v : Value) : v.oneCell' = oneCell v := by cases v <;> rfl

theorem VRs.oneCells {n : Nat} : ∀ {l l' : List Value}, VRs μ n l l' → l.all oneCell = true → ∀ v ∈ l', v.oneCell' = true
  | [], [], _, _ => by simp
  | _ :: _, _ :: _, .cons _ _ _ _ h hs, ha => by
    simp only [List.all_cons, Bool.and_eq_true] at ha
    intro v hv
    cases hv with
    | head => rw [oneCell_eq, h.oneCell]; exact ha.1
    | tail _ hv => exact hs.oneCells ha.2 v hv

/-- a store of cells, as far as the heaps go -/
theorem storeAt_sound (h : Rel B0 W0 μ s w) {i off : Nat} {vs vs' : List Value} {s' : St} (hv : VRs μ s.next vs vs') (hs : s.storeAt ⟨i, off, none⟩ vs = some s') :
    (storeCells ⟨(μ i).block, (μ i).base + off, none⟩ vs').run P w = .ok () (w.setCells (μ i).block ((μ i).base + off) vs') ∧ Rel B0 W0 μ s' (w.setCells (μ i).block ((μ i).base + off) vs') ∧ s'.next = s.next := by
  unfold St.storeAt at hs
  simp only at hs
  split at hs
  · rename_i cs g hget
    split at hs
    · rename_i hc
      simp at hs
      subst hs
      obtain ⟨hlen, hone⟩ := hc
      have hid := (h.known i _ hget).2.2
      obtain ⟨_, hlim, _, _, hown⟩ := hid
      have hown := (hown rfl).2.1
      have hl := hv.length
      refine ⟨?_, h.stored hget off vs vs' hv hlen, rfl⟩
      have := run_storeCells_cells (P := P) (μ i).block ((μ i).base + off) vs' 0 w (fun j hj => (hown _ (by omega) (by omega)).1) (fun j hj => (hown _ (by omega) (by omega)).2) (hv.oneCells (by simpa using hone))
      simpa using this
    · cases hs
  · cases hs

theorem ws_store {t : TypeId} {a x : Operand} {k : Nat} (hk : sizeT P t = some k) (ho : o.op = .store t a x) : WSound P B0 W0 μ s w o (.store k) [a, x] := by
  intro ρ vs v s' h hv hp
  obtain ⟨u1, u2, rfl, h1, h2⟩ := hv.inv2
  generalize hx : ρ a = x' at h1
  cases h1 <;> simp only [wop] at hp <;> (try (cases hp; done))
  rename_i i off hi
  split at hp
  · rename_i hlen
    simp only [Option.map_eq_some_iff, Prod.mk.injEq] at hp
    obtain ⟨s1, hs, rfl, rfl⟩ := hp
    have hcl := h2.cellsOf
    have hl := hcl.length
    simp only [Array.length_toList] at hl
    obtain ⟨k1, k2, k3⟩ := storeAt_sound (P := P) h hcl hs
    have hsz : ¬ (ρ x).cells.size ≠ k := by omega
    refine ⟨undef, _, .inr ⟨by simp only [execOp, ho, hx, Instr.storeAt, Instr.sureAddr, storeVar, Sem.run_bind, Sem.run_pure, Result.andThen_ok, r_size w hk, if_neg hsz, k1], rfl⟩, μ, ⟨by omega, fun _ _ => rfl⟩, k2, .tuple _ _ .nil⟩
  · cases hp

theorem ws_mkMap {t : TypeId} (ho : o.op = .makeMap t none) : WSound P B0 W0 μ s w o .mkMap [] := by
  intro ρ vs v s' h hv hp
  obtain rfl := hv.inv0
  simp [wop] at hp
  obtain ⟨rfl, rfl⟩ := hp
  refine ⟨.map (some w.heap.size), w.alloc (.map #[] 0), .inl (by simp [execOp, ho, Instr.makeMap]), _, upd_agree ⟨w.heap.size, 0, 0, 0⟩ _, h.new _ _ ⟨w.heap.size, 0, 0, 0⟩ rfl ⟨by rw [upd_same]; exact h.size, #[], ?_, trivial⟩, ?_⟩
  · rw [upd_same]; show (w.heap.push _)[w.heap.size]? = _; simp
  · have := VR.map (μ := upd μ s.next ⟨w.heap.size, 0, 0, 0⟩) (n := s.next + 1) s.next (by omega)
    simpa [upd_same] using this

theorem mkSlice_run {t e : TypeId} {z : Value} {m b : Nat} {k k' : IntKind} {l c : Int} (ht : P.underlying t = some (.slice e)) (hz : zeroT P e = some z) (hm : sizeT P e = some m) (hb : bytesT P e = some b) (hzm : (cellsOf z).length = m) (hm0 : 0 < m)
    (h0 : 0 ≤ l) (h1 : l ≤ c) (h2 : c * b ≤ 1099511627776) (h3 : c ≤ 1099511627776) :
    ∃ cells : Array Value, cells.toList = replicateL c.toNat (cellsOf z) ∧ (Instr.makeSlice t (.int k l) (.int k' c)).run P w = .ok (.slice (some ⟨w.heap.size, 0, none⟩) l.toNat c.toNat) (w.alloc (.cells cells e)) := by
  have hzz : cellsOf z = z.cells.toList := by cases z <;> rfl
  obtain ⟨i, hi, hiz, _⟩ := zeroT_spec hz
  have hib : i.bytes = b := by simp [bytesT, hi] at hb; exact hb
  have hwl : IntKind.wrap .i64 l = l := by rw [← wrapF_eq]; simp only [wrapF]; rw [if_pos (by omega)]
  have hwc : IntKind.wrap .i64 c = c := by rw [← wrapF_eq]; simp only [wrapF]; rw [if_pos (by omega)]
  have hcb : ¬ ((b : Int) * c > 2 ^ 48) := by rw [Int.mul_comm]; omega
  have htl : (decide (c < 0) || decide ((b : Int) * c > 2 ^ 48) || decide (l < 0) || decide (l > c)) = false := by
    simp; omega
  by_cases hn : c.toNat * m = 0
  · have hc0 : c.toNat = 0 := by rcases Nat.mul_eq_zero.1 hn with e | e <;> omega
    refine ⟨#[], by rw [hc0]; rfl, ?_⟩
    simp only [Instr.makeSlice, Sem.run_bind, r_under w ht, asInt, asIntOf, Sem.run_pure, Result.andThen_ok, r_info w hi, hib, hwl, hwc, htl, Bool.false_eq_true, if_false, askRoom]
    simp [hc0, r_size w hm, newRow, roomBytes]
    rw [show Array.range 0 = #[] from rfl, Array.map_empty]
  · refine ⟨(Array.range (c.toNat * m)).map fun i => z.cells[i % z.cells.size]!, by rw [made_toList z.cells c.toNat m (by rw [← hzm, hzz]; simp) hm0, hzz], ?_⟩
    simp only [Instr.makeSlice, Sem.run_bind, r_under w ht, asInt, asIntOf, Sem.run_pure, Result.andThen_ok, r_info w hi, hib, hwl, hwc, htl, Bool.false_eq_true, if_false, askRoom]
    have hroom : ∀ w : World, (if c.toNat * b > roomBytes then mark .noRoom else pure () : Sem Unit).run P w = .ok () w := fun w => by split <;> rfl
    simp only [hroom, Result.andThen_ok, r_size w hm, Sem.run_bind, hn, if_false, r_zero w hz, Sem.run_pure, newRow, r_new]

theorem ws_mkSlice {t e : TypeId} {z : Value} {m b : Nat} {x y : Operand} (ht : P.underlying t = some (.slice e)) (hz : zeroT P e = some z) (hm : sizeT P e = some m) (hb : bytesT P e = some b) (hzm : (cellsOf z).length = m) (hm0 : 0 < m) (ho : o.op = .makeSlice t x y) :
    WSound P B0 W0 μ s w o (.mkSlice (cellsOf z) b) [x, y] := by
  intro ρ vs v s' h hv hp
  obtain ⟨u1, u2, rfl, h1, h2⟩ := hv.inv2
  generalize hx : ρ x = x' at h1
  generalize hy : ρ y = y' at h2
  have hzr : VR μ s.next z z := plainV_rel (zeroT_spec hz).choose_spec.2.2
  cases h1 <;> simp only [wop] at hp <;> (try (cases hp; done))
  rename_i k l
  cases h2 <;> simp only at hp <;> (try (cases hp; done))
  rename_i k' c
  split at hp
  · rename_i hc
    simp at hp
    obtain ⟨rfl, rfl⟩ := hp
    obtain ⟨cells, hcl, hr⟩ := mkSlice_run (P := P) (w := w) (k := k) (k' := k') ht hz hm hb hzm hm0 hc.1 hc.2.1 hc.2.2.1 hc.2.2.2
    refine ⟨.slice (some ⟨w.heap.size, 0, none⟩) l.toNat c.toNat, w.alloc (.cells cells e), .inl (by simp only [execOp, ho, hx, hy, Sem.run_bind, hr, Result.andThen_ok, Sem.run_pure]), _, upd_agree _ _, h.newRow _ 0 cells e (0, 0) (fun j v hj => ?_) (by rw [← hcl]; simp) (fun x _ => by simp), ?_⟩
    · rw [← hcl] at hj
      refine ⟨v, by simpa using hj, ?_⟩
      rw [hcl] at hj
      have hjl : j < c.toNat * (cellsOf z).length := by
        rcases Nat.lt_or_ge j (replicateL c.toNat (cellsOf z)).length with hh | hh
        · rwa [replicateL_length] at hh
        · rw [List.getElem?_eq_none hh] at hj; cases hj
      rw [replicateL_get _ _ _ hjl] at hj
      obtain ⟨v', k1, k2⟩ := hzr.cellsOf.get hj
      have hzz : cellsOf z = z.cells.toList := by cases z <;> rfl
      rw [← hzz, hj] at k1
      simp at k1
      subst k1
      exact k2
    · have := VR.slice (μ := upd μ s.next ⟨w.heap.size, 0, cells.size, 0⟩) (n := s.next + 1) s.next 0 0 l.toNat c.toNat c.toNat (by omega) (by omega) (Nat.le_refl _) (fun _ => rfl) (fun _ => by simp [upd_same]) (by simp [upd_same]) (fun hh => by simp [upd_same] at hh)
      simpa [upd_same] using this
  · cases hp

theorem ws_sl3 {t e : TypeId} {m : Nat} {x y z : Operand} (ht : P.underlying t = some (.slice e)) (hm : sizeT P e = some m) (ho : o.op = .slice t x none (some y) (some z)) : WSound P B0 W0 μ s w o .sl3 [x, y, z] := by
  intro ρ vs v s' h hv hp
  obtain ⟨u1, u2, u3, rfl, h1, h2, h3⟩ := hv.inv3
  generalize hx : ρ x = x' at h1
  generalize hy : ρ y = y' at h2
  generalize hz : ρ z = z' at h3
  cases h1 <;> (try (simp [wop] at hp; done))
  case nilSlice =>
    cases h2 <;> (try (simp [wop] at hp; done))
    cases h3 <;> (try (simp [wop] at hp; done))
    simp only [wop] at hp
    split at hp
    · rename_i hc
      obtain ⟨rfl, rfl⟩ := hc
      simp at hp
      obtain ⟨rfl, rfl⟩ := hp
      exact ⟨.slice none 0 0, w, .inl (by simp [execOp, ho, hx, hy, hz, Instr.sliceAt, Instr.slice, Instr.sliceBounds, Instr.sliceBound, asIntOf, r_under w ht, r_size w hm]), μ, Agree.refl _ _, h, .nilSlice⟩
    · cases hp
  case void ad =>
    cases h2 <;> (try (simp [wop] at hp; done))
    cases h3 <;> (try (simp [wop] at hp; done))
  case slice i off off' len cap cap' hi q0 q1 q2 q3 q4 q5 =>
    cases h2 <;> (try (simp [wop] at hp; done))
    cases h3 <;> (try (simp [wop] at hp; done))
    simp only [wop] at hp
    split at hp
    · rename_i hc
      obtain ⟨rfl, rfl, hcap⟩ := hc
      split at hp
      · rename_i cs g ro hget
        simp at hp
        obtain ⟨rfl, rfl⟩ := hp
        have ha := upd_agree (μ := μ) ⟨(μ i).block, off', off', 0⟩ s.next
        refine ⟨.slice (some ⟨(μ i).block, off', none⟩) 0 0, w, .inl (by simp [execOp, ho, hx, hy, hz, Instr.sliceAt, Instr.slice, Instr.sliceBounds, Instr.sliceBound, asIntOf, r_under w ht, r_size w hm]), _, ha, h.rename (.row [] 0 true) ⟨(μ i).block, off', off', 0⟩ (h.known i _ hget).2.1 ⟨by rw [upd_same], by rw [upd_same]; simp, fun j v hj => by simp at hj, fun _ => .inr rfl, fun hr => by simp at hr⟩ (fun hh => by simp [AObj.owned] at hh), ?_⟩
        have := VR.slice (μ := upd μ s.next ⟨(μ i).block, off', off', 0⟩) (n := s.next + 1) s.next 0 off' 0 0 0 (by omega) (Nat.le_refl _) (Nat.le_refl _) (fun _ => rfl) (fun _ => by simp [upd_same]) (by simp [upd_same]) (fun hh => by simp [upd_same] at hh)
        simpa [upd_same] using this
      · cases hp
    · cases hp

theorem ws_strToBytes {t1 t2 e : TypeId} {x : Operand} (h1 : P.underlying t1 = some .string) (h2 : P.underlying t2 = some (.slice e)) (he : P.underlying e = some (.int .u8)) (ho : o.op = .convert t1 t2 x) : WSound P B0 W0 μ s w o .strToBytes [x] := by
  intro ρ vs v s' h hv hp
  obtain ⟨a, rfl, ha⟩ := hv.inv1
  generalize hx : ρ x = x' at ha
  cases ha <;> simp only [wop] at hp <;> (try (cases hp; done))
  rename_i b
  · simp [St.grow] at hp
    obtain ⟨rfl, rfl⟩ := hp
    obtain ⟨cap, hcap⟩ : ∃ cap, cap = (Question.appendCap b.size 0 e).cut (w.tape w.drawn (.appendCap b.size 0 e)) := ⟨_, rfl⟩
    have hge : b.size ≤ cap := by rw [hcap]; simp only [Question.cut]; omega
    obtain ⟨cells, hcells⟩ : ∃ cells : Array Value, cells = (b.data.map fun c => Value.int .u8 c.toNat) ++ Array.replicate (cap - b.size) (.int .u8 0) := ⟨_, rfl⟩
    have hcsz : cells.size = cap := by rw [hcells]; simp; show b.data.size + _ = _; have : b.data.size = b.size := rfl; omega
    have hrun : (Conv.stringToBytes e b).run P w = .ok (.slice (some ⟨w.heap.size, 0, none⟩) b.size cap) ({ w with drawn := w.drawn + 1 }.alloc (.cells cells e (cap, cap + 1))) := by
      simp only [Conv.stringToBytes, Sem.run_bind, run_choose, Question.forced, Bool.false_eq_true, if_false, Result.andThen_ok, ← hcap, ← hcells, newRow, r_new, Sem.run_pure, markStringish, run_shape]
      have hs : ({ w with drawn := w.drawn + 1 }.alloc (.cells cells e)).shape? w.heap.size = some (e, cap) := by
        have : ({ w with drawn := w.drawn + 1 }.alloc (.cells cells e)).heap[w.heap.size]? = some (.cells cells e) := by show (w.heap.push _)[w.heap.size]? = _; simp
        simp only [World.shape?, this, hcsz]
      rw [hs]
      simp only [run_freeze, Result.andThen_ok, World.freeze]
      congr 1
      simp only [World.alloc, Nat.one_ne_zero, if_false]
      congr 1
      apply Array.ext
      · simp
      · intro j hj1 hj2
        simp only [Array.getElem_modify, Array.getElem_push]
        by_cases hj : j < w.heap.size
        · simp [hj]; intro e; omega
        · have : w.heap.size = j := by simp at hj2; omega
          simp [this]
    refine ⟨.slice (some ⟨w.heap.size, 0, none⟩) b.size cap, { w with drawn := w.drawn + 1 }.alloc (.cells cells e (cap, cap + 1)), .inl (by simp only [execOp, ho, hx, Sem.run_bind, convert, r_under w h1, r_under w h2, r_under w he, Result.andThen_ok, hrun, Sem.run_pure]), _, upd_agree _ _, (h.drew (w.drawn + 1)).newRow _ 1 cells e (cap, cap + 1) (fun j v hj => ?_) (by rw [hcsz]; simp; show b.data.size ≤ _; exact hge) (fun x hx => by rw [hcsz] at hx; simp; omega), ?_⟩
    · simp only [List.getElem?_map, Option.map_eq_some_iff] at hj
      obtain ⟨c, hc, rfl⟩ := hj
      refine ⟨.int .u8 c.toNat, ?_, .int _ _⟩
      have hlt : j < b.data.size := by
        rcases Nat.lt_or_ge j b.data.size with hh | hh
        · exact hh
        · rw [List.getElem?_eq_none (by simpa using hh)] at hc; cases hc
      rw [hcells, Array.getElem?_append_left (by simpa using hlt)]
      simp at hc
      simp [hc]
    · have := VR.slice (μ := upd μ s.next ⟨w.heap.size, 0, cells.size, 1⟩) (n := s.next + 1) s.next 0 0 b.size b.size cap (by omega) (Nat.le_refl _) hge (fun hh => by simp [upd_same] at hh) (fun _ => by simp [upd_same]) (by simp [upd_same]) (fun _ => by simp [upd_same, hcsz])
      simpa [upd_same] using this

end Go.Am
end
section
set_option linter.unusedSimpArgs false
set_option linter.unusedVariables false
set_option maxRecDepth 10000
namespace Go.Am
open Go.RowKit (Below)

variable {P : Program} {B0 : Nat} {W0 : World} {μ : Nat → Spot} {s : St} {w : World} {o : Oper}

theorem sameBits_of {n : Nat} {kk : KeyK} {x y x' y' : Value} (h : sameV kk x y = some true) (hx : VR μ n x x') (hy : VR μ n y y') (k : Nat) : Instr.sameBits (k + 1) x' y' = true ∧ Instr.sameBits (k + 1) y' x' = true := by
  unfold sameV at h
  split at h
  · cases hx; cases hy
    split at h
    · rename_i hk; subst hk; simp at h; subst h; simp [Instr.sameBits]
    · cases h
  · cases hx; cases hy
    rename_i a b
    have : a = b := by
      simp at h
      cases a; cases b; simp at h; rw [h]
    subst this
    simp [Instr.sameBits, beq_toListBytes]
  · cases hx; cases hy
    simp at h; subst h; simp [Instr.sameBits]
  · cases h

theorem ER.mod {n c : Nat} {k v k' v' : Value} (hk : VR μ n k k') (hv : VR μ n v v') : ∀ {es : List (Value × Value × Nat)} {es' : List MapEntry} (i : Nat), ER μ n c es es' → ER μ n c (es.modify i fun e => (k, v, e.2.2)) (es'.modify i fun e => { e with key := k', val := v' })
  | [], [], i, _ => by simp; trivial
  | e :: es, e' :: es', 0, ⟨h1, h2, h3, h4, h5⟩ => by simp; exact ⟨hk, hv, h3, h4, h5⟩
  | e :: es, e' :: es', i + 1, ⟨h1, h2, h3, h4, h5⟩ => by simp; exact ⟨h1, h2, h3, h4, ER.mod hk hv i h5⟩
  | [], _ :: _, _, h => h.elim
  | _ :: _, [], _, h => h.elim
theorem ER.snoc {n c : Nat} {k v k' v' : Value} (hk : VR μ n k k') (hv : VR μ n v v') : ∀ {es : List (Value × Value × Nat)} {es' : List MapEntry}, ER μ n c es es' → ER μ n (c + 1) (es ++ [(k, v, c)]) (es' ++ [{ key := k', val := v', born := c }])
  | [], [], _ => ⟨hk, hv, rfl, by show c < c + 1; omega, trivial⟩
  | e :: es, e' :: es', ⟨h1, h2, h3, h4, h5⟩ => ⟨h1, h2, h3, by omega, ER.snoc hk hv h5⟩
  | [], _ :: _, h => h.elim
  | _ :: _, [], h => h.elim
theorem ER.erase {n c : Nat} : ∀ {es : List (Value × Value × Nat)} {es' : List MapEntry} (i : Nat), ER μ n c es es' → ER μ n c (es.eraseIdx i) (es'.eraseIdx i)
  | [], [], i, _ => by simp; trivial
  | e :: es, e' :: es', 0, ⟨h1, h2, h3, h4, h5⟩ => by simp; exact h5
  | e :: es, e' :: es', i + 1, ⟨h1, h2, h3, h4, h5⟩ => by simp; exact ⟨h1, h2, h3, h4, ER.erase i h5⟩
  | [], _ :: _, _, h => h.elim
  | _ :: _, [], _, h => h.elim

/-- a map's block turned -/
theorem map_turned (h : Rel B0 W0 μ s w) {r : Nat} {es : List (Value × Value × Nat)} {c : Nat} (hr : s.get r = some (.map es c)) {es1 : List (Value × Value × Nat)} {c1 : Nat} {es1' : Array MapEntry} (he : ER μ s.next c1 es1 es1'.toList) :
    Rel B0 W0 μ (s.put r (some (.map es1 c1))) { w with heap := w.heap.setIfInBounds (μ r).block (.map es1' c1) } := by
  have hk := h.known r _ hr
  refine h.setObj hr rfl _ _ ⟨hk.2.2.1, es1', ?_, he⟩
  simp [hk.2.1]

theorem ws_mapSet {op : Op} {t kt e : TypeId} {m k x : Operand} {kk : KeyK} (ht : P.underlying t = some (.map kt e)) (hkk : keyT P kt = some kk) (hop : op = .mapUpdate t m k x ∨ op = .insert t m k x) (ho : o.op = op) : WSound P B0 W0 μ s w o (.mapSet kk) [m, k, x] := by
  intro ρ vs v s' h hv hp
  obtain ⟨u1, u2, u3, rfl, h1, h2, h3⟩ := hv.inv3
  generalize hm : ρ m = m' at h1
  obtain ⟨d, hd, hdk⟩ := keyT_desc hkk
  cases h1 <;> (try (simp [wop] at hp; done))
  rename_i r hr
  simp only [wop] at hp
  split at hp <;> (try (cases hp; done))
  rename_i es clock hget
  split at hp <;> (try (cases hp; done))
  obtain ⟨hB, es', hb, he⟩ := (h.known r _ hget).2.2
  have hgo := MapKept.run_getObj_map (P := P) hb
  have hexec : (execOp ρ o).run P w = ((Instr.mapUpdate t (.map (some (μ r).block)) (ρ k) (ρ x)).run P w).andThen fun _ w' => .ok .skip w' := by
    rcases hop with rfl | rfl <;> simp [execOp, ho, hm]
  split at hp
  · rename_i i u hf
    simp at hp
    obtain ⟨rfl, rfl⟩ := hp
    rcases find_sound hdk h2 es es'.toList 0 _ he hf with ⟨k1, _⟩ | ⟨j, u1, u', e', k1, k2, k3, k4, k5, ⟨e0, k6, k7, k8⟩, _⟩
    · cases k1
    · simp at k1
      obtain ⟨rfl, rfl⟩ := k1
      have hj : es'[i]? = some e' := by simpa using k4
      have hst : (Instr.keyThatStays (((es'[i]?).map (·.key)).getD (ρ k)) (ρ k)).run P w = .ok (ρ k) w := by
        simp only [hj, Option.map_some, Option.getD_some, Instr.keyThatStays]
        rw [if_pos (sameBits_of (k := 9999) k7 h2 k8).2]
        rfl
      refine ⟨undef, { w with heap := w.heap.setIfInBounds (μ r).block (.map (es'.modify i fun e => { e with key := ρ k, val := ρ x }) clock) }, .inr ⟨?_, rfl⟩, μ, Agree.refl _ _, ?_, .tuple _ _ .nil⟩
      · rw [hexec]
        simp only [Instr.mapUpdate, Sem.run_bind, r_under w ht, hgo, check_key (k := 9999) hkk, MapKept.run_findKey hd k2, Result.andThen_ok, Nat.zero_add, hst, MapKept.run_setObj_map _ hb]
      · refine map_turned h hget ?_
        rw [Array.toList_modify]
        exact he.mod h2 h3 i
  · rename_i hf
    simp at hp
    obtain ⟨rfl, rfl⟩ := hp
    rcases find_sound hdk h2 es es'.toList 0 _ he hf with ⟨_, k2⟩ | ⟨_, _, _, _, k1, _⟩
    · refine ⟨undef, { w with heap := w.heap.setIfInBounds (μ r).block (.map (es'.push { key := ρ k, val := ρ x, born := clock }) (clock + 1)) }, .inr ⟨?_, rfl⟩, μ, Agree.refl _ _, ?_, .tuple _ _ .nil⟩
      · rw [hexec]
        simp only [Instr.mapUpdate, Sem.run_bind, r_under w ht, hgo, check_key (k := 9999) hkk, MapKept.run_findKey hd k2, Result.andThen_ok, MapKept.run_setObj_map _ hb]
      · refine map_turned h hget ?_
        rw [Array.toList_push]
        exact he.snoc h2 h3
    · cases k1
  · cases hp

theorem ws_delete {t t2 kt e : TypeId} {m k : Operand} {kk : KeyK} (ht : P.underlying t = some (.map kt e)) (hkk : keyT P kt = some kk) (ho : o.op = .call { callee := .builtin .delete, args := #[m, k], argTypes := #[t, t2] }) : WSound P B0 W0 μ s w o (.delete kk) [m, k] := by
  intro ρ vs v s' h hv hp
  obtain ⟨u1, u2, rfl, h1, h2⟩ := hv.inv2
  generalize hm : ρ m = m' at h1
  obtain ⟨d, hd, hdk⟩ := keyT_desc hkk
  cases h1 <;> (try (simp [wop] at hp; done))
  case nilMap =>
    simp only [wop] at hp
    split at hp
    · simp at hp
      obtain ⟨rfl, rfl⟩ := hp
      exact ⟨.tuple #[], w, .inl (by simp [execOp, ho, resolve, invoke, builtin, Builtin.delete_, hm, r_under w ht, check_key (k := 9999) hkk]), μ, Agree.refl _ _, h, .tuple _ _ .nil⟩
    · cases hp
  case map r hr =>
    simp only [wop] at hp
    split at hp <;> (try (cases hp; done))
    rename_i es clock hget
    split at hp <;> (try (cases hp; done))
    obtain ⟨hB, es', hb, he⟩ := (h.known r _ hget).2.2
    have hgo := MapKept.run_getObj_map (P := P) hb
    split at hp
    · rename_i i u hf
      simp at hp
      obtain ⟨rfl, rfl⟩ := hp
      rcases find_sound hdk h2 es es'.toList 0 _ he hf with ⟨k1, _⟩ | ⟨j, u1, u', e', k1, k2, k3, k4, _⟩
      · cases k1
      · simp at k1
        obtain ⟨rfl, rfl⟩ := k1
        refine ⟨.tuple #[], { w with heap := w.heap.setIfInBounds (μ r).block (.map (es'.eraseIdxIfInBounds i) clock) }, .inl ?_, μ, Agree.refl _ _, ?_, .tuple _ _ .nil⟩
        · simp [execOp, ho, resolve, invoke, builtin, Builtin.delete_, hm, r_under w ht, hgo, check_key (k := 9999) hkk, MapKept.run_findKey hd k2, MapKept.run_setObj_map _ hb]
        · refine map_turned h hget ?_
          have : (es'.eraseIdxIfInBounds i).toList = es'.toList.eraseIdx i := by simp
          rw [this]
          exact he.erase i
    · rename_i hf
      simp at hp
      obtain ⟨rfl, rfl⟩ := hp
      rcases find_sound hdk h2 es es'.toList 0 _ he hf with ⟨_, k2⟩ | ⟨_, _, _, _, k1, _⟩
      · refine ⟨.tuple #[], { w with heap := w.heap.setIfInBounds (μ r).block (.map es' clock) }, .inl ?_, μ, Agree.refl _ _, ?_, .tuple _ _ .nil⟩
        · simp [execOp, ho, resolve, invoke, builtin, Builtin.delete_, hm, r_under w ht, hgo, check_key (k := 9999) hkk, MapKept.run_findKey hd k2, MapKept.run_setObj_map _ hb]
        · refine h.heap ?_ rfl rfl rfl
          apply Array.ext_getElem?
          intro j
          rw [Array.getElem?_setIfInBounds]
          split
          · rename_i hj
            subst hj
            rw [if_pos (h.known r _ hget).2.1, hb]
          · rfl
      · cases k1
    · cases hp

theorem range_after (h : Rel B0 W0 μ s w) (ob : AObj) (c : Obj) (hid : IdOk B0 (upd μ s.next ⟨w.heap.size, 0, 0, 0⟩) (s.next + 1) (w.alloc c) s.next ob) : After B0 W0 μ s (.pointer (some ⟨s.next, 0, none⟩)) (s.new ob) (.pointer (some ⟨w.heap.size, 0, none⟩)) (w.alloc c) := by
  refine ⟨_, upd_agree ⟨w.heap.size, 0, 0, 0⟩ _, h.new ob c ⟨w.heap.size, 0, 0, 0⟩ rfl hid, ?_⟩
  have := VR.ptr (μ := upd μ s.next ⟨w.heap.size, 0, 0, 0⟩) (n := s.next + 1) s.next 0 (by omega)
  simpa [upd_same] using this
theorem alloc_new (w : World) (c : Obj) : (w.alloc c).heap[w.heap.size]? = some c := by show (w.heap.push _)[w.heap.size]? = _; simp

theorem ws_rangeStr {t : TypeId} {x : Operand} (ht : P.underlying t = some .string) (ho : o.op = .range t x) : WSound P B0 W0 μ s w o (.range true) [x] := by
  intro ρ vs v s' h hv hp
  obtain ⟨a, rfl, ha⟩ := hv.inv1
  generalize hx : ρ x = x' at ha
  cases ha <;> (try (simp [wop] at hp; done))
  rename_i b
  simp [wop] at hp
  obtain ⟨rfl, rfl⟩ := hp
  exact ⟨_, w.alloc (.stringIter b 0), .inl (by simp [execOp, ho, hx, Instr.range, r_under w ht]), range_after h _ _ ⟨by rw [upd_same]; exact h.size, by rw [upd_same], by rw [upd_same]; exact alloc_new _ _⟩⟩

theorem ws_rangeMap {t k e : TypeId} {x : Operand} (ht : P.underlying t = some (.map k e)) (ho : o.op = .range t x) : WSound P B0 W0 μ s w o (.range false) [x] := by
  intro ρ vs v s' h hv hp
  obtain ⟨a, rfl, ha⟩ := hv.inv1
  generalize hx : ρ x = x' at ha
  cases ha <;> (try (simp [wop] at hp; done))
  case nilMap =>
    simp [wop] at hp
    obtain ⟨rfl, rfl⟩ := hp
    exact ⟨_, w.alloc (.mapIter none 0 #[] 0), .inl (by simp [execOp, ho, hx, Instr.range, r_under w ht]), range_after h _ _ ⟨by rw [upd_same]; exact h.size, by rw [upd_same], fun r hr => by simp at hr, by rw [upd_same]; exact alloc_new _ _⟩⟩
  case map r hr =>
    simp only [wop] at hp
    split at hp <;> (try (cases hp; done))
    rename_i es clock hget
    simp at hp
    obtain ⟨rfl, rfl⟩ := hp
    obtain ⟨hB, es', hb, he⟩ := (h.known r _ hget).2.2
    have hgo := MapKept.run_getObj_map (P := P) hb
    have hne : r ≠ s.next := by omega
    exact ⟨_, w.alloc (.mapIter (some (μ r).block) clock #[] clock), .inl (by simp [execOp, ho, hx, Instr.range, r_under w ht, hgo]), range_after h _ _ ⟨by rw [upd_same]; exact h.size, by rw [upd_same], fun q hq => by simp at hq; omega, by rw [upd_same]; simp only [Option.map_some, upd, hne, if_false]; exact alloc_new _ _⟩⟩

/-! ### a slice that grows -/
theorem src_sound (h : Rel B0 W0 μ s w) {esz : Nat} {v v' : Value} (hv : VR μ s.next v v') {n : Nat} {l : List Value} (hn : srcLen v = some n) (hl : s.srcCells esz v = some l) :
    (Builtin.lenOf v').run P w = .ok n w ∧ ∀ k, k ≤ n → ∃ l', (Builtin.firstCells esz k v').run P w = .ok l'.toArray w ∧ VRs μ s.next (l.take (k * esz)) l' := by
  cases hv <;> simp [srcLen] at hn
  case string b =>
    subst hn
    simp [St.srcCells] at hl
    obtain ⟨rfl, rfl⟩ := hl
    refine ⟨by simp [Builtin.lenOf], fun k hk => ⟨(b.data.toList.map fun c => Value.int .u8 c.toNat).take k, ?_, ?_⟩⟩
    · simp only [Builtin.firstCells, Sem.run_pure]
      congr 1
      apply Array.toList_inj.1
      have : (b.extract 0 k).data = b.data.extract 0 k := by simp [ByteArray.extract, ByteArray.copySlice]
      rw [this]
      simp
    · rw [Nat.mul_one]
      have : ∀ l : List UInt8, VRs μ s.next (l.map fun c => Value.int .u8 c.toNat) (l.map fun c => Value.int .u8 c.toNat) := fun l => by
        induction l with
        | nil => exact .nil
        | cons x l ih => exact .cons _ _ _ _ (.int _ _) ih
      exact (this _).take k
  case nilSlice =>
    subst hn
    simp [St.srcCells] at hl
    subst hl
    exact ⟨by simp [Builtin.lenOf], fun k hk => ⟨[], by simp [Builtin.firstCells], by simp; exact .nil⟩⟩
  case void ad =>
    subst hn
    simp [St.srcCells] at hl
    subst hl
    refine ⟨by simp [Builtin.lenOf], fun k hk => ⟨[], ?_, by simp; exact .nil⟩⟩
    have : k = 0 := by omega
    subst this
    simp [Builtin.firstCells, loadCells, loadCellsFrom]
  case slice i off off' len cap cap' hi q0 q1 q2 q3 q4 q5 =>
    subst hn
    simp only [St.srcCells] at hl
    by_cases hn0 : len = 0
    · subst hn0
      simp at hl
      subst hl
      refine ⟨by simp [Builtin.lenOf], fun k hk => ⟨[], ?_, by simp; exact .nil⟩⟩
      have : k = 0 := by omega
      subst this
      simp [Builtin.firstCells, loadCells, loadCellsFrom]
    rw [if_neg hn0] at hl
    refine ⟨by simp [Builtin.lenOf], fun k hk => ?_⟩
    by_cases hk0 : k * esz = 0
    · refine ⟨[], by simp [Builtin.firstCells, hk0, loadCells, loadCellsFrom], by rw [hk0]; simp; exact .nil⟩
    · have hlen : 0 < cap := by
        have : k ≠ 0 := fun e => hk0 (by rw [e]; simp)
        omega
      have hoo := q3 (.inl hlen)
      subst hoo
      have hc : s.cells ⟨i, off, none⟩ (k * esz) = some (l.take (k * esz)) := by
        unfold St.cells at hl ⊢
        simp only at hl ⊢
        split at hl
        · rename_i cs g ro hget
          split at hl
          · rename_i hle
            simp at hl
            have hmul : k * esz ≤ len * esz := Nat.mul_le_mul_right _ hk
            rw [if_pos (by omega), ← hl, List.take_take, Nat.min_eq_left hmul]
          · cases hl
        · cases hl
      obtain ⟨l', k1, k2⟩ := load_cells (P := P) h hc
      exact ⟨l', by simp [Builtin.firstCells, k1], k2⟩

end Go.Am
end
section
set_option linter.unusedSimpArgs false
set_option linter.unusedVariables false
set_option maxRecDepth 10000
namespace Go.Am
open Go.RowKit (Below)

variable {P : Program} {B0 : Nat} {W0 : World} {μ : Nat → Spot} {s : St} {w : World} {o : Oper}

theorem growBy_le (newLen : Nat) : ∀ (r c : Nat), Builtin.growBy newLen r c ≤ max c (newLen + (newLen + 768) / 4)
  | 0, c => by simp [Builtin.growBy]; omega
  | r + 1, c => by
    unfold Builtin.growBy
    split
    · omega
    · have := growBy_le newLen r (c + (c + 768) / 4)
      omega

theorem nextcap_le (newLen oldCap : Nat) (h : oldCap < newLen) : Builtin.nextslicecap newLen oldCap ≤ 2 * newLen + 192 := by
  unfold Builtin.nextslicecap
  split
  · omega
  · split
    · omega
    · have := growBy_le newLen 4 oldCap
      omega

/-- an append that makes a new row, as the first machine runs it -/
theorem append_grows {t u e ty : TypeId} {esz bytes n need sLen cap : Nat} {z : Value} {base : Option Addr} {x : Value} {old new : List Value} (ht : P.underlying t = some (.slice e)) (hu : (∃ e', P.underlying u = some (.slice e')) ∨ P.underlying u = some .string) (hz : zeroT P e = some z)
    (hm : sizeT P e = some esz) (hb : bytesT P e = some bytes) (hlen : (Builtin.lenOf x).run P w = .ok n w) (hneed : need = sLen + n) (hcap : cap < need) (hbig : need * bytes ≤ 1099511627776) (hbig2 : need ≤ 1099511627776) (hn : 0 < n)
    (e1 : (Builtin.firstCells esz sLen (.slice base sLen cap)).run P w.drew = .ok old.toArray w.drew) (e2 : (Builtin.firstCells esz n x).run P w.drew = .ok new.toArray w.drew) :
    ∃ c k, need ≤ c ∧ k = Builtin.zeroCells z.cells (c - need) ∧ (Builtin.append_ #[t, u] ty #[.slice base sLen cap, x]).run P w =
      .ok (.slice (some ⟨w.heap.size, 0, none⟩) need c) (w.drew.alloc (.cells (old.toArray ++ new.toArray ++ k) e)) := by
  obtain ⟨i, hi, hiz, _⟩ := zeroT_spec hz
  have hib : i.bytes = bytes := by simp [bytesT, hi] at hb; exact hb
  have hgew : need ≤ (Question.appendCap need cap e).cut (w.tape w.drawn (.appendCap need cap e)) := by simp only [Question.cut]; omega
  refine ⟨_, _, hgew, rfl, ?_⟩
  subst hneed
  have hle : ¬ sLen + n ≤ cap := by omega
  have h63' : ¬ (9223372036854775807 < ((sLen : Int) + (n : Int))) := by omega
  have h2 : ¬ (281474976710656 < Builtin.nextslicecap (sLen + n) cap * bytes) := by
    have h3 := nextcap_le (sLen + n) cap hcap
    have h4 : Builtin.nextslicecap (sLen + n) cap * bytes ≤ (2 * (sLen + n) + 192) * bytes := Nat.mul_le_mul_right _ h3
    have h5 : bytes ≤ (sLen + n) * bytes := Nat.le_mul_of_pos_left _ (by omega)
    have h6 : (2 * (sLen + n) + 192) * bytes = 2 * ((sLen + n) * bytes) + 192 * bytes := by rw [Nat.add_mul, Nat.mul_assoc]
    omega
  have hroom : ∀ (k : Nat) (w : World), (askRoom k).run P w = .ok () w := fun k w => by unfold askRoom; split <;> rfl
  rcases hu with ⟨e', hu⟩ | hu
  · simp [Builtin.append_, r_under w ht, r_under w hu, r_size w hm, hlen, hle, r_info w hi, r_info w.drew hi, zeroValue, hiz, hib, h63', h2, Question.forced, hroom, e1, e2, newRow]
    congr 2
    apply Array.ext'
    simp [List.append_assoc]
  · simp [Builtin.append_, r_under w ht, r_under w hu, r_size w hm, hlen, hle, r_info w hi, r_info w.drew hi, zeroValue, hiz, hib, h63', h2, Question.forced, hroom, e1, e2, newRow]
    congr 2
    apply Array.ext'
    simp [List.append_assoc]

/-- an append within the capacity -/
theorem append_fits {t u e ty : TypeId} {esz n sLen cap : Nat} {base : Option Addr} {x : Value} {new : List Value} {w' : World} (ht : P.underlying t = some (.slice e)) (hu : (∃ e', P.underlying u = some (.slice e')) ∨ P.underlying u = some .string)
    (hm : sizeT P e = some esz) (hlen : (Builtin.lenOf x).run P w = .ok n w) (hle : sLen + n ≤ cap) (hnew : (Builtin.firstCells esz n x).run P w = .ok new.toArray w)
    (hst : (base = none ∧ w' = w) ∨ ∃ a, base = some a ∧ (storeCells (a.add (sLen * esz)) new).run P w = .ok () w') :
    (Builtin.append_ #[t, u] ty #[.slice base sLen cap, x]).run P w = .ok (.slice base (sLen + n) cap) w' := by
  rcases hu with ⟨e', hu⟩ | hu
  · rcases hst with ⟨rfl, rfl⟩ | ⟨a, rfl, hst⟩
    · simp [Builtin.append_, r_under w' ht, r_under w' hu, r_size w' hm, hlen, hle, hnew]
    · simp [Builtin.append_, r_under w ht, r_under w hu, r_size w hm, hlen, hle, hnew, hst]
  · rcases hst with ⟨rfl, rfl⟩ | ⟨a, rfl, hst⟩
    · simp [Builtin.append_, r_under w' ht, r_under w' hu, r_size w' hm, hlen, hle, hnew]
    · simp [Builtin.append_, r_under w ht, r_under w hu, r_size w hm, hlen, hle, hnew, hst]

theorem Rel.congr {s1 : St} (h : Rel B0 W0 μ s w) (hn : s1.next = s.next) (hg : ∀ i, s1.get i = s.get i) : Rel B0 W0 μ s1 w :=
  ⟨h.low, h.below, fun i o hi => by rw [hn]; exact h.known i o (by rw [← hg]; exact hi), fun i j oi oj hij hi hj => h.apart i j oi oj hij (by rw [← hg]; exact hi) (by rw [← hg]; exact hj)⟩

/-- a grown slice in a block of its own: what the first machine's new row is -/
theorem grown_after {w1 : World} (h : Rel B0 W0 μ s w1) {esz n c : Nat} {cs l k : List Value} {e : TypeId} (hcs : VRs μ s.next cs l) (hn : n ≤ c) (hlen : l.length + k.length = c * esz) (he : esz ≠ 0) :
    After B0 W0 μ s (s.grow esz n cs).1 (s.grow esz n cs).2 (.slice (some ⟨w1.heap.size, 0, none⟩) n c) (w1.alloc (.cells (l.toArray ++ k.toArray) e)) := by
  refine ⟨_, upd_agree _ _, h.newRow cs esz (l.toArray ++ k.toArray) e (0, 0) (fun j v hj => ?_) (by have := hcs.length; simp; omega) (fun x _ => by simp), ?_⟩
  · obtain ⟨v', h1, h2⟩ := hcs.get hj
    refine ⟨v', ?_, h2⟩
    have hlt : j < l.length := by
      rcases Nat.lt_or_ge j l.length with hh | hh
      · exact hh
      · rw [List.getElem?_eq_none hh] at h1; cases h1
    rw [Array.getElem?_append_left (by simpa using hlt)]
    simpa using h1
  · have := VR.slice (μ := upd μ s.next ⟨w1.heap.size, 0, (l.toArray ++ k.toArray).size, esz⟩) (n := s.next + 1) s.next 0 0 n n c (by omega) (Nat.le_refl _) hn (fun hh => by simp [upd_same] at hh; exact absurd hh he) (fun _ => by simp [upd_same]) (by simp [upd_same]) (fun _ => by simp [upd_same]; omega)
    simpa [upd_same, St.grow] using this

theorem zeroCells_length (z : Array Value) (n : Nat) : (Builtin.zeroCells z n).toList.length = n * z.size := by simp [Builtin.zeroCells]

theorem ws_append {t u e : TypeId} {esz bytes : Nat} {x y : Operand} {z : Value} (ht : P.underlying t = some (.slice e)) (hu : (∃ e', P.underlying u = some (.slice e')) ∨ P.underlying u = some .string) (hz : zeroT P e = some z) (hm : sizeT P e = some esz) (hb : bytesT P e = some bytes)
    (hzm : (cellsOf z).length = esz) (ho : o.op = .call { callee := .builtin .append, args := #[x, y], argTypes := #[t, u] }) : WSound P B0 W0 μ s w o (.append esz bytes) [x, y] := by
  intro ρ vs v s' h hv hp
  obtain ⟨a, b, rfl, ha, hb'⟩ := hv.inv2
  have hzs : z.cells.size = esz := by rw [← hzm]; cases z <;> simp [Value.cells, cellsOf]
  have hexec : (execOp ρ o).run P w = ((Builtin.append_ #[t, u] o.type #[ρ x, ρ y]).run P w).andThen fun v w' => .ok (.value v) w' := by
    simp [execOp, ho, resolve, invoke, builtin]
  have fin : ∀ {v' : Value} {w' : World}, (Builtin.append_ #[t, u] o.type #[ρ x, ρ y]).run P w = .ok v' w' → Did P ρ o w v' w' := fun hr => .inl (by rw [hexec, hr]; rfl)
  simp only [wop, appendV] at hp
  split at hp <;> (try (cases hp; done))
  rename_i n new hn hl
  obtain ⟨hlen, hfirst⟩ := src_sound (P := P) h hb' hn hl
  -- the appended cells, whole
  have hnlen : new.length = n * esz := by
    revert hb'
    generalize ρ y = y'
    intro hb'
    cases hb' <;> simp [srcLen] at hn <;> simp only [St.srcCells] at hl
    case string b1 =>
      split at hl
      · simp at hl; subst hl; subst hn; rename_i he; simp [he]
      · cases hl
    case nilSlice => simp at hl; subst hl; subst hn; simp
    case void ad => simp at hl; subst hl; subst hn; simp
    case slice i off off' len cap cap' hi q0 q1 q2 q3 q4 q5 =>
      subst hn
      split at hl
      · rename_i h0; simp at hl; subst hl; simp [h0]
      unfold St.cells at hl
      simp only at hl
      split at hl
      · split at hl
        · simp at hl; subst hl; simp; omega
        · cases hl
      · cases hl
  obtain ⟨new', hnf, hnr⟩ := hfirst n (Nat.le_refl _)
  rw [List.take_of_length_le (by omega)] at hnr
  have hnl := hnr.length
  obtain ⟨new2, hnf2, hnr2⟩ := (src_sound (P := P) (h.drew (w.drawn + 1)) hb' hn hl).2 n (Nat.le_refl _)
  rw [List.take_of_length_le (by omega)] at hnr2
  have hnl2 := hnr2.length
  split at hp
  · -- nothing is appended
    rename_i hn0
    subst hn0
    have hn' : new' = [] := List.length_eq_zero_iff.1 (by rw [hnl, hnlen]; simp)
    subst hn'
    generalize hx : ρ x = x' at ha fin
    cases ha <;> simp only at hp <;> (try (cases hp; done))
    case nilSlice =>
      simp at hp
      obtain ⟨rfl, rfl⟩ := hp
      exact ⟨_, _, fin (append_fits (P := P) ht hu hm hlen (by omega) hnf (.inl ⟨rfl, rfl⟩)), μ, Agree.refl _ _, h, .nilSlice⟩
    case void ad =>
      simp at hp
      obtain ⟨rfl, rfl⟩ := hp
      exact ⟨_, _, fin (append_fits (P := P) ht hu hm hlen (by omega) hnf (.inr ⟨_, rfl, by simp [storeCells]⟩)), μ, Agree.refl _ _, h, .void ad⟩
    case slice i off off' len cap cap' hi q0 q1 q2 q3 q4 q5 =>
      simp at hp
      obtain ⟨rfl, rfl⟩ := hp
      exact ⟨_, _, fin (append_fits (P := P) ht hu hm hlen (by omega) hnf (.inr ⟨_, rfl, by simp [storeCells]⟩)), μ, Agree.refl _ _, h, .slice _ _ _ _ _ _ hi q0 q1 q2 q3 q4 q5⟩
  · rename_i hn0
    split at hp <;> (try (cases hp; done))
    rename_i hcond
    have hesz : esz ≠ 0 := fun e => hcond (.inl e)
    have hone : new.all oneCell = true := by
      have : ¬ ¬ new.all oneCell = true := fun e => hcond (.inr (by simpa using e))
      simpa using this
    generalize hx : ρ x = x' at ha fin
    cases ha <;> simp only at hp <;> (try (cases hp; done))
    case nilSlice =>
      split at hp <;> (try (cases hp; done))
      rename_i hbig
      simp only [Option.some.injEq] at hp
      obtain ⟨c, k, h1, rfl, h3⟩ := append_grows (P := P) (ty := o.type) (base := none) (sLen := 0) (cap := 0) (old := []) (need := n) ht hu hz hm hb hlen (by omega) (by omega) hbig.1 hbig.2 (by omega) (by simp [Builtin.firstCells]) hnf2
      have haf := grown_after (w1 := w.drew) (h.drew _) (e := e) (k := (Builtin.zeroCells z.cells (c - n)).toList) hnr2 h1 (by rw [zeroCells_length, hnl2, hnlen, hzs, ← Nat.add_mul]; congr 1; omega) hesz
      rw [hp] at haf
      refine ⟨_, _, fin h3, ?_⟩
      simpa using haf
    case slice i off off' len cap cap' hi q0 q1 q2 q3 q4 q5 =>
      split at hp <;> (try (cases hp; done))
      rename_i hbig
      split at hp <;> (try (cases hp; done))
      rename_i cs g ro old hget hold
      have hoo : 0 < len → off' = (μ i).base + off := fun hl => q3 (.inl (by omega))
      have holdlen : old.length = len * esz := by
        unfold St.cells at hold
        simp only [hget] at hold
        split at hold
        · simp at hold; subst hold; simp; omega
        · cases hold
      have hid := (h.known i _ hget).2.2
      have hgr : (μ i).grown = g := hid.1
      -- the old cells, read by the first machine
      have hrd : ∀ w' : World, Rel B0 W0 μ s w' → ∃ old', (loadCells ⟨(μ i).block, off', none⟩ (len * esz)).run P w' = .ok old'.toArray w' ∧ VRs μ s.next old old' := fun w' h' => by
        by_cases hl0 : len * esz = 0
        · have : old = [] := List.length_eq_zero_iff.1 (by rw [holdlen, hl0])
          subst this
          exact ⟨[], by rw [hl0]; simp [loadCells, loadCellsFrom], .nil⟩
        · have hl1 : 0 < len := by rcases Nat.eq_zero_or_pos len with e | e; simp [e] at hl0; exact e
          rw [hoo hl1]
          exact load_cells (P := P) h' hold
      obtain ⟨old', hold', holdr⟩ := hrd w h
      obtain ⟨old2, hold2, holdr2⟩ := hrd w.drew (h.drew _)
      have hol := holdr.length
      have hol2 := holdr2.length
      have growsTo : ∀ s1 : St, s1.next = s.next → Rel B0 W0 μ s1 w → cap' < len + n → ∃ v' w', Did P ρ o w v' w' ∧ After B0 W0 μ s (s1.grow esz (len + n) (old ++ new)).1 (s1.grow esz (len + n) (old ++ new)).2 v' w' := fun s1 hs1 h1 hc => by
        obtain ⟨c, k, k1, rfl, k3⟩ := append_grows (P := P) (ty := o.type) (base := some ⟨(μ i).block, off', none⟩) (sLen := len) (cap := cap') (old := old2) (need := len + n) ht hu hz hm hb hlen rfl hc hbig.1 hbig.2 (by omega) (by simp [Builtin.firstCells, hold2]) hnf2
        obtain ⟨μ', m1, m2, m3⟩ := grown_after (w1 := w.drew) (h1.drew (w.drawn + 1)) (e := e) (n := len + n) (esz := esz) (k := (Builtin.zeroCells z.cells (c - (len + n))).toList) (cs := old ++ new) (l := old2 ++ new2) (by rw [hs1]; exact holdr2.append hnr2) k1
          (by rw [zeroCells_length, List.length_append, hol2, hnl2, hnlen, holdlen, hzs, ← Nat.add_mul, ← Nat.add_mul]; congr 1; omega) hesz
        rw [hs1] at m1
        exact ⟨_, _, fin k3, μ', m1, by simpa using m2, by simpa using m3⟩
      split at hp
      · -- a row whose end is known
        rename_i hg0
        have hg0' : (μ i).grown = 0 := hgr.trans hg0
        have hcc := q2 hg0'
        have hoff := q3 (.inr hg0')
        subst hoff
        split at hp
        · rename_i hfit
          simp only [Option.map_eq_some_iff, Prod.mk.injEq] at hp
          obtain ⟨s1, hs1, rfl, rfl⟩ := hp
          rw [addA_rel] at hs1
          obtain ⟨k1, k2, k3⟩ := storeAt_sound (P := P) h hnr hs1
          refine ⟨_, _, fin (append_fits (P := P) (new := new') ht hu hm hlen (by omega) hnf (.inr ⟨_, rfl, by rw [add_eq, Nat.add_assoc]; exact k1⟩)), μ, ⟨by omega, fun _ _ => rfl⟩, k2, ?_⟩
          rw [k3]
          exact .slice _ _ _ _ _ _ hi (by omega) q1 q2 q3 q4 q5
        · rename_i hfit
          simp only [Option.some.injEq] at hp
          obtain ⟨v', w', d1, d2⟩ := growsTo s rfl h (by omega)
          rw [hp] at d2
          exact ⟨v', w', d1, d2⟩
      · split at hp <;> (try (cases hp; done))
        rename_i hgn hc3
        obtain ⟨hge, rfl, hoffle⟩ := hc3
        subst hge
        simp only [Option.some.injEq] at hp
        have hng : (μ i).grown ≠ 0 := by rw [hgr]; exact hesz
        have h5 := q5 hng
        rw [hgr] at h5
        by_cases hfit : len + n ≤ cap'
        · -- in place: the old name is given up
          have hown := (hid.2.2.2.2 rfl)
          have hm1 : (len + n) * g ≤ cap' * g := Nat.mul_le_mul_right _ hfit
          have hadd : (len + n) * g = len * g + n * g := Nat.add_mul _ _ _
          have hst : (storeCells ((⟨(μ i).block, off', none⟩ : Addr).add (len * g)) new').run P w = .ok () (w.setCells (μ i).block (off' + len * g) new') := by
            rw [add_eq]
            have := run_storeCells_cells (P := P) (μ i).block (off' + len * g) new' 0 w (fun j hj => (hown.2.1 _ (by omega) (by omega)).1) (fun j hj => (hown.2.1 _ (by omega) (by omega)).2) (hnr.oneCells hone)
            simpa using this
          obtain ⟨f1, f2, f3, f4, f5⟩ := setCells_fields (μ i).block new' (off' + len * g) w
          -- the block's own facts behind the store
          have hown' : ∀ x, (μ i).base ≤ x → x < (μ i).limit → ((w.setCells (μ i).block (off' + len * g) new').cell? ⟨(μ i).block, x, none⟩).isSome = true ∧ (w.setCells (μ i).block (off' + len * g) new').frozen? ⟨(μ i).block, x, none⟩ = false := fun x hx1 hx2 => by
            obtain ⟨k1, k2⟩ := hown.2.1 x hx1 hx2
            refine ⟨?_, by rw [World.frozen?_setCells]; exact k2⟩
            by_cases c : off' + len * g ≤ x ∧ x < off' + len * g + new'.length
            · have hin := World.cell?_setCells_in (μ i).block new' (off' + len * g) w (fun k hk => (hown.2.1 _ (by omega) (by omega)).1) (x - (off' + len * g)) (by omega)
              rw [show off' + len * g + (x - (off' + len * g)) = x by omega] at hin
              rw [hin]; rfl
            · rw [World.cell?_setCells_out _ _ _ _ _ (fun _ _ => by simp; omega)]
              exact k1
          have r1 : Rel B0 W0 μ (s.put i (some (.row [] g false))) (w.setCells (μ i).block (off' + len * g) new') :=
            h.turn hget rfl _ f1 f2 f3 f4 f5 ⟨hgr, by have := hid.2.1; simp; omega, fun j v hj => by simp at hj, fun hr => by simp at hr, fun _ => ⟨hown.1, hown', fun hg => absurd hg hesz⟩⟩
          have r2 : Rel B0 W0 μ (s.put i none) (w.setCells (μ i).block (off' + len * g) new') :=
            (r1.kill i).congr rfl (fun j => by simp only [St.get_put]; by_cases hh : i = j <;> simp [hh])
          have ha' := upd_agree (μ := μ) ⟨(μ i).block, off', (μ i).limit, g⟩ s.next
          have r3 := r2.rename (.row (old ++ new) g false) ⟨(μ i).block, off', (μ i).limit, g⟩ (by rw [f4]; exact (h.known i _ hget).2.1) (by
              show IdOk B0 (upd μ s.next _) (s.next + 1) _ s.next _
              unfold IdOk
              rw [upd_same]
              refine ⟨rfl, by simp [holdlen, hnlen]; omega, fun j v hj => ?_, fun hr => by simp at hr, fun _ => ⟨hown.1, fun x hx1 hx2 => hown' x (by simp at hx1; omega) hx2, fun hg => absurd hg hesz⟩⟩
              by_cases hj1 : j < old.length
              · rw [List.getElem?_append_left hj1] at hj
                have hl1 : 0 < len := by
                  rcases Nat.eq_zero_or_pos len with e | e
                  · rw [holdlen, e] at hj1; simp at hj1
                  · exact e
                have hcell : ∃ v', w.cell? ⟨(μ i).block, off' + j, none⟩ = some v' ∧ VR μ s.next v v' := by
                  rw [hoo hl1, Nat.add_assoc]
                  unfold St.cells at hold
                  simp only [hget] at hold
                  split at hold
                  · simp at hold
                    rw [← hold, List.getElem?_take_of_lt (by omega), List.getElem?_drop] at hj
                    exact hid.cellAt hj
                  · cases hold
                obtain ⟨v', k1, k2⟩ := hcell
                exact ⟨v', by simp only []; rw [World.cell?_setCells_out _ _ _ _ _ (fun _ _ => Or.inl (by simp; omega))]; exact k1, k2.mono ha'⟩
              · rw [List.getElem?_append_right (by omega)] at hj
                obtain ⟨v', k1, k2⟩ := hnr.get hj
                have hlt : j - old.length < new'.length := by
                  rcases Nat.lt_or_ge (j - old.length) new'.length with hh | hh
                  · exact hh
                  · rw [List.getElem?_eq_none hh] at k1; cases k1
                have hin := World.cell?_setCells_in (μ i).block new' (off' + len * g) w (fun k hk => (hown.2.1 _ (by omega) (by omega)).1) (j - old.length) hlt
                refine ⟨v', ?_, k2.mono ha'⟩
                simp only []
                rw [show off' + j = off' + len * g + (j - old.length) by omega, hin, ← k1]
                simp [hlt]) (fun _ j oj hj hoj => by
              rw [St.get_put] at hj
              split at hj
              · cases hj
              · rename_i hij
                exact h.apart j i oj _ (fun e => hij e.symm) hj hget hoj rfl)
          refine ⟨_, _, fin (append_fits (P := P) (new := new') ht hu hm hlen hfit hnf (.inr ⟨_, rfl, hst⟩)), ?_⟩
          simp only [St.grow, Prod.mk.injEq] at hp
          obtain ⟨rfl, rfl⟩ := hp
          refine ⟨_, ha', r3, ?_⟩
          have := VR.slice (μ := upd μ s.next ⟨(μ i).block, off', (μ i).limit, g⟩) (n := s.next + 1) s.next 0 off' (len + n) (len + n) cap' (by omega) (Nat.le_refl _) hfit (fun hh => by simp [upd_same] at hh; exact absurd hh hesz) (fun _ => by simp [upd_same]) (by simp [upd_same]) (fun _ => by simp [upd_same]; omega)
          simpa [upd_same] using this
        · obtain ⟨v', w', d1, d2⟩ := growsTo (s.put i none) rfl (h.kill i) (by omega)
          rw [hp] at d2
          exact ⟨v', w', d1, d2⟩

end Go.Am
end
section
set_option linter.unusedSimpArgs false
set_option linter.unusedVariables false
set_option maxRecDepth 10000
namespace Go.Am
open Go.RowKit (Below)

variable {P : Program} {B0 : Nat} {W0 : World} {μ : Nat → Spot} {s : St} {w : World} {o : Oper}

theorem storeAt_nil {s1 : St} {i off : Nat} (hs : s.storeAt ⟨i, off, none⟩ [] = some s1) : ∃ cs g, s.get i = some (.row cs g false) ∧ s1 = s.put i (some (.row (lputs cs off []) g false)) := by
  unfold St.storeAt at hs
  simp only at hs
  split at hs
  · rename_i cs g hget
    split at hs
    · simp at hs; exact ⟨cs, g, hget, hs.symm⟩
    · cases hs
  · cases hs

theorem ws_copy {t u e : TypeId} {esz : Nat} {x y : Operand} (ht : P.underlying t = some (.slice e)) (hm : sizeT P e = some esz) (ho : o.op = .call { callee := .builtin .copy, args := #[x, y], argTypes := #[t, u] }) : WSound P B0 W0 μ s w o (.copy esz) [x, y] := by
  intro ρ vs v s' h hv hp
  obtain ⟨a, b, rfl, ha, hb⟩ := hv.inv2
  generalize hx : ρ x = x' at ha
  cases ha <;> (try (simp [wop] at hp; done))
  case nilSlice =>
    simp only [wop] at hp
    split at hp <;> (try (cases hp; done))
    rename_i n new hn hl
    obtain ⟨hlen, hfirst⟩ := src_sound (P := P) h hb hn hl
    obtain ⟨l', k1, _⟩ := hfirst 0 (by omega)
    simp at hp
    obtain ⟨rfl, rfl⟩ := hp
    exact ⟨.int .i64 0, w, .inl (by simp [execOp, ho, resolve, invoke, builtin, Builtin.copy_, hx, r_under w ht, hlen, r_size w hm, k1, goInt]), μ, Agree.refl _ _, h, .int _ _⟩
  case void ad =>
    simp only [wop] at hp
    split at hp <;> cases hp
  case slice i off off' len cap cap' hi q0 q1 q2 q3 q4 q5 =>
    simp only [wop] at hp
    split at hp <;> (try (cases hp; done))
    rename_i n new hn hl
    obtain ⟨hlen, hfirst⟩ := src_sound (P := P) h hb hn hl
    obtain ⟨l', k1, k2⟩ := hfirst (Nat.min n len) (Nat.min_le_left _ _)
    simp only [Option.map_eq_some_iff, Prod.mk.injEq] at hp
    obtain ⟨s1, hs, rfl, rfl⟩ := hp
    by_cases hz : Nat.min n len * esz = 0
    · rw [hz] at hs k2
      have hl' : l' = [] := List.length_eq_zero_iff.1 (by rw [k2.length]; simp)
      subst hl'
      have hs1 := storeAt_nil (s := s) (s1 := s1) (i := i) (off := off) (by simpa using hs)
      obtain ⟨cs, g, hget, rfl⟩ := hs1
      refine ⟨.int .i64 (Nat.min n len), w, .inl (by simp [execOp, ho, resolve, invoke, builtin, Builtin.copy_, hx, r_under w ht, hlen, r_size w hm, k1, goInt, storeCells]), μ, Agree.refl _ _, h.congr rfl (fun j => ?_), .int _ _⟩
      rw [St.get_put]
      split
      · rename_i hj; subst hj; rw [hget]; simp [lputs]
      · rfl
    · have hlen0 : 0 < len := by
        rcases Nat.eq_zero_or_pos len with e | e
        · exact absurd (by rw [e]; simp [Nat.min]) hz
        · exact e
      have hoo := q3 (.inl (by omega))
      subst hoo
      obtain ⟨m1, m2, m3⟩ := storeAt_sound (P := P) h k2 hs
      refine ⟨.int .i64 (Nat.min n len), w.setCells (μ i).block ((μ i).base + off) l', .inl (by simp [execOp, ho, resolve, invoke, builtin, Builtin.copy_, hx, r_under w ht, hlen, r_size w hm, k1, goInt, m1]), μ, ⟨by omega, fun _ _ => rfl⟩, m2, .int _ _⟩

theorem wop_sound {q : WOp} {xs : List Operand} (hc : compOp P o.op = some (.w q, xs)) : WSound P B0 W0 μ s w o q xs := by
  cases ho : o.op with
  | alloc e =>
    simp only [ho, compOp, Option.bind_eq_some_iff] at hc
    obtain ⟨z, hz, hc⟩ := hc
    split at hc
    · simp at hc; obtain ⟨rfl, rfl⟩ := hc; exact ws_new hz ho
    · cases hc
  | box e x => simp [ho, compOp] at hc; obtain ⟨k, _, rfl, rfl⟩ := hc; exact ws_box ho
  | buildSlice t len parts =>
    simp only [ho, compOp] at hc
    split at hc
    · rename_i e ht
      simp only [Option.bind_eq_some_iff] at hc
      obtain ⟨z, hz, m, hm, ps, hps, hc⟩ := hc
      split at hc
      · rename_i hcond
        simp at hc; obtain ⟨rfl, rfl⟩ := hc
        exact ws_sliceLit ht hz hm hps hcond.1 hcond.2 ho
      · cases hc
    · cases hc
  | store t a x => simp [ho, compOp] at hc; obtain ⟨k, hk, rfl, rfl⟩ := hc; exact ws_store hk ho
  | makeMap t r =>
    cases r with
    | none => simp [ho, compOp] at hc; obtain ⟨rfl, rfl⟩ := hc; exact ws_mkMap ho
    | some r => simp [ho, compOp] at hc
  | makeSlice t l c =>
    simp only [ho, compOp] at hc
    split at hc
    · rename_i e ht
      simp only [Option.bind_eq_some_iff] at hc
      obtain ⟨z, hz, m, hm, b, hb, hc⟩ := hc
      split at hc
      · rename_i hcond
        simp at hc; obtain ⟨rfl, rfl⟩ := hc
        exact ws_mkSlice ht hz hm hb hcond.1 hcond.2 ho
      · cases hc
    · cases hc
  | slice t x lo hi mx =>
    simp only [ho, compOp] at hc
    split at hc
    · simp at hc
    · simp at hc
    · simp at hc
    · rename_i e ht
      split at hc
      · simp at hc; obtain ⟨⟨m, hm⟩, rfl, rfl⟩ := hc; exact ws_sl3 ht hm ho
      · cases hc
    · cases hc
  | convert a b x =>
    simp only [ho, compOp] at hc
    split at hc
    · simp at hc
    · rename_i e h1 h2
      split at hc
      · rename_i he; simp at hc; obtain ⟨rfl, rfl⟩ := hc; exact ws_strToBytes h1 h2 he ho
      · cases hc
    · split at hc <;> simp at hc
    · cases hc
  | mapUpdate t m k x =>
    simp only [ho, compOp] at hc
    split at hc
    · rename_i kt e ht
      simp at hc; obtain ⟨kk, hkk, rfl, rfl⟩ := hc; exact ws_mapSet ht hkk (.inl rfl) ho
    · cases hc
  | insert t m k x =>
    simp only [ho, compOp] at hc
    split at hc
    · rename_i kt e ht
      simp at hc; obtain ⟨kk, hkk, rfl, rfl⟩ := hc; exact ws_mapSet ht hkk (.inr rfl) ho
    · cases hc
  | range t x =>
    simp only [ho, compOp] at hc
    split at hc
    · rename_i ht; simp at hc; obtain ⟨rfl, rfl⟩ := hc; exact ws_rangeStr ht ho
    · rename_i k e ht; simp at hc; obtain ⟨rfl, rfl⟩ := hc; exact ws_rangeMap ht ho
    · cases hc
  | call c =>
    simp only [ho, compOp, compCall] at hc
    split at hc
    · simp at hc
    · simp at hc
    · simp at hc
    · rename_i b hb
      split at hc
      · split at hc <;> simp at hc
      · rename_i t u x y h2 h3
        have hcall := call_eq hb h2 h3
        rw [hcall] at ho
        split at hc
        · rename_i e e' ht hu
          simp only [Option.bind_eq_some_iff] at hc
          obtain ⟨m, hm, b', hb', z, hz, hc⟩ := hc
          split at hc
          · rename_i hzm
            simp at hc; obtain ⟨rfl, rfl⟩ := hc; exact ws_append ht (.inl ⟨_, hu⟩) hz hm hb' hzm (by simpa using ho)
          · cases hc
        · rename_i e ht hu
          simp only [Option.bind_eq_some_iff] at hc
          obtain ⟨m, hm, b', hb', z, hz, hc⟩ := hc
          split at hc
          · rename_i hzm
            simp at hc; obtain ⟨rfl, rfl⟩ := hc; exact ws_append ht (.inr hu) hz hm hb' hzm (by simpa using ho)
          · cases hc
        · cases hc
      · rename_i t u x y h2 h3
        have hcall := call_eq hb h2 h3
        rw [hcall] at ho
        split at hc
        · rename_i e ht; simp at hc; obtain ⟨m, hm, rfl, rfl⟩ := hc; exact ws_copy ht hm (by simpa using ho)
        · cases hc
      · rename_i t u x y h2 h3
        have hcall := call_eq hb h2 h3
        rw [hcall] at ho
        split at hc
        · rename_i k e ht; simp at hc; obtain ⟨kk, hkk, rfl, rfl⟩ := hc; exact ws_delete ht hkk (by simpa using ho)
        · cases hc
      · simp at hc
      · simp at hc
      · cases hc
  | load t a =>
    simp only [ho, compOp, Option.bind_eq_some_iff] at hc
    obtain ⟨b, hb, hc⟩ := hc
    cases b <;> simp at hc
  | lookup t x i ok =>
    simp only [ho, compOp] at hc
    split at hc
    · simp only [Option.bind_eq_some_iff, Option.map_eq_some_iff, Prod.mk.injEq, reduceCtorEq, false_and, and_false, exists_false] at hc
    · cases hc
  | build t parts =>
    simp only [ho, compOp] at hc
    split at hc <;> first | (cases hc; done) | (simp only [Option.bind_eq_some_iff, Option.map_eq_some_iff, Prod.mk.injEq, reduceCtorEq, false_and, and_false, exists_false] at hc)
  | binOp op t x y t2 =>
    simp only [ho, compOp] at hc
    split at hc
    · simp at hc
    · simp at hc
    · split at hc <;> simp at hc
    · split at hc
      · split at hc
        · split at hc <;> simp at hc
        · cases hc
      · cases hc
    · cases hc
  | makeInterface t x => simp only [ho, compOp] at hc; split at hc <;> simp at hc
  | fieldAddr t x f =>
    simp only [ho, compOp] at hc
    split at hc
    · split at hc
      · split at hc <;> simp at hc
      · cases hc
    · cases hc
  | field t x f =>
    simp only [ho, compOp] at hc
    split at hc
    · split at hc
      · simp only [Option.bind_eq_some_iff, Option.map_eq_some_iff, Prod.mk.injEq, reduceCtorEq, false_and, and_false, exists_false] at hc
      · cases hc
    · cases hc
  | indexAddr t x i => simp only [ho, compOp] at hc; split at hc <;> simp at hc
  | index t x i =>
    simp only [ho, compOp] at hc
    split at hc
    · simp at hc
    · simp only [Option.bind_eq_some_iff, Option.map_eq_some_iff, Prod.mk.injEq, reduceCtorEq, false_and, and_false, exists_false] at hc
    · cases hc
  | typeAssert x tx t ok => simp only [ho, compOp] at hc; split at hc <;> simp at hc
  | _ => simp [ho, compOp] at hc

/-! ### a range's step -/
def NSound (P : Program) (B0 : Nat) (W0 : World) (μ : Nat → Spot) (s : St) (w : World) (o : Oper) (str : Bool) (xs : List Operand) : Prop :=
  ∀ (ρ : Operand → Value) (vs : List Value) (Q : Value × St → Prop), Rel B0 W0 μ s w → VRs μ s.next vs (xs.map ρ) → (nextV str vs s).all Q → ∃ v s' v' w', Q (v, s') ∧ Did P ρ o w v' w' ∧ After B0 W0 μ s v s' v' w'

theorem filter_rel {n c : Nat} {seen : List Nat} : ∀ {es : List (Value × Value × Nat)} {es' : List MapEntry}, ER μ n c es es' → ER μ n c (es.filter fun e => !seen.contains e.2.2) (es'.filter fun e => !seen.contains e.born)
  | [], [], _ => trivial
  | e :: es, e' :: es', ⟨h1, h2, h3, h4, h5⟩ => by
    simp only [List.filter_cons, h3]
    split
    · exact ⟨h1, h2, h3, h4, filter_rel h5⟩
    · exact filter_rel h5
  | [], _ :: _, h => h.elim
  | _ :: _, [], h => h.elim
theorem ER.get {n c : Nat} : ∀ {es : List (Value × Value × Nat)} {es' : List MapEntry}, ER μ n c es es' → ∀ {j : Nat} {e : Value × Value × Nat}, es[j]? = some e → ∃ e', es'[j]? = some e' ∧ VR μ n e.1 e'.key ∧ VR μ n e.2.1 e'.val ∧ e'.born = e.2.2 ∧ e.2.2 < c
  | [], [], _, j, e, h => by simp at h
  | e :: es, e' :: es', ⟨h1, h2, h3, h4, h5⟩, 0, x, h => by simp at h; subst h; exact ⟨e', rfl, h1, h2, h3, h4⟩
  | e :: es, e' :: es', ⟨h1, h2, h3, h4, h5⟩, j + 1, x, h => by simpa using ER.get h5 (by simpa using h)
  | [], _ :: _, h, _, _, _ => h.elim
  | _ :: _, [], h, _, _, _ => h.elim
theorem ER.born_lt {n c : Nat} : ∀ {es : List (Value × Value × Nat)} {es' : List MapEntry}, ER μ n c es es' → ∀ e' ∈ es', e'.born < c
  | [], [], _, _, h => by simp at h
  | e :: es, e' :: es', ⟨h1, h2, h3, h4, h5⟩, x, h => by
    cases h with
    | head => omega
    | tail _ h => exact ER.born_lt h5 x h
  | [], _ :: _, h, _, _ => h.elim
  | _ :: _, [], h, _, _ => h.elim

theorem next_sound {str : Bool} {xs : List Operand} {x : Operand} (hxs : xs = [x]) (ho : o.op = .next x str) : NSound P B0 W0 μ s w o str xs := by
  subst hxs
  intro ρ vs Q h hv hp
  obtain ⟨a, rfl, ha⟩ := hv.inv1
  generalize hx : ρ x = x' at ha
  cases ha <;> (try (simp [nextV, Out.all] at hp; done))
  rename_i i off hi
  simp only [nextV] at hp
  split at hp
  · exact hp.elim
  · rename_i hoff
    have hoff' : off = 0 := by simpa using hoff
    subst hoff'
    split at hp <;> (try (exact hp.elim))
    · rename_i b pos hget
      obtain ⟨hB, hb0, hblk⟩ := (h.known i _ hget).2.2
      have hgo : (getObj (μ i).block).run P w = .ok (.stringIter b pos) w := by simp [getObj, Sem.run, hblk]
      split at hp
      · exact hp.elim
      · rename_i hstr
        have hstr' : str = true := by cases str <;> simp at hstr ⊢
        subst hstr'
        split at hp
        · rename_i hlt
          refine ⟨_, _, .tuple #[.bool true, .int .i64 pos, .int .i32 (Utf8.decode b pos).1], { w with heap := w.heap.setIfInBounds (μ i).block (.stringIter b (pos + (Utf8.decode b pos).2)) }, hp, .inl ?_, μ, Agree.refl _ _, h.setObj hget rfl _ _ ⟨hB, hb0, ?_⟩, ?_⟩
          · simp [execOp, ho, hx, hb0, Instr.next, hgo, hlt, setObj, Sem.run, hblk, goInt]
          · simp [(h.known i _ hget).2.1]
          · exact .tuple _ _ (.cons _ _ _ _ (.bool _) (.cons _ _ _ _ (.int _ _) (.cons _ _ _ _ (.int _ _) .nil)))
        · rename_i hlt
          exact ⟨_, _, .tuple #[.bool false], w, hp, .inl (by simp [execOp, ho, hx, hb0, Instr.next, hgo, hlt]), μ, Agree.refl _ _, h, .tuple _ _ (.cons _ _ _ _ (.bool _) .nil)⟩
    · rename_i since seen last hget
      obtain ⟨hB, hb0, _, hblk⟩ := (h.known i _ hget).2.2
      have hgo : (getObj (μ i).block).run P w = .ok (.mapIter none since seen.toArray last) w := by simp [getObj, Sem.run, hblk]
      split at hp
      · exact hp.elim
      · rename_i hstr
        have hstr' : str = false := by cases str <;> simp at hstr ⊢
        subst hstr'
        exact ⟨_, _, .tuple #[.bool false], w, hp, .inl (by simp [execOp, ho, hx, hb0, Instr.next, hgo]), μ, Agree.refl _ _, h, .tuple _ _ (.cons _ _ _ _ (.bool _) .nil)⟩
    · rename_i m since seen last hget
      obtain ⟨hB, hb0, hmn, hblk⟩ := (h.known i _ hget).2.2
      have hgo : (getObj (μ i).block).run P w = .ok (.mapIter (some (μ m).block) since seen.toArray last) w := by simp [getObj, Sem.run, hblk]
      split at hp <;> (try (exact hp.elim))
      rename_i es clock hgetm
      obtain ⟨_, es', hmb, he⟩ := (h.known m _ hgetm).2.2
      have hgom := MapKept.run_getObj_map (P := P) hmb
      split at hp
      · exact hp.elim
      · rename_i hcond
        have hstr' : str = false := by cases str <;> simp at hcond ⊢
        subst hstr'
        have hcs : clock = since ∧ clock = last := by
          simp only [Bool.false_eq_true, false_or, not_or, Decidable.not_not] at hcond
          exact hcond
        obtain ⟨rfl, rfl⟩ := hcs
        -- what the first machine has left
        have hborn := he.born_lt
        have hfl : (es'.filter fun e => !seen.toArray.contains e.born).toList = es'.toList.filter fun e => !seen.contains e.born := by simp
        have hfr := filter_rel (seen := seen) he
        obtain ⟨left, hleft⟩ : ∃ left, left = es'.filter fun e => !seen.toArray.contains e.born := ⟨_, rfl⟩
        rw [← hfl, ← hleft] at hfr
        have hlb : ∀ e ∈ left, e.born < clock := fun e he' => by
          rw [hleft] at he'
          exact hborn e (by have := (Array.mem_filter.1 he').1; simpa using this)
        have hold : (left.filter fun e => decide (e.born < clock)) = left := by
          rw [Array.filter_eq_self]
          intro e he'
          simpa using hlb e he'
        have hnew : (left.filter fun e => decide (e.born ≥ clock)) = #[] := by
          rw [Array.filter_eq_empty_iff]
          intro e he'
          have := hlb e he'
          simp; omega
        have hodd : (!seen.toArray.isEmpty && !es'.isEmpty && es'.all fun e => decide (e.born ≥ clock)) = false := by
          by_cases hes : es'.isEmpty
          · simp [hes]
          · have : (es'.all fun e => decide (e.born ≥ clock)) = false := by
              rw [Array.all_eq_false]
              have h0 : 0 < es'.size := by
                rcases Nat.eq_zero_or_pos es'.size with e | e
                · exact absurd (by simp [Array.isEmpty, e]) hes
                · exact e
              refine ⟨0, h0, ?_⟩
              have := hborn es'[0] (by simp)
              simp; omega
            simp [this]
        have hrun : ∀ (c : Array (Option MapEntry)) (k : Nat) (w1 : World), c = (if left.isEmpty then #[none] else #[]) ++ (left ++ #[]).map some → (choose (.mapNext c.size)).run P w = .ok k w1 → ∀ r w2, (match c[k]? with
            | some (some e) => (do
              setObj (μ i).block (.mapIter (some (μ m).block) clock (seen.toArray.push e.born) clock)
              pure (.tuple #[.bool true, e.key, e.val]) : Sem Value)
            | some none => pure (.tuple #[.bool false])
            | none => stuck "Next: no such candidate").run P w1 = .ok r w2 → (execOp ρ o).run P w = .ok (.value r) w2 := fun c k w1 hc hch r w2 hm => by
          have hnx : (Instr.next (.pointer (some ⟨(μ i).block, (μ i).base + 0, none⟩)) false o.type).run P w = .ok r w2 := by
            rw [hb0]
            simp only [Instr.next, Sem.run_bind, hgo, hgom, Result.andThen_ok, hodd, Bool.false_eq_true, if_false, ← hleft, hold, hnew, ← hc, hch]
            exact hm
          simp only [execOp, ho, hx, Sem.run_bind, hnx, Result.andThen_ok, Sem.run_pure]
        have hlen := hfr.length
        simp only [Array.length_toList] at hlen
        split at hp
        · rename_i hnil
          rw [hnil] at hlen
          have hl0 : left = #[] := by apply Array.eq_empty_of_size_eq_zero; simpa using hlen
          refine ⟨_, _, .tuple #[.bool false], w, hp, .inl (hrun #[none] 0 w (by simp [hl0]) (by simp [choose, Sem.run, Question.forced]) _ _ (by simp)), μ, Agree.refl _ _, h, .tuple _ _ (.cons _ _ _ _ (.bool _) .nil)⟩
        · rename_i hne
          have hl1 : left.isEmpty = false := by
            cases hq : left.isEmpty with
            | false => rfl
            | true =>
              have : left = #[] := by simpa using hq
              rw [this] at hlen
              exact absurd (List.length_eq_zero_iff.1 (by simpa using hlen.symm)) hne
          have hpos : 0 < left.size := by
            rcases Nat.eq_zero_or_pos left.size with e | e
            · simp [Array.isEmpty, e] at hl1
            · exact e
          obtain ⟨k, w1, hch, hk, hw1⟩ : ∃ k w1, (choose (.mapNext (left.map some).size)).run P w = .ok k w1 ∧ k < left.size ∧ w1.heap = w.heap ∧ w1.os = w.os ∧ w1.tape = w.tape ∧ w1.output = w.output := by
            by_cases hf : left.size ≤ 1
            · exact ⟨0, w, by simp [choose, Sem.run, Question.forced, hf], hpos, rfl, rfl, rfl, rfl⟩
            · exact ⟨w.tape w.drawn (.mapNext (left.map some).size) % left.size, { w with drawn := w.drawn + 1 }, by simp [choose, Sem.run, Question.forced, hf, Question.cut], Nat.mod_lt _ hpos, rfl, rfl, rfl, rfl⟩
          have hkl : k < (es.filter fun e => !seen.contains e.2.2).length := by rw [← hlen]; exact hk
          have hpk := hp.2 k hkl
          simp only [List.getElem?_eq_getElem hkl, Out.all] at hpk
          obtain ⟨e', q1, q2, q3, q4, q5⟩ := hfr.get (List.getElem?_eq_getElem hkl)
          have q1' : left[k]? = some e' := by simpa using q1
          have h1 : Rel B0 W0 μ s w1 := h.heap hw1.1 hw1.2.1 hw1.2.2.1 hw1.2.2.2
          have hblk1 : w1.heap[(μ i).block]? = some (.mapIter (some (μ m).block) clock seen.toArray clock) := by rw [hw1.1]; exact hblk
          refine ⟨_, _, .tuple #[.bool true, e'.key, e'.val], { w1 with heap := w1.heap.setIfInBounds (μ i).block (.mapIter (some (μ m).block) clock (seen.toArray.push e'.born) clock) }, hpk,
            .inl (hrun (left.map some) k w1 (by simp [hl1]) hch _ _ (by simp [q1', setObj, Sem.run, hblk1])), μ, Agree.refl _ _, h1.setObj hget rfl _ _ ⟨hB, hb0, hmn, ?_⟩, .tuple _ _ (.cons _ _ _ _ (.bool _) (.cons _ _ _ _ q2 (.cons _ _ _ _ q3 .nil)))⟩
          rw [q4]
          simp [(h1.known i _ hget).2.1]

end Go.Am
end
