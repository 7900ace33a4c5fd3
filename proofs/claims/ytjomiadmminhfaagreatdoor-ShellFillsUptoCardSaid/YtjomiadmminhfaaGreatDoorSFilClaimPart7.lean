/-
  How a run begins, and how a call that is known otherwise is taken in.
-/
import Derived.Test.YtjomiadmminhfaaGreatDoorSFilClaimPart6
set_option linter.unusedSimpArgs false
set_option linter.unusedVariables false
set_option maxRecDepth 10000
namespace Go.Am
open Go.RowKit (Below)

section
variable {P : Program} {B0 : Nat} {W0 : World} {μ : Nat → Spot} {s : St} {w w' : World}

theorem Rel.later (h : Rel B0 W0 μ s w) (hb : Below w.heap.size w w') : Rel B0 W0 μ s w' where
  low := h.low
  below := h.below.trans (hb.mono h.size)
  known := fun i o hi => by
    obtain ⟨h1, h2, h3⟩ := h.known i o hi
    exact ⟨h1, Nat.lt_of_lt_of_le h2 hb.size, h3.mono (Agree.refl _ _) h1 (hb.block _ h2)⟩
  apart := h.apart

theorem Rel.start (s : St) (h : ∀ i o, s.get i = some o → i < s.next ∧ (μ i).block < w.heap.size ∧ IdOk w.heap.size μ s.next w i o) (hro : ∀ i o, s.get i = some o → o.owned = false) : Rel w.heap.size w μ s w where
  low := Nat.le_refl _
  below := Below.refl _ _
  known := h
  apart := fun i j oi oj _ hi _ ho _ => by rw [hro i oi hi] at ho; cases ho

/-- a call that is known to give a plain value, and to leave the blocks that there were -/
theorem callOk_plain {f : FuncId} {vs : List Value} {v : Value} (hv : ∀ (μ : Nat → Spot) (n : Nat), VR μ n v v)
    (h : ∀ (B0 : Nat) (W0 : World) (μ : Nat → Spot) (w : World) (args : List Value), Rel B0 W0 μ s w → Glob P μ s.next → VRs μ s.next vs args → Calls P f args.toArray w fun e w' => e = .returned v ∧ Below w.heap.size w w')
    {Q : Value × St → Prop} (hq : Q (v, s)) : CallOk P f vs s Q := by
  intro B0 W0 μ w args hr hg ha
  refine (h B0 W0 μ w args hr hg ha).mono fun e w' ⟨he, hb⟩ => ?_
  exact ⟨v, s, v, hq, he, μ, Agree.refl _ _, hr.later hb, hv μ s.next⟩

theorem VRs.str1 {n : Nat} {a : ByteArray} {l : List Value} (h : VRs μ n [.string a] l) : l = [.string a] := by
  cases h with | cons _ _ _ _ h1 h2 => cases h1; cases h2; rfl
theorem VRs.str2 {n : Nat} {a b : ByteArray} {l : List Value} (h : VRs μ n [.string a, .string b] l) : l = [.string a, .string b] := by
  cases h with | cons _ _ _ _ h1 h2 => cases h1; rw [h2.str1]

theorem Out.all_and {α : Type} {p q : α → Prop} : ∀ {o : Out α}, o.all p → o.all q → ∃ a, p a ∧ q a
  | .ret a, h, k => ⟨a, h, k⟩
  | .fail, h, _ => h.elim
  | .ask _ _, h, k => Out.all_and (h.2 0 h.1) (k.2 0 h.1)

theorem callK_iff {F : CallF} {f : FuncId} {args : List Value} {s s' : St} {v : Value} (h : ∀ K : Value → St → Prop, K v s' → callK F f args s K) (K : Value → St → Prop) : callK F f args s K = K v s' := by
  refine propext ⟨fun hk => ?_, h K⟩
  obtain ⟨a, h1, h2, h3⟩ := Out.all_and hk (h (fun a b => a = v ∧ b = s') ⟨rfl, rfl⟩)
  rw [h2, h3] at h1
  exact h1

theorem callO_none {T : Tab} {O : CallF} {fns : FuncId → Option AFn} {m : Nat} {f : FuncId} (h : fns f = none) (n : Nat) (args : List Value) (s : St) (K : Value → St → Prop) : callK (callO T O fns m n) f args s K = callK O f args s K := by
  unfold callK
  cases n with
  | zero => rfl
  | succ n => simp only [callO, h]

/-- what a call comes to, taken out of the second machine -/
theorem calls_of_run {F : CallF} (hF : FSound P F) {f : FuncId} {vs : List Value} {Q : Value × St → Prop} (h : (F f vs s).all Q) {args : List Value} (hr : Rel B0 W0 μ s w) (hg : Glob P μ s.next) (ha : VRs μ s.next vs args) :
    Calls P f args.toArray w fun e w' => ∃ v s' v', Q (v, s') ∧ e = .returned v' ∧ After B0 W0 μ s v s' v' w' := (hF f vs s Q h).2 B0 W0 μ w args hr hg ha

/-- every end is 'true' -/
def okTrue : Out (Value × St) → Bool
  | .ret (.bool true, _) => true
  | .ret _ => false
  | .fail => false
  | .ask n k => Nat.blt 0 n && (List.range n).all fun i => okTrue (k i)

theorem okTrue_all : ∀ {o : Out (Value × St)}, okTrue o = true → o.all fun r => r.1 = .bool true
  | .ret (v, s), h => by
    cases v with
    | bool b => cases b with
      | true => rfl
      | false => cases h
    | _ => cases h
  | .fail, h => by cases h
  | .ask n k, h => by
    simp only [okTrue, Bool.and_eq_true] at h
    refine ⟨Nat.le_of_ble_eq_true h.1, fun i hi => okTrue_all ?_⟩
    exact List.all_eq_true.1 h.2 i (List.mem_range.2 hi)

/-- the begin of a closed run: nothing is known but the variable 0, which holds some int -/
def St.begin (m : Int) (n : Nat) : St := { heap := Tr.nil.set (bits 0) (some (.row [.int .i64 m] 0 true)), next := n }

theorem begin_get (m : Int) (n i : Nat) : (St.begin m n).get i = if 0 = i then some (.row [.int .i64 m] 0 true) else none := by
  have h : St.begin m n = St.put { heap := .nil, next := n } 0 (some (.row [.int .i64 m] 0 true)) := rfl
  rw [h, St.get_put]
  split
  · rfl
  · exact Tr.get_nil _

/-- a call without arguments that is run on its own -/
theorem calls_closed {F : CallF} (hF : FSound P F) {f : FuncId} {m : Int} (hG : 0 < P.globals.size) (hrun : okTrue (F f [] (St.begin m P.globals.size)) = true) (w : World) (hm : w.cell? ⟨0, 0, none⟩ = some (.int .i64 m)) (h0 : 0 < w.heap.size) :
    Calls P f #[] w fun e w' => e = .returned (.bool true) ∧ Below w.heap.size w w' := by
  have hr : Rel w.heap.size w (fun i => ⟨i, 0, 1, 0⟩) (St.begin m P.globals.size) w := by
    refine Rel.start _ (fun i o hi => ?_) (fun i o hi => ?_)
    · rw [begin_get] at hi
      split at hi
      · rename_i h
        subst h
        cases hi
        refine ⟨hG, h0, rfl, by simp, fun j v hj => ?_, fun _ => .inl h0, fun h => by cases h⟩
        cases j with
        | zero => simp at hj; subst hj; exact ⟨_, hm, .int _ _⟩
        | succ j => simp at hj
      · cases hi
    · rw [begin_get] at hi
      split at hi
      · cases hi; rfl
      · cases hi
  have hg : Glob P (fun i => ⟨i, 0, 1, 0⟩) (St.begin m P.globals.size).next := fun g hg => ⟨hg, rfl, rfl⟩
  refine (calls_of_run hF (okTrue_all hrun) hr hg (args := []) .nil).mono fun e w' h => ?_
  obtain ⟨v, s', v', h1, h2, μ', _, h3, h4⟩ := h
  simp only at h1
  subst h1
  cases h4
  exact ⟨h2, h3.below⟩
end
end Go.Am
