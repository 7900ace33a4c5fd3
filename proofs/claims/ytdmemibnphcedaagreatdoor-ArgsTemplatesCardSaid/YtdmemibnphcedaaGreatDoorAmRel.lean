/-
  How the second machine's heap stands to the first one's world: each name has its block; what is owned is apart.
-/
import Derived.Test.YtdmemibnphcedaaGreatDoorAmEval
import Derived.Below
import Derived.Laws.IdiomCopy
set_option linter.unusedSimpArgs false
set_option linter.unusedVariables false
set_option maxRecDepth 10000
namespace Go.Am
open Go.RowKit (Below)

structure Spot where
  block : Nat
  base : Nat
  limit : Nat
  grown : Nat

mutual
/-- a value of the second machine stands for one of the first; n: names below it are known -/
inductive VR (μ : Nat → Spot) (n : Nat) : Value → Value → Prop where
  | bool (b : Bool) : VR μ n (.bool b) (.bool b)
  | int (k : IntKind) (i : Int) : VR μ n (.int k i) (.int k i)
  | float (k : FloatKind) (b : Nat) : VR μ n (.float k b) (.float k b)
  | complex (k : FloatKind) (a b : Nat) : VR μ n (.complex k a b) (.complex k a b)
  | string (s : ByteArray) : VR μ n (.string s) (.string s)
  | nilPtr : VR μ n (.pointer none) (.pointer none)
  | ptr (i o : Nat) (h : i < n) : VR μ n (.pointer (some ⟨i, o, none⟩)) (.pointer (some ⟨(μ i).block, (μ i).base + o, none⟩))
  | nilSlice : VR μ n (.slice none 0 0) (.slice none 0 0)
  | slice (i o o' len cap cap' : Nat) (h : i < n) (h0 : len ≤ cap) (h1 : cap ≤ cap') (h2 : (μ i).grown = 0 → cap' = cap) (h3 : 0 < cap ∨ (μ i).grown = 0 → o' = (μ i).base + o) (h4 : (μ i).base ≤ o')
      (h5 : (μ i).grown ≠ 0 → o' + cap' * (μ i).grown ≤ (μ i).limit) : VR μ n (.slice (some ⟨i, o, none⟩) len cap) (.slice (some ⟨(μ i).block, o', none⟩) len cap')
  | nilMap : VR μ n (.map none) (.map none)
  | map (i : Nat) (h : i < n) : VR μ n (.map (some i)) (.map (some (μ i).block))
  | nilChan : VR μ n (.chan none) (.chan none)
  | func (fn : Fn) (x y x' y' : Array Value) (h1 : VRs μ n x.toList x'.toList) (h2 : VRs μ n y.toList y'.toList) : VR μ n (.func fn x y) (.func fn x' y')
  | nilFunc : VR μ n .nilFunc .nilFunc
  | iface (t : TypeId) (v v' : Value) (h : VR μ n v v') : VR μ n (.iface t v) (.iface t v')
  | nilIface : VR μ n .nilIface .nilIface
  | agg (x x' : Array Value) (h : VRs μ n x.toList x'.toList) : VR μ n (.agg x) (.agg x')
  | tuple (x x' : Array Value) (h : VRs μ n x.toList x'.toList) : VR μ n (.tuple x) (.tuple x')
  | void (a : Addr) : VR μ n (.slice (some ⟨0, 0, some 0⟩) 0 0) (.slice (some a) 0 0)
inductive VRs (μ : Nat → Spot) (n : Nat) : List Value → List Value → Prop where
  | nil : VRs μ n [] []
  | cons (v v' : Value) (l l' : List Value) (h : VR μ n v v') (hs : VRs μ n l l') : VRs μ n (v :: l) (v' :: l')
end

/-- more is known, and of what was known nothing has turned -/
def Agree (μ : Nat → Spot) (n : Nat) (μ' : Nat → Spot) (n' : Nat) : Prop := n ≤ n' ∧ ∀ i, i < n → μ' i = μ i

theorem Agree.refl (μ : Nat → Spot) (n : Nat) : Agree μ n μ n := ⟨Nat.le_refl _, fun _ _ => rfl⟩
theorem Agree.trans {μ μ' μ'' : Nat → Spot} {n n' n'' : Nat} (h : Agree μ n μ' n') (k : Agree μ' n' μ'' n'') : Agree μ n μ'' n'' :=
  ⟨Nat.le_trans h.1 k.1, fun i hi => (k.2 i (Nat.lt_of_lt_of_le hi h.1)).trans (h.2 i hi)⟩

theorem VR.mono {μ μ' : Nat → Spot} {n n' : Nat} (ha : Agree μ n μ' n') {v v' : Value} (h : VR μ n v v') : VR μ' n' v v' := by
  refine VR.rec (motive_1 := fun v v' _ => VR μ' n' v v') (motive_2 := fun l l' _ => VRs μ' n' l l') ?_ ?_ ?_ ?_ ?_ ?_ ?_ ?_ ?_ ?_ ?_ ?_ ?_ ?_ ?_ ?_ ?_ ?_ ?_ ?_ ?_ h
  all_goals intros
  case refine_7 i o h => rw [← ha.2 i h]; exact .ptr i o (Nat.lt_of_lt_of_le h ha.1)
  case refine_9 i o o' len cap cap' h h0 h1 h2 h3 h4 h5 => rw [← ha.2 i h] at h2 h3 h4 h5 ⊢; exact .slice i o o' len cap cap' (Nat.lt_of_lt_of_le h ha.1) h0 h1 h2 h3 h4 h5
  case refine_11 i h => rw [← ha.2 i h]; exact .map i (Nat.lt_of_lt_of_le h ha.1)
  all_goals constructor <;> assumption

theorem VRs.mono {μ μ' : Nat → Spot} {n n' : Nat} (ha : Agree μ n μ' n') : ∀ {l l' : List Value}, VRs μ n l l' → VRs μ' n' l l'
  | [], [], _ => .nil
  | _ :: _, _ :: _, .cons _ _ _ _ h hs => .cons _ _ _ _ (h.mono ha) (hs.mono ha)

section lists
variable {μ : Nat → Spot} {n : Nat}
theorem VRs.length {l l' : List Value} (h : VRs μ n l l') : l'.length = l.length := by
  induction l generalizing l' with
  | nil => cases h; rfl
  | cons v l ih => cases h with | cons _ _ _ _ h hs => simp [ih hs]
theorem VRs.get {l l' : List Value} (h : VRs μ n l l') : ∀ {j : Nat} {v : Value}, l[j]? = some v → ∃ v', l'[j]? = some v' ∧ VR μ n v v' := by
  induction l generalizing l' with
  | nil => intro j v hj; simp at hj
  | cons x l ih =>
    cases h with
    | cons _ x' _ l' h hs =>
      intro j v hj
      cases j with
      | zero => simp at hj; subst hj; exact ⟨x', rfl, h⟩
      | succ j => simpa using ih hs (by simpa using hj)
theorem VRs.of_get : ∀ {l l' : List Value}, l'.length = l.length → (∀ (j : Nat) (v : Value), l[j]? = some v → ∃ v', l'[j]? = some v' ∧ VR μ n v v') → VRs μ n l l'
  | [], [], _, _ => .nil
  | [], _ :: _, h, _ => by simp at h
  | _ :: _, [], h, _ => by simp at h
  | x :: l, x' :: l', h, hg => by
    obtain ⟨y, hy, hr⟩ := hg 0 x rfl
    simp at hy; subst hy
    exact .cons _ _ _ _ hr (VRs.of_get (by simpa using h) fun j v hj => by simpa using hg (j + 1) v (by simpa using hj))
theorem VRs.append {a a' b b' : List Value} (h : VRs μ n a a') (k : VRs μ n b b') : VRs μ n (a ++ b) (a' ++ b') := by
  induction a generalizing a' with
  | nil => cases h; exact k
  | cons x a ih => cases h with | cons _ _ _ _ h hs => exact .cons _ _ _ _ h (ih hs)
theorem VRs.take {l l' : List Value} (h : VRs μ n l l') : ∀ k, VRs μ n (l.take k) (l'.take k) := by
  induction l generalizing l' with
  | nil => cases h; intro k; simp; exact .nil
  | cons x l ih =>
    cases h with
    | cons _ _ _ _ h hs =>
      intro k
      cases k with
      | zero => exact .nil
      | succ k => exact .cons _ _ _ _ h (ih hs k)
theorem VRs.drop {l l' : List Value} (h : VRs μ n l l') : ∀ k, VRs μ n (l.drop k) (l'.drop k) := by
  induction l generalizing l' with
  | nil => cases h; intro k; simp; exact .nil
  | cons x l ih =>
    cases h with
    | cons _ _ _ _ h hs =>
      intro k
      cases k with
      | zero => exact .cons _ _ _ _ h hs
      | succ k => exact ih hs k
theorem VRs.lget {l l' : List Value} (h : VRs μ n l l') : ∀ k, VR μ n (lget l k) (l'.getD k undef) := by
  induction l generalizing l' with
  | nil => cases h; intro k; simp [Am.lget, undef]; exact .tuple _ _ .nil
  | cons x l ih =>
    cases h with
    | cons _ _ _ _ h hs =>
      intro k
      cases k with
      | zero => exact h
      | succ k => simpa [Am.lget] using ih hs k
theorem VRs.lset {l l' : List Value} (h : VRs μ n l l') {v v' : Value} (hv : VR μ n v v') : ∀ k, VRs μ n (lset l k v) (l'.set k v') := by
  induction l generalizing l' with
  | nil => cases h; intro k; simp [Am.lset]; exact .nil
  | cons x l ih =>
    cases h with
    | cons _ _ _ _ h hs =>
      intro k
      cases k with
      | zero => exact .cons _ _ _ _ hv hs
      | succ k => exact .cons _ _ _ _ h (ih hs k)
theorem VRs.replicate_undef : ∀ k, VRs μ n (List.replicate k undef) (List.replicate k undef)
  | 0 => .nil
  | k + 1 => .cons _ _ _ _ (.tuple _ _ .nil) (VRs.replicate_undef k)
theorem VR.cellsOf {v v' : Value} (h : VR μ n v v') : VRs μ n (cellsOf v) v'.cells.toList := by
  cases h <;> first | assumption | exact .cons _ _ _ _ (by constructor <;> assumption) .nil
theorem VR.oneCell {v v' : Value} (h : VR μ n v v') : oneCell v' = oneCell v := by cases h <;> rfl
end lists

/-- no address in it -/
def plainV : Value → Bool
  | .bool _ | .int _ _ | .float _ _ | .complex _ _ _ | .string _ | .pointer none | .slice none 0 0 | .map none | .chan none | .nilFunc | .nilIface => true
  | .func _ x y => x.isEmpty && y.isEmpty
  | .agg cs => cs.toList.all fun
    | .bool _ | .int _ _ | .float _ _ | .complex _ _ _ | .string _ | .pointer none | .slice none 0 0 | .map none | .chan none | .nilFunc | .nilIface => true
    | _ => false
  | .tuple vs => vs.isEmpty
  | _ => false

theorem plainV_rel {μ : Nat → Spot} {n : Nat} {v : Value} (h : plainV v = true) : VR μ n v v := by
  cases v with
  | pointer a => cases a with | none => exact .nilPtr | some a => simp [plainV] at h
  | slice a l c =>
    cases a with
    | none => cases l <;> cases c <;> first | exact .nilSlice | simp [plainV] at h
    | some a => simp [plainV] at h
  | map r => cases r with | none => exact .nilMap | some a => simp [plainV] at h
  | chan r => cases r with | none => exact .nilChan | some a => simp [plainV] at h
  | func fn x y =>
    simp [plainV] at h
    obtain ⟨rfl, rfl⟩ := h
    exact .func _ _ _ _ _ .nil .nil
  | agg cs =>
    refine .agg _ _ ?_
    have h : cs.toList.all _ = true := h
    revert h
    generalize cs.toList = l
    intro h
    induction l with
    | nil => exact .nil
    | cons x l ih =>
      rw [List.all_cons, Bool.and_eq_true] at h
      refine .cons _ _ _ _ ?_ (ih h.2)
      have h1 := h.1
      split at h1 <;> first | constructor | cases h1
  | tuple vs =>
    simp [plainV] at h
    subst h
    exact .tuple _ _ .nil
  | iface t v => simp [plainV] at h
  | _ => constructor

/-! ### the heap -/
theorem bitsGo_inj : ∀ (f g m k : Nat), m ≤ f → k ≤ g → bitsGo f m = bitsGo g k → m = k
  | 0, 0, m, k, h1, h2, _ => by omega
  | 0, g + 1, m, k, h1, h2, h => by
    by_cases hk : k = 0
    · omega
    · simp [bitsGo, hk] at h
  | f + 1, 0, m, k, h1, h2, h => by
    by_cases hk : m = 0
    · omega
    · simp [bitsGo, hk] at h
  | f + 1, g + 1, m, k, h1, h2, h => by
    by_cases hm : m = 0 <;> by_cases hk : k = 0
    · omega
    · simp [bitsGo, hk, hm] at h
    · simp [bitsGo, hk, hm] at h
    · simp only [bitsGo, hk, hm, if_false, List.cons.injEq] at h
      have := bitsGo_inj f g (m / 2) (k / 2) (by omega) (by omega) h.2
      have h1 := h.1
      rw [Bool.eq_iff_iff] at h1
      simp at h1
      omega
theorem bits_inj {m k : Nat} (h : bits m = bits k) : m = k := bitsGo_inj m k m k (Nat.le_refl _) (Nat.le_refl _) h

theorem Tr.get_nil (bs : List Bool) : Tr.nil.get bs = none := by cases bs <;> rfl
theorem Tr.get_set_same : ∀ (bs : List Bool) (t : Tr) (v : Option AObj), (t.set bs v).get bs = v
  | [], t, v => by cases t <;> rfl
  | b :: bs, t, v => by cases t <;> cases b <;> simp [Tr.set, Tr.get, Tr.get_set_same bs]
theorem Tr.get_set_other : ∀ (bs cs : List Bool) (t : Tr) (v : Option AObj), bs ≠ cs → (t.set bs v).get cs = t.get cs
  | [], [], _, _, h => absurd rfl h
  | [], c :: cs, t, v, _ => by cases t <;> cases c <;> simp [Tr.set, Tr.get]
  | b :: bs, [], t, v, _ => by cases t <;> cases b <;> simp [Tr.set, Tr.get]
  | b :: bs, c :: cs, t, v, h => by
    by_cases hb : bs = cs
    · have hbc : b ≠ c := fun e => h (by rw [e, hb])
      cases t <;> cases b <;> cases c <;> simp_all [Tr.set, Tr.get]
    · cases t <;> cases b <;> cases c <;> simp [Tr.set, Tr.get, Tr.get_set_other bs cs _ v hb]

theorem St.get_put_same (s : St) (i : Nat) (o : Option AObj) : (s.put i o).get i = o := Tr.get_set_same _ _ _
theorem St.get_put_other (s : St) {i j : Nat} (o : Option AObj) (h : i ≠ j) : (s.put i o).get j = s.get j := Tr.get_set_other _ _ _ _ fun e => h (bits_inj e)
theorem St.get_put (s : St) (i j : Nat) (o : Option AObj) : (s.put i o).get j = if i = j then o else s.get j := by
  split
  · rename_i h; rw [h, St.get_put_same]
  · rename_i h; rw [St.get_put_other _ _ h]
theorem St.get_new (s : St) (j : Nat) (o : AObj) : (s.new o).get j = if s.next = j then some o else s.get j := by
  show (s.put s.next (some o)).get j = _
  rw [St.get_put]
@[simp] theorem St.next_put (s : St) (i : Nat) (o : Option AObj) : (s.put i o).next = s.next := rfl
@[simp] theorem St.next_new (s : St) (o : AObj) : (s.new o).next = s.next + 1 := rfl

def AObj.owned : AObj → Bool
  | .row _ _ true => false
  | _ => true

/-- entries of a map -/
def ER (μ : Nat → Spot) (n clock : Nat) : List (Value × Value × Nat) → List MapEntry → Prop
  | [], [] => True
  | e :: es, e' :: es' => VR μ n e.1 e'.key ∧ VR μ n e.2.1 e'.val ∧ e'.born = e.2.2 ∧ e.2.2 < clock ∧ ER μ n clock es es'
  | _, _ => False

/-- what a name stands for is there -/
def IdOk (B0 : Nat) (μ : Nat → Spot) (n : Nat) (w : World) (i : Nat) : AObj → Prop
  | .row cs g ro => (μ i).grown = g ∧ (μ i).base + cs.length ≤ (μ i).limit ∧
      (∀ j v, cs[j]? = some v → ∃ v', w.cell? ⟨(μ i).block, (μ i).base + j, none⟩ = some v' ∧ VR μ n v v') ∧
      (ro = true → (μ i).block < B0 ∨ cs = []) ∧
      (ro = false → B0 ≤ (μ i).block ∧ (∀ x, (μ i).base ≤ x → x < (μ i).limit → (w.cell? ⟨(μ i).block, x, none⟩).isSome = true ∧ w.frozen? ⟨(μ i).block, x, none⟩ = false) ∧ (g = 0 → (μ i).base = 0))
  | .map es clock => B0 ≤ (μ i).block ∧ ∃ es', w.heap[(μ i).block]? = some (.map es' clock) ∧ ER μ n clock es es'.toList
  | .strIter s pos => B0 ≤ (μ i).block ∧ (μ i).base = 0 ∧ w.heap[(μ i).block]? = some (.stringIter s pos)
  | .mapIter m since seen last => B0 ≤ (μ i).block ∧ (μ i).base = 0 ∧ (∀ r, m = some r → r < n) ∧ w.heap[(μ i).block]? = some (.mapIter (m.map fun r => (μ r).block) since seen.toArray last)

structure Rel (B0 : Nat) (W0 : World) (μ : Nat → Spot) (s : St) (w : World) : Prop where
  low : B0 ≤ W0.heap.size
  below : Below B0 W0 w
  known : ∀ i o, s.get i = some o → i < s.next ∧ (μ i).block < w.heap.size ∧ IdOk B0 μ s.next w i o
  apart : ∀ i j oi oj, i ≠ j → s.get i = some oi → s.get j = some oj → oi.owned = true → oj.owned = true → (μ i).block ≠ (μ j).block

end Go.Am
