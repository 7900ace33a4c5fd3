/-
  Marks as ints; two items held against each other; an item as the program reads it.
-/
import Derived.Test.YtdmemibnphcedaaGreatDoorRTplC
set_option linter.unusedSimpArgs false
set_option linter.unusedVariables false
set_option maxRecDepth 10000
set_option linter.unusedSectionVars false
namespace Go.Proofs.YtdmemibnphcedaaGreatDoor
open Go.Am

/-! ### marks as ints -/
def Mk.bit (x : Mk) : Nat → Bool
  | 0 => x.a
  | 1 => x.k
  | 2 => x.s
  | 3 => x.n
  | 4 => x.m
  | _ => x.f
def Mk.put (x : Mk) : Nat → Mk
  | 0 => { x with a := true }
  | 1 => { x with k := true }
  | 2 => { x with s := true }
  | 3 => { x with n := true }
  | 4 => { x with m := true }
  | _ => { x with f := true }
def p2 : Nat → Int
  | 0 => 1
  | 1 => 2
  | 2 => 4
  | 3 => 8
  | 4 => 16
  | _ => 32
/-- the first marks -/
def Mk.upto (x : Mk) : Nat → Mk
  | 0 => Mk.none
  | 1 => ⟨x.a, false, false, false, false, false⟩
  | 2 => ⟨x.a, x.k, false, false, false, false⟩
  | 3 => ⟨x.a, x.k, x.s, false, false, false⟩
  | 4 => ⟨x.a, x.k, x.s, x.n, false, false⟩
  | 5 => ⟨x.a, x.k, x.s, x.n, x.m, false⟩
  | _ => x
def lt (i : Nat) : ByteArray := ⟨#[match i with | 0 => 97 | 1 => 107 | 2 => 115 | 3 => 110 | 4 => 109 | _ => 102]⟩
def order : ByteArray := ⟨#[97, 107, 115, 110, 109, 102]⟩

def andI (a b : Int) : Int := IntKind.i64.wrap (BitVec.ofInt 64 a &&& BitVec.ofInt 64 b).toNat
def orI (a b : Int) : Int := IntKind.i64.wrap (BitVec.ofInt 64 a ||| BitVec.ofInt 64 b).toNat
def notI (a b : Int) : Int := IntKind.i64.wrap (BitVec.ofInt 64 a &&& ~~~ BitVec.ofInt 64 b).toNat
def shlI (a b : Int) : Int := IntKind.i64.wrap (a * 2 ^ (Nat.min b.toNat 64))

section
variable {K : Value → Prop}
theorem popAnd (a b : Int) : popK (.bin .and) [.int .i64 a, .int .i64 b] K = K (.int .i64 (andI a b)) := of_eq_true (eq_self _)
theorem popOr (a b : Int) : popK (.bin .or) [.int .i64 a, .int .i64 b] K = K (.int .i64 (orI a b)) := of_eq_true (eq_self _)
theorem popNot (a b : Int) : popK (.bin .andNot) [.int .i64 a, .int .i64 b] K = K (.int .i64 (notI a b)) := of_eq_true (eq_self _)
theorem popShl (a b : Int) (h : 0 ≤ b) : popK (.bin .shl) [.int .i64 a, .int .i64 b] K = K (.int .i64 (shlI a b)) := by
  simp only [popK, pop, binV, shiftInt]
  rw [if_neg (by omega)]
  rfl
end

theorem shl_p2 (i : Nat) (h : i < 6) : shlI 1 (i : Int) = p2 i := by
  match i, h with
  | 0, _ | 1, _ | 2, _ | 3, _ | 4, _ | 5, _ => decide +kernel
theorem and_bit (x : Mk) (i : Nat) (h : i < 6) : andI x.int (p2 i) = b2i (x.bit i) (p2 i) := by
  obtain ⟨a, k, s, n, m, f⟩ := x
  match i, h with
  | 0, _ | 1, _ | 2, _ | 3, _ | 4, _ | 5, _ => revert a k s n m f; decide +kernel
theorem or_put (x : Mk) (i : Nat) (h : i < 6) : orI x.int (p2 i) = (x.put i).int := by
  obtain ⟨a, k, s, n, m, f⟩ := x
  match i, h with
  | 0, _ | 1, _ | 2, _ | 3, _ | 4, _ | 5, _ => revert a k s n m f; decide +kernel
theorem upto_bit (x : Mk) (i : Nat) (h : i < 6) : (x.bit i = true → (x.upto i).put i = x.upto (i + 1)) ∧ (x.bit i = false → x.upto i = x.upto (i + 1)) := by
  obtain ⟨a, k, s, n, m, f⟩ := x
  match i, h with
  | 0, _ | 1, _ | 2, _ | 3, _ | 4, _ | 5, _ => refine ⟨fun hb => ?_, fun hb => ?_⟩ <;> simp only [Mk.bit] at hb <;> subst hb <;> rfl
theorem bits_int (x : Mk) : x.bit 0 = x.a ∧ x.bit 1 = x.k ∧ x.bit 2 = x.s ∧ x.bit 3 = x.n ∧ x.bit 4 = x.m ∧ x.bit 5 = x.f := ⟨rfl, rfl, rfl, rfl, rfl, rfl⟩

theorem index_lt (b : UInt8) : (Lib.index order.data.toList [b] = -1 ∧ ∀ i, i < 6 → [b] ≠ (lt i).data.toList) ∨ ∃ i : Nat, i < 6 ∧ Lib.index order.data.toList [b] = (i : Int) ∧ [b] = (lt i).data.toList := by
  have h : ∀ n : Fin 256, (Lib.index order.data.toList [UInt8.ofNat n.val] = -1 ∧ ∀ i : Fin 6, [UInt8.ofNat n.val] ≠ (lt i.val).data.toList) ∨ ∃ i : Fin 6, Lib.index order.data.toList [UInt8.ofNat n.val] = (i.val : Int) ∧ [UInt8.ofNat n.val] = (lt i.val).data.toList := by decide +kernel
  have := h ⟨b.toNat, b.toNat_lt⟩
  simp only [UInt8.ofNat_toNat] at this
  rcases this with ⟨h1, h2⟩ | ⟨i, h1, h2⟩
  · exact .inl ⟨h1, fun i hi => h2 ⟨i, hi⟩⟩
  · exact .inr ⟨i.val, i.isLt, h1, h2⟩

theorem add_lt (x : Mk) (i : Nat) (h : i < 6) : x.add (lt i) = if x.bit i = true then Option.none else some (x.put i) := by
  match i, h with
  | 0, _ | 1, _ | 2, _ | 3, _ | 4, _ | 5, _ => rfl
theorem add_no (x : Mk) (p : ByteArray) (h : ∀ i, i < 6 → p ≠ lt i) : x.add p = Option.none := by
  have hl : ∀ i, i < 6 → p.data.toList ≠ (lt i).data.toList := fun i hi e => h i hi (by rw [← bs_of p, e, bs_of])
  unfold Mk.add
  split <;> rename_i hp
  · exact (hl 0 (by decide) hp).elim
  · exact (hl 1 (by decide) hp).elim
  · exact (hl 2 (by decide) hp).elim
  · exact (hl 3 (by decide) hp).elim
  · exact (hl 4 (by decide) hp).elim
  · exact (hl 5 (by decide) hp).elim
  · rfl

/-- what a part is, as a mark -/
theorem part_is (p : ByteArray) : (p.size ≠ 1 ∧ ∀ i, i < 6 → p ≠ lt i) ∨ (p.size = 1 ∧ Lib.index order.data.toList p.data.toList = -1 ∧ ∀ i, i < 6 → p ≠ lt i) ∨ ∃ i : Nat, i < 6 ∧ p = lt i ∧ p.size = 1 ∧ Lib.index order.data.toList p.data.toList = (i : Int) := by
  have hs : ∀ i, (lt i).size = 1 := fun i => rfl
  by_cases h1 : p.size = 1
  · right
    obtain ⟨b, hb⟩ : ∃ b, p.data.toList = [b] := List.length_eq_one_iff.1 (by rw [← size_list]; exact h1)
    rcases index_lt b with ⟨k1, k2⟩ | ⟨i, k1, k2, k3⟩
    · exact .inl ⟨h1, by rw [hb]; exact k1, fun i hi e => k2 i hi (by rw [← hb, e])⟩
    · exact .inr ⟨i, k1, by rw [← bs_of p, hb, k3, bs_of], h1, by rw [hb]; exact k2⟩
  · exact .inl ⟨h1, fun i hi e => h1 (by rw [e]; exact hs i)⟩

/-- the cells of an item -/
def itCells (nv : Value) (x : Mk) : List Value := [nv, .bool x.a, .bool x.k, .bool x.s, .bool x.n, .bool x.m, .bool x.f]

theorem resP_k1 (e : Env) (s : St) (a b n : Nat) (Q : Value → St → Prop) : resP e s [(a, n + 2), (b, 0)] Q = getE e a fun u => ropK (.loadN n) [u] s fun x => getE e b fun v => Q (.tuple #[x, v]) s := by
  unfold resP getE ropK
  simp only [resE, res1E]
  cases e.get? a with
  | none => rfl
  | some u =>
    simp only
    cases rop (.loadN n) [u] s with
    | none => rfl
    | some x =>
      simp only
      cases e.get? b <;> rfl

attribute [local irreducible] callO wopK ropK popK opK grpsE listE sx Runs

section
variable {st : St} {v u nv : Value} {K : Value → St → Prop} {xs : List ByteArray} {x : Mk}

theorem kMarks (n : Nat) (hnv : oneCell nv = true) (h : ∀ st', st.next ≤ st'.next → (∀ i, i < st.next → st'.get i = st.get i) → K (.int .i64 x.int) st') :
    callK (callO T0 orc fns 100000 (n + 1)) 43 [.agg (itCells nv x).toArray] st K := by
  refine fn_runs (fn := g43) ?_ ?_ ?_
  · rfl
  · rfl
  unfold g43
  unfold itCells
  simp (disch := ((try simp only [St.next_put, St.next_new]); omega)) only [↓sxA, ↓wk_store, sxB, sxP, Nat.reduceLeDiff, reduceCtorEq, Nat.reduceEqDiff, Nat.reduceAdd, Int.reduceLT, Int.reduceLE, Int.reduceEq, Nat.reduceLT, Int.reduceToNat, Int.reduceAdd, Int.reduceSub, ↓reduceIte]
  obtain ⟨s2, hs2⟩ : ∃ s2, s2 = (st.new (.row (itCells nv x) 0 false)).new (.row [.bool x.a, .bool x.k, .bool x.s, .bool x.n, .bool x.m, .bool x.f] 0 false) := ⟨_, rfl⟩
  have hcel : Cel s2 (.slice (some ⟨st.next + 1, 0, none⟩) 6 6) [.bool x.a, .bool x.k, .bool x.s, .bool x.n, .bool x.m, .bool x.f] := cel_row (by rw [hs2]; exact get_new_same (st.new _) _) rfl
  refine loop_rule [3, 18, 19, 20] (fun vs s => s = s2 ∧ ∃ j : Nat, j ≤ 6 ∧ vs = [.int .i64 (x.upto j).int, .slice (some ⟨st.next + 1, 0, none⟩) 6 6, .int .i64 6, .int .i64 j]) (fun vs _ => match lget vs 3 with
      | .int _ k => (6 - k).toNat
      | _ => 0) ?_ ?_ ?_
  · rfl
  · exact ⟨_, rfl, ⟨hs2.symm, 0, by decide, rfl⟩, by show (6 - (0 : Int)).toNat < 100000; decide⟩
  · rintro vs s ⟨rfl, j, hj, rfl⟩
    show sx _ _ _ _ _ [(3, _), (18, _), (19, _), (20, _)] _ _ _ _
    by_cases h6 : j < 6
    · have ix := idx_cel hcel .i64 (j : Int)
      have ld := load_cel hcel (j : Int)
      have hb : [Value.bool x.a, .bool x.k, .bool x.s, .bool x.n, .bool x.m, .bool x.f].getD (j : Int).toNat undef = .bool (x.bit j) := by
        match j, h6 with
        | 0, _ | 1, _ | 2, _ | 3, _ | 4, _ | 5, _ => rfl
      simp only [List.length_cons, List.length_nil] at ix ld
      simp (disch := omega) only [↓sxA, ↓wk_store, sxB, sxP, Nat.reduceLeDiff, reduceCtorEq, Nat.reduceEqDiff, Nat.reduceAdd, Int.reduceLT, Int.reduceLE, Int.reduceEq, Nat.reduceLT, Int.reduceToNat, Int.reduceAdd, Int.reduceSub, ↓reduceIte, ↓ix, ↓ld, hb]
      obtain ⟨u1, u2⟩ := upto_bit x j h6
      have hm : (6 - ((j : Int) + 1)).toNat < (6 - (j : Int)).toNat := by omega
      cases hbit : x.bit j with
      | true =>
        simp (disch := omega) only [popShl, shl_p2 j h6, popOr, or_put _ j h6, ↓sxA, ↓wk_store, sxB, sxP, Nat.reduceLeDiff, reduceCtorEq, Nat.reduceEqDiff, Nat.reduceAdd, Int.reduceLT, Int.reduceLE, Int.reduceEq, Nat.reduceLT, Int.reduceToNat, Int.reduceAdd, Int.reduceSub, ↓reduceIte]
        exact ⟨_, rfl, ⟨j + 1, by omega, by rw [u1 hbit]; rfl⟩, hm⟩
      | false =>
        simp (disch := omega) only [↓sxA, ↓wk_store, sxB, sxP, Nat.reduceLeDiff, reduceCtorEq, Nat.reduceEqDiff, Nat.reduceAdd, Int.reduceLT, Int.reduceLE, Int.reduceEq, Nat.reduceLT, Int.reduceToNat, Int.reduceAdd, Int.reduceSub, ↓reduceIte]
        exact ⟨_, rfl, ⟨j + 1, by omega, by rw [u2 hbit]; rfl⟩, hm⟩
    · have e6 : j = 6 := by omega
      subst e6
      simp (disch := omega) only [↓sxA, ↓wk_store, sxB, sxP, Nat.reduceLeDiff, reduceCtorEq, Nat.reduceEqDiff, Nat.reduceAdd, Int.reduceLT, Int.reduceLE, Int.reduceEq, Nat.reduceLT, Int.reduceToNat, Int.reduceAdd, Int.reduceSub, ↓reduceIte]
      subst hs2
      exact h _ (by show st.next ≤ st.next + 1 + 1; omega) fun i hi => by rw [get_new_ne _ _ _ (by show st.next + 1 ≠ i; omega), get_new_ne _ _ _ (by omega)]

theorem kSame (n : Nat) (hu : Cel st u (xs.map Value.string)) (hv : Cel st v (xs.map Value.string)) (hun : ow u ≤ st.next) (hvn : ow v ≤ st.next) (hl : xs.length < 90000) (h1 : oneCell u = true) (h2 : oneCell v = true) (h : ∀ st', st.next ≤ st'.next → (∀ i, i < st.next → st'.get i = st.get i) → K (.bool true) st') :
    callK (callO T0 orc fns 100000 (n + 2)) 18 [.agg (itCells u x).toArray, .agg (itCells v x).toArray] st K := by
  refine fn_runs (fn := g18) ?_ ?_ ?_
  · rfl
  · rfl
  unfold g18
  unfold itCells
  have q : ∀ (s0 : St) (o p : AObj), ((s0.new o).new p).get (s0.next + 1) = some p := fun s0 o p => get_new_same (s0.new o) p
  have hf : ∀ (o p : AObj) (i : Nat), i < st.next → ((st.new o).new p).get i = st.get i := fun o p i hi => by rw [get_new_ne _ _ _ (by show st.next + 1 ≠ i; omega), get_new_ne _ _ _ (by omega)]
  simp (disch := ((try simp only [St.next_put, St.next_new]); omega)) only [q, ↓sxA, ↓wk_store, sxB, sxP, Nat.reduceLeDiff, reduceCtorEq, Nat.reduceEqDiff, Nat.reduceAdd, Int.reduceLT, Int.reduceLE, Int.reduceEq, Nat.reduceLT, Int.reduceToNat, Int.reduceAdd, Int.reduceSub, ↓reduceIte]
  refine kEqStrs n (hu.keep fun i hi => hf _ _ i (by omega)) (hv.keep fun i hi => hf _ _ i (by omega)) hl ?_
  simp (disch := ((try simp only [St.next_put, St.next_new]); omega)) only [q, ↓sxA, ↓wk_store, sxB, sxP, Nat.reduceLeDiff, reduceCtorEq, Nat.reduceEqDiff, Nat.reduceAdd, Int.reduceLT, Int.reduceLE, Int.reduceEq, Nat.reduceLT, Int.reduceToNat, Int.reduceAdd, Int.reduceSub, ↓reduceIte]
  exact h _ (by show st.next ≤ st.next + 1 + 1; omega) fun i hi => hf _ _ i hi
end
end Go.Proofs.YtdmemibnphcedaaGreatDoor
