/-
  ArgsWords on the second machine.
-/
import Derived.Test.YtdmemibnphcedaaGreatDoorRWrdClaimPart33
import Derived.Test.YtdmemibnphcedaaGreatDoorRWrdClaimPart37
set_option linter.unusedSimpArgs false
set_option linter.unusedVariables false
set_option maxRecDepth 10000
set_option linter.unusedSectionVars false
namespace Go.Proofs.YtdmemibnphcedaaGreatDoor
open Go.Am
attribute [local irreducible] callO wopK ropK popK opK grpsE listE sx Runs

theorem wsS_map (l : List (List UInt8 × Bool)) : wsS l = (l.map fun x => bs x.1).map Value.string := by simp [wsS, List.map_map, Function.comp_def]
theorem wsB_at (l : List (List UInt8 × Bool)) (j : Nat) (h : j < l.length) : (wsB l).getD j undef = .bool (l[j]).2 := by
  simp [wsB, List.getD_eq_getElem?_getD, h]
theorem numVal_two (o : Option Int) : ∃ a b, numVal o = .tuple #[.int .i64 a, .int .i64 b] := by
  cases o with
  | none => exact ⟨_, _, rfl⟩
  | some v => exact ⟨_, _, rfl⟩

section
variable {st : St} {K : Value → St → Prop}

theorem WO.len {s : ByteArray} {l : List (List UInt8 × Bool)} {e : Int} (hs : s.size ≤ 80000) (h : WO s l e) (hx : ∃ r, WsR s.data.toList 0 r) : l.length ≤ s.size := by
  have go : ∀ {L : List UInt8} {p : Nat} {r : Option (List (List UInt8 × Bool))}, WsR L p r → p ≤ L.length → ∀ l, r = some l → p + l.length ≤ L.length := by
    intro L p r h
    induction h with
    | fin h => intro hp l e; cases e; simpa using hp
    | bad h => intro hp l e; cases e
    | wd h k ih =>
      intro hp l e
      rw [Option.map_eq_some_iff] at e
      obtain ⟨l', e1, rfl⟩ := e
      obtain ⟨_, n2, n3, n4, _⟩ := nxt_wd hp h
      have := ih n4 l' e1
      simp
      omega
  rcases h with ⟨_, rfl, _⟩ | ⟨_, _, rfl, _⟩ | ⟨_, h2, _⟩
  · simp
  · simp
  · obtain ⟨r, hr⟩ := hx
    have := wordsO_eq hr
    rw [h2] at this
    have := go hr (Nat.zero_le _) l this.symm
    rw [size_list]
    omega

/-- a line's words come to an end -/
theorem wsR_ex (L : List UInt8) : ∀ (n p : Nat), L.length - p = n → p ≤ L.length → ∃ r, WsR L p r
  | n, p, hn, hp => by
    cases h : nxt L p with
    | fin => exact ⟨_, .fin h⟩
    | bad fr => exact ⟨_, .bad h⟩
    | wd s q fr to =>
      obtain ⟨_, n2, n3, n4, _⟩ := nxt_wd hp h
      obtain ⟨r, hr⟩ := wsR_ex L (L.length - to) to rfl n4
      exact ⟨_, .wd h hr⟩
  termination_by n => n

set_option maxHeartbeats 8000000 in
theorem kArgsWords (s x : ByteArray) (h0 : 2 < st.next) (hm : hasMax st = true) (he : hasErr st = true) (h : ∀ st', K (.bool true) st') :
    callK (callO T0 orcW fnsW 100000 1) 5 [.string s, .string x] st K := by
  refine fn_runs (fn := g5) ?_ ?_ ?_
  · rfl
  · rfl
  unfold g5
  have F1 := Frm.new st (.row [.string s, .string x] 0 false)
  simp (disch := omega) only [↓sxA, ↓wk_store, sxB, sxP, Nat.reduceLeDiff, reduceCtorEq, Nat.reduceEqDiff, Nat.reduceAdd, Int.reduceLT, Int.reduceLE, Int.reduceEq, Nat.reduceLT, Int.reduceToNat, Int.reduceAdd, Int.reduceSub, ↓reduceIte]
  refine kBelow 0 (by rfl) (by decide) ?_
  refine kHeavy _ (xs := [s, x]) (cel_row (get_new_same _ _) rfl) (by show 2 < 90000; decide) ?_ (fun hsz => ?_)
  · simp (disch := omega) only [↓sxA, ↓wk_store, sxB, sxP, Nat.reduceLeDiff, reduceCtorEq, Nat.reduceEqDiff, Nat.reduceAdd, Int.reduceLT, Int.reduceLE, Int.reduceEq, Nat.reduceLT, Int.reduceToNat, Int.reduceAdd, Int.reduceSub, ↓reduceIte]
    exact h _
  have hs := hsz s (by simp)
  have hx := hsz x (by simp)
  simp (disch := omega) only [↓sxA, ↓wk_store, sxB, sxP, Nat.reduceLeDiff, reduceCtorEq, Nat.reduceEqDiff, Nat.reduceAdd, Int.reduceLT, Int.reduceLE, Int.reduceEq, Nat.reduceLT, Int.reduceToNat, Int.reduceAdd, Int.reduceSub, ↓reduceIte]
  refine kWords 0 s (F1.max (by omega) hm) fun l e v u s1 hW hv hu ho F2 => ?_
  simp (disch := omega) only [↓sxA, ↓wk_store, sxB, sxP, Nat.reduceLeDiff, reduceCtorEq, Nat.reduceEqDiff, Nat.reduceAdd, Int.reduceLT, Int.reduceLE, Int.reduceEq, Nat.reduceLT, Int.reduceToNat, Int.reduceAdd, Int.reduceSub, ↓reduceIte]
  refine kBelow 0 (by rfl) (by decide) ?_
  refine kWordsR _ s (by omega) fun l' e' v' u' s2 hW' hv' hu' ho' F3 => ?_
  obtain ⟨rfl, rfl⟩ := hW.unique hW'
  have hll := hW.len (by omega) (wsR_ex s.data.toList _ 0 rfl (Nat.zero_le _))
  have hv3 : Cel s2 v (wsS l) := hv.keep fun i hi => F3.old i (by omega)
  have hu3 : Cel s2 u (wsB l) := hu.keep fun i hi => F3.old i (by omega)
  have n1 := len_cel hu3
  have n2 := len_cel hu'
  have hbl : (wsB l).length = l.length := by simp [wsB]
  rw [hbl] at n1 n2
  simp (disch := omega) only [↓sxA, ↓wk_store, sxB, sxP, Nat.reduceLeDiff, reduceCtorEq, Nat.reduceEqDiff, Nat.reduceAdd, Int.reduceLT, Int.reduceLE, Int.reduceEq, Nat.reduceLT, Int.reduceToNat, Int.reduceAdd, Int.reduceSub, ↓reduceIte]
  refine kBelow 0 (by rfl) (by decide) ?_
  refine kEqStrs _ (xs := l.map fun x => bs x.1) (by rw [← wsS_map]; exact hv3) (by rw [← wsS_map]; exact hv') (by simp; omega) ?_
  simp (disch := omega) only [↓sxA, ↓wk_store, sxB, sxP, Nat.reduceLeDiff, reduceCtorEq, Nat.reduceEqDiff, Nat.reduceAdd, Int.reduceLT, Int.reduceLE, Int.reduceEq, Nat.reduceLT, Int.reduceToNat, Int.reduceAdd, Int.reduceSub, ↓reduceIte, ↓n1, ↓n2]
  have F := (F1.trans F2).trans F3
  refine loop_rule [1, 6, 9, 11] (fun vs s' => s' = s2 ∧ ∃ j : Nat, vs = [.string x, u, u', .int .i64 (j : Nat)] ∧ j ≤ l.length) (fun vs _ => match lget vs 3 with
      | .int _ k => ((l.length : Int) - k).toNat
      | _ => 0) ?_ ?_ ?_
  · rfl
  · refine ⟨_, rfl, ⟨rfl, 0, rfl, Nat.zero_le _⟩, ?_⟩
    show ((l.length : Int) - 0).toNat < 100000
    omega
  · rintro vs s' ⟨rfl, j, rfl, hj⟩
    show sx _ _ _ _ _ [(1, _), (6, _), (9, _), (11, _)] _ _ _ _
    by_cases hjl : j < l.length
    · have i1 := idx_cel hu3
      have ld := load_cel hu3
      have i2 := idx_cel hu'
      have ld2 := load_cel hu'
      rw [hbl] at i1 ld i2 ld2
      have e := wsB_at l j hjl
      simp (disch := omega) only [↓sxA, ↓wk_store, sxB, sxP, Nat.reduceLeDiff, reduceCtorEq, Nat.reduceEqDiff, Nat.reduceAdd, Int.reduceLT, Int.reduceLE, Int.reduceEq, Nat.reduceLT, Int.reduceToNat, Int.reduceAdd, Int.reduceSub, ↓reduceIte, ↓n1, ↓i1, ↓ld, ↓i2, ↓ld2, Int.toNat_natCast, e]
      refine ⟨_, rfl, ⟨j + 1, by simp, hjl⟩, ?_⟩
      show ((l.length : Int) - ((j : Int) + 1)).toNat < ((l.length : Int) - j).toNat
      omega
    · simp (disch := omega) only [↓sxA, ↓wk_store, sxB, sxP, Nat.reduceLeDiff, reduceCtorEq, Nat.reduceEqDiff, Nat.reduceAdd, Int.reduceLT, Int.reduceLE, Int.reduceEq, Nat.reduceLT, Int.reduceToNat, Int.reduceAdd, Int.reduceSub, ↓reduceIte, ↓n1]
      obtain ⟨a, b, hab⟩ := numVal_two (numA x.data.toList)
      refine kBelow 0 (by rfl) (by decide) ?_
      refine kNumber _ x (by omega) (F.err (by omega) he) ?_
      rw [hab]
      simp (disch := omega) only [↓sxA, ↓wk_store, sxB, sxP, Nat.reduceLeDiff, reduceCtorEq, Nat.reduceEqDiff, Nat.reduceAdd, Int.reduceLT, Int.reduceLE, Int.reduceEq, Nat.reduceLT, Int.reduceToNat, Int.reduceAdd, Int.reduceSub, ↓reduceIte]
      refine kBelow 0 (by rfl) (by decide) ?_
      refine kNumberR _ x (by omega) ?_
      rw [hab]
      simp (disch := omega) only [↓sxA, ↓wk_store, sxB, sxP, Nat.reduceLeDiff, reduceCtorEq, Nat.reduceEqDiff, Nat.reduceAdd, Int.reduceLT, Int.reduceLE, Int.reduceEq, Nat.reduceLT, Int.reduceToNat, Int.reduceAdd, Int.reduceSub, ↓reduceIte]
      refine kBelow 0 (by rfl) (by decide) ?_
      refine kQuote _ x (by omega) fun s3 G3 => ?_
      simp (disch := omega) only [↓sxA, ↓wk_store, sxB, sxP, Nat.reduceLeDiff, reduceCtorEq, Nat.reduceEqDiff, Nat.reduceAdd, Int.reduceLT, Int.reduceLE, Int.reduceEq, Nat.reduceLT, Int.reduceToNat, Int.reduceAdd, Int.reduceSub, ↓reduceIte]
      refine kBelow 0 (by rfl) (by decide) ?_
      refine kQuoteR _ x (by omega) fun s4 G4 => ?_
      simp (disch := omega) only [↓sxA, ↓wk_store, sxB, sxP, Nat.reduceLeDiff, reduceCtorEq, Nat.reduceEqDiff, Nat.reduceAdd, Int.reduceLT, Int.reduceLE, Int.reduceEq, Nat.reduceLT, Int.reduceToNat, Int.reduceAdd, Int.reduceSub, ↓reduceIte]
      refine kBelow 0 (by rfl) (by decide) ?_
      refine kAwake _ (((F.trans G3).trans G4).max (by omega) hm) ?_
      simp (disch := omega) only [↓sxA, ↓wk_store, sxB, sxP, Nat.reduceLeDiff, reduceCtorEq, Nat.reduceEqDiff, Nat.reduceAdd, Int.reduceLT, Int.reduceLE, Int.reduceEq, Nat.reduceLT, Int.reduceToNat, Int.reduceAdd, Int.reduceSub, ↓reduceIte]
      exact h _
end
end Go.Proofs.YtdmemibnphcedaaGreatDoor
