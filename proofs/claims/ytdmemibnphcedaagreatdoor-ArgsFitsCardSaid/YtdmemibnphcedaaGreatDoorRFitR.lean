/-
  ArgsFits on the second machine.
-/
import Derived.Test.YtdmemibnphcedaaGreatDoorRFitP
set_option linter.unusedSimpArgs false
set_option linter.unusedVariables false
set_option maxRecDepth 10000
set_option linter.unusedSectionVars false
namespace Go.Proofs.YtdmemibnphcedaaGreatDoor
open Go.Am
attribute [local irreducible] callO wopK ropK popK opK grpsE listE sx Runs

theorem wdBoxA (s : St) (a b c : Value) (ha : oneCell a = true) (hb : oneCell b = true) (hc : oneCell c = true) : ∃ s4, (∀ W : Value → St → Prop, wopK (.store 3) [.pointer (some ⟨s.next, 0, none⟩), .agg #[a, b, c]] (s.new (.row [.string .empty, .slice none 0 0, .bool false] 0 false)) W = W undef s4) ∧ s4.get s.next = some (.row [a, b, c] 0 false) ∧ s4.next = s.next + 1 ∧ Frm s s4 :=
  ⟨(s.new (.row [.string .empty, .slice none 0 0, .bool false] 0 false)).put s.next (some (.row [a, b, c] 0 false)), fun W => wk_storeK (W := W) (get_new_same s (.row [.string .empty, .slice none 0 0, .bool false] 0 false)) (o := 0) (k := 3) (xs := [a, b, c]) (by decide) rfl (by simp [ha, hb, hc]), get_put_same _ _ _, rfl, (Frm.new s _).put _ (Nat.le_refl _) _⟩

theorem resA_some {l : List IM} {q : Option (List Cl)} {cs : List Cl} (h : resA l q = some cs) : q = some cs := by
  cases q with
  | none => cases h
  | some c =>
    unfold resA at h
    simp only at h
    split at h
    · exact h
    · cases h

theorem fits_same {t s : ByteArray} {v v' : Value} {e e' : Int} {st1 st2 : St} (h : FitO (QP s.data.toList) t s v e st1) (k : FitO (QR s.data.toList) t s v' e' st2) (F : Frm st1 st2) :
    e = e' ∧ ∃ ns cs, ns.length = cs.length ∧ cs.length ≤ 20 ∧ (∀ k, (clAt cs k).vals.length < 90000) ∧ AgC st2 v ns cs ∧ AgC st2 v' ns cs := by
  have nils : v = .slice none 0 0 → v' = .slice none 0 0 → ∃ ns cs, ns.length = cs.length ∧ cs.length ≤ 20 ∧ (∀ k, (clAt cs k).vals.length < 90000) ∧ AgC st2 v ns cs ∧ AgC st2 v' ns cs := fun h1 h2 => by
    subst h1 h2
    exact ⟨[], [], rfl, Nat.zero_le _, fun k => by show (0 : Nat) < 90000; decide, AgC.nil _, AgC.nil _⟩
  rcases h with ⟨h1, rfl, h3⟩ | ⟨h1, l, f, hT, h⟩
  · rcases k with ⟨k1, rfl, k3⟩ | ⟨k1, _⟩
    · exact ⟨rfl, nils h3 k3⟩
    · omega
  · rcases k with ⟨k1, _⟩ | ⟨k1, l', f', hT', k⟩
    · omega
    · obtain ⟨rfl, rfl⟩ := hT.unique hT'
      rcases h with ⟨h2, rfl, h3⟩ | ⟨rfl, h⟩
      · rcases k with ⟨k2, rfl, k3⟩ | ⟨k2, _⟩
        · exact ⟨rfl, nils h3 k3⟩
        · exact (h2 k2).elim
      · rcases k with ⟨k2, _⟩ | ⟨_, k⟩
        · exact (k2 rfl).elim
        · rcases k with ⟨⟨q, hq, hr⟩, rfl, k3⟩ | ⟨cs, ⟨q, hq, hr⟩, rfl, hcl, hag⟩
          · rcases h with ⟨_, rfl, h3⟩ | ⟨cs, hh, _⟩
            · exact ⟨rfl, nils h3 k3⟩
            · rw [hh q hq] at hr; cases hr
          · rcases h with ⟨hh, _⟩ | ⟨cs', hh, rfl, hcl', hag'⟩
            · rw [hh q hq] at hr; cases hr
            · obtain rfl : cs' = cs := by rw [hh q hq] at hr; exact Option.some.inj hr
              have hsm := hq.small (Nat.zero_le _) (sm0 _ l 0) cs' (resA_some hr)
              obtain ⟨hl20, _, _⟩ := tm_bounds hT
              have hsz := size_list s
              refine ⟨rfl, l.map nm0, cs', by rw [List.length_map, hcl], by omega, fun k => ?_, hag'.agC.keep F, hag.agC⟩
              have := (hsm k).1
              omega

theorem gets_same {ns : List ByteArray} {cs : List Cl} {x a a' : ByteArray} {u u' : Value} {c c' ok ok' : Bool} {s1 s2 : St} (hvl : ∀ k, (clAt cs k).vals.length < 90000) (h : GetO ns cs x a u c ok s1) (k : GetO ns cs x a' u' c' ok' s2) (F : Frm s1 s2) :
    a = a' ∧ c = c' ∧ ok = ok' ∧ ∃ l : List ByteArray, l.length < 90000 ∧ Cel s2 u (l.map Value.string) ∧ Cel s2 u' (l.map Value.string) ∧ oneCell u = true ∧ oneCell u' = true ∧ ow u ≤ s2.next ∧ ow u' ≤ s2.next := by
  rcases h with ⟨h1, rfl, rfl, rfl, rfl⟩ | ⟨j, h1, h2, rfl, rfl, rfl, h3, h4, h5⟩
  · rcases k with ⟨k1, rfl, rfl, rfl, rfl⟩ | ⟨j, k1, k2, _⟩
    · exact ⟨rfl, rfl, rfl, [], by decide, .inl ⟨rfl, rfl⟩, .inl ⟨rfl, rfl⟩, rfl, rfl, Nat.zero_le _, Nat.zero_le _⟩
    · omega
  · rcases k with ⟨k1, _⟩ | ⟨j', k1, k2, rfl, rfl, rfl, k3, k4, k5⟩
    · omega
    · obtain rfl : j' = j := by omega
      exact ⟨rfl, rfl, rfl, _, hvl j', h5.keep fun i hi => F.old i (by omega), k5, h3, k3, Nat.le_trans h4 F.nx, k4⟩

section
variable {st : St} {K : Value → St → Prop}

set_option maxHeartbeats 4000000 in
theorem kFits (n : Nat) (t s x : ByteArray) (h0 : 2 < st.next) (hm : hasMax st = true) (he : hasErr st = true) (h : ∀ st', K (.bool true) st') :
    callK (callO T0 orc fns 100000 (n + 8)) 3 [.string t, .string s, .string x] st K := by
  refine fn_runs (fn := g3) ?_ ?_ ?_
  · rfl
  · rfl
  unfold g3
  have F1 := Frm.new st (.row [.string t, .string s, .string x] 0 false)
  simp (disch := omega) only [↓sxA, ↓wk_store, sxB, sxP, Nat.reduceLeDiff, reduceCtorEq, Nat.reduceEqDiff, Nat.reduceAdd, Int.reduceLT, Int.reduceLE, Int.reduceEq, Nat.reduceLT, Int.reduceToNat, Int.reduceAdd, Int.reduceSub, ↓reduceIte]
  refine kHeavy (n + 6) (xs := [t, s, x]) (cel_row (get_new_same _ _) rfl) (by show 3 < 90000; decide) ?_ (fun hsz => ?_)
  · simp (disch := omega) only [↓sxA, ↓wk_store, sxB, sxP, Nat.reduceLeDiff, reduceCtorEq, Nat.reduceEqDiff, Nat.reduceAdd, Int.reduceLT, Int.reduceLE, Int.reduceEq, Nat.reduceLT, Int.reduceToNat, Int.reduceAdd, Int.reduceSub, ↓reduceIte]
    exact h _
  have ht := hsz t (by simp)
  have hs := hsz s (by simp)
  simp (disch := omega) only [↓sxA, ↓wk_store, sxB, sxP, Nat.reduceLeDiff, reduceCtorEq, Nat.reduceEqDiff, Nat.reduceAdd, Int.reduceLT, Int.reduceLE, Int.reduceEq, Nat.reduceLT, Int.reduceToNat, Int.reduceAdd, Int.reduceSub, ↓reduceIte]
  refine kFit n t s (by omega) (Nat.lt_of_lt_of_le h0 F1.nx) (F1.max (by omega) hm) (F1.err h0 he) fun v e s2 hO F2 => ?_
  simp (disch := omega) only [↓sxA, ↓wk_store, sxB, sxP, Nat.reduceLeDiff, reduceCtorEq, Nat.reduceEqDiff, Nat.reduceAdd, Int.reduceLT, Int.reduceLE, Int.reduceEq, Nat.reduceLT, Int.reduceToNat, Int.reduceAdd, Int.reduceSub, ↓reduceIte]
  refine kFitR (n + 3) t s (by omega) fun v' e' s3 hO' F3 => ?_
  obtain ⟨rfl, ns, cs, hns, hl20, hvl, hA, hA'⟩ := fits_same hO hO' F3
  have Fa := (F1.trans F2).trans F3
  simp (disch := omega) only [↓sxA, ↓wk_store, sxB, sxP, Nat.reduceLeDiff, reduceCtorEq, Nat.reduceEqDiff, Nat.reduceAdd, Int.reduceLT, Int.reduceLE, Int.reduceEq, Nat.reduceLT, Int.reduceToNat, Int.reduceAdd, Int.reduceSub, ↓reduceIte]
  refine kGet (n + 4) hA' hns (by omega) fun a u c ok s4 hG F4 => ?_
  have hone : oneCell u = true := by
    rcases hG with ⟨_, _, rfl, _⟩ | ⟨j, _, _, _, _, _, h3, _⟩
    · rfl
    · exact h3
  obtain ⟨s5, st5, hb5, n5, F5⟩ := wdBoxA s4 (.string a) u (.bool c) rfl hone rfl
  simp (disch := omega) only [↓sxA, ↓wk_store, sxB, sxP, Nat.reduceLeDiff, reduceCtorEq, Nat.reduceEqDiff, Nat.reduceAdd, Int.reduceLT, Int.reduceLE, Int.reduceEq, Nat.reduceLT, Int.reduceToNat, Int.reduceAdd, Int.reduceSub, ↓reduceIte, ↓st5]
  refine kGetR (n + 6) ((hA'.keep F4).keep F5) hns (by omega) fun a' u' c' ok' s6 hG' F6 => ?_
  obtain ⟨rfl, rfl, rfl, vl, hvl1, hc1, hc2, ho1, ho2, hw1, hw2⟩ := gets_same hvl hG hG' (F5.trans F6)
  obtain ⟨s7, st7, hb7, n7, F7⟩ := wdBoxA s6 (.string a) u' (.bool c) rfl ho2 rfl
  have F57 := F6.trans F7
  have hb57 := (F57.old s4.next (by omega)).trans hb5
  have all5 := rk_loadAll (k := 3) hb57 rfl (by decide)
  have all7 := rk_loadAll (k := 3) hb7 rfl (by decide)
  have F37 := ((F4.trans F5).trans F6).trans F7
  simp (disch := omega) only [↓sxA, ↓wk_store, sxB, sxP, Nat.reduceLeDiff, reduceCtorEq, Nat.reduceEqDiff, Nat.reduceAdd, Int.reduceLT, Int.reduceLE, Int.reduceEq, Nat.reduceLT, Int.reduceToNat, Int.reduceAdd, Int.reduceSub, ↓reduceIte, ↓st7]
  refine kEqArgs (n + 5) (hA.keep F37) (hA'.keep F37) (by omega) hvl ?_
  have hcu := one_cells ho1
  have hcu' := one_cells ho2
  obtain ⟨s8, hs8⟩ : ∃ s8, s8 = (s7.new (.row [.string a, u, .bool c] 0 false)) := ⟨_, rfl⟩
  have F8 : Frm s7 s8 := by rw [hs8]; exact Frm.new _ _
  have n8 : s8.next = s7.next + 1 := by rw [hs8]; rfl
  have g8 : s8.get s7.next = some (.row [.string a, u, .bool c] 0 false) := by rw [hs8]; exact get_new_same _ _
  have all8 := rk_loadAll (k := 3) ((F8.old s6.next (by omega)).trans hb7) rfl (by decide)
  obtain ⟨s9, hs9⟩ : ∃ s9, s9 = s8.new (.row [.string a, u', .bool c] 0 false) := ⟨_, rfl⟩
  have F9 : Frm s8 s9 := by rw [hs9]; exact Frm.new _ _
  have n9 : s9.next = s8.next + 1 := by rw [hs9]; rfl
  have g9 : s9.get s8.next = some (.row [.string a, u', .bool c] 0 false) := by rw [hs9]; exact get_new_same _ _
  have n67 := F7.nx
  have A1 : AgC s9 (.slice (some ⟨s7.next, 0, none⟩) 1 1) [a] [⟨vl, c, false⟩] := agC_one ((F9.old _ (by omega)).trans g8) (by omega) (hc1.keep fun i hi => ((F7.trans F8).trans F9).old i (by omega)) ho1 (by omega)
  have A2 : AgC s9 (.slice (some ⟨s8.next, 0, none⟩) 1 1) [a] [⟨vl, c, false⟩] := agC_one g9 (by omega) (hc2.keep fun i hi => ((F7.trans F8).trans F9).old i (by omega)) ho2 (by omega)
  have hv1 : ∀ k, (clAt ([⟨vl, c, false⟩] : List Cl) k).vals.length < 90000 := fun k => by
    cases k with
    | zero => exact hvl1
    | succ k => show (0 : Nat) < 90000; decide
  have Fend := ((((Fa.trans F4).trans F5).trans F6).trans F7).trans (F8.trans F9)
  have hmE := Fend.max (by omega) hm
  cases ok
  all_goals
    simp (disch := omega) only [↓sxA, ↓wk_store, sxB, sxP, Nat.reduceLeDiff, reduceCtorEq, Nat.reduceEqDiff, Nat.reduceAdd, Int.reduceLT, Int.reduceLE, Int.reduceEq, Nat.reduceLT, Int.reduceToNat, Int.reduceAdd, Int.reduceSub, ↓reduceIte, ↓all5, ↓all7, hcu, hcu', ho1, ho2]
    rw [← hs8]
    simp (disch := omega) only [↓sxA, ↓wk_store, sxB, sxP, Nat.reduceLeDiff, reduceCtorEq, Nat.reduceEqDiff, Nat.reduceAdd, Int.reduceLT, Int.reduceLE, Int.reduceEq, Nat.reduceLT, Int.reduceToNat, Int.reduceAdd, Int.reduceSub, ↓reduceIte, ↓all8, hcu', ho2]
    rw [← hs9]
    refine kEqArgs (n + 5) A1 A2 (by show 1 < 90000; decide) hv1 ?_
    simp (disch := omega) only [↓sxA, ↓wk_store, sxB, sxP, Nat.reduceLeDiff, reduceCtorEq, Nat.reduceEqDiff, Nat.reduceAdd, Int.reduceLT, Int.reduceLE, Int.reduceEq, Nat.reduceLT, Int.reduceToNat, Int.reduceAdd, Int.reduceSub, ↓reduceIte]
    refine kAwake (n + 7) hmE ?_
    simp (disch := omega) only [↓sxA, ↓wk_store, sxB, sxP, Nat.reduceLeDiff, reduceCtorEq, Nat.reduceEqDiff, Nat.reduceAdd, Int.reduceLT, Int.reduceLE, Int.reduceEq, Nat.reduceLT, Int.reduceToNat, Int.reduceAdd, Int.reduceSub, ↓reduceIte]
    exact h _
end
end Go.Proofs.YtdmemibnphcedaaGreatDoor
