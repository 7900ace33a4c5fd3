/-
  The chapter's Fit.
-/
import Derived.Test.YtdmemibnphcedaaGreatDoorRFitN
set_option linter.unusedSimpArgs false
set_option linter.unusedVariables false
set_option maxRecDepth 10000
set_option linter.unusedSectionVars false
namespace Go.Proofs.YtdmemibnphcedaaGreatDoor
open Go.Am
attribute [local irreducible] callO wopK ropK popK opK grpsE listE sx Runs

/-! ### values are no longer than the line, and there are no more of them -/
def Sm (L : List UInt8) (m : Nat) (cs : List Cl) : Prop := ∀ k, (clAt cs k).vals.length ≤ m ∧ ∀ v, v ∈ (clAt cs k).vals → v.size ≤ L.length + 1
theorem Sm.upd {L : List UInt8} {m m' : Nat} {cs : List Cl} (h : Sm L m cs) (k : Nat) (f : Cl → Cl) (hm : m ≤ m') (h1 : (f (clAt cs k)).vals.length ≤ m') (h2 : ∀ v, v ∈ (f (clAt cs k)).vals → v.size ≤ L.length + 1) : Sm L m' (upd' cs k f) := fun i => by
  by_cases e : k = i
  · subst e
    by_cases hk : k < cs.length
    · rw [upd_same _ _ _ hk]; exact ⟨h1, h2⟩
    · have : upd' cs k f = cs := List.set_eq_of_length_le (by omega)
      rw [this]; exact ⟨Nat.le_trans (h k).1 hm, (h k).2⟩
  · rw [upd_ne _ _ _ _ e]; exact ⟨Nat.le_trans (h i).1 hm, (h i).2⟩
theorem Sm.mono {L : List UInt8} {m m' : Nat} {cs : List Cl} (h : Sm L m cs) (hm : m ≤ m') : Sm L m' cs := fun i => ⟨Nat.le_trans (h i).1 hm, (h i).2⟩
theorem Sm.push {L : List UInt8} {m : Nat} {cs : List Cl} (h : Sm L m cs) (k : Nat) {w : List UInt8} (hw : w.length ≤ L.length + 1) : Sm L (m + 1) (upd' cs k (Cl.push (bs w))) := by
  refine h.upd k _ (Nat.le_succ _) (by have := (h k).1; simp [Cl.push]; omega) fun v hv => ?_
  rcases List.mem_append.1 hv with hv | hv
  · exact (h k).2 v hv
  · rw [List.mem_singleton.1 hv, bs_size]; exact hw
theorem Sm.rest {L : List UInt8} {m : Nat} {cs : List Cl} (h : Sm L m cs) {p k : Nat} {r : Option (List Cl)} (hr : restA L p k cs = .done r) : ∀ cs', r = some cs' → Sm L (m + 1) cs' := by
  unfold restA at hr
  split at hr
  · cases hr
    rintro cs' ⟨⟩
    refine h.upd k _ (Nat.le_succ _) (by simp [Cl.one]) fun v hv => ?_
    rw [List.mem_singleton.1 hv, bs_size]
    have := trimE_le (L.drop p)
    rw [List.length_drop] at this
    omega
  · cases hr
    intro cs' hh
    cases hh
theorem rest_done {L : List UInt8} {p k : Nat} {cs : List Cl} {a : Nat} {b : List Cl} (h : restA L p k cs = .go a b) : False := by
  unfold restA at h
  split at h <;> cases h

theorem Sm.val {L : List UInt8} {l : List IM} {m fr : Nat} {cs : List Cl} {w : Option (List UInt8 × Bool × Nat)} (h : Sm L m cs) (hw : ∀ a b c, w = some (a, b, c) → a.length ≤ L.length + 1) : (∀ p' cs', valA L l fr w cs = .go p' cs' → Sm L (m + 1) cs') ∧ ∀ cs', valA L l fr w cs = .done (some cs') → Sm L (m + 1) cs' := by
  unfold valA
  split
  · exact ⟨fun _ _ h => (by cases h), fun _ h => (by cases h)⟩
  · split
    · exact ⟨fun _ _ h => (rest_done h).elim, fun cs' hh => h.rest hh cs' rfl⟩
    · split
      · exact ⟨fun _ _ h => (by cases h), fun _ h => (by cases h)⟩
      · rename_i s q to
        split
        · exact ⟨fun _ _ h => (by cases h), fun _ h => (by cases h)⟩
        · refine ⟨fun p' cs' hh => ?_, fun _ h => (by cases h)⟩
          cases hh
          exact h.push _ (hw s q to rfl)
theorem Sm.nam {L : List UInt8} {l : List IM} {m k p : Nat} {cs : List Cl} (h : Sm L m cs) : (∀ p' cs', namA L l k p cs = .go p' cs' → Sm L (m + 1) cs') ∧ ∀ cs', namA L l k p cs = .done (some cs') → Sm L (m + 1) cs' := by
  have hon : Sm L m (upd' cs k Cl.on) := h.upd k _ (Nat.le_refl _) (h k).1 (h k).2
  unfold namA
  split
  · exact ⟨fun _ _ h => (by cases h), fun _ h => (by cases h)⟩
  · split
    · refine ⟨fun p' cs' hh => ?_, fun _ h => (by cases h)⟩
      cases hh
      exact hon.mono (Nat.le_succ _)
    · split
      · exact ⟨fun _ _ h => (by cases h), fun _ h => (by cases h)⟩
      · split
        · exact ⟨fun _ _ h => (rest_done h).elim, fun cs' hh => hon.rest hh cs' rfl⟩
        · exact ⟨fun _ _ h => (by cases h), fun _ h => (by cases h)⟩
      · rename_i s q fr to hn
        split
        · exact ⟨fun _ _ h => (rest_done h).elim, fun cs' hh => hon.rest hh cs' rfl⟩
        · split
          · exact ⟨fun _ _ h => (by cases h), fun _ h => (by cases h)⟩
          · refine ⟨fun p' cs' hh => ?_, fun _ h => (by cases h)⟩
            cases hh
            exact hon.push _ (nxt_len hn)
theorem Sm.step {L : List UInt8} {l : List IM} {m p : Nat} {cs : List Cl} (h : Sm L m cs) : (∀ p' cs', stepA L l p cs = .go p' cs' → Sm L (m + 1) cs') ∧ ∀ cs', stepA L l p cs = .done (some cs') → Sm L (m + 1) cs' := by
  unfold stepA
  split
  · refine ⟨fun _ _ h => (by cases h), fun cs' hh => ?_⟩
    cases hh
    exact h.mono (Nat.le_succ _)
  · exact h.val fun a b c e => by cases e
  · rename_i s q fr to hn
    split
    · exact h.nam
    · refine h.val fun a b c e => ?_
      cases e
      exact nxt_len hn
theorem Fits.small {L : List UInt8} {l : List IM} {p : Nat} {cs : List Cl} {r : Option (List Cl)} (h : Fits L l p cs r) : p ≤ L.length → Sm L p cs → ∀ cs', r = some cs' → Sm L (L.length + 1) cs' := by
  induction h with
  | done h =>
    intro hp hs cs' hr
    subst hr
    exact (hs.step.2 _ h).mono (by omega)
  | go h k ih =>
    intro hp hs cs' hr
    obtain ⟨g1, g2, _⟩ := stepA_go hp h
    exact ih g2 ((hs.step.1 _ _ h).mono (by omega)) cs' hr
theorem sm0 (L : List UInt8) (l : List IM) (m : Nat) : Sm L m (cls0 l) := fun k => by
  have : clAt (cls0 l) k = Cl.zero := by
    unfold clAt cls0
    rw [List.getD_eq_getElem?_getD, List.getElem?_map]
    cases l[k]? <;> rfl
  rw [this]
  exact ⟨Nat.zero_le _, fun v hv => by cases hv⟩

section
variable {st : St} {K : Value → St → Prop}

set_option maxHeartbeats 4000000 in
theorem kFitR (n : Nat) (t s : ByteArray) (ht : t.size < 80000)
    (h : ∀ v e st', FitO (QR s.data.toList) t s v e st' → Frm st st' → K (.tuple #[v, .int .i64 e]) st') :
    callK (callO T0 orc fns 100000 (n + 4)) 11 [.string t, .string s] st K := by
  refine fn_runs (fn := g11) ?_ ?_ ?_
  · rfl
  · rfl
  unfold g11
  have hsz := size_list s
  by_cases hbig : 1000 < s.size
  · simp (disch := omega) only [↓sxA, ↓wk_store, sxB, sxP, Nat.reduceLeDiff, reduceCtorEq, Nat.reduceEqDiff, Nat.reduceAdd, Int.reduceLT, Int.reduceLE, Int.reduceEq, Nat.reduceLT, Int.reduceToNat, Int.reduceAdd, Int.reduceSub, ↓reduceIte]
    exact h _ _ _ (.inl ⟨hbig, rfl, rfl⟩) (Frm.refl _)
  have hle : s.size ≤ 1000 := by omega
  simp (disch := omega) only [↓sxA, ↓wk_store, sxB, sxP, Nat.reduceLeDiff, reduceCtorEq, Nat.reduceEqDiff, Nat.reduceAdd, Int.reduceLT, Int.reduceLE, Int.reduceEq, Nat.reduceLT, Int.reduceToNat, Int.reduceAdd, Int.reduceSub, ↓reduceIte]
  refine kTemplateR n t ht fun l e' va s1 hT hR G1 => ?_
  by_cases he' : e' = 0
  · subst he'
    simp (disch := omega) only [↓sxA, ↓wk_store, sxB, sxP, Nat.reduceLeDiff, reduceCtorEq, Nat.reduceEqDiff, Nat.reduceAdd, Int.reduceLT, Int.reduceLE, Int.reduceEq, Nat.reduceLT, Int.reduceToNat, Int.reduceAdd, Int.reduceSub, ↓reduceIte]
    refine kFitted n hT ht hR hle fun v ok s2 hh G2 => ?_
    obtain ⟨q, hq, hh⟩ := hh
    have F12 := G1.trans G2
    rcases hh with ⟨rfl, rfl⟩ | ⟨cs, rfl, rfl, hcl, hag⟩
    · simp (disch := omega) only [↓sxA, ↓wk_store, sxB, sxP, Nat.reduceLeDiff, reduceCtorEq, Nat.reduceEqDiff, Nat.reduceAdd, Int.reduceLT, Int.reduceLE, Int.reduceEq, Nat.reduceLT, Int.reduceToNat, Int.reduceAdd, Int.reduceSub, ↓reduceIte]
      exact h _ _ _ (.inr ⟨hle, l, 0, hT, .inr ⟨rfl, .inl ⟨⟨none, hq, rfl⟩, rfl, rfl⟩⟩⟩) F12
    · obtain ⟨hl20, _, hb⟩ := tm_bounds hT
      have hsm := hq.small (Nat.zero_le _) (sm0 _ l 0) cs rfl
      have la := (hR.keep (st' := s2) G2.nx fun i _ hi => G2.old i hi).len
      have bad : okAll l cs = false → K (.tuple #[.slice none 0 0, .int .i64 250]) s2 := fun hk => h _ _ _ (.inr ⟨hle, l, 0, hT, .inr ⟨rfl, .inl ⟨⟨some cs, hq, by unfold resA; simp only; rw [if_neg (by rw [hk]; decide)]⟩, rfl, rfl⟩⟩⟩) F12
      have good : okAll l cs = true → K (.tuple #[v, .int .i64 0]) s2 := fun hk => h _ _ _ (.inr ⟨hle, l, 0, hT, .inr ⟨rfl, .inr ⟨cs, ⟨some cs, hq, by unfold resA; simp only; rw [if_pos hk]⟩, rfl, hcl, hag⟩⟩⟩) F12
      have badAt : ∀ k, k < l.length → okCl (l.getD k ⟨[], Mk.none⟩) (clAt cs k) = false → okAll l cs = false := fun k hk hh => by
        cases hok : okAll l cs with
        | false => rfl
        | true =>
          have := (okAll_iff l cs hcl.symm).1 hok k hk
          rw [hh] at this
          cases this
      simp (disch := omega) only [↓sxA, ↓wk_store, sxB, sxP, Nat.reduceLeDiff, reduceCtorEq, Nat.reduceEqDiff, Nat.reduceAdd, Int.reduceLT, Int.reduceLE, Int.reduceEq, Nat.reduceLT, Int.reduceToNat, Int.reduceAdd, Int.reduceSub, ↓reduceIte]
      refine loop_rule [6, 8, 10] (fun vs s' => s' = s2 ∧ ∃ j : Nat, vs = [va, v, .int .i64 (j : Nat)] ∧ j ≤ l.length ∧ ∀ k, k < j → okCl (l.getD k ⟨[], Mk.none⟩) (clAt cs k) = true) (fun vs _ => match lget vs 2 with
          | .int _ k => ((l.length : Int) - k).toNat
          | _ => 0) ?_ ?_ ?_
      · rfl
      · refine ⟨_, rfl, ⟨rfl, 0, rfl, Nat.zero_le _, fun k hk => by omega⟩, ?_⟩
        show ((l.length : Int) - 0).toNat < 100000
        omega
      · rintro vs s3 ⟨rfl, j, rfl, hj, hall⟩
        show sx _ _ _ _ _ [(6, _), (8, _), (10, _)] _ _ _ _
        by_cases hjl : j < l.length
        · obtain ⟨bb, nv, a1, a2, a3, a4⟩ := hR.at2 hjl
          obtain ⟨b, vv, o1, o2, o3, o4, o5, o6, o7, o8, o9⟩ := hag.at (j := j) (by omega)
          have hA := a2 s3 G2 1 (.bool l[j].mks.a) rfl
          have hNn := a2 s3 G2 4 (.bool l[j].mks.n) rfl
          have hget : l.getD j ⟨[], Mk.none⟩ = l[j] := by rw [List.getD_eq_getElem?_getD, List.getElem?_eq_getElem hjl, Option.getD_some]
          have hbadj := badAt j hjl
          rw [hget] at hbadj
          have hmeas : ((l.length : Int) - ((j : Int) + 1)).toNat < ((l.length : Int) - j).toNat := by omega
          have hnextj : okCl l[j] (clAt cs j) = true → ∀ k, k < j + 1 → okCl (l.getD k ⟨[], Mk.none⟩) (clAt cs k) = true := fun hh k hk => by
            by_cases e : k = j
            · subst e; rw [hget]; exact hh
            · exact hall k (by omega)
          by_cases hA1 : l[j].mks.a = true ∧ (clAt cs j).set = false
          · obtain ⟨h1, h2⟩ := hA1
            rw [h1] at hA
            rw [h2] at o6
            simp (disch := omega) only [↓sxA, ↓wk_store, sxB, sxP, Nat.reduceLeDiff, reduceCtorEq, Nat.reduceEqDiff, Nat.reduceAdd, Int.reduceLT, Int.reduceLE, Int.reduceEq, Nat.reduceLT, Int.reduceToNat, Int.reduceAdd, Int.reduceSub, ↓reduceIte, ↓la, ↓a1, ↓hA, ↓o2, ↓o6]
            refine bad (hbadj ?_)
            unfold okCl
            rw [h1, h2]
            rfl
          · have hA2 : l[j].mks.a = false ∨ (l[j].mks.a = true ∧ (clAt cs j).set = true) := by
              cases h1 : l[j].mks.a with
              | false => exact .inl rfl
              | true =>
                cases h2 : (clAt cs j).set with
                | true => exact .inr ⟨rfl, rfl⟩
                | false => exact (hA1 ⟨h1, h2⟩).elim
            have hokA : (!l[j].mks.a || (clAt cs j).set) = true := by
              rcases hA2 with e | ⟨e, e2⟩
              · rw [e]; rfl
              · rw [e, e2]; rfl
            have hokJ : okCl l[j] (clAt cs j) = (!l[j].mks.n || (clAt cs j).vals.all fun v => (numA v.data.toList).isSome) := by
              unfold okCl; rw [hokA, Bool.true_and]
            obtain ⟨hvl, hvs⟩ := hsm j
            have hlv := len_cel o7.1
            rw [List.length_map] at hlv
            rcases hA2 with e | ⟨e, e2⟩
            all_goals
              rw [e] at hA
              try rw [e2] at o6
              simp (disch := omega) only [↓sxA, ↓wk_store, sxB, sxP, Nat.reduceLeDiff, reduceCtorEq, Nat.reduceEqDiff, Nat.reduceAdd, Int.reduceLT, Int.reduceLE, Int.reduceEq, Nat.reduceLT, Int.reduceToNat, Int.reduceAdd, Int.reduceSub, ↓reduceIte, ↓la, ↓a1, ↓hA, ↓o2, ↓o6]
              refine loop_rule [6, 8, 10, 11] (fun vs s' => s' = s3 ∧ ∃ i : Nat, vs = [va, v, .int .i64 (j : Nat), .int .i64 (i : Nat)] ∧ i ≤ (clAt cs j).vals.length ∧ ∀ k, k < i → (numA ((clAt cs j).vals.getD k .empty).data.toList).isSome = true) (fun vs _ => match lget vs 3 with
                  | .int _ k => (((clAt cs j).vals.length : Int) - k).toNat
                  | _ => 0) ?_ ?_ ?_
              · rfl
              · refine ⟨_, rfl, ⟨rfl, 0, rfl, Nat.zero_le _, fun k hk => by omega⟩, ?_⟩
                show (((clAt cs j).vals.length : Int) - 0).toNat < 100000
                omega
              · rintro vs s4 ⟨rfl, i, rfl, hi, hnum⟩
                show sx _ _ _ _ _ [(6, _), (8, _), (10, _), (11, _)] _ _ _ _
                cases hnn : l[j].mks.n with
                | false =>
                  rw [hnn] at hNn
                  simp (disch := omega) only [↓sxA, ↓wk_store, sxB, sxP, Nat.reduceLeDiff, reduceCtorEq, Nat.reduceEqDiff, Nat.reduceAdd, Int.reduceLT, Int.reduceLE, Int.reduceEq, Nat.reduceLT, Int.reduceToNat, Int.reduceAdd, Int.reduceSub, ↓reduceIte, ↓a1, ↓hNn]
                  refine ⟨_, rfl, ⟨j + 1, by simp, hjl, hnextj (by rw [hokJ, hnn]; rfl)⟩, hmeas⟩
                | true =>
                  rw [hnn] at hNn
                  by_cases hil : i < (clAt cs j).vals.length
                  · have ix := idx_cel o7.1 .i64 (i : Int)
                    rw [List.length_map] at ix
                    have hmem : (clAt cs j).vals.getD i .empty ∈ (clAt cs j).vals := by rw [List.getD_eq_getElem?_getD, List.getElem?_eq_getElem hil, Option.getD_some]; exact List.getElem_mem hil
                    have ld : ∀ K : Value → Prop, ropK .load1 [bptr vv (i : Int)] s4 K = K (.string ((clAt cs j).vals.getD i .empty)) := fun K => by
                      rw [load_cel o7.1 (i : Int) K (by omega) (by rw [List.length_map]; omega), Int.toNat_natCast, getD_str _ i hil]
                    have hsz2 := hvs _ hmem
                    simp (disch := omega) only [↓sxA, ↓wk_store, sxB, sxP, Nat.reduceLeDiff, reduceCtorEq, Nat.reduceEqDiff, Nat.reduceAdd, Int.reduceLT, Int.reduceLE, Int.reduceEq, Nat.reduceLT, Int.reduceToNat, Int.reduceAdd, Int.reduceSub, ↓reduceIte, ↓a1, ↓hNn, ↓o2, ↓o5, ↓hlv, ↓ix, ↓ld]
                    refine kNumberR (n + 2) _ (by omega) ?_
                    have hm2 : (((clAt cs j).vals.length : Int) - ((i : Int) + 1)).toNat < (((clAt cs j).vals.length : Int) - (i : Int)).toNat := by omega
                    cases hn1 : numA ((clAt cs j).vals.getD i .empty).data.toList with
                    | none =>
                      rw [numVal_none]
                      simp (disch := omega) only [↓sxA, ↓wk_store, sxB, sxP, Nat.reduceLeDiff, reduceCtorEq, Nat.reduceEqDiff, Nat.reduceAdd, Int.reduceLT, Int.reduceLE, Int.reduceEq, Nat.reduceLT, Int.reduceToNat, Int.reduceAdd, Int.reduceSub, ↓reduceIte]
                      refine bad (hbadj ?_)
                      rw [hokJ, hnn, Bool.not_true, Bool.false_or, List.all_eq_false]
                      exact ⟨_, hmem, by rw [hn1]; decide⟩
                    | some x =>
                      rw [numVal_some]
                      simp (disch := omega) only [↓sxA, ↓wk_store, sxB, sxP, Nat.reduceLeDiff, reduceCtorEq, Nat.reduceEqDiff, Nat.reduceAdd, Int.reduceLT, Int.reduceLE, Int.reduceEq, Nat.reduceLT, Int.reduceToNat, Int.reduceAdd, Int.reduceSub, ↓reduceIte]
                      refine ⟨_, rfl, ⟨i + 1, by simp, hil, fun k hk => ?_⟩, hm2⟩
                      by_cases ek : k = i
                      · subst ek; rw [hn1]; rfl
                      · exact hnum k (by omega)
                  · simp (disch := omega) only [↓sxA, ↓wk_store, sxB, sxP, Nat.reduceLeDiff, reduceCtorEq, Nat.reduceEqDiff, Nat.reduceAdd, Int.reduceLT, Int.reduceLE, Int.reduceEq, Nat.reduceLT, Int.reduceToNat, Int.reduceAdd, Int.reduceSub, ↓reduceIte, ↓a1, ↓hNn, ↓o2, ↓o5, ↓hlv]
                    refine ⟨_, rfl, ⟨j + 1, by simp, hjl, hnextj ?_⟩, hmeas⟩
                    rw [hokJ, hnn, Bool.not_true, Bool.false_or, List.all_eq_true]
                    intro x hx
                    obtain ⟨k, hk, rfl⟩ := List.getElem_of_mem hx
                    have := hnum k (by omega)
                    rw [List.getD_eq_getElem?_getD, List.getElem?_eq_getElem hk, Option.getD_some] at this
                    exact this
        · simp (disch := omega) only [↓sxA, ↓wk_store, sxB, sxP, Nat.reduceLeDiff, reduceCtorEq, Nat.reduceEqDiff, Nat.reduceAdd, Int.reduceLT, Int.reduceLE, Int.reduceEq, Nat.reduceLT, Int.reduceToNat, Int.reduceAdd, Int.reduceSub, ↓reduceIte, ↓la]
          exact good ((okAll_iff l cs hcl.symm).2 fun k hk => hall k (by omega))
  · have hne : (e' = 0) = False := eq_false he'
    simp (disch := omega) only [↓sxA, ↓wk_store, sxB, sxP, Nat.reduceLeDiff, reduceCtorEq, Nat.reduceEqDiff, Nat.reduceAdd, Int.reduceLT, Int.reduceLE, Int.reduceEq, Nat.reduceLT, Int.reduceToNat, Int.reduceAdd, Int.reduceSub, ↓reduceIte, hne]
    exact h _ _ _ (.inr ⟨hle, l, e', hT, .inl ⟨he', rfl, rfl⟩⟩) G1
end
end Go.Proofs.YtdmemibnphcedaaGreatDoor
