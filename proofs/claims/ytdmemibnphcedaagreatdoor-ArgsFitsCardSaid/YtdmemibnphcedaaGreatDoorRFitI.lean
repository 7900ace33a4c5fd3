/-
  The program's step: the next word.
-/
import Derived.Test.YtdmemibnphcedaaGreatDoorRFitH
set_option linter.unusedSimpArgs false
set_option linter.unusedVariables false
set_option maxRecDepth 10000
set_option linter.unusedSectionVars false
namespace Go.Proofs.YtdmemibnphcedaaGreatDoor
open Go.Am
attribute [local irreducible] callO wopK ropK popK opK grpsE listE sx Runs

theorem nxt_prn {L : List UInt8} {p : Nat} {w : List UInt8} {fr to : Nat} (h : nxt L p = .wd w false fr to) : w.all prn = true := by
  unfold nxt at h
  split at h
  · cases h
  · split at h
    · cases h; rfl
    · split at h
      · split at h <;> cases h
      · split at h
        · rename_i hall; cases h; exact hall
        · cases h

section
variable {st : St} {K : Value → St → Prop}

set_option maxHeartbeats 4000000 in
theorem kStep (n : Nat) {s0 : St} {bf p q : Nat} {lv : Value} {s : ByteArray} {l : List IM} {cs : List Cl} (hF : FtR s0 st bf lv s l p cs) (hs : s.size ≤ 80000) (hq : q < s.size) (hqb : blk s.data.toList q = q) (hr : s.data.toList.all prn = true) (h2 : 2 < s0.next) (he : hasErr s0 = true) (hi : Iv l cs) (hvl : ∀ k, (clAt cs k).vals.length ≤ 80000) (hfit : FitL l) (hN : NmOk l) (hll : l.length < 90000)
    (h : ∀ b st', StP s0 bf lv s l cs (stepA s.data.toList l q cs) b st' → K (.bool b) st') :
    callK (callO T0 orc fns 100000 (n + 6)) 33 [.pointer (some ⟨bf, 0, none⟩), .int .i64 (q : Nat)] st K := by
  refine fn_runs (fn := g33) ?_ ?_ ?_
  · rfl
  · rfl
  unfold g33
  have hsz := size_list s
  have hL : q ≤ s.data.toList.length := by omega
  obtain ⟨ov0, nv0, hbx0⟩ := hF.box
  simp (disch := omega) only [↓sxA, ↓wk_store, sxB, sxP, Nat.reduceLeDiff, reduceCtorEq, Nat.reduceEqDiff, Nat.reduceAdd, Int.reduceLT, Int.reduceLE, Int.reduceEq, Nat.reduceLT, Int.reduceToNat, Int.reduceAdd, Int.reduceSub, ↓reduceIte, hbx0]
  refine kNext (n + 4) s (by omega) q (by omega) hr fun v e s1 hw F1 => ?_
  have hF1 := hF.keep F1
  unfold wdVal at hw
  -- a value
  have tail : ∀ (ww : Option (List UInt8 × Bool × Nat)) , stepA s.data.toList l q cs = valA s.data.toList l q ww cs → True := fun _ _ => trivial
  have hop := openL_spec l cs 0 (-1) hi.1.symm
  obtain ⟨o, ho⟩ : ∃ o, o = openL l cs 0 (-1) := ⟨_, rfl⟩
  rw [← ho] at hop
  have hcase : o = -1 ∨ ∃ k : Nat, k < l.length ∧ o = (k : Int) ∧ ((mkAt l k).m = true ∨ (clAt cs k).set = false) := by
    rcases hop with e | ⟨k, k1, k2, k3⟩
    · exact .inl e
    · exact .inr ⟨k, k1, by rw [k2]; simp, k3⟩
  have vNone : o = -1 → ∀ fr ww, valA s.data.toList l fr ww cs = .done none := fun e fr ww => by
    unfold valA; rw [← ho, e, if_pos (by decide)]
  have vRest : ∀ k : Nat, o = (k : Int) → (mkAt l k).f = true → ∀ fr ww, valA s.data.toList l fr ww cs = restA s.data.toList fr k cs := fun k e hf fr ww => by
    unfold valA; rw [← ho, e, if_neg (by omega), Int.toNat_natCast, if_pos hf]
  have vBad : ∀ k : Nat, o = (k : Int) → (mkAt l k).f = false → ∀ fr, valA s.data.toList l fr none cs = .done none := fun k e hf fr => by
    unfold valA; rw [← ho, e, if_neg (by omega), Int.toNat_natCast, if_neg (by rw [hf]; decide)]
  have vWd : ∀ k : Nat, o = (k : Int) → (mkAt l k).f = false → ∀ fr w q' to, valA s.data.toList l fr (some (w, q', to)) cs = if q' = false ∧ w = [61] then .done none else .go to (upd' cs k (Cl.push (bs w))) := fun k e hf fr w q' to => by
    unfold valA; rw [← ho, e, if_neg (by omega), Int.toNat_natCast, if_neg (by rw [hf]; decide)]
  have no : stepA s.data.toList l q cs = .done none → ∀ st', Frm s0 st' → K (.bool false) st' := fun hn st' hf => h false st' (by rw [hn]; exact ⟨rfl, hf⟩)
  cases hn : nxt s.data.toList q with
  | fin =>
    have := (nxt_fin hL).1 hn
    omega
  | bad fr =>
    rw [hn] at hw
    obtain ⟨⟨sx, ax, rfl⟩, rfl⟩ := hw
    obtain ⟨m1, m2, m3, m4⟩ := nxt_bad hL hn
    obtain rfl : fr = q := by omega
    have hst : stepA s.data.toList l fr cs = valA s.data.toList l fr none cs := by unfold stepA; rw [hn]
    obtain ⟨s2, st3, hw2, n2, F2⟩ := wdBox s1 (.string sx) (.int .i64 ax) (.bool true) rfl rfl rfl
    have hF2 := hF1.keep F2
    simp (disch := omega) only [↓sxA, ↓wk_store, sxB, sxP, Nat.reduceLeDiff, reduceCtorEq, Nat.reduceEqDiff, Nat.reduceAdd, Int.reduceLT, Int.reduceLE, Int.reduceEq, Nat.reduceLT, Int.reduceToNat, Int.reduceAdd, Int.reduceSub, ↓reduceIte, ↓st3, hw2]
    refine kFree (n + 3) hF2 hll fun s3 F3 => ?_
    have hF3 := hF2.keep F3
    obtain ⟨ov3, nv3, hbx3⟩ := hF3.box
    rw [← ho]
    rcases hcase with rfl | ⟨k, hk, rfl, hmk⟩
    · simp (disch := omega) only [↓sxA, ↓wk_store, sxB, sxP, Nat.reduceLeDiff, reduceCtorEq, Nat.reduceEqDiff, Nat.reduceAdd, Int.reduceLT, Int.reduceLE, Int.reduceEq, Nat.reduceLT, Int.reduceToNat, Int.reduceAdd, Int.reduceSub, ↓reduceIte]
      exact no (by rw [hst, vNone rfl]) _ hF3.frm
    · obtain ⟨bb, nv, a1, a2, a3, a4, a5, a6, a7⟩ := hF3.its.at hk
      have hft := hfit k
      have aR := a3 6 (.bool (mkAt l k).f) (by rw [mkAt_lt hk]; rfl)
      cases hfR : (mkAt l k).f with
      | true =>
        obtain ⟨w1, w2, _, _⟩ := fit_rest hft hfR
        rw [hfR] at aR
        have hset : (clAt cs k).set = false := by
          rcases hmk with e | e
          · rw [w2] at e; cases e
          · exact e
        simp (disch := omega) only [↓sxA, ↓wk_store, sxB, sxP, Nat.reduceLeDiff, reduceCtorEq, Nat.reduceEqDiff, Nat.reduceAdd, Int.reduceLT, Int.reduceLE, Int.reduceEq, Nat.reduceLT, Int.reduceToNat, Int.reduceAdd, Int.reduceSub, ↓reduceIte, hbx3, ↓a1, ↓aR]
        refine kRest (n + 3) hF3 hk (by omega) (by omega) h2 he (hi.2 k) (Nat.le_trans (hvl k) (by decide)) w1 w2 (fun hh st' hf => ?_) (fun hT hs0 st' hf => ?_)
        · simp (disch := omega) only [↓sxA, ↓wk_store, sxB, sxP, Nat.reduceLeDiff, reduceCtorEq, Nat.reduceEqDiff, Nat.reduceAdd, Int.reduceLT, Int.reduceLE, Int.reduceEq, Nat.reduceLT, Int.reduceToNat, Int.reduceAdd, Int.reduceSub, ↓reduceIte]
          rcases hh with hh | hh
          · exact no (by rw [hst, vRest k rfl hfR, restA_eq hr, if_pos hh]) _ hf
          · rw [hset] at hh; cases hh
        · simp (disch := omega) only [↓sxA, ↓wk_store, sxB, sxP, Nat.reduceLeDiff, reduceCtorEq, Nat.reduceEqDiff, Nat.reduceAdd, Int.reduceLT, Int.reduceLE, Int.reduceEq, Nat.reduceLT, Int.reduceToNat, Int.reduceAdd, Int.reduceSub, ↓reduceIte]
          refine h true st' ?_
          rw [hst, vRest k rfl hfR, restA_eq hr, if_neg hT]
          exact ⟨rfl, hf, badKeep fun v hv => .inr (numOk_no w1)⟩
      | false =>
        rw [hfR] at aR
        simp (disch := omega) only [↓sxA, ↓wk_store, sxB, sxP, Nat.reduceLeDiff, reduceCtorEq, Nat.reduceEqDiff, Nat.reduceAdd, Int.reduceLT, Int.reduceLE, Int.reduceEq, Nat.reduceLT, Int.reduceToNat, Int.reduceAdd, Int.reduceSub, ↓reduceIte, hbx3, ↓a1, ↓aR]
        exact no (by rw [hst, vBad k rfl hfR]) _ hF3.frm
  | wd w q' fr to =>
    rw [hn] at hw
    obtain ⟨rfl, rfl⟩ := hw
    obtain ⟨r1, r2, r3, r4, r5⟩ := nxt_wd hL hn
    obtain rfl : fr = q := by omega
    have hwl := nxt_len hn
    obtain ⟨s2, st3, hw2, n2, F2⟩ := wdBox s1 (.string (bs w)) (.int .i64 (fr : Nat)) (.bool q') rfl rfl rfl
    have hF2 := hF1.keep F2
    obtain ⟨ov2, nv2, hbx2⟩ := hF2.box
    have hbs : (bs w).size ≤ 90000 := by rw [bs_size]; omega
    -- no item's name
    have val : stepA s.data.toList l fr cs = valA s.data.toList l fr (some (w, q', to)) cs → True := fun _ => trivial
    cases hq' : q' with
    | false =>
      subst hq'
      have hpw := nxt_prn hn
      simp (disch := omega) only [↓sxA, ↓wk_store, sxB, sxP, Nat.reduceLeDiff, reduceCtorEq, Nat.reduceEqDiff, Nat.reduceAdd, Int.reduceLT, Int.reduceLE, Int.reduceEq, Nat.reduceLT, Int.reduceToNat, Int.reduceAdd, Int.reduceSub, ↓reduceIte, ↓st3, hw2, hbx2]
      refine kFind n (bs w) hbs (by rw [bs_list]; exact hpw) hF2.its hll hN fun s3 F3 => ?_
      have hF3 := hF2.keep F3
      have hw3 := (F3.old _ (by omega)).trans hw2
      obtain ⟨ov3, nv3, hbx3⟩ := hF3.box
      have hnx3 := F3.nx
      have hkl := knownL_lt (lowerV (bs w)) l 0
      have hkn : knownL (lowerV (bs w)) l 0 = kn l w := rfl
      rw [hkn] at hkl ⊢
      by_cases hk0 : 0 ≤ kn l w
      · have hst : stepA s.data.toList l fr cs = namA s.data.toList l (kn l w).toNat to cs := by unfold stepA; rw [hn]; simp only; rw [if_pos ⟨trivial, hk0⟩]
        obtain ⟨k, hk⟩ : ∃ k : Nat, kn l w = (k : Int) := ⟨(kn l w).toNat, (Int.toNat_of_nonneg hk0).symm⟩
        have hkl' : k < l.length := by
          rcases hkl with e | ⟨_, e⟩
          · rw [hk] at e; exact absurd e (by omega)
          · rw [hk] at e; simpa using e
        rw [hk, Int.toNat_natCast] at hst
        rw [hk]
        simp (disch := omega) only [↓sxA, ↓wk_store, sxB, sxP, Nat.reduceLeDiff, reduceCtorEq, Nat.reduceEqDiff, Nat.reduceAdd, Int.reduceLT, Int.reduceLE, Int.reduceEq, Nat.reduceLT, Int.reduceToNat, Int.reduceAdd, Int.reduceSub, ↓reduceIte, hbx3]
        refine kName (n + 2) (hF3.move (p' := to) hbx3) hkl' (by omega) (by omega) hr h2 he hi (hvl k) hfit fun b st' hS => ?_
        have hS' : StP s0 bf lv s l cs (stepA s.data.toList l fr cs) b st' := by rw [hst]; exact hS
        cases b with
        | true =>
          simp (disch := omega) only [↓sxA, ↓wk_store, sxB, sxP, Nat.reduceLeDiff, reduceCtorEq, Nat.reduceEqDiff, Nat.reduceAdd, Int.reduceLT, Int.reduceLE, Int.reduceEq, Nat.reduceLT, Int.reduceToNat, Int.reduceAdd, Int.reduceSub, ↓reduceIte]
          exact h true st' hS'
        | false =>
          simp (disch := omega) only [↓sxA, ↓wk_store, sxB, sxP, Nat.reduceLeDiff, reduceCtorEq, Nat.reduceEqDiff, Nat.reduceAdd, Int.reduceLT, Int.reduceLE, Int.reduceEq, Nat.reduceLT, Int.reduceToNat, Int.reduceAdd, Int.reduceSub, ↓reduceIte]
          exact h false st' hS'
      · have hst : stepA s.data.toList l fr cs = valA s.data.toList l fr (some (w, false, to)) cs := by unfold stepA; rw [hn]; simp only; rw [if_neg (fun hh => hk0 hh.2)]
        have hk1 : kn l w = -1 := hkl.resolve_right fun hh => hk0 (by simpa using hh.1)
        rw [hk1]
        simp (disch := omega) only [↓sxA, ↓wk_store, sxB, sxP, Nat.reduceLeDiff, reduceCtorEq, Nat.reduceEqDiff, Nat.reduceAdd, Int.reduceLT, Int.reduceLE, Int.reduceEq, Nat.reduceLT, Int.reduceToNat, Int.reduceAdd, Int.reduceSub, ↓reduceIte]
        refine kFree (n + 3) hF3 hll fun s4 F4 => ?_
        have hF4 := hF3.keep F4
        have hw4 := (F4.old _ (by omega)).trans hw3
        have all4 := rk_loadAll (k := 3) hw4 rfl (by decide)
        obtain ⟨ov4, nv4, hbx4⟩ := hF4.box
        have hnx4 := F4.nx
        rw [← ho]
        rcases hcase with rfl | ⟨k, hk, rfl, hmk⟩
        · simp (disch := omega) only [↓sxA, ↓wk_store, sxB, sxP, Nat.reduceLeDiff, reduceCtorEq, Nat.reduceEqDiff, Nat.reduceAdd, Int.reduceLT, Int.reduceLE, Int.reduceEq, Nat.reduceLT, Int.reduceToNat, Int.reduceAdd, Int.reduceSub, ↓reduceIte]
          exact no (by rw [hst, vNone rfl]) _ hF4.frm
        · obtain ⟨bb, nv, a1, a2, a3, a4, a5, a6, a7⟩ := hF4.its.at hk
          have hft := hfit k
          have aR := a3 6 (.bool (mkAt l k).f) (by rw [mkAt_lt hk]; rfl)
          cases hfR : (mkAt l k).f with
          | true =>
            obtain ⟨w1, w2, _, _⟩ := fit_rest hft hfR
            rw [hfR] at aR
            have hset : (clAt cs k).set = false := by
              rcases hmk with e | e
              · rw [w2] at e; cases e
              · exact e
            simp (disch := omega) only [↓sxA, ↓wk_store, sxB, sxP, Nat.reduceLeDiff, reduceCtorEq, Nat.reduceEqDiff, Nat.reduceAdd, Int.reduceLT, Int.reduceLE, Int.reduceEq, Nat.reduceLT, Int.reduceToNat, Int.reduceAdd, Int.reduceSub, ↓reduceIte, hbx4, ↓a1, ↓aR]
            refine kRest (n + 3) hF4 hk (by omega) (by omega) h2 he (hi.2 k) (Nat.le_trans (hvl k) (by decide)) w1 w2 (fun hh st' hf => ?_) (fun hT hs0 st' hf => ?_)
            · simp (disch := omega) only [↓sxA, ↓wk_store, sxB, sxP, Nat.reduceLeDiff, reduceCtorEq, Nat.reduceEqDiff, Nat.reduceAdd, Int.reduceLT, Int.reduceLE, Int.reduceEq, Nat.reduceLT, Int.reduceToNat, Int.reduceAdd, Int.reduceSub, ↓reduceIte]
              rcases hh with hh | hh
              · exact no (by rw [hst, vRest k rfl hfR, restA_eq hr, if_pos hh]) _ hf
              · rw [hset] at hh; cases hh
            · simp (disch := omega) only [↓sxA, ↓wk_store, sxB, sxP, Nat.reduceLeDiff, reduceCtorEq, Nat.reduceEqDiff, Nat.reduceAdd, Int.reduceLT, Int.reduceLE, Int.reduceEq, Nat.reduceLT, Int.reduceToNat, Int.reduceAdd, Int.reduceSub, ↓reduceIte]
              refine h true st' ?_
              rw [hst, vRest k rfl hfR, restA_eq hr, if_neg hT]
              exact ⟨rfl, hf, badKeep fun v hv => .inr (numOk_no w1)⟩
          | false =>
            rw [hfR] at aR
            simp (disch := omega) only [↓sxA, ↓wk_store, sxB, sxP, Nat.reduceLeDiff, reduceCtorEq, Nat.reduceEqDiff, Nat.reduceAdd, Int.reduceLT, Int.reduceLE, Int.reduceEq, Nat.reduceLT, Int.reduceToNat, Int.reduceAdd, Int.reduceSub, ↓reduceIte, hbx4, ↓a1, ↓aR, ↓all4]
            refine kSign (n + 4) (bs w) _ false fun s5 F5 => ?_
            have hF5 := hF4.keep F5
            have hw5 := (F5.old _ (by omega)).trans hw4
            obtain ⟨ov5, nv5, hbx5⟩ := hF5.box
            have hne : bf < s1.next := hF1.bf2
            by_cases hsg : (decide (bs w = ⟨#[61]⟩) && !false) = true
            · rw [hsg]
              simp (disch := omega) only [↓sxA, ↓wk_store, sxB, sxP, Nat.reduceLeDiff, reduceCtorEq, Nat.reduceEqDiff, Nat.reduceAdd, Int.reduceLT, Int.reduceLE, Int.reduceEq, Nat.reduceLT, Int.reduceToNat, Int.reduceAdd, Int.reduceSub, ↓reduceIte]
              exact no (by rw [hst, vWd k rfl hfR, if_pos ((sign_iff w false).1 hsg)]) _ hF5.frm
            · have hsg' : (decide (bs w = ⟨#[61]⟩) && !false) = false := by simpa using hsg
              rw [hsg']
              simp (disch := omega) only [↓sxA, ↓wk_store, sxB, sxP, Nat.reduceLeDiff, reduceCtorEq, Nat.reduceEqDiff, Nat.reduceAdd, Int.reduceLT, Int.reduceLE, Int.reduceEq, Nat.reduceLT, Int.reduceToNat, Int.reduceAdd, Int.reduceSub, ↓reduceIte, hbx5, hw5]
              refine kGive (n + 4) (bs w) (hF5.move (p' := to) hbx5) hk (by omega) h2 he (Nat.le_trans (hvl k) (by decide)) (fun hh st' hf => ?_) (fun hh hnum st' hf => ?_)
              · simp (disch := omega) only [↓sxA, ↓wk_store, sxB, sxP, Nat.reduceLeDiff, reduceCtorEq, Nat.reduceEqDiff, Nat.reduceAdd, Int.reduceLT, Int.reduceLE, Int.reduceEq, Nat.reduceLT, Int.reduceToNat, Int.reduceAdd, Int.reduceSub, ↓reduceIte]
                rcases hh with hh | hh
                · rcases hmk with e | e
                  · rw [hh.2] at e; cases e
                  · rw [hh.1] at e; cases e
                · refine h false st' ?_
                  rw [hst, vWd k rfl hfR, if_neg (fun hh' => hsg ((sign_iff w false).2 hh'))]
                  exact .inr ⟨rfl, hf, badNum hk hi.1 _ (by simp [Cl.push]) hh⟩
              · simp (disch := omega) only [↓sxA, ↓wk_store, sxB, sxP, Nat.reduceLeDiff, reduceCtorEq, Nat.reduceEqDiff, Nat.reduceAdd, Int.reduceLT, Int.reduceLE, Int.reduceEq, Nat.reduceLT, Int.reduceToNat, Int.reduceAdd, Int.reduceSub, ↓reduceIte]
                refine h true st' ?_
                rw [hst, vWd k rfl hfR, if_neg (fun hh' => hsg ((sign_iff w false).2 hh'))]
                refine .inl ⟨rfl, hf, badKeep fun v hv => ?_⟩
                rcases List.mem_append.1 hv with hv | hv
                · exact .inl hv
                · rw [List.mem_singleton.1 hv]; exact .inr hnum
    | true =>
      subst hq'
      have hst : stepA s.data.toList l fr cs = valA s.data.toList l fr (some (w, true, to)) cs := by unfold stepA; rw [hn]; simp only; rw [if_neg (fun hh => by cases hh.1)]
      simp (disch := omega) only [↓sxA, ↓wk_store, sxB, sxP, Nat.reduceLeDiff, reduceCtorEq, Nat.reduceEqDiff, Nat.reduceAdd, Int.reduceLT, Int.reduceLE, Int.reduceEq, Nat.reduceLT, Int.reduceToNat, Int.reduceAdd, Int.reduceSub, ↓reduceIte, ↓st3, hw2, hbx2]
      refine kFree (n + 3) hF2 hll fun s4 F4 => ?_
      have hF4 := hF2.keep F4
      have hw4 := (F4.old _ (by omega)).trans hw2
      have all4 := rk_loadAll (k := 3) hw4 rfl (by decide)
      obtain ⟨ov4, nv4, hbx4⟩ := hF4.box
      have hnx4 := F4.nx
      rw [← ho]
      rcases hcase with rfl | ⟨k, hk, rfl, hmk⟩
      · simp (disch := omega) only [↓sxA, ↓wk_store, sxB, sxP, Nat.reduceLeDiff, reduceCtorEq, Nat.reduceEqDiff, Nat.reduceAdd, Int.reduceLT, Int.reduceLE, Int.reduceEq, Nat.reduceLT, Int.reduceToNat, Int.reduceAdd, Int.reduceSub, ↓reduceIte]
        exact no (by rw [hst, vNone rfl]) _ hF4.frm
      · obtain ⟨bb, nv, a1, a2, a3, a4, a5, a6, a7⟩ := hF4.its.at hk
        have hft := hfit k
        have aR := a3 6 (.bool (mkAt l k).f) (by rw [mkAt_lt hk]; rfl)
        cases hfR : (mkAt l k).f with
        | true =>
          obtain ⟨w1, w2, _, _⟩ := fit_rest hft hfR
          rw [hfR] at aR
          have hset : (clAt cs k).set = false := by
            rcases hmk with e | e
            · rw [w2] at e; cases e
            · exact e
          simp (disch := omega) only [↓sxA, ↓wk_store, sxB, sxP, Nat.reduceLeDiff, reduceCtorEq, Nat.reduceEqDiff, Nat.reduceAdd, Int.reduceLT, Int.reduceLE, Int.reduceEq, Nat.reduceLT, Int.reduceToNat, Int.reduceAdd, Int.reduceSub, ↓reduceIte, hbx4, ↓a1, ↓aR]
          refine kRest (n + 3) hF4 hk (by omega) (by omega) h2 he (hi.2 k) (Nat.le_trans (hvl k) (by decide)) w1 w2 (fun hh st' hf => ?_) (fun hT hs0 st' hf => ?_)
          · simp (disch := omega) only [↓sxA, ↓wk_store, sxB, sxP, Nat.reduceLeDiff, reduceCtorEq, Nat.reduceEqDiff, Nat.reduceAdd, Int.reduceLT, Int.reduceLE, Int.reduceEq, Nat.reduceLT, Int.reduceToNat, Int.reduceAdd, Int.reduceSub, ↓reduceIte]
            rcases hh with hh | hh
            · exact no (by rw [hst, vRest k rfl hfR, restA_eq hr, if_pos hh]) _ hf
            · rw [hset] at hh; cases hh
          · simp (disch := omega) only [↓sxA, ↓wk_store, sxB, sxP, Nat.reduceLeDiff, reduceCtorEq, Nat.reduceEqDiff, Nat.reduceAdd, Int.reduceLT, Int.reduceLE, Int.reduceEq, Nat.reduceLT, Int.reduceToNat, Int.reduceAdd, Int.reduceSub, ↓reduceIte]
            refine h true st' ?_
            rw [hst, vRest k rfl hfR, restA_eq hr, if_neg hT]
            exact ⟨rfl, hf, badKeep fun v hv => .inr (numOk_no w1)⟩
        | false =>
          rw [hfR] at aR
          simp (disch := omega) only [↓sxA, ↓wk_store, sxB, sxP, Nat.reduceLeDiff, reduceCtorEq, Nat.reduceEqDiff, Nat.reduceAdd, Int.reduceLT, Int.reduceLE, Int.reduceEq, Nat.reduceLT, Int.reduceToNat, Int.reduceAdd, Int.reduceSub, ↓reduceIte, hbx4, ↓a1, ↓aR, ↓all4]
          refine kSign (n + 4) (bs w) _ true fun s5 F5 => ?_
          have hF5 := hF4.keep F5
          have hw5 := (F5.old _ (by omega)).trans hw4
          obtain ⟨ov5, nv5, hbx5⟩ := hF5.box
          have hne : bf < s1.next := hF1.bf2
          by_cases hsg : (decide (bs w = ⟨#[61]⟩) && !true) = true
          · rw [hsg]
            simp (disch := omega) only [↓sxA, ↓wk_store, sxB, sxP, Nat.reduceLeDiff, reduceCtorEq, Nat.reduceEqDiff, Nat.reduceAdd, Int.reduceLT, Int.reduceLE, Int.reduceEq, Nat.reduceLT, Int.reduceToNat, Int.reduceAdd, Int.reduceSub, ↓reduceIte]
            exact no (by rw [hst, vWd k rfl hfR, if_pos ((sign_iff w true).1 hsg)]) _ hF5.frm
          · have hsg' : (decide (bs w = ⟨#[61]⟩) && !true) = false := by simp
            rw [hsg']
            simp (disch := omega) only [↓sxA, ↓wk_store, sxB, sxP, Nat.reduceLeDiff, reduceCtorEq, Nat.reduceEqDiff, Nat.reduceAdd, Int.reduceLT, Int.reduceLE, Int.reduceEq, Nat.reduceLT, Int.reduceToNat, Int.reduceAdd, Int.reduceSub, ↓reduceIte, hbx5, hw5]
            refine kGive (n + 4) (bs w) (hF5.move (p' := to) hbx5) hk (by omega) h2 he (Nat.le_trans (hvl k) (by decide)) (fun hh st' hf => ?_) (fun hh hnum st' hf => ?_)
            · simp (disch := omega) only [↓sxA, ↓wk_store, sxB, sxP, Nat.reduceLeDiff, reduceCtorEq, Nat.reduceEqDiff, Nat.reduceAdd, Int.reduceLT, Int.reduceLE, Int.reduceEq, Nat.reduceLT, Int.reduceToNat, Int.reduceAdd, Int.reduceSub, ↓reduceIte]
              rcases hh with hh | hh
              · rcases hmk with e | e
                · rw [hh.2] at e; cases e
                · rw [hh.1] at e; cases e
              · refine h false st' ?_
                rw [hst, vWd k rfl hfR, if_neg (fun hh' => hsg ((sign_iff w true).2 hh'))]
                exact .inr ⟨rfl, hf, badNum hk hi.1 _ (by simp [Cl.push]) hh⟩
            · simp (disch := omega) only [↓sxA, ↓wk_store, sxB, sxP, Nat.reduceLeDiff, reduceCtorEq, Nat.reduceEqDiff, Nat.reduceAdd, Int.reduceLT, Int.reduceLE, Int.reduceEq, Nat.reduceLT, Int.reduceToNat, Int.reduceAdd, Int.reduceSub, ↓reduceIte]
              refine h true st' ?_
              rw [hst, vWd k rfl hfR, if_neg (fun hh' => hsg ((sign_iff w true).2 hh'))]
              refine .inl ⟨rfl, hf, badKeep fun v hv => ?_⟩
              rcases List.mem_append.1 hv with hv | hv
              · exact .inl hv
              · rw [List.mem_singleton.1 hv]; exact .inr hnum
end
end Go.Proofs.YtdmemibnphcedaaGreatDoor
