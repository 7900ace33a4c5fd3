/-
  The program's name, walked.
-/
import Derived.Test.YtdmemibnphcedaaGreatDoorRFitG
set_option linter.unusedSimpArgs false
set_option linter.unusedVariables false
set_option maxRecDepth 10000
set_option linter.unusedSectionVars false
namespace Go.Proofs.YtdmemibnphcedaaGreatDoor
open Go.Am
attribute [local irreducible] callO wopK ropK popK opK grpsE listE sx Runs

section
variable {st : St} {K : Value → St → Prop}

/-- what stands behind a name: from the place q on -/
def namB (L : List UInt8) (l : List IM) (k q : Nat) (cs : List Cl) : Stp :=
  match nxt L q with
  | .fin => .done none
  | .bad fr => if (mkAt l k).f = true then restA L fr k cs else .done none
  | .wd s q' fr to => if (mkAt l k).f = true then restA L fr k cs else if q' = false ∧ s = [61] then .done none else .go to (upd' cs k (Cl.push (bs s)))

theorem namA_eq (L : List UInt8) (l : List IM) (k p : Nat) (cs : List Cl) (h1 : ¬ ((clAt cs k).nm = true ∨ ((clAt cs k).set = true ∧ (mkAt l k).m = false))) (h2 : (mkAt l k).s = false) : namA L l k p cs = namB L l k (eqA L p) (upd' cs k Cl.on) := by
  unfold namA namB
  rw [if_neg h1, if_neg (by rw [h2]; decide)]
  cases nxt L (eqA L p) <;> rfl
theorem quo_len : ∀ (l : List UInt8) (s : List UInt8) (k : Nat), quo l = some (s, k) → s.length ≤ l.length
  | [], s, k, h => by simp [quo] at h
  | [c], s, k, h => by
    simp only [quo] at h
    split at h
    · cases h; simp
    · cases h
  | c :: d :: r, s, k, h => by
    simp only [quo] at h
    split at h
    · split at h
      · cases h; simp
      · cases h
    · split at h
      · cases h
      · split at h
        · simp only [Option.map_eq_some_iff] at h
          obtain ⟨⟨s', k'⟩, h1, h2⟩ := h
          cases h2
          have := quo_len r s' k' h1
          simp; omega
        · split at h
          · simp only [Option.map_eq_some_iff] at h
            obtain ⟨⟨s', k'⟩, h1, h2⟩ := h
            cases h2
            have := quo_len r s' k' h1
            simp; omega
          · simp only [Option.map_eq_some_iff] at h
            obtain ⟨⟨s', k'⟩, h1, h2⟩ := h
            cases h2
            have := quo_len (d :: r) s' k' h1
            simp at this ⊢; omega
theorem nxt_len {L : List UInt8} {p : Nat} {w : List UInt8} {q : Bool} {fr to : Nat} (h : nxt L p = .wd w q fr to) : w.length ≤ L.length + 1 := by
  unfold nxt at h
  split at h
  · cases h
  · split at h
    · cases h; simp
    · split at h
      · split at h
        · rename_i x hx
          cases h
          have := quo_len _ x.1 x.2 hx
          rw [List.length_drop] at this
          omega
        · cases h
      · split at h
        · cases h
          rw [List.length_take, List.length_drop]
          omega
        · cases h
theorem namB_blk {L : List UInt8} {q : Nat} (hq : q ≤ L.length) (l : List IM) (k : Nat) (cs : List Cl) : namB L l k (blk L q) cs = namB L l k q cs := by
  unfold namB
  rw [nxt_blk hq]
theorem eq_blk {L : List UInt8} {p : Nat} (hp : p ≤ L.length) : blk L (eqA L p) = if L[blk L p]? = some 61 then blk L (blk L p + 1) else blk L p := by
  unfold eqA
  split <;> rfl

/-- the rest of a line, where all bytes are as they should be -/
theorem restA_eq {L : List UInt8} (hr : L.all prn = true) (q k : Nat) (cs : List Cl) : restA L q k cs = if trimE (L.drop q) = [] then .done none else .done (some (upd' cs k (Cl.one (bs (trimE (L.drop q)))))) := by
  unfold restA
  by_cases h : trimE (L.drop q) = []
  · rw [if_pos h, if_neg (fun hh => hh.2 h)]
  · rw [if_neg h, if_pos ⟨rest_all hr q, h⟩]

/-- behind the blanks and the sign -/
theorem namB_cases {L : List UInt8} {q : Nat} (hq : q ≤ L.length) (hb : blk L q = q) (l : List IM) (k : Nat) (cs : List Cl) (hf : (mkAt l k).f = true) (hr : L.all prn = true) : namB L l k q cs = restA L q k cs := by
  unfold namB
  cases hn : nxt L q with
  | fin =>
    have := (nxt_fin hq).1 hn
    rw [hb] at this
    rw [restA_eq hr, if_pos]
    rw [this, List.drop_length]
    rfl
  | bad fr =>
    simp only
    rw [if_pos hf, (nxt_bad hq hn).1, hb]
  | wd s q' fr to =>
    simp only
    rw [if_pos hf, (nxt_wd hq hn).1, hb]

set_option maxHeartbeats 4000000 in
theorem kName (n : Nat) {s0 : St} {bf p k : Nat} {lv : Value} {s : ByteArray} {l : List IM} {cs : List Cl} (hF : FtR s0 st bf lv s l p cs) (hk : k < l.length) (hs : s.size ≤ 80000) (hp : p ≤ s.size) (hr : s.data.toList.all prn = true) (h2 : 2 < s0.next) (he : hasErr s0 = true) (hi : Iv l cs) (hvl : (clAt cs k).vals.length ≤ 80000) (hfit : FitL l)
    (h : ∀ b st', StP s0 bf lv s l cs (namA s.data.toList l k p cs) b st' → K (.bool b) st') :
    callK (callO T0 orc fns 100000 (n + 3)) 57 [.pointer (some ⟨bf, 0, none⟩), .int .i64 (k : Nat)] st K := by
  refine fn_runs (fn := g57) ?_ ?_ ?_
  · rfl
  · rfl
  unfold g57
  have hsz := size_list s
  have hmk := mkAt_lt hk
  have hft := hfit k
  have hL : p ≤ s.data.toList.length := by omega
  obtain ⟨ov0, nv0, hbx0⟩ := hF.box
  obtain ⟨bb, nv, a1, a2, a3, a4, a5, a6, a7⟩ := hF.its.at hk
  obtain ⟨s4, st7, hb4, n4, F4⟩ := itBox st l[k].mks a5
  rw [← hmk] at hb4
  have hF4 := hF.keep F4
  obtain ⟨ov1, bn1, g1, c1, c2, c3, c4, c5, c6⟩ := hF.body
  obtain ⟨ov, bn, b, s5, s6, hbx, x1, x2, x3, x4, x5, hF5, n5, f5, y1, y2, y3, x6, hF6⟩ := hF4.open hk
  obtain rfl : bn = bn1 := by
    have := (F4.old bf hF.bf2).trans c1
    rw [hbx] at this
    simp only [Option.some.injEq, AObj.row.injEq, List.cons.injEq, Value.slice.injEq, Addr.mk.injEq] at this
    exact this.1.2.2.2.2.1.1.1
  have no : namA s.data.toList l k p cs = .done none → ∀ st', Frm s0 st' → K (.bool false) st' := fun hn st' hf => h false st' (by rw [hn]; exact ⟨rfl, hf⟩)
  cases hnm : (clAt cs k).nm with
  | true =>
    rw [hnm] at x2
    have hno : namA s.data.toList l k p cs = .done none := by unfold namA; rw [if_pos (.inl hnm)]
    simp (disch := omega) only [↓sxA, ↓wk_store, sxB, sxP, Nat.reduceLeDiff, reduceCtorEq, Nat.reduceEqDiff, Nat.reduceAdd, Int.reduceLT, Int.reduceLE, Int.reduceEq, Nat.reduceLT, Int.reduceToNat, Int.reduceAdd, Int.reduceSub, ↓reduceIte, hbx0, ↓a1, ↓a2, ↓st7, hbx, ↓x1, ↓x2]
    exact no hno _ hF4.frm
  | false =>
    rw [hnm] at x2
    cases hsw : (mkAt l k).s with
    | true =>
      obtain ⟨w1, w2, w3⟩ := fit_switch hft hsw
      rw [hsw] at hb4
      cases hset : (clAt cs k).set with
      | true =>
        rw [hset] at x4
        have hno : namA s.data.toList l k p cs = .done none := by unfold namA; rw [if_pos (.inr ⟨hset, w2⟩)]
        simp (disch := omega) only [↓sxA, ↓wk_store, sxB, sxP, Nat.reduceLeDiff, reduceCtorEq, Nat.reduceEqDiff, Nat.reduceAdd, Int.reduceLT, Int.reduceLE, Int.reduceEq, Nat.reduceLT, Int.reduceToNat, Int.reduceAdd, Int.reduceSub, ↓reduceIte, hbx0, ↓a1, ↓a2, ↓st7, hbx, ↓x1, ↓x2, hb4, ↓x3, ↓x4]
        exact no hno _ hF4.frm
      | false =>
        rw [hset] at x4
        have hgo : namA s.data.toList l k p cs = .go p (upd' cs k Cl.on) := by
          unfold namA
          rw [if_neg (by rw [hnm, hset]; simp), if_pos hsw]
        have hb5 := (f5 st.next (by omega)).trans hb4
        obtain ⟨ov', bn', b', s7, s8, hbx', x1', x2', x3', x4', x5', hF5', n5', f5', y1', y2', y3', x6', hF6'⟩ := hF5.open hk
        simp (disch := omega) only [↓sxA, ↓wk_store, sxB, sxP, Nat.reduceLeDiff, reduceCtorEq, Nat.reduceEqDiff, Nat.reduceAdd, Int.reduceLT, Int.reduceLE, Int.reduceEq, Nat.reduceLT, Int.reduceToNat, Int.reduceAdd, Int.reduceSub, ↓reduceIte, hbx0, ↓a1, ↓a2, ↓st7, hbx, ↓x1, ↓x2, hb4, ↓x3, ↓x4, ↓x5, hb5, hbx', ↓x3', ↓x6']
        refine h true _ ?_
        rw [hgo]
        refine .inl ⟨rfl, ?_, badKeep fun v hv => .inl hv⟩
        rw [upd_upd _ _ _ _ (by rw [hi.1]; exact hk)] at hF6'
        exact hF6'
    | false =>
      rw [hsw] at hb4
      have hb5 := (f5 st.next (by omega)).trans hb4
      have hbx5 := (f5 bf (Ne.symm y3)).trans hbx
      have e5 := hF5.frm.err h2 he
      simp (disch := omega) only [↓sxA, ↓wk_store, sxB, sxP, Nat.reduceLeDiff, reduceCtorEq, Nat.reduceEqDiff, Nat.reduceAdd, Int.reduceLT, Int.reduceLE, Int.reduceEq, Nat.reduceLT, Int.reduceToNat, Int.reduceAdd, Int.reduceSub, ↓reduceIte, hbx0, ↓a1, ↓a2, ↓st7, hbx, ↓x1, ↓x2, hb4, ↓x5, hb5, hbx5]
      refine kBlank (n + 1) s (by omega) p bf 0 false hp hbx5 ?_
      -- what follows is the same with a sign and without
      have hk1 : k < cs.length := by rw [hi.1]; exact hk
      have hc1 : clAt (upd' cs k Cl.nam) k = ⟨(clAt cs k).vals, (clAt cs k).set, true⟩ := upd_same _ _ _ hk1
      have ePush : ∀ w, upd' (upd' cs k Cl.nam) k (Cl.push w) = upd' (upd' cs k Cl.on) k (Cl.push w) := fun w => by rw [upd_upd _ _ _ _ hk1, upd_upd _ _ _ _ hk1]; rfl
      have eOne : ∀ w, upd' (upd' cs k Cl.nam) k (Cl.one w) = upd' (upd' cs k Cl.on) k (Cl.one w) := fun w => by rw [upd_upd _ _ _ _ hk1, upd_upd _ _ _ _ hk1]; rfl
      obtain ⟨e1, e2, e3⟩ := eqA_le (L := s.data.toList) hL
      have hqle := (blk_le e2).2
      have hqb := blk_blk (L := s.data.toList) e2
      have hA : ¬ ((clAt cs k).set = true ∧ (mkAt l k).m = false) → namA s.data.toList l k p cs = namB s.data.toList l k (blk s.data.toList (eqA s.data.toList p)) (upd' cs k Cl.on) := fun hh => by
        rw [namB_blk e2, namA_eq _ _ _ _ _ (by rw [hnm]; rintro (hh' | hh'); cases hh'; exact hh hh') hsw]
      have hB : ((clAt cs k).set = true ∧ (mkAt l k).m = false) → namA s.data.toList l k p cs = .done none := fun hh => by unfold namA; rw [if_pos (.inr hh)]
      have hE := eq_blk (L := s.data.toList) hL
      obtain ⟨bl1, bl2⟩ := blk_le hL
      have hcase : (∃ c, s.data.toList[blk s.data.toList p]? = some c ∧ s.data.toList.getD (blk s.data.toList p) 0 = c ∧ blk s.data.toList p < s.size ∧ (c.toNat : Int) = 61) ∨ (∃ c, s.data.toList[blk s.data.toList p]? = some c ∧ s.data.toList.getD (blk s.data.toList p) 0 = c ∧ blk s.data.toList p < s.size ∧ ¬ (c.toNat : Int) = 61) ∨ s.size ≤ blk s.data.toList p := by
        by_cases hlt : blk s.data.toList p < s.size
        · obtain ⟨c, hc, hg, _⟩ := byte_at s _ hlt
          by_cases hc61 : (c.toNat : Int) = 61
          · exact .inl ⟨c, hc, hg, hlt, hc61⟩
          · exact .inr (.inl ⟨c, hc, hg, hlt, hc61⟩)
        · exact .inr (.inr (by omega))
      rcases hcase with ⟨c, hc, hg, hlt, hc61⟩ | ⟨c, hc, hg, hlt, hc61⟩ | hge
      case' inl =>
        rw [if_pos (by rw [hc, u8_eq hc61]; rfl)] at hE
        have hq1 : ((c.toNat : Int) = 61) = True := eq_true hc61
        simp (disch := omega) only [↓sxA, ↓wk_store, sxB, sxP, Nat.reduceLeDiff, reduceCtorEq, Nat.reduceEqDiff, Nat.reduceAdd, Int.reduceLT, Int.reduceLE, Int.reduceEq, Nat.reduceLT, Int.reduceToNat, Int.reduceAdd, Int.reduceSub, ↓reduceIte, hbx5, q_indexStr, Int.toNat_natCast, hg, hq1]
        refine kBlank (n + 1) s (by omega) (blk s.data.toList p + 1) bf 0 false (by omega) hbx5 ?_
        rw [← hE]
      case' inr.inl =>
        rw [if_neg (by rw [hc]; intro e; cases e; exact hc61 rfl)] at hE
        have hq1 : ((c.toNat : Int) = 61) = False := eq_false hc61
        simp (disch := omega) only [↓sxA, ↓wk_store, sxB, sxP, Nat.reduceLeDiff, reduceCtorEq, Nat.reduceEqDiff, Nat.reduceAdd, Int.reduceLT, Int.reduceLE, Int.reduceEq, Nat.reduceLT, Int.reduceToNat, Int.reduceAdd, Int.reduceSub, ↓reduceIte, hbx5, q_indexStr, Int.toNat_natCast, hg, hq1]
      case' inr.inr =>
        rw [if_neg (by rw [byte_no s _ hge]; decide)] at hE
        simp (disch := omega) only [↓sxA, ↓wk_store, sxB, sxP, Nat.reduceLeDiff, reduceCtorEq, Nat.reduceEqDiff, Nat.reduceAdd, Int.reduceLT, Int.reduceLE, Int.reduceEq, Nat.reduceLT, Int.reduceToNat, Int.reduceAdd, Int.reduceSub, ↓reduceIte, hbx5]
      case' inr.inl => rw [← hE]
      case' inr.inr => rw [← hE]
      all_goals
        clear hE
        generalize blk s.data.toList (eqA s.data.toList p) = q at hqle hqb hA
        have hqs : q ≤ s.size := by omega
        cases hfR : (mkAt l k).f with
        | true =>
          obtain ⟨w1, w2, _, _⟩ := fit_rest hft hfR
          rw [hfR] at hb5
          simp (disch := omega) only [↓sxA, ↓wk_store, sxB, sxP, Nat.reduceLeDiff, reduceCtorEq, Nat.reduceEqDiff, Nat.reduceAdd, Int.reduceLT, Int.reduceLE, Int.reduceEq, Nat.reduceLT, Int.reduceToNat, Int.reduceAdd, Int.reduceSub, ↓reduceIte, hb5]
          refine kRest n hF5 hk (by omega) hqs h2 he (by rw [hc1]; exact hi.2 k) (by rw [hc1]; exact Nat.le_trans hvl (by decide)) w1 w2 (fun hh st' hf => ?_) (fun hT hs0 st' hf => ?_)
          · simp (disch := omega) only [↓sxA, ↓wk_store, sxB, sxP, Nat.reduceLeDiff, reduceCtorEq, Nat.reduceEqDiff, Nat.reduceAdd, Int.reduceLT, Int.reduceLE, Int.reduceEq, Nat.reduceLT, Int.reduceToNat, Int.reduceAdd, Int.reduceSub, ↓reduceIte]
            refine no ?_ st' hf
            by_cases hX : (clAt cs k).set = true ∧ (mkAt l k).m = false
            · exact hB hX
            · rcases hh with hh | hh
              · rw [hA hX, namB_cases hqle hqb l k _ hfR hr, restA_eq hr, if_pos hh]
              · rw [hc1] at hh
                exact (hX ⟨hh, w2⟩).elim
          · simp (disch := omega) only [↓sxA, ↓wk_store, sxB, sxP, Nat.reduceLeDiff, reduceCtorEq, Nat.reduceEqDiff, Nat.reduceAdd, Int.reduceLT, Int.reduceLE, Int.reduceEq, Nat.reduceLT, Int.reduceToNat, Int.reduceAdd, Int.reduceSub, ↓reduceIte]
            rw [hc1] at hs0
            have hs0' : (clAt cs k).set = false := hs0
            refine h true st' ?_
            rw [hA (by rw [hs0']; simp), namB_cases hqle hqb l k _ hfR hr, restA_eq hr, if_neg hT]
            exact ⟨rfl, by rw [← eOne]; exact hf, by rw [upd_upd _ _ _ _ hk1]; exact badKeep fun v hv => .inr (numOk_no w1)⟩
        | false =>
          rw [hfR] at hb5
          simp (disch := omega) only [↓sxA, ↓wk_store, sxB, sxP, Nat.reduceLeDiff, reduceCtorEq, Nat.reduceEqDiff, Nat.reduceAdd, Int.reduceLT, Int.reduceLE, Int.reduceEq, Nat.reduceLT, Int.reduceToNat, Int.reduceAdd, Int.reduceSub, ↓reduceIte, hb5, hbx5]
          refine kNext (n + 1) s (by omega) q hqs hr fun v e s7 hw F7 => ?_
          have hF7 := hF5.keep F7
          unfold wdVal at hw
          cases hn : nxt s.data.toList q with
          | fin =>
            rw [hn] at hw
            obtain ⟨rfl, rfl⟩ := hw
            have hno : namA s.data.toList l k p cs = .done none := by
              by_cases hX : (clAt cs k).set = true ∧ (mkAt l k).m = false
              · exact hB hX
              · rw [hA hX]; unfold namB; rw [hn]
            obtain ⟨s8, st3, hw8, n8, F8⟩ := wdBox s7 (.string .empty) (.int .i64 0) (.bool false) rfl rfl rfl
            simp (disch := omega) only [↓sxA, ↓wk_store, sxB, sxP, Nat.reduceLeDiff, reduceCtorEq, Nat.reduceEqDiff, Nat.reduceAdd, Int.reduceLT, Int.reduceLE, Int.reduceEq, Nat.reduceLT, Int.reduceToNat, Int.reduceAdd, Int.reduceSub, ↓reduceIte, ↓st3]
            exact no hno _ (hF7.keep F8).frm
          | bad fr =>
            rw [hn] at hw
            obtain ⟨⟨sx, ax, rfl⟩, rfl⟩ := hw
            have hno : namA s.data.toList l k p cs = .done none := by
              by_cases hX : (clAt cs k).set = true ∧ (mkAt l k).m = false
              · exact hB hX
              · rw [hA hX]; unfold namB; rw [hn]; simp only; rw [if_neg (by rw [hfR]; decide)]
            obtain ⟨s8, st3, hw8, n8, F8⟩ := wdBox s7 (.string sx) (.int .i64 ax) (.bool true) rfl rfl rfl
            simp (disch := omega) only [↓sxA, ↓wk_store, sxB, sxP, Nat.reduceLeDiff, reduceCtorEq, Nat.reduceEqDiff, Nat.reduceAdd, Int.reduceLT, Int.reduceLE, Int.reduceEq, Nat.reduceLT, Int.reduceToNat, Int.reduceAdd, Int.reduceSub, ↓reduceIte, ↓st3]
            exact no hno _ (hF7.keep F8).frm
          | wd w q' fr to =>
            rw [hn] at hw
            obtain ⟨rfl, rfl⟩ := hw
            obtain ⟨r1, r2, r3, r4, r5⟩ := nxt_wd hqle hn
            have hwl := nxt_len hn
            have hN : ¬ ((clAt cs k).set = true ∧ (mkAt l k).m = false) → namA s.data.toList l k p cs = if q' = false ∧ w = [61] then .done none else .go to (upd' (upd' cs k Cl.on) k (Cl.push (bs w))) := fun hX => by
              rw [hA hX]; unfold namB; rw [hn]; simp only; rw [if_neg (by rw [hfR]; decide)]
            obtain ⟨s8, st3, hw8, n8, F8⟩ := wdBox s7 (.string (bs w)) (.int .i64 (fr : Nat)) (.bool q') rfl rfl rfl
            have all3 := rk_loadAll (k := 3) hw8 rfl (by decide)
            have hF8 := hF7.keep F8
            simp (disch := omega) only [↓sxA, ↓wk_store, sxB, sxP, Nat.reduceLeDiff, reduceCtorEq, Nat.reduceEqDiff, Nat.reduceAdd, Int.reduceLT, Int.reduceLE, Int.reduceEq, Nat.reduceLT, Int.reduceToNat, Int.reduceAdd, Int.reduceSub, ↓reduceIte, ↓st3, ↓all3]
            refine kSign (n + 1) (bs w) _ q' fun s9 F9 => ?_
            have hF9 := hF8.keep F9
            have hw9 := (F9.old _ (by omega)).trans hw8
            obtain ⟨ov9, nv9, hbx9⟩ := hF9.box
            have hne : bf < s7.next := hF7.bf2
            by_cases hsg : (decide (bs w = ⟨#[61]⟩) && !q') = true
            · have hno : namA s.data.toList l k p cs = .done none := by
                by_cases hX : (clAt cs k).set = true ∧ (mkAt l k).m = false
                · exact hB hX
                · rw [hN hX, if_pos ((sign_iff w q').1 hsg)]
              rw [hsg]
              simp (disch := omega) only [↓sxA, ↓wk_store, sxB, sxP, Nat.reduceLeDiff, reduceCtorEq, Nat.reduceEqDiff, Nat.reduceAdd, Int.reduceLT, Int.reduceLE, Int.reduceEq, Nat.reduceLT, Int.reduceToNat, Int.reduceAdd, Int.reduceSub, ↓reduceIte]
              exact no hno _ hF9.frm
            · have hsg' : (decide (bs w = ⟨#[61]⟩) && !q') = false := by simpa using hsg
              rw [hsg']
              simp (disch := omega) only [↓sxA, ↓wk_store, sxB, sxP, Nat.reduceLeDiff, reduceCtorEq, Nat.reduceEqDiff, Nat.reduceAdd, Int.reduceLT, Int.reduceLE, Int.reduceEq, Nat.reduceLT, Int.reduceToNat, Int.reduceAdd, Int.reduceSub, ↓reduceIte, hbx9, hw9]
              refine kGive (n + 1) (bs w) (hF9.move (p' := to) hbx9) hk (by rw [bs_size]; omega) h2 he (by rw [hc1]; exact Nat.le_trans hvl (by decide)) (fun hh st' hf => ?_) (fun hh hnum st' hf => ?_)
              · simp (disch := omega) only [↓sxA, ↓wk_store, sxB, sxP, Nat.reduceLeDiff, reduceCtorEq, Nat.reduceEqDiff, Nat.reduceAdd, Int.reduceLT, Int.reduceLE, Int.reduceEq, Nat.reduceLT, Int.reduceToNat, Int.reduceAdd, Int.reduceSub, ↓reduceIte]
                by_cases hX : (clAt cs k).set = true ∧ (mkAt l k).m = false
                · exact no (hB hX) st' hf
                · rcases hh with hh | hh
                  · rw [hc1] at hh; exact (hX hh).elim
                  · refine h false st' ?_
                    rw [hN hX, if_neg (fun hh' => hsg ((sign_iff w q').2 hh'))]
                    exact .inr ⟨rfl, hf, badNum hk (by rw [upd_len]; exact hi.1) _ (by simp [Cl.push]) hh⟩
              · simp (disch := omega) only [↓sxA, ↓wk_store, sxB, sxP, Nat.reduceLeDiff, reduceCtorEq, Nat.reduceEqDiff, Nat.reduceAdd, Int.reduceLT, Int.reduceLE, Int.reduceEq, Nat.reduceLT, Int.reduceToNat, Int.reduceAdd, Int.reduceSub, ↓reduceIte]
                rw [hc1] at hh
                refine h true st' ?_
                rw [hN hh, if_neg (fun hh' => hsg ((sign_iff w q').2 hh'))]
                rw [ePush] at hf
                refine .inl ⟨rfl, hf, ?_⟩
                rw [upd_upd _ _ _ _ hk1]
                refine badKeep fun v hv => ?_
                rcases List.mem_append.1 hv with hv | hv
                · exact .inl hv
                · rw [List.mem_singleton.1 hv]; exact .inr hnum
end
end Go.Proofs.YtdmemibnphcedaaGreatDoor
