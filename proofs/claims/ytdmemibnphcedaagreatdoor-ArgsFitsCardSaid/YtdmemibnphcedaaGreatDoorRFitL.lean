/-
  The chapter's next.
-/
import Derived.Test.YtdmemibnphcedaaGreatDoorRFitK
set_option linter.unusedSimpArgs false
set_option linter.unusedVariables false
set_option maxRecDepth 10000
set_option linter.unusedSectionVars false
namespace Go.Proofs.YtdmemibnphcedaaGreatDoor
open Go.Am

section
variable {L : List UInt8} {i : Nat} {c d : UInt8}
theorem ql_drop (h : L[i]? = some c) : L.drop i = c :: L.drop (i + 1) := by
  obtain ⟨h1, h2⟩ := List.getElem?_eq_some_iff.1 h
  rw [List.drop_eq_getElem_cons h1, h2]
theorem ql_end (h : L[i]? = none) : quoR L i = none := by
  rw [List.getElem?_eq_none_iff] at h
  rw [quoR, List.drop_eq_nil_of_le h]; rfl
theorem ql_nil (h : L[i]? = none) : L.drop i = [] := List.drop_eq_nil_of_le (List.getElem?_eq_none_iff.1 h)
theorem ql_bad (h : L[i]? = some c) (h1 : c ≠ 34) (h2 : prn c = false) : quoR L i = none := by
  rw [quoR, ql_drop h]
  cases hd : L.drop (i + 1) with
  | nil => simp only [quo]; rw [if_neg h1]
  | cons d r => simp only [quo]; rw [if_neg h1, if_pos h2]
theorem ql_stop (h : L[i]? = some 34) (h1 : ∀ d, L[i + 1]? = some d → d = 32 ∨ d = 61) : quoR L i = some ([], 1) := by
  rw [quoR, ql_drop h]
  cases hd : L[i + 1]? with
  | none => rw [ql_nil hd]; rfl
  | some d =>
    rw [ql_drop hd]
    simp only [quo, if_true]
    rw [if_pos (h1 d hd)]
theorem ql_no (h : L[i]? = some 34) (hd : L[i + 1]? = some d) (h1 : d ≠ 32) (h2 : d ≠ 61) : quoR L i = none := by
  rw [quoR, ql_drop h, ql_drop hd]
  simp only [quo, if_true]
  rw [if_neg (by rintro (e | e); exact h1 e; exact h2 e)]
theorem ql_esc (h : L[i]? = some 42) (hd : L[i + 1]? = some d) (h1 : d = 34 ∨ d = 42) : quoR L i = (quoR L (i + 2)).map fun x => (d :: x.1, x.2 + 2) := by
  rw [quoR, ql_drop h, ql_drop hd]
  simp only [quo]
  rw [if_neg (by decide), if_neg (by decide), if_pos (by simp [h1])]
  rfl
theorem ql_n (h : L[i]? = some 42) (hd : L[i + 1]? = some 110) : quoR L i = (quoR L (i + 2)).map fun x => (10 :: x.1, x.2 + 2) := by
  rw [quoR, ql_drop h, ql_drop hd]
  simp only [quo]
  rw [if_neg (by decide), if_neg (by decide), if_neg (by decide), if_pos (by simp)]
  rfl
theorem ql_oth (h : L[i]? = some c) (hp : prn c = true) (hc : c ≠ 34) (h1 : ∀ d, L[i + 1]? = some d → c = 42 → d ≠ 34 ∧ d ≠ 42 ∧ d ≠ 110) : quoR L i = (quoR L (i + 1)).map fun x => (c :: x.1, x.2 + 1) := by
  unfold quoR
  rw [ql_drop h]
  cases hd : L[i + 1]? with
  | none =>
    rw [ql_nil hd]
    simp only [quo]
    rw [if_neg hc]
    rfl
  | some d =>
    rw [ql_drop hd]
    simp only [quo]
    rw [if_neg hc, if_neg (by rw [hp]; decide), if_neg, if_neg]
    · rintro ⟨e1, e2⟩; exact (h1 d hd e1).2.2 e2
    · rintro ⟨e1, e2 | e2⟩
      · exact (h1 d hd e1).1 e2
      · exact (h1 d hd e1).2.1 e2
end

theorem resP_k2 (e : Env) (s : St) (a b c n : Nat) (Q : Value → St → Prop) : resP e s [(a, n + 2), (b, 0), (c, 0)] Q = getE e a fun u => ropK (.loadN n) [u] s fun x => getE e b fun v => getE e c fun w => Q (.tuple #[x, v, w]) s := by
  unfold resP getE ropK
  simp only [resE, res1E]
  cases e.get? a with
  | none => rfl
  | some u =>
    simp only
    cases rop (.loadN n) [u] s with
    | none => rfl
    | some x =>
      simp only
      cases e.get? b with
      | none => rfl
      | some v =>
        simp only
        cases e.get? c with
        | none => rfl
        | some w => rfl
attribute [local irreducible] callO wopK ropK popK opK grpsE listE sx Runs

theorem rk_put4 {s : St} {b g : Nat} {ro : Bool} {x y z u : Value} (K : Value → Prop) : ropK (.loadN 4) [.pointer (some ⟨b, 0, none⟩)] (s.put b (some (.row [x, y, z, u] g ro))) K = K (.agg #[x, y, z, u]) := rk_loadAll (k := 4) (get_put_same _ _ _) rfl (by decide) K

/-- what the chapter's next gives -/
def WdR (L : List UInt8) (p : Nat) (v : Value) (more good : Bool) : Prop := match nxt L p with
  | .fin => more = false ∧ good = true ∧ v = .agg #[.string .empty, .bool false, .int .i64 0, .int .i64 0]
  | .bad fr => more = true ∧ good = false ∧ ∃ s q to, v = .agg #[.string s, .bool q, .int .i64 (fr : Nat), .int .i64 to]
  | .wd w q fr to => more = true ∧ good = true ∧ v = .agg #[.string (bs w), .bool q, .int .i64 (fr : Nat), .int .i64 (to : Nat)]

section
variable {st : St} {K : Value → St → Prop}

set_option maxHeartbeats 4000000 in
theorem kNextR (n : Nat) (s : ByteArray) (hs : s.size ≤ 80000) (p : Nat) (hp : p ≤ s.size) (h : ∀ v more good st', WdR s.data.toList p v more good → Frm st st' → K (.tuple #[v, .bool more, .bool good]) st') :
    callK (callO T0 orc fns 100000 (n + 1)) 45 [.string s, .int .i64 (p : Nat)] st K := by
  refine fn_runs (fn := g45) ?_ ?_ ?_
  · rfl
  · rfl
  unfold g45
  have hsz := size_list s
  have F0 : Frm st (st.new (.row [.string .empty, .bool false, .int .i64 0, .int .i64 0] 0 false)) := Frm.new st _
  have hbx : (st.new (.row [.string .empty, .bool false, .int .i64 0, .int .i64 0] 0 false)).get st.next = some (.row [.string .empty, .bool false, .int .i64 0, .int .i64 0] 0 false) := get_new_same _ _
  have hn1 : (st.new (.row [.string .empty, .bool false, .int .i64 0, .int .i64 0] 0 false)).next = st.next + 1 := rfl
  simp (disch := omega) only [↓sxA, ↓wk_store, sxB, sxP, Nat.reduceLeDiff, reduceCtorEq, Nat.reduceEqDiff, Nat.reduceAdd, Int.reduceLT, Int.reduceLE, Int.reduceEq, Nat.reduceLT, Int.reduceToNat, Int.reduceAdd, Int.reduceSub, ↓reduceIte]
  generalize st.new (.row [.string .empty, .bool false, .int .i64 0, .int .i64 0] 0 false) = s1 at F0 hbx hn1
  refine loop_rule [0, 1, 4] (fun vs st' => st' = s1 ∧ ∃ j : Nat, vs = [.string s, .int .i64 (j : Nat), .pointer (some ⟨st.next, 0, none⟩)] ∧ j ≤ s.size ∧ blk s.data.toList j = blk s.data.toList p) (fun vs _ => match lget vs 1 with
      | .int _ k => ((s.size : Int) - k).toNat
      | _ => 0) ?_ ?_ ?_
  · rfl
  · refine ⟨_, rfl, ⟨rfl, p, rfl, hp, rfl⟩, ?_⟩
    show ((s.size : Int) - (p : Int)).toNat < 100000
    omega
  · rintro vs st' ⟨rfl, j, rfl, j1, j2⟩
    show sx _ _ _ _ _ [(0, _), (1, _), (4, _)] _ _ _ _
    have hF : ∀ o, Frm st (st'.put st.next o) := fun o => F0.put _ (Nat.le_refl _) _
    by_cases hj : j < s.size
    · obtain ⟨c, hc, hg, hb'⟩ := byte_at s j hj
      by_cases c1 : (c.toNat : Int) = 32
      · have hq1 : ((c.toNat : Int) = 32) = True := eq_true c1
        simp (disch := omega) only [q_indexStr, Int.toNat_natCast, hg, hq1, ↓sxA, ↓wk_store, sxB, sxP, Nat.reduceLeDiff, reduceCtorEq, Nat.reduceEqDiff, Nat.reduceAdd, Int.reduceLT, Int.reduceLE, Int.reduceEq, Nat.reduceLT, Int.reduceToNat, Int.reduceAdd, Int.reduceSub, ↓reduceIte]
        refine ⟨_, rfl, ⟨j + 1, ?_, hj, ?_⟩, ?_⟩
        · simp
        · rw [← blk_hit (by rw [hc, u8_eq c1]; rfl), j2]
        · show ((s.size : Int) - ((j : Int) + 1)).toNat < ((s.size : Int) - j).toNat
          omega
      have hq1 : ((c.toNat : Int) = 32) = False := eq_false c1
      have hbj : blk s.data.toList p = j := by rw [← j2, blk_stop (by rw [hc]; intro e; cases e; exact c1 rfl)]
      have hcb : s.data.toList[blk s.data.toList p]? = some c := by rw [hbj]; exact hc
      by_cases c2 : (c.toNat : Int) = 61
      · have hq2 : ((c.toNat : Int) = 61) = True := eq_true c2
        have e61 : c = 61 := u8_eq c2
        have hW : WdR s.data.toList p (.agg #[.string ⟨#[61]⟩, .bool false, .int .i64 (j : Nat), .int .i64 ((j : Int) + 1)]) true true := by
          have hn : nxt s.data.toList p = .wd [61] false j (j + 1) := by unfold nxt; rw [hcb, hbj]; simp only; rw [if_pos e61]
          unfold WdR
          rw [hn]
          exact ⟨rfl, rfl, by simp; rfl⟩
        simp (disch := omega) only [q_indexStr, Int.toNat_natCast, hg, hq1, hq2, hbx, ↓rk_put4, ↓sxA, ↓wk_store, sxB, sxP, Nat.reduceLeDiff, reduceCtorEq, Nat.reduceEqDiff, Nat.reduceAdd, Int.reduceLT, Int.reduceLE, Int.reduceEq, Nat.reduceLT, Int.reduceToNat, Int.reduceAdd, Int.reduceSub, ↓reduceIte]
        rw [resP_k2]
        simp (disch := omega) only [↓rk_put4, ↓sxA, ↓wk_store, sxB, sxP, Nat.reduceLeDiff, reduceCtorEq, Nat.reduceEqDiff, Nat.reduceAdd, Int.reduceLT, Int.reduceLE, Int.reduceEq, Nat.reduceLT, Int.reduceToNat, Int.reduceAdd, Int.reduceSub, ↓reduceIte]
        exact h _ _ _ _ hW (((hF _).put _ (Nat.le_refl _) _).put _ (Nat.le_refl _) _ |>.put _ (Nat.le_refl _) _)
      have hq2 : ((c.toNat : Int) = 61) = False := eq_false c2
      have n61 : c ≠ 61 := fun e => c2 (by rw [e]; rfl)
      by_cases c3 : (c.toNat : Int) = 34
      · have hq3 : ((c.toNat : Int) = 34) = True := eq_true c3
        have e34 : c = 34 := u8_eq c3
        have hnQ : ∀ x, quoR s.data.toList (j + 1) = some x → nxt s.data.toList p = .wd x.1 true j (j + 1 + x.2) := fun x hx => by
          unfold nxt; rw [hcb, hbj]; simp only
          rw [if_neg n61, if_pos e34]
          unfold quoR at hx; rw [hx]
        have hnQ0 : quoR s.data.toList (j + 1) = none → nxt s.data.toList p = .bad j := fun hx => by
          unfold nxt; rw [hcb, hbj]; simp only
          rw [if_neg n61, if_pos e34]
          unfold quoR at hx; rw [hx]
        simp (disch := omega) only [q_indexStr, Int.toNat_natCast, hg, hq1, hq2, hq3, hbx, ↓sxA, ↓wk_store, sxB, sxP, Nat.reduceLeDiff, reduceCtorEq, Nat.reduceEqDiff, Nat.reduceAdd, Int.reduceLT, Int.reduceLE, Int.reduceEq, Nat.reduceLT, Int.reduceToNat, Int.reduceAdd, Int.reduceSub, ↓reduceIte]
        obtain ⟨s2, hs2⟩ : ∃ s2, s2 = (st'.put st.next (some (.row [.string .empty, .bool false, .int .i64 (j : Nat), .int .i64 0] 0 false))).put st.next (some (.row [.string .empty, .bool true, .int .i64 (j : Nat), .int .i64 0] 0 false)) := ⟨_, rfl⟩
        have hb2 : s2.get st.next = some (.row [.string .empty, .bool true, .int .i64 (j : Nat), .int .i64 0] 0 false) := by rw [hs2]; exact get_put_same _ _ _
        have F2 : Frm st s2 := by rw [hs2]; exact (hF _).put _ (Nat.le_refl _) _
        have n2 : s2.next = st.next + 1 := by rw [hs2]; exact hn1
        rw [← hs2]
        clear hs2
        refine loop_rule [0, 1, 4, 7] (fun vs s3 => ∃ (i : Nat) (acc : List UInt8) (out : Value), vs = [.string s, .int .i64 (i : Nat), .pointer (some ⟨st.next, 0, none⟩), out] ∧ j + 1 ≤ i ∧ i ≤ s.size ∧ acc.length ≤ i ∧ Wr s2 s3 out acc ∧ quoR s.data.toList (j + 1) = (quoR s.data.toList i).map fun x => (acc ++ x.1, x.2 + (i - (j + 1)))) (fun vs _ => match lget vs 1 with
            | .int _ k => ((s.size : Int) - k).toNat
            | _ => 0) ?_ ?_ ?_
        · rfl
        · refine ⟨_, rfl, ⟨j + 1, [], _, by simp, Nat.le_refl _, hj, Nat.zero_le _, ⟨Gro.nil _, .inl rfl, Nat.zero_le _, Frm.refl _⟩, by simp⟩, ?_⟩
          show ((s.size : Int) - ((j : Int) + 1)).toNat < 100000
          omega
        · rintro vs s3 ⟨i, acc, out, rfl, i1, i2, hac, hW, hQ⟩
          show sx _ _ _ _ _ [(0, _), (1, _), (4, _), (7, _)] _ _ _ _
          have hb3 := (hW.2.2.2.old st.next (by omega)).trans hb2
          have n3 := hW.2.2.2.nx
          have F3 : Frm st s3 := F2.trans hW.2.2.2
          have bad : quoR s.data.toList (j + 1) = none → ∀ w to st5, Frm st st5 → K (.tuple #[.agg #[.string w, .bool true, .int .i64 (j : Nat), .int .i64 to], .bool true, .bool false]) st5 := fun hq w to st5 hf => by
            refine h _ _ _ _ ?_ hf
            unfold WdR
            rw [hnQ0 hq]
            exact ⟨rfl, rfl, _, _, _, rfl⟩
          have all3 := rk_loadAll (k := 4) hb3 rfl (by decide)
          have F3p : ∀ o, Frm st (s3.put st.next o) := fun o => F3.put _ (Nat.le_refl _) _
          by_cases hi : i < s.size
          · obtain ⟨d, hd, hgd, hbd⟩ := byte_at s i hi
            by_cases d1 : prn d = true
            · have hp1 : ¬ (d.toNat : Int) < 32 := by simp [prn] at d1; omega
              have hp2 : ¬ (126 : Int) < (d.toNat : Int) := by simp [prn] at d1; omega
              have app : ∀ (e : UInt8) (m : Nat) (W : Value → St → Prop), quoR s.data.toList i = ((quoR s.data.toList (i + m)).map fun x => (e :: x.1, x.2 + m)) → (∀ out1 s4, Wr s2 s4 out1 (acc ++ [e]) → quoR s.data.toList (j + 1) = ((quoR s.data.toList (i + m)).map fun x => (acc ++ [e] ++ x.1, x.2 + (i + m - (j + 1)))) → W out1 s4) →
                  wopK (.append 1 1) [out, .slice (some ⟨s3.next, 0, none⟩) 1 1] (s3.new (.row [.int .u8 (e.toNat : Int)] 0 false)) W := fun e m W hq hW' => by
                refine Wr.row (m := [e]) hW rfl Nat.zero_lt_one (by simp; omega) fun out1 s4 g1 g2 g3 g4 => hW' out1 s4 g1 ?_
                exact quo_pre (by omega) hQ hq
              have hmeas1 : ((s.size : Int) - ((i : Int) + 1)).toNat < ((s.size : Int) - (i : Int)).toNat := by omega
              have hmeas2 : ((s.size : Int) - ((i : Int) + 1 + 1)).toNat < ((s.size : Int) - (i : Int)).toNat := by omega
              by_cases d2 : (d.toNat : Int) = 34
              · have hd2 : ((d.toNat : Int) = 34) = True := eq_true d2
                have e2 : d = 34 := u8_eq d2
                subst e2
                have rs := fun K => rk_str (K := K) hW.1
                have good : quoR s.data.toList i = some ([], 1) → ∀ st5, Frm st st5 → K (.tuple #[.agg #[.string (bs acc), .bool true, .int .i64 (j : Nat), .int .i64 ((i : Int) + 1)], .bool true, .bool true]) st5 := fun hq st5 hf => by
                  refine h _ _ _ _ ?_ hf
                  unfold WdR
                  rw [hnQ _ (by rw [hQ, hq]; rfl)]
                  refine ⟨rfl, rfl, ?_⟩
                  have hsum : ((j + 1 + (1 + (i - (j + 1))) : Nat) : Int) = (i : Int) + 1 := by omega
                  simp only [List.append_nil, hsum]
                have bad' : quoR s.data.toList i = none → ∀ st5, Frm st st5 → K (.tuple #[.agg #[.string (bs acc), .bool true, .int .i64 (j : Nat), .int .i64 ((i : Int) + 1)], .bool true, .bool false]) st5 := fun hq st5 hf => bad (by rw [hQ, hq]; rfl) _ _ _ hf
                by_cases hi1 : i + 1 < s.size
                · obtain ⟨e, he, hge, hbe⟩ := byte_at s (i + 1) hi1
                  have hcast : (i : Int) + 1 = ((i + 1 : Nat) : Int) := by omega
                  have hix : ∀ K' : Value → Prop, popK .indexStr [.string s, .int .i64 ((i : Int) + 1)] K' = K' (.int .u8 (e.toNat : Int)) := fun K' => by
                    rw [hcast, q_indexStr s .i64 _ (by omega) (by omega), Int.toNat_natCast, hge]
                  by_cases x1 : (e.toNat : Int) = 32
                  · have hx1 : ((e.toNat : Int) = 32) = True := eq_true x1
                    simp (disch := omega) only [q_indexStr, Int.toNat_natCast, hgd, hd2, hb3, ↓rs, ↓rk_put4, ↓hix, hx1, ↓sxA, ↓wk_store, sxB, sxP, Nat.reduceLeDiff, reduceCtorEq, Nat.reduceEqDiff, Nat.reduceAdd, Int.reduceLT, Int.reduceLE, Int.reduceEq, Nat.reduceLT, Int.reduceToNat, Int.reduceAdd, Int.reduceSub, ↓reduceIte]
                    rw [resP_k2]
                    simp (disch := omega) only [↓rk_put4, ↓sxA, ↓wk_store, sxB, sxP, Nat.reduceLeDiff, reduceCtorEq, Nat.reduceEqDiff, Nat.reduceAdd, Int.reduceLT, Int.reduceLE, Int.reduceEq, Nat.reduceLT, Int.reduceToNat, Int.reduceAdd, Int.reduceSub, ↓reduceIte]
                    exact good (ql_stop hd fun y hy => by rw [he] at hy; cases hy; exact .inl (u8_eq x1)) _ (((F3p _).put _ (Nat.le_refl _) _).put _ (Nat.le_refl _) _)
                  · have hx1 : ((e.toNat : Int) = 32) = False := eq_false x1
                    by_cases x2 : (e.toNat : Int) = 61
                    · have hx2 : ((e.toNat : Int) = 61) = True := eq_true x2
                      simp (disch := omega) only [q_indexStr, Int.toNat_natCast, hgd, hd2, hb3, ↓rs, ↓rk_put4, ↓hix, hx1, hx2, ↓sxA, ↓wk_store, sxB, sxP, Nat.reduceLeDiff, reduceCtorEq, Nat.reduceEqDiff, Nat.reduceAdd, Int.reduceLT, Int.reduceLE, Int.reduceEq, Nat.reduceLT, Int.reduceToNat, Int.reduceAdd, Int.reduceSub, ↓reduceIte]
                      rw [resP_k2]
                      simp (disch := omega) only [↓rk_put4, ↓sxA, ↓wk_store, sxB, sxP, Nat.reduceLeDiff, reduceCtorEq, Nat.reduceEqDiff, Nat.reduceAdd, Int.reduceLT, Int.reduceLE, Int.reduceEq, Nat.reduceLT, Int.reduceToNat, Int.reduceAdd, Int.reduceSub, ↓reduceIte]
                      exact good (ql_stop hd fun y hy => by rw [he] at hy; cases hy; exact .inr (u8_eq x2)) _ (((F3p _).put _ (Nat.le_refl _) _).put _ (Nat.le_refl _) _)
                    · have hx2 : ((e.toNat : Int) = 61) = False := eq_false x2
                      simp (disch := omega) only [q_indexStr, Int.toNat_natCast, hgd, hd2, hb3, ↓rs, ↓rk_put4, ↓hix, hx1, hx2, ↓sxA, ↓wk_store, sxB, sxP, Nat.reduceLeDiff, reduceCtorEq, Nat.reduceEqDiff, Nat.reduceAdd, Int.reduceLT, Int.reduceLE, Int.reduceEq, Nat.reduceLT, Int.reduceToNat, Int.reduceAdd, Int.reduceSub, ↓reduceIte]
                      rw [resP_k2]
                      simp (disch := omega) only [↓rk_put4, ↓sxA, ↓wk_store, sxB, sxP, Nat.reduceLeDiff, reduceCtorEq, Nat.reduceEqDiff, Nat.reduceAdd, Int.reduceLT, Int.reduceLE, Int.reduceEq, Nat.reduceLT, Int.reduceToNat, Int.reduceAdd, Int.reduceSub, ↓reduceIte]
                      exact bad' (ql_no hd he (fun e => x1 (by rw [e]; rfl)) (fun e => x2 (by rw [e]; rfl))) _ (((F3p _).put _ (Nat.le_refl _) _).put _ (Nat.le_refl _) _)
                · simp (disch := omega) only [q_indexStr, Int.toNat_natCast, hgd, hd2, hb3, ↓rs, ↓rk_put4, ↓sxA, ↓wk_store, sxB, sxP, Nat.reduceLeDiff, reduceCtorEq, Nat.reduceEqDiff, Nat.reduceAdd, Int.reduceLT, Int.reduceLE, Int.reduceEq, Nat.reduceLT, Int.reduceToNat, Int.reduceAdd, Int.reduceSub, ↓reduceIte]
                  rw [resP_k2]
                  simp (disch := omega) only [↓rk_put4, ↓sxA, ↓wk_store, sxB, sxP, Nat.reduceLeDiff, reduceCtorEq, Nat.reduceEqDiff, Nat.reduceAdd, Int.reduceLT, Int.reduceLE, Int.reduceEq, Nat.reduceLT, Int.reduceToNat, Int.reduceAdd, Int.reduceSub, ↓reduceIte]
                  exact good (ql_stop hd fun y hy => by rw [byte_no s (i + 1) (by omega)] at hy; cases hy) _ (((F3p _).put _ (Nat.le_refl _) _).put _ (Nat.le_refl _) _)
              · have hd2 : ((d.toNat : Int) = 34) = False := eq_false d2
                have n34 : d ≠ 34 := fun e => d2 (by rw [e]; rfl)
                by_cases d3 : (d.toNat : Int) = 42
                · have hd3 : ((d.toNat : Int) = 42) = True := eq_true d3
                  have e42 : d = 42 := u8_eq d3
                  subst e42
                  by_cases hi1 : i + 1 < s.size
                  · obtain ⟨e, he, hge, hbe⟩ := byte_at s (i + 1) hi1
                    have hcast : (i : Int) + 1 = ((i + 1 : Nat) : Int) := by omega
                    have hix : ∀ K' : Value → Prop, popK .indexStr [.string s, .int .i64 ((i : Int) + 1)] K' = K' (.int .u8 (e.toNat : Int)) := fun K' => by
                      rw [hcast, q_indexStr s .i64 _ (by omega) (by omega), Int.toNat_natCast, hge]
                    by_cases x1 : (e.toNat : Int) = 34
                    · have hx1 : ((e.toNat : Int) = 34) = True := eq_true x1
                      have hx3 : ((e.toNat : Int) = 110) = False := eq_false (by omega)
                      simp (disch := omega) only [q_indexStr, Int.toNat_natCast, hgd, hd2, hd3, ↓hix, hx1, hx3, ↓sxA, ↓wk_store, sxB, sxP, Nat.reduceLeDiff, reduceCtorEq, Nat.reduceEqDiff, Nat.reduceAdd, Int.reduceLT, Int.reduceLE, Int.reduceEq, Nat.reduceLT, Int.reduceToNat, Int.reduceAdd, Int.reduceSub, ↓reduceIte]
                      refine app e 2 _ (ql_esc hd he (.inl (u8_eq x1))) fun out1 s4 g1 g2 => ?_
                      simp (disch := omega) only [↓sxA, ↓wk_store, sxB, sxP, Nat.reduceLeDiff, reduceCtorEq, Nat.reduceEqDiff, Nat.reduceAdd, Int.reduceLT, Int.reduceLE, Int.reduceEq, Nat.reduceLT, Int.reduceToNat, Int.reduceAdd, Int.reduceSub, ↓reduceIte]
                      exact ⟨_, rfl, ⟨i + 2, acc ++ [e], out1, by simp; omega, by omega, by omega, by simp; omega, g1, g2⟩, hmeas2⟩
                    · have hx1 : ((e.toNat : Int) = 34) = False := eq_false x1
                      by_cases x2 : (e.toNat : Int) = 42
                      · have hx2 : ((e.toNat : Int) = 42) = True := eq_true x2
                        have hx3 : ((e.toNat : Int) = 110) = False := eq_false (by omega)
                        simp (disch := omega) only [q_indexStr, Int.toNat_natCast, hgd, hd2, hd3, ↓hix, hx1, hx2, hx3, ↓sxA, ↓wk_store, sxB, sxP, Nat.reduceLeDiff, reduceCtorEq, Nat.reduceEqDiff, Nat.reduceAdd, Int.reduceLT, Int.reduceLE, Int.reduceEq, Nat.reduceLT, Int.reduceToNat, Int.reduceAdd, Int.reduceSub, ↓reduceIte]
                        refine app e 2 _ (ql_esc hd he (.inr (u8_eq x2))) fun out1 s4 g1 g2 => ?_
                        simp (disch := omega) only [↓sxA, ↓wk_store, sxB, sxP, Nat.reduceLeDiff, reduceCtorEq, Nat.reduceEqDiff, Nat.reduceAdd, Int.reduceLT, Int.reduceLE, Int.reduceEq, Nat.reduceLT, Int.reduceToNat, Int.reduceAdd, Int.reduceSub, ↓reduceIte]
                        exact ⟨_, rfl, ⟨i + 2, acc ++ [e], out1, by simp; omega, by omega, by omega, by simp; omega, g1, g2⟩, hmeas2⟩
                      · have hx2 : ((e.toNat : Int) = 42) = False := eq_false x2
                        by_cases x3 : (e.toNat : Int) = 110
                        · have hx3 : ((e.toNat : Int) = 110) = True := eq_true x3
                          simp (disch := omega) only [q_indexStr, Int.toNat_natCast, hgd, hd2, hd3, ↓hix, hx1, hx2, hx3, ↓sxA, ↓wk_store, sxB, sxP, Nat.reduceLeDiff, reduceCtorEq, Nat.reduceEqDiff, Nat.reduceAdd, Int.reduceLT, Int.reduceLE, Int.reduceEq, Nat.reduceLT, Int.reduceToNat, Int.reduceAdd, Int.reduceSub, ↓reduceIte]
                          refine app 10 2 _ (ql_n hd (by rw [he, u8_eq x3]; rfl)) fun out1 s4 g1 g2 => ?_
                          simp (disch := omega) only [↓sxA, ↓wk_store, sxB, sxP, Nat.reduceLeDiff, reduceCtorEq, Nat.reduceEqDiff, Nat.reduceAdd, Int.reduceLT, Int.reduceLE, Int.reduceEq, Nat.reduceLT, Int.reduceToNat, Int.reduceAdd, Int.reduceSub, ↓reduceIte]
                          exact ⟨_, rfl, ⟨i + 2, acc ++ [10], out1, by simp; omega, by omega, by omega, by simp; omega, g1, g2⟩, hmeas2⟩
                        · have hx3 : ((e.toNat : Int) = 110) = False := eq_false x3
                          simp (disch := omega) only [q_indexStr, Int.toNat_natCast, hgd, hd2, hd3, ↓hix, hx1, hx2, hx3, ↓sxA, ↓wk_store, sxB, sxP, Nat.reduceLeDiff, reduceCtorEq, Nat.reduceEqDiff, Nat.reduceAdd, Int.reduceLT, Int.reduceLE, Int.reduceEq, Nat.reduceLT, Int.reduceToNat, Int.reduceAdd, Int.reduceSub, ↓reduceIte]
                          refine app 42 1 _ (ql_oth hd d1 n34 fun y hy _ => ?_) fun out1 s4 g1 g2 => ?_
                          · rw [he] at hy; cases hy
                            exact ⟨fun e => x1 (by rw [e]; rfl), fun e => x2 (by rw [e]; rfl), fun e => x3 (by rw [e]; rfl)⟩
                          simp (disch := omega) only [↓sxA, ↓wk_store, sxB, sxP, Nat.reduceLeDiff, reduceCtorEq, Nat.reduceEqDiff, Nat.reduceAdd, Int.reduceLT, Int.reduceLE, Int.reduceEq, Nat.reduceLT, Int.reduceToNat, Int.reduceAdd, Int.reduceSub, ↓reduceIte]
                          exact ⟨_, rfl, ⟨i + 1, acc ++ [42], out1, by simp, by omega, by omega, by simp; omega, g1, g2⟩, hmeas1⟩
                  · simp (disch := omega) only [q_indexStr, Int.toNat_natCast, hgd, hd2, hd3, ↓sxA, ↓wk_store, sxB, sxP, Nat.reduceLeDiff, reduceCtorEq, Nat.reduceEqDiff, Nat.reduceAdd, Int.reduceLT, Int.reduceLE, Int.reduceEq, Nat.reduceLT, Int.reduceToNat, Int.reduceAdd, Int.reduceSub, ↓reduceIte]
                    refine app 42 1 _ (ql_oth hd d1 n34 fun y hy _ => ?_) fun out1 s4 g1 g2 => ?_
                    · rw [byte_no s (i + 1) (by omega)] at hy; cases hy
                    simp (disch := omega) only [↓sxA, ↓wk_store, sxB, sxP, Nat.reduceLeDiff, reduceCtorEq, Nat.reduceEqDiff, Nat.reduceAdd, Int.reduceLT, Int.reduceLE, Int.reduceEq, Nat.reduceLT, Int.reduceToNat, Int.reduceAdd, Int.reduceSub, ↓reduceIte]
                    exact ⟨_, rfl, ⟨i + 1, acc ++ [42], out1, by simp, by omega, by omega, by simp; omega, g1, g2⟩, hmeas1⟩
                · have hd3 : ((d.toNat : Int) = 42) = False := eq_false d3
                  have hpe1 : ((d.toNat : Int) < 32) = False := eq_false hp1
                  have hpe2 : ((126 : Int) < (d.toNat : Int)) = False := eq_false hp2
                  simp (disch := omega) only [q_indexStr, Int.toNat_natCast, hgd, hd2, hd3, hpe1, hpe2, ↓sxA, ↓wk_store, sxB, sxP, Nat.reduceLeDiff, reduceCtorEq, Nat.reduceEqDiff, Nat.reduceAdd, Int.reduceLT, Int.reduceLE, Int.reduceEq, Nat.reduceLT, Int.reduceToNat, Int.reduceAdd, Int.reduceSub, ↓reduceIte]
                  refine app d 1 _ (ql_oth hd d1 n34 fun y hy e => absurd e fun e => d3 (by rw [e]; rfl)) fun out1 s4 g1 g2 => ?_
                  simp (disch := omega) only [↓sxA, ↓wk_store, sxB, sxP, Nat.reduceLeDiff, reduceCtorEq, Nat.reduceEqDiff, Nat.reduceAdd, Int.reduceLT, Int.reduceLE, Int.reduceEq, Nat.reduceLT, Int.reduceToNat, Int.reduceAdd, Int.reduceSub, ↓reduceIte]
                  exact ⟨_, rfl, ⟨i + 1, acc ++ [d], out1, by simp, by omega, by omega, by simp; omega, g1, g2⟩, hmeas1⟩
            · have d1' : prn d = false := by simpa using d1
              have hq : quoR s.data.toList i = none := ql_bad hd (fun e => d1 (by rw [e]; rfl)) d1'
              have hbq := bad (by rw [hQ, hq]; rfl)
              simp (disch := omega) only [q_indexStr, Int.toNat_natCast, hgd, hb3, ↓all3, ↓sxA, ↓wk_store, sxB, sxP, Nat.reduceLeDiff, reduceCtorEq, Nat.reduceEqDiff, Nat.reduceAdd, Int.reduceLT, Int.reduceLE, Int.reduceEq, Nat.reduceLT, Int.reduceToNat, Int.reduceAdd, Int.reduceSub, ↓reduceIte]
              refine iteI (fun x1 => ?_) (fun x1 => iteI (fun x2 => ?_) (fun x2 => ?_))
              · simp (disch := omega) only [hb3, ↓all3, ↓sxA, ↓wk_store, sxB, sxP, Nat.reduceLeDiff, reduceCtorEq, Nat.reduceEqDiff, Nat.reduceAdd, Int.reduceLT, Int.reduceLE, Int.reduceEq, Nat.reduceLT, Int.reduceToNat, Int.reduceAdd, Int.reduceSub, ↓reduceIte]
                rw [resP_k2]
                simp (disch := omega) only [↓rk_put4, ↓sxA, ↓wk_store, sxB, sxP, Nat.reduceLeDiff, reduceCtorEq, Nat.reduceEqDiff, Nat.reduceAdd, Int.reduceLT, Int.reduceLE, Int.reduceEq, Nat.reduceLT, Int.reduceToNat, Int.reduceAdd, Int.reduceSub, ↓reduceIte]
                exact hbq _ _ _ (F3p _)
              · simp (disch := omega) only [hb3, ↓all3, ↓sxA, ↓wk_store, sxB, sxP, Nat.reduceLeDiff, reduceCtorEq, Nat.reduceEqDiff, Nat.reduceAdd, Int.reduceLT, Int.reduceLE, Int.reduceEq, Nat.reduceLT, Int.reduceToNat, Int.reduceAdd, Int.reduceSub, ↓reduceIte]
                rw [resP_k2]
                simp (disch := omega) only [↓rk_put4, ↓sxA, ↓wk_store, sxB, sxP, Nat.reduceLeDiff, reduceCtorEq, Nat.reduceEqDiff, Nat.reduceAdd, Int.reduceLT, Int.reduceLE, Int.reduceEq, Nat.reduceLT, Int.reduceToNat, Int.reduceAdd, Int.reduceSub, ↓reduceIte]
                exact hbq _ _ _ (F3p _)
              · exfalso
                refine d1 ?_
                simp [prn]; omega
          · have hbq := bad (by rw [hQ, ql_end (byte_no s i (by omega))]; rfl)
            simp (disch := omega) only [hb3, ↓all3, ↓sxA, ↓wk_store, sxB, sxP, Nat.reduceLeDiff, reduceCtorEq, Nat.reduceEqDiff, Nat.reduceAdd, Int.reduceLT, Int.reduceLE, Int.reduceEq, Nat.reduceLT, Int.reduceToNat, Int.reduceAdd, Int.reduceSub, ↓reduceIte]
            rw [resP_k2]
            simp (disch := omega) only [↓rk_put4, ↓sxA, ↓wk_store, sxB, sxP, Nat.reduceLeDiff, reduceCtorEq, Nat.reduceEqDiff, Nat.reduceAdd, Int.reduceLT, Int.reduceLE, Int.reduceEq, Nat.reduceLT, Int.reduceToNat, Int.reduceAdd, Int.reduceSub, ↓reduceIte]
            exact hbq _ _ _ (F3p _)
      have hq3 : ((c.toNat : Int) = 34) = False := eq_false c3
      have n34 : c ≠ 34 := fun e => c3 (by rw [e]; rfl)
      simp (disch := omega) only [q_indexStr, Int.toNat_natCast, hg, hq1, hq2, hq3, hbx, ↓sxA, ↓wk_store, sxB, sxP, Nat.reduceLeDiff, reduceCtorEq, Nat.reduceEqDiff, Nat.reduceAdd, Int.reduceLT, Int.reduceLE, Int.reduceEq, Nat.reduceLT, Int.reduceToNat, Int.reduceAdd, Int.reduceSub, ↓reduceIte]
      obtain ⟨s2, hs2⟩ : ∃ s2, s2 = st'.put st.next (some (.row [.string .empty, .bool false, .int .i64 (j : Nat), .int .i64 0] 0 false)) := ⟨_, rfl⟩
      have hb2 : s2.get st.next = some (.row [.string .empty, .bool false, .int .i64 (j : Nat), .int .i64 0] 0 false) := by rw [hs2]; exact get_put_same _ _ _
      have F2 : Frm st s2 := by rw [hs2]; exact hF _
      rw [← hs2]
      clear hs2
      refine loop_rule [0, 1, 4] (fun vs s3 => s3 = s2 ∧ ∃ i : Nat, vs = [.string s, .int .i64 (i : Nat), .pointer (some ⟨st.next, 0, none⟩)] ∧ j ≤ i ∧ i ≤ s.size ∧ pwE s.data.toList i = pwE s.data.toList j ∧ ((s.data.toList.drop j).take (i - j)).all prn = true) (fun vs _ => match lget vs 1 with
          | .int _ k => ((s.size : Int) - k).toNat
          | _ => 0) ?_ ?_ ?_
      · rfl
      · refine ⟨_, rfl, ⟨rfl, j, rfl, Nat.le_refl _, j1, rfl, by rw [Nat.sub_self]; rfl⟩, ?_⟩
        show ((s.size : Int) - (j : Int)).toNat < 100000
        omega
      · rintro vs s3 ⟨rfl, i, rfl, i1, i2, i3, i4⟩
        show sx _ _ _ _ _ [(0, _), (1, _), (4, _)] _ _ _ _
        have F2p : ∀ o, Frm st (s3.put st.next o) := fun o => F2.put _ (Nat.le_refl _) _
        have hpw : pwE s.data.toList j = j + pw (s.data.toList.drop j) := rfl
        have fin : pwE s.data.toList j = i → ∀ st5, Frm st st5 → K (.tuple #[.agg #[.string (s.extract j i), .bool false, .int .i64 (j : Nat), .int .i64 (i : Nat)], .bool true, .bool true]) st5 := fun e st5 hf => by
          refine h _ _ _ _ ?_ hf
          have e' : pw (s.data.toList.drop j) = i - j := by omega
          have hn : nxt s.data.toList p = .wd ((s.data.toList.drop j).take (i - j)) false j i := by
            unfold nxt; rw [hcb, hbj]; simp only
            rw [if_neg n61, if_neg n34, e', if_pos i4, e]
          unfold WdR
          rw [hn]
          refine ⟨rfl, rfl, ?_⟩
          rw [extract_bs]
        by_cases hi : i < s.size
        · obtain ⟨d, hd, hgd, hbd⟩ := byte_at s i hi
          by_cases x1 : (d.toNat : Int) = 32
          · have hx1 : ((d.toNat : Int) = 32) = True := eq_true x1
            have hend : pwE s.data.toList j = i := by rw [← i3, pwE_stop (fun y hy => by rw [hd] at hy; cases hy; exact .inl (u8_eq x1))]
            simp (disch := omega) only [q_indexStr, q_slBoth, Int.toNat_natCast, hgd, hx1, hb2, ↓rk_put4, ↓sxA, ↓wk_store, sxB, sxP, Nat.reduceLeDiff, reduceCtorEq, Nat.reduceEqDiff, Nat.reduceAdd, Int.reduceLT, Int.reduceLE, Int.reduceEq, Nat.reduceLT, Int.reduceToNat, Int.reduceAdd, Int.reduceSub, ↓reduceIte]
            rw [resP_k2]
            simp (disch := omega) only [↓rk_put4, ↓sxA, ↓wk_store, sxB, sxP, Nat.reduceLeDiff, reduceCtorEq, Nat.reduceEqDiff, Nat.reduceAdd, Int.reduceLT, Int.reduceLE, Int.reduceEq, Nat.reduceLT, Int.reduceToNat, Int.reduceAdd, Int.reduceSub, ↓reduceIte]
            exact fin hend _ (((F2p _).put _ (Nat.le_refl _) _).put _ (Nat.le_refl _) _)
          have hx1 : ((d.toNat : Int) = 32) = False := eq_false x1
          by_cases x2 : (d.toNat : Int) = 61
          · have hx2 : ((d.toNat : Int) = 61) = True := eq_true x2
            have hend : pwE s.data.toList j = i := by rw [← i3, pwE_stop (fun y hy => by rw [hd] at hy; cases hy; exact .inr (u8_eq x2))]
            simp (disch := omega) only [q_indexStr, q_slBoth, Int.toNat_natCast, hgd, hx1, hx2, hb2, ↓rk_put4, ↓sxA, ↓wk_store, sxB, sxP, Nat.reduceLeDiff, reduceCtorEq, Nat.reduceEqDiff, Nat.reduceAdd, Int.reduceLT, Int.reduceLE, Int.reduceEq, Nat.reduceLT, Int.reduceToNat, Int.reduceAdd, Int.reduceSub, ↓reduceIte]
            rw [resP_k2]
            simp (disch := omega) only [↓rk_put4, ↓sxA, ↓wk_store, sxB, sxP, Nat.reduceLeDiff, reduceCtorEq, Nat.reduceEqDiff, Nat.reduceAdd, Int.reduceLT, Int.reduceLE, Int.reduceEq, Nat.reduceLT, Int.reduceToNat, Int.reduceAdd, Int.reduceSub, ↓reduceIte]
            exact fin hend _ (((F2p _).put _ (Nat.le_refl _) _).put _ (Nat.le_refl _) _)
          have hx2 : ((d.toNat : Int) = 61) = False := eq_false x2
          have m32 : d ≠ 32 := fun e => x1 (by rw [e]; rfl)
          have m61 : d ≠ 61 := fun e => x2 (by rw [e]; rfl)
          have hdd : (s.data.toList.drop j)[i - j]? = some d := by rw [List.getElem?_drop, show j + (i - j) = i by omega]; exact hd
          have all3 := rk_loadAll (k := 4) hb2 rfl (by decide)
          have bad : prn d = false → ∀ w q to st5, Frm st st5 → K (.tuple #[.agg #[.string w, .bool q, .int .i64 (j : Nat), .int .i64 to], .bool true, .bool false]) st5 := fun hpd w q to st5 hf => by
            refine h _ _ _ _ ?_ hf
            have hlt : i < pwE s.data.toList j := by
              have := (pwE_lt hd m32 m61).1
              rw [i3] at this
              exact this
            have hn : nxt s.data.toList p = .bad j := by
              unfold nxt; rw [hcb, hbj]; simp only
              rw [if_neg n61, if_neg n34, if_neg]
              intro hall
              rw [List.all_eq_true] at hall
              have := hall d (List.mem_of_getElem? (i := i - j) (by rw [List.getElem?_take_of_lt (by omega)]; exact hdd))
              rw [hpd] at this
              cases this
            unfold WdR
            rw [hn]
            exact ⟨rfl, rfl, _, _, _, rfl⟩
          simp (disch := omega) only [q_indexStr, Int.toNat_natCast, hgd, hx1, hx2, ↓sxA, ↓wk_store, sxB, sxP, Nat.reduceLeDiff, reduceCtorEq, Nat.reduceEqDiff, Nat.reduceAdd, Int.reduceLT, Int.reduceLE, Int.reduceEq, Nat.reduceLT, Int.reduceToNat, Int.reduceAdd, Int.reduceSub, ↓reduceIte]
          refine iteI (fun y1 => ?_) (fun y1 => iteI (fun y2 => ?_) (fun y2 => ?_))
          · simp (disch := omega) only [hb2, ↓all3, ↓sxA, ↓wk_store, sxB, sxP, Nat.reduceLeDiff, reduceCtorEq, Nat.reduceEqDiff, Nat.reduceAdd, Int.reduceLT, Int.reduceLE, Int.reduceEq, Nat.reduceLT, Int.reduceToNat, Int.reduceAdd, Int.reduceSub, ↓reduceIte]
            rw [resP_k2]
            simp (disch := omega) only [↓rk_put4, ↓sxA, ↓wk_store, sxB, sxP, Nat.reduceLeDiff, reduceCtorEq, Nat.reduceEqDiff, Nat.reduceAdd, Int.reduceLT, Int.reduceLE, Int.reduceEq, Nat.reduceLT, Int.reduceToNat, Int.reduceAdd, Int.reduceSub, ↓reduceIte]
            exact bad (by simp [prn]; omega) _ _ _ _ (F2p _)
          · simp (disch := omega) only [hb2, ↓all3, ↓sxA, ↓wk_store, sxB, sxP, Nat.reduceLeDiff, reduceCtorEq, Nat.reduceEqDiff, Nat.reduceAdd, Int.reduceLT, Int.reduceLE, Int.reduceEq, Nat.reduceLT, Int.reduceToNat, Int.reduceAdd, Int.reduceSub, ↓reduceIte]
            rw [resP_k2]
            simp (disch := omega) only [↓rk_put4, ↓sxA, ↓wk_store, sxB, sxP, Nat.reduceLeDiff, reduceCtorEq, Nat.reduceEqDiff, Nat.reduceAdd, Int.reduceLT, Int.reduceLE, Int.reduceEq, Nat.reduceLT, Int.reduceToNat, Int.reduceAdd, Int.reduceSub, ↓reduceIte]
            exact bad (by simp [prn]; omega) _ _ _ _ (F2p _)
          · have hpd : prn d = true := by simp [prn]; omega
            refine ⟨_, rfl, ⟨i + 1, by simp, by omega, hi, by rw [← pwE_hit hd m32 m61, i3], ?_⟩, ?_⟩
            · rw [show i + 1 - j = (i - j) + 1 by omega, List.take_add_one, hdd, List.all_append, i4]; simp [hpd]
            · show ((s.size : Int) - ((i : Int) + 1)).toNat < ((s.size : Int) - i).toNat
              omega
        · have hend : pwE s.data.toList j = i := by rw [← i3, pwE_stop (fun y hy => by rw [byte_no s i (by omega)] at hy; cases hy)]
          simp (disch := omega) only [q_slBoth, Int.toNat_natCast, hb2, ↓rk_put4, ↓sxA, ↓wk_store, sxB, sxP, Nat.reduceLeDiff, reduceCtorEq, Nat.reduceEqDiff, Nat.reduceAdd, Int.reduceLT, Int.reduceLE, Int.reduceEq, Nat.reduceLT, Int.reduceToNat, Int.reduceAdd, Int.reduceSub, ↓reduceIte]
          rw [resP_k2]
          simp (disch := omega) only [↓rk_put4, ↓sxA, ↓wk_store, sxB, sxP, Nat.reduceLeDiff, reduceCtorEq, Nat.reduceEqDiff, Nat.reduceAdd, Int.reduceLT, Int.reduceLE, Int.reduceEq, Nat.reduceLT, Int.reduceToNat, Int.reduceAdd, Int.reduceSub, ↓reduceIte]
          exact fin hend _ (((F2p _).put _ (Nat.le_refl _) _).put _ (Nat.le_refl _) _)
    · have hbj : blk s.data.toList p = j := by rw [← j2, blk_stop (by rw [byte_no s j (by omega)]; decide)]
      have hW : WdR s.data.toList p (.agg #[.string .empty, .bool false, .int .i64 0, .int .i64 0]) false true := by
        have hn : nxt s.data.toList p = .fin := by unfold nxt; rw [hbj, byte_no s j (by omega)]
        unfold WdR
        rw [hn]
        exact ⟨rfl, rfl, rfl⟩
      simp (disch := omega) only [hbx, ↓sxA, ↓wk_store, sxB, sxP, Nat.reduceLeDiff, reduceCtorEq, Nat.reduceEqDiff, Nat.reduceAdd, Int.reduceLT, Int.reduceLE, Int.reduceEq, Nat.reduceLT, Int.reduceToNat, Int.reduceAdd, Int.reduceSub, ↓reduceIte]
      rw [resP_k2]
      simp (disch := omega) only [↓rk_put4, ↓sxA, ↓wk_store, sxB, sxP, Nat.reduceLeDiff, reduceCtorEq, Nat.reduceEqDiff, Nat.reduceAdd, Int.reduceLT, Int.reduceLE, Int.reduceEq, Nat.reduceLT, Int.reduceToNat, Int.reduceAdd, Int.reduceSub, ↓reduceIte]
      exact h _ _ _ _ hW (hF _)
end
end Go.Proofs.YtdmemibnphcedaaGreatDoor
