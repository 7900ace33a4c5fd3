/-
  The program's small functions on lines: readable, blank, next, isSign.
-/
import Derived.Test.YtdmemibnphcedaaGreatDoorRFitC
set_option linter.unusedSimpArgs false
set_option linter.unusedVariables false
set_option maxRecDepth 10000
set_option linter.unusedSectionVars false
namespace Go.Proofs.YtdmemibnphcedaaGreatDoor
open Go.Am
attribute [local irreducible] callO wopK ropK popK opK grpsE listE sx Runs

theorem byte_at (s : ByteArray) (j : Nat) (h : j < s.size) : ∃ c, s.data.toList[j]? = some c ∧ s.data.toList.getD j 0 = c ∧ c.toNat < 256 := by
  have hl : j < s.data.toList.length := by rw [← size_list]; exact h
  exact ⟨s.data.toList[j], List.getElem?_eq_getElem hl, by rw [List.getD_eq_getElem?_getD, List.getElem?_eq_getElem hl, Option.getD_some], (s.data.toList[j]).toNat_lt⟩
theorem byte_no (s : ByteArray) (j : Nat) (h : s.size ≤ j) : s.data.toList[j]? = none := List.getElem?_eq_none (by rw [← size_list]; exact h)
theorem u8_eq {c : UInt8} {n : Nat} (h : (c.toNat : Int) = (n : Int)) : c = UInt8.ofNat n := by
  have : c.toNat = n := by omega
  rw [← this]; simp

def readA (s : ByteArray) : Int := if 1000 < s.size then 2 else if s.data.toList.all prn = true then 0 else 250

section
variable {st : St} {K : Value → St → Prop}

theorem kReadable (n : Nat) (s : ByteArray) (h : K (.int .i64 (readA s)) st) : callK (callO T0 orc fns 100000 (n + 1)) 31 [.string s] st K := by
  refine fn_runs (fn := g31) ?_ ?_ ?_
  · rfl
  · rfl
  unfold g31
  unfold readA at h
  by_cases hbig : 1000 < s.size
  · rw [if_pos hbig] at h
    simp (disch := omega) only [↓sxA, ↓wk_store, sxB, sxP, Nat.reduceLeDiff, reduceCtorEq, Nat.reduceEqDiff, Nat.reduceAdd, Int.reduceLT, Int.reduceLE, Int.reduceEq, Nat.reduceLT, Int.reduceToNat, Int.reduceAdd, Int.reduceSub, ↓reduceIte]
    exact h
  rw [if_neg hbig] at h
  simp (disch := omega) only [↓sxA, ↓wk_store, sxB, sxP, Nat.reduceLeDiff, reduceCtorEq, Nat.reduceEqDiff, Nat.reduceAdd, Int.reduceLT, Int.reduceLE, Int.reduceEq, Nat.reduceLT, Int.reduceToNat, Int.reduceAdd, Int.reduceSub, ↓reduceIte]
  refine loop_rule [0, 8, 9] (fun vs st' => st' = st ∧ ∃ j : Nat, vs = [.string s, .int .i64 (s.size : Nat), .int .i64 j] ∧ j ≤ s.size ∧ (s.data.toList.take j).all prn = true) (fun vs _ => match lget vs 2 with
      | .int _ k => ((s.size : Int) - k).toNat
      | _ => 0) ?_ ?_ ?_
  · rfl
  · refine ⟨_, rfl, ⟨rfl, 0, rfl, Nat.zero_le _, rfl⟩, ?_⟩
    show ((s.size : Int) - 0).toNat < 100000
    omega
  · rintro vs st' ⟨rfl, j, rfl, j1, j2⟩
    show sx _ _ _ _ _ [(0, _), (8, _), (9, _)] _ _ _ _
    by_cases hj : j < s.size
    · obtain ⟨c, hc, hg, hb⟩ := byte_at s j hj
      have bad : prn c = false → s.data.toList.all prn = false := fun hp => by
        rw [List.all_eq_false]
        exact ⟨c, List.mem_of_getElem? hc, by rw [hp]; decide⟩
      have good : prn c = true → (s.data.toList.take (j + 1)).all prn = true := fun hp => by
        rw [List.take_add_one, hc]
        simp [List.all_append, j2, hp]
      simp (disch := omega) only [q_indexStr, Int.toNat_natCast, hg, ↓sxA, ↓wk_store, sxB, sxP, Nat.reduceLeDiff, reduceCtorEq, Nat.reduceEqDiff, Nat.reduceAdd, Int.reduceLT, Int.reduceLE, Int.reduceEq, Nat.reduceLT, Int.reduceToNat, Int.reduceAdd, Int.reduceSub, ↓reduceIte]
      refine iteI (fun c1 => ?_) (fun c1 => iteI (fun c2 => ?_) (fun c2 => ?_))
      · rw [bad (by simp [prn]; omega)] at h; exact h
      · rw [bad (by simp [prn]; omega)] at h; exact h
      · refine ⟨_, rfl, ⟨j + 1, ?_, hj, good (by simp [prn]; omega)⟩, ?_⟩
        · simp
        · show ((s.size : Int) - ((j : Int) + 1)).toNat < ((s.size : Int) - j).toNat
          omega
    · have e : s.data.toList.take j = s.data.toList := List.take_of_length_le (by rw [← size_list]; omega)
      rw [e] at j2
      rw [j2] at h
      simp (disch := omega) only [↓sxA, ↓wk_store, sxB, sxP, Nat.reduceLeDiff, reduceCtorEq, Nat.reduceEqDiff, Nat.reduceAdd, Int.reduceLT, Int.reduceLE, Int.reduceEq, Nat.reduceLT, Int.reduceToNat, Int.reduceAdd, Int.reduceSub, ↓reduceIte]
      exact h

theorem kBlank (n : Nat) (s : ByteArray) (hs : s.size ≤ 90000) (p bf g : Nat) (ro : Bool) (hp : p ≤ s.size) {lv av ov nv : Value} (hb : st.get bf = some (.row [lv, .string s, av, ov, nv] g ro)) (h : K (.int .i64 (blk s.data.toList p : Nat)) st) : callK (callO T0 orc fns 100000 (n + 1)) 32 [.pointer (some ⟨bf, 0, none⟩), .int .i64 (p : Nat)] st K := by
  refine fn_runs (fn := g32) ?_ ?_ ?_
  · rfl
  · rfl
  unfold g32
  simp (disch := omega) only [↓sxA, ↓wk_store, sxB, sxP, Nat.reduceLeDiff, reduceCtorEq, Nat.reduceEqDiff, Nat.reduceAdd, Int.reduceLT, Int.reduceLE, Int.reduceEq, Nat.reduceLT, Int.reduceToNat, Int.reduceAdd, Int.reduceSub, ↓reduceIte]
  refine loop_rule [0, 1] (fun vs st' => st' = st ∧ ∃ j : Nat, vs = [.pointer (some ⟨bf, 0, none⟩), .int .i64 (j : Nat)] ∧ j ≤ s.size ∧ blk s.data.toList j = blk s.data.toList p) (fun vs _ => match lget vs 1 with
      | .int _ k => ((s.size : Int) - k).toNat
      | _ => 0) ?_ ?_ ?_
  · rfl
  · refine ⟨_, rfl, ⟨rfl, p, rfl, hp, rfl⟩, ?_⟩
    show ((s.size : Int) - (p : Int)).toNat < 100000
    omega
  · rintro vs st' ⟨rfl, j, rfl, j1, j2⟩
    show sx _ _ _ _ _ [(0, _), (1, _)] _ _ _ _
    by_cases hj : j < s.size
    · obtain ⟨c, hc, hg, hb'⟩ := byte_at s j hj
      simp (disch := omega) only [hb, q_indexStr, Int.toNat_natCast, hg, ↓sxA, ↓wk_store, sxB, sxP, Nat.reduceLeDiff, reduceCtorEq, Nat.reduceEqDiff, Nat.reduceAdd, Int.reduceLT, Int.reduceLE, Int.reduceEq, Nat.reduceLT, Int.reduceToNat, Int.reduceAdd, Int.reduceSub, ↓reduceIte]
      refine iteI (fun c1 => ?_) (fun c1 => ?_)
      · refine ⟨_, rfl, ⟨j + 1, ?_, hj, ?_⟩, ?_⟩
        · simp
        · rw [← blk_hit (by rw [hc, u8_eq c1]; rfl), j2]
        · show ((s.size : Int) - ((j : Int) + 1)).toNat < ((s.size : Int) - j).toNat
          omega
      · rw [← j2, blk_stop (by rw [hc]; intro e; cases e; exact c1 rfl)] at h
        exact h
    · rw [← j2, blk_stop (by rw [byte_no s j (by omega)]; decide)] at h
      simp (disch := omega) only [hb, ↓sxA, ↓wk_store, sxB, sxP, Nat.reduceLeDiff, reduceCtorEq, Nat.reduceEqDiff, Nat.reduceAdd, Int.reduceLT, Int.reduceLE, Int.reduceEq, Nat.reduceLT, Int.reduceToNat, Int.reduceAdd, Int.reduceSub, ↓reduceIte]
      exact h

theorem kSign (n : Nat) (s : ByteArray) (a : Int) (q : Bool) (h : ∀ st', Frm st st' → K (.bool (decide (s = ⟨#[61]⟩) && !q)) st') : callK (callO T0 orc fns 100000 (n + 1)) 60 [.agg #[.string s, .int .i64 a, .bool q]] st K := by
  refine fn_runs (fn := g60) ?_ ?_ ?_
  · rfl
  · rfl
  unfold g60
  by_cases e : s = ⟨#[61]⟩
  · have e1 : (s = ⟨#[61]⟩) = True := eq_true e
    rw [decide_eq_true e] at h
    cases q with
    | true =>
      simp (disch := omega) only [↓sxA, ↓wk_store, sxB, sxP, Nat.reduceLeDiff, reduceCtorEq, Nat.reduceEqDiff, Nat.reduceAdd, Int.reduceLT, Int.reduceLE, Int.reduceEq, Nat.reduceLT, Int.reduceToNat, Int.reduceAdd, Int.reduceSub, ↓reduceIte, e1]
      exact h _ (Frm.new st _)
    | false =>
      simp (disch := omega) only [↓sxA, ↓wk_store, sxB, sxP, Nat.reduceLeDiff, reduceCtorEq, Nat.reduceEqDiff, Nat.reduceAdd, Int.reduceLT, Int.reduceLE, Int.reduceEq, Nat.reduceLT, Int.reduceToNat, Int.reduceAdd, Int.reduceSub, ↓reduceIte, e1]
      exact h _ (Frm.new st _)
  · have e1 : (s = ⟨#[61]⟩) = False := eq_false e
    rw [decide_eq_false e] at h
    simp (disch := omega) only [↓sxA, ↓wk_store, sxB, sxP, Nat.reduceLeDiff, reduceCtorEq, Nat.reduceEqDiff, Nat.reduceAdd, Int.reduceLT, Int.reduceLE, Int.reduceEq, Nat.reduceLT, Int.reduceToNat, Int.reduceAdd, Int.reduceSub, ↓reduceIte, e1]
    exact h _ (Frm.new st _)

theorem rk_put3 {s : St} {b g : Nat} {ro : Bool} {x y z : Value} (K : Value → Prop) : ropK (.loadN 3) [.pointer (some ⟨b, 0, none⟩)] (s.put b (some (.row [x, y, z] g ro))) K = K (.agg #[x, y, z]) := rk_loadAll (k := 3) (get_put_same _ _ _) rfl (by decide) K

/-- what the program's next gives -/
def wdVal (L : List UInt8) (p : Nat) (v : Value) (e : Int) : Prop := match nxt L p with
  | .fin => v = .agg #[.string .empty, .int .i64 0, .bool false] ∧ e = 0
  | .bad fr => (∃ s a, v = .agg #[.string s, .int .i64 a, .bool true]) ∧ e = -1
  | .wd s q fr to => v = .agg #[.string (bs s), .int .i64 (fr : Nat), .bool q] ∧ e = (to : Nat)

theorem kQuoted (n : Nat) (s : ByteArray) (p : Nat) (hp : p < s.size) (hs : s.size ≤ 1000000) (hr : s.data.toList.all prn = true) (h : K (quoVal (p + 1) (quoR s.data.toList (p + 1))) st) : callK (callO T0 orc fns 100000 n) 96 [.string s, .int .i64 (p : Nat)] st K := by
  rw [callO_none (by rfl)]
  have e : orc 96 [.string s, .int .i64 (p : Nat)] st = .ret (quoVal (p + 1) (quoR s.data.toList (p + 1)), st) := by
    rw [orc_eq (by decide)]
    simp [orc1, hp, hs, hr]
  exact (propext (callK_ret (K := K) e)).mpr h

theorem wdVal_fin {L : List UInt8} {p : Nat} (h : L[blk L p]? = none) : wdVal L p (.agg #[.string .empty, .int .i64 0, .bool false]) 0 := by
  have : nxt L p = .fin := by unfold nxt; rw [h]
  unfold wdVal
  rw [this]
  exact ⟨rfl, rfl⟩
theorem wdVal_eq {L : List UInt8} {p : Nat} (h : L[blk L p]? = some 61) : wdVal L p (.agg #[.string ⟨#[61]⟩, .int .i64 (blk L p : Nat), .bool false]) ((blk L p : Nat) + 1 : Int) := by
  have : nxt L p = .wd [61] false (blk L p) (blk L p + 1) := by unfold nxt; rw [h]; rfl
  unfold wdVal
  rw [this]
  exact ⟨rfl, by simp⟩
theorem wdVal_word {L : List UInt8} {p : Nat} {c : UInt8} (h : L[blk L p]? = some c) (h1 : c ≠ 61) (h2 : c ≠ 34) (hr : L.all prn = true) : wdVal L p (.agg #[.string (bs ((L.drop (blk L p)).take (pwE L (blk L p) - blk L p))), .int .i64 (blk L p : Nat), .bool false]) (pwE L (blk L p) : Nat) := by
  have hall : ((L.drop (blk L p)).take (pw (L.drop (blk L p)))).all prn = true := by
    rw [List.all_eq_true] at hr ⊢
    exact fun x hx => hr x (List.mem_of_mem_drop (List.mem_of_mem_take hx))
  have : nxt L p = .wd ((L.drop (blk L p)).take (pw (L.drop (blk L p)))) false (blk L p) (pwE L (blk L p)) := by
    unfold nxt
    rw [h]
    simp only
    rw [if_neg h1, if_neg h2, if_pos hall]
  unfold wdVal
  rw [this]
  refine ⟨?_, rfl⟩
  have e : pwE L (blk L p) - blk L p = pw (L.drop (blk L p)) := by unfold pwE; omega
  rw [e]
theorem wdVal_quo {L : List UInt8} {p : Nat} (h : L[blk L p]? = some 34) : (∀ x, quoR L (blk L p + 1) = some x → wdVal L p (.agg #[.string (bs x.1), .int .i64 (blk L p : Nat), .bool true]) ((blk L p + 1 + x.2 : Nat) : Int)) ∧ (quoR L (blk L p + 1) = none → ∀ s a, wdVal L p (.agg #[.string s, .int .i64 a, .bool true]) (-1)) := by
  refine ⟨fun x hx => ?_, fun hx s a => ?_⟩
  · have : nxt L p = .wd x.1 true (blk L p) (blk L p + 1 + x.2) := by
      unfold nxt
      rw [h]
      simp only
      rw [if_neg (by decide), if_pos trivial]
      unfold quoR at hx
      rw [hx]
    unfold wdVal
    rw [this]
    exact ⟨rfl, rfl⟩
  · have : nxt L p = .bad (blk L p) := by
      unfold nxt
      rw [h]
      simp only
      rw [if_neg (by decide), if_pos trivial]
      unfold quoR at hx
      rw [hx]
    unfold wdVal
    rw [this]
    exact ⟨⟨s, a, rfl⟩, rfl⟩

set_option maxHeartbeats 1000000 in
theorem kNext (n : Nat) (s : ByteArray) (hs : s.size ≤ 90000) (p : Nat) (hp : p ≤ s.size) (hr : s.data.toList.all prn = true) (h : ∀ v e st', wdVal s.data.toList p v e → Frm st st' → K (.tuple #[v, .int .i64 e]) st') : callK (callO T0 orc fns 100000 (n + 1)) 56 [.string s, .int .i64 (p : Nat)] st K := by
  refine fn_runs (fn := g56) ?_ ?_ ?_
  · rfl
  · rfl
  unfold g56
  have hsz := size_list s
  have F0 : Frm st (st.new (.row [.string .empty, .int .i64 0, .bool false] 0 false)) := Frm.new st _
  have hbx : (st.new (.row [.string .empty, .int .i64 0, .bool false] 0 false)).get st.next = some (.row [.string .empty, .int .i64 0, .bool false] 0 false) := get_new_same _ _
  simp (disch := omega) only [↓sxA, ↓wk_store, sxB, sxP, Nat.reduceLeDiff, reduceCtorEq, Nat.reduceEqDiff, Nat.reduceAdd, Int.reduceLT, Int.reduceLE, Int.reduceEq, Nat.reduceLT, Int.reduceToNat, Int.reduceAdd, Int.reduceSub, ↓reduceIte]
  generalize st.new (.row [.string .empty, .int .i64 0, .bool false] 0 false) = s1 at F0 hbx
  refine loop_rule [0, 1, 4] (fun vs st' => st' = s1 ∧ ∃ j : Nat, vs = [.string s, .int .i64 (j : Nat), .pointer (some ⟨st.next, 0, none⟩)] ∧ j ≤ s.size ∧ blk s.data.toList j = blk s.data.toList p) (fun vs _ => match lget vs 1 with
      | .int _ k => ((s.size : Int) - k).toNat
      | _ => 0) ?_ ?_ ?_
  · rfl
  · refine ⟨_, rfl, ⟨rfl, p, rfl, hp, rfl⟩, ?_⟩
    show ((s.size : Int) - (p : Int)).toNat < 100000
    omega
  · rintro vs st' ⟨rfl, j, rfl, j1, j2⟩
    show sx _ _ _ _ _ [(0, _), (1, _), (4, _)] _ _ _ _
    by_cases hj : j < s.size
    · obtain ⟨c, hc, hg, hb'⟩ := byte_at s j hj
      simp (disch := omega) only [q_indexStr, Int.toNat_natCast, hg, ↓sxA, ↓wk_store, sxB, sxP, Nat.reduceLeDiff, reduceCtorEq, Nat.reduceEqDiff, Nat.reduceAdd, Int.reduceLT, Int.reduceLE, Int.reduceEq, Nat.reduceLT, Int.reduceToNat, Int.reduceAdd, Int.reduceSub, ↓reduceIte]
      refine iteI (fun c1 => ?_) (fun c1 => ?_)
      · refine ⟨_, rfl, ⟨j + 1, ?_, hj, ?_⟩, ?_⟩
        · simp
        · rw [← blk_hit (by rw [hc, u8_eq c1]; rfl), j2]
        · show ((s.size : Int) - ((j : Int) + 1)).toNat < ((s.size : Int) - j).toNat
          omega
      · have hbj : blk s.data.toList p = j := by rw [← j2, blk_stop (by rw [hc]; intro e; cases e; exact c1 rfl)]
        have hcb : s.data.toList[blk s.data.toList p]? = some c := by rw [hbj]; exact hc
        have hF : ∀ o, Frm st (st'.put st.next o) := fun o => F0.put _ (Nat.le_refl _) _
        refine iteI (fun c2 => ?_) (fun c2 => ?_)
        · have e61 : c = 61 := u8_eq c2
          have := wdVal_eq (by rw [hcb, e61])
          rw [hbj] at this
          simp (disch := omega) only [hbx, ↓sxA, ↓wk_store, sxB, sxP, Nat.reduceLeDiff, reduceCtorEq, Nat.reduceEqDiff, Nat.reduceAdd, Int.reduceLT, Int.reduceLE, Int.reduceEq, Nat.reduceLT, Int.reduceToNat, Int.reduceAdd, Int.reduceSub, ↓reduceIte]
          rw [resP_k1]
          simp (disch := omega) only [↓rk_put3, ↓sxA, ↓wk_store, sxB, sxP, Nat.reduceLeDiff, reduceCtorEq, Nat.reduceEqDiff, Nat.reduceAdd, Int.reduceLT, Int.reduceLE, Int.reduceEq, Nat.reduceLT, Int.reduceToNat, Int.reduceAdd, Int.reduceSub, ↓reduceIte]
          exact h _ _ _ this (hF _)
        · have n61 : c ≠ 61 := fun e => c2 (by rw [e]; rfl)
          refine iteI (fun c3 => ?_) (fun c3 => ?_)
          · have e34 : c = 34 := u8_eq c3
            obtain ⟨w1, w2⟩ := wdVal_quo (p := p) (by rw [hcb, e34])
            rw [hbj] at w1 w2
            refine kQuoted n s j hj (by omega) hr ?_
            cases hq : quoR s.data.toList (j + 1) with
            | none =>
              unfold quoVal
              simp (disch := omega) only [hbx, ↓sxA, ↓wk_store, sxB, sxP, Nat.reduceLeDiff, reduceCtorEq, Nat.reduceEqDiff, Nat.reduceAdd, Int.reduceLT, Int.reduceLE, Int.reduceEq, Nat.reduceLT, Int.reduceToNat, Int.reduceAdd, Int.reduceSub, ↓reduceIte]
              rw [resP_k1]
              simp (disch := omega) only [↓rk_put3, ↓sxA, ↓wk_store, sxB, sxP, Nat.reduceLeDiff, reduceCtorEq, Nat.reduceEqDiff, Nat.reduceAdd, Int.reduceLT, Int.reduceLE, Int.reduceEq, Nat.reduceLT, Int.reduceToNat, Int.reduceAdd, Int.reduceSub, ↓reduceIte]
              exact h _ _ _ (w2 hq _ _) (hF _)
            | some x =>
              unfold quoVal
              simp (disch := omega) only [hbx, ↓sxA, ↓wk_store, sxB, sxP, Nat.reduceLeDiff, reduceCtorEq, Nat.reduceEqDiff, Nat.reduceAdd, Int.reduceLT, Int.reduceLE, Int.reduceEq, Nat.reduceLT, Int.reduceToNat, Int.reduceAdd, Int.reduceSub, ↓reduceIte]
              rw [resP_k1]
              simp (disch := omega) only [↓rk_put3, ↓sxA, ↓wk_store, sxB, sxP, Nat.reduceLeDiff, reduceCtorEq, Nat.reduceEqDiff, Nat.reduceAdd, Int.reduceLT, Int.reduceLE, Int.reduceEq, Nat.reduceLT, Int.reduceToNat, Int.reduceAdd, Int.reduceSub, ↓reduceIte]
              exact h _ _ _ (w1 x hq) (hF _)
          · have n34 : c ≠ 34 := fun e => c3 (by rw [e]; rfl)
            have hw := wdVal_word (p := p) hcb n61 n34 hr
            rw [hbj] at hw
            simp (disch := omega) only [↓sxA, ↓wk_store, sxB, sxP, Nat.reduceLeDiff, reduceCtorEq, Nat.reduceEqDiff, Nat.reduceAdd, Int.reduceLT, Int.reduceLE, Int.reduceEq, Nat.reduceLT, Int.reduceToNat, Int.reduceAdd, Int.reduceSub, ↓reduceIte]
            refine loop_rule [0, 1, 4, 8] (fun vs s2 => s2 = st' ∧ ∃ i : Nat, vs = [.string s, .int .i64 (j : Nat), .pointer (some ⟨st.next, 0, none⟩), .int .i64 (i : Nat)] ∧ j ≤ i ∧ i ≤ s.size ∧ pwE s.data.toList i = pwE s.data.toList j) (fun vs _ => match lget vs 3 with
                | .int _ k => ((s.size : Int) - k).toNat
                | _ => 0) ?_ ?_ ?_
            · rfl
            · refine ⟨_, rfl, ⟨rfl, j, rfl, Nat.le_refl _, by omega, rfl⟩, ?_⟩
              show ((s.size : Int) - (j : Int)).toNat < 100000
              omega
            · rintro vs s2 ⟨rfl, i, rfl, i1, i2, i3⟩
              show sx _ _ _ _ _ [(0, _), (1, _), (4, _), (8, _)] _ _ _ _
              have fin : pwE s.data.toList j = i → K (.tuple #[.agg #[.string (s.extract j i), .int .i64 (j : Nat), .bool false], .int .i64 (i : Nat)]) (s2.put st.next (some (.row [.string (s.extract j i), .int .i64 (j : Nat), .bool false] 0 false))) := fun e => by
                rw [e] at hw
                rw [extract_bs]
                exact h _ _ _ hw (hF _)
              by_cases hi : i < s.size
              · obtain ⟨d, hd, hgd, hbd⟩ := byte_at s i hi
                simp (disch := omega) only [q_indexStr, Int.toNat_natCast, hgd, ↓sxA, ↓wk_store, sxB, sxP, Nat.reduceLeDiff, reduceCtorEq, Nat.reduceEqDiff, Nat.reduceAdd, Int.reduceLT, Int.reduceLE, Int.reduceEq, Nat.reduceLT, Int.reduceToNat, Int.reduceAdd, Int.reduceSub, ↓reduceIte]
                refine iteI (fun c4 => ?_) (fun c4 => ?_)
                · have e32 : d = 32 := u8_eq c4
                  simp (disch := omega) only [hbx, q_slBoth, Int.toNat_natCast, ↓sxA, ↓wk_store, sxB, sxP, Nat.reduceLeDiff, reduceCtorEq, Nat.reduceEqDiff, Nat.reduceAdd, Int.reduceLT, Int.reduceLE, Int.reduceEq, Nat.reduceLT, Int.reduceToNat, Int.reduceAdd, Int.reduceSub, ↓reduceIte]
                  rw [resP_k1]
                  simp (disch := omega) only [↓rk_put3, ↓sxA, ↓wk_store, sxB, sxP, Nat.reduceLeDiff, reduceCtorEq, Nat.reduceEqDiff, Nat.reduceAdd, Int.reduceLT, Int.reduceLE, Int.reduceEq, Nat.reduceLT, Int.reduceToNat, Int.reduceAdd, Int.reduceSub, ↓reduceIte]
                  exact fin (by rw [← i3, pwE_stop (fun x hx => by rw [hd] at hx; cases hx; exact .inl e32)])
                · have n32 : d ≠ 32 := fun e => c4 (by rw [e]; rfl)
                  refine iteI (fun c5 => ?_) (fun c5 => ?_)
                  · have e61 : d = 61 := u8_eq c5
                    simp (disch := omega) only [hbx, q_slBoth, Int.toNat_natCast, ↓sxA, ↓wk_store, sxB, sxP, Nat.reduceLeDiff, reduceCtorEq, Nat.reduceEqDiff, Nat.reduceAdd, Int.reduceLT, Int.reduceLE, Int.reduceEq, Nat.reduceLT, Int.reduceToNat, Int.reduceAdd, Int.reduceSub, ↓reduceIte]
                    rw [resP_k1]
                    simp (disch := omega) only [↓rk_put3, ↓sxA, ↓wk_store, sxB, sxP, Nat.reduceLeDiff, reduceCtorEq, Nat.reduceEqDiff, Nat.reduceAdd, Int.reduceLT, Int.reduceLE, Int.reduceEq, Nat.reduceLT, Int.reduceToNat, Int.reduceAdd, Int.reduceSub, ↓reduceIte]
                    exact fin (by rw [← i3, pwE_stop (fun x hx => by rw [hd] at hx; cases hx; exact .inr e61)])
                  · have m61 : d ≠ 61 := fun e => c5 (by rw [e]; rfl)
                    refine ⟨_, rfl, ⟨i + 1, ?_, by omega, hi, ?_⟩, ?_⟩
                    · simp
                    · rw [← pwE_hit hd n32 m61, i3]
                    · show ((s.size : Int) - ((i : Int) + 1)).toNat < ((s.size : Int) - i).toNat
                      omega
              · simp (disch := omega) only [hbx, q_slBoth, Int.toNat_natCast, ↓sxA, ↓wk_store, sxB, sxP, Nat.reduceLeDiff, reduceCtorEq, Nat.reduceEqDiff, Nat.reduceAdd, Int.reduceLT, Int.reduceLE, Int.reduceEq, Nat.reduceLT, Int.reduceToNat, Int.reduceAdd, Int.reduceSub, ↓reduceIte]
                rw [resP_k1]
                simp (disch := omega) only [↓rk_put3, ↓sxA, ↓wk_store, sxB, sxP, Nat.reduceLeDiff, reduceCtorEq, Nat.reduceEqDiff, Nat.reduceAdd, Int.reduceLT, Int.reduceLE, Int.reduceEq, Nat.reduceLT, Int.reduceToNat, Int.reduceAdd, Int.reduceSub, ↓reduceIte]
                exact fin (by rw [← i3, pwE_stop (fun x hx => by rw [byte_no s i (by omega)] at hx; cases hx)])
    · have hbj : blk s.data.toList p = j := by rw [← j2, blk_stop (by rw [byte_no s j (by omega)]; decide)]
      have := wdVal_fin (L := s.data.toList) (p := p) (by rw [hbj]; exact byte_no s j (by omega))
      have hF : ∀ o, Frm st (st'.put st.next o) := fun o => F0.put _ (Nat.le_refl _) _
      simp (disch := omega) only [hbx, ↓sxA, ↓wk_store, sxB, sxP, Nat.reduceLeDiff, reduceCtorEq, Nat.reduceEqDiff, Nat.reduceAdd, Int.reduceLT, Int.reduceLE, Int.reduceEq, Nat.reduceLT, Int.reduceToNat, Int.reduceAdd, Int.reduceSub, ↓reduceIte]
      rw [resP_k1]
      simp (disch := omega) only [↓rk_put3, ↓sxA, ↓wk_store, sxB, sxP, Nat.reduceLeDiff, reduceCtorEq, Nat.reduceEqDiff, Nat.reduceAdd, Int.reduceLT, Int.reduceLE, Int.reduceEq, Nat.reduceLT, Int.reduceToNat, Int.reduceAdd, Int.reduceSub, ↓reduceIte]
      exact h _ _ _ this (hF _)
end
end Go.Proofs.YtdmemibnphcedaaGreatDoor
