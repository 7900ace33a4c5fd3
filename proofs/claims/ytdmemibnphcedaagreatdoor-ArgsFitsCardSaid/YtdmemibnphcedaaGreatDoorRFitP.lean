/-
  Lists of arguments read: Get, EqArgs.
-/
import Derived.Test.YtdmemibnphcedaaGreatDoorRFitO
set_option linter.unusedSimpArgs false
set_option linter.unusedVariables false
set_option maxRecDepth 10000
set_option linter.unusedSectionVars false
namespace Go.Proofs.YtdmemibnphcedaaGreatDoor
open Go.Am
attribute [local irreducible] callO wopK ropK popK opK grpsE listE sx Runs

/-- a list of arguments that is read alone, now and later -/
def AgC (st : St) (v : Value) (ns : List ByteArray) (cs : List Cl) : Prop :=
  (∀ K : Value → Prop, popK .lenSl [v] K = K (.int .i64 (cs.length : Nat))) ∧ ∀ j, j < cs.length → ∃ (b : Nat) (vv : Value), (∀ K : Value → Prop, popK (.indexAddr 3) [v, .int .i64 (j : Int)] K = K (.pointer (some ⟨b, j * 3, none⟩))) ∧ oneCell vv = true ∧ ow vv ≤ st.next ∧ ∀ s', Frm st s' →
    (∀ K : Value → Prop, ropK (.loadN 3) [.pointer (some ⟨b, j * 3, none⟩)] s' K = K (.agg #[.string (ns.getD j .empty), vv, .bool (clAt cs j).set])) ∧ (∀ K : Value → Prop, ropK .load1 [.pointer (some ⟨b, j * 3 + 0, none⟩)] s' K = K (.string (ns.getD j .empty))) ∧
    (∀ K : Value → Prop, ropK .load1 [.pointer (some ⟨b, j * 3 + 1, none⟩)] s' K = K vv) ∧ (∀ K : Value → Prop, ropK .load1 [.pointer (some ⟨b, j * 3 + 2, none⟩)] s' K = K (.bool (clAt cs j).set)) ∧ Cel s' vv ((clAt cs j).vals.map Value.string)

theorem rk_loadK_of {st s' : St} {b o k : Nat} (h : s'.get b = st.get b) (K : Value → Prop) : ropK (.loadN k) [.pointer (some ⟨b, o, none⟩)] s' K = ropK (.loadN k) [.pointer (some ⟨b, o, none⟩)] st K := by
  simp only [ropK, rop, St.cells, h]
theorem AgR.agC {ok : Nat → Prop} {g : Bool} {st : St} {v : Value} {ns : List ByteArray} {cs : List Cl} (h : AgR ok g st v ns cs) : AgC st v ns cs := by
  refine ⟨h.len, fun j hj => ?_⟩
  obtain ⟨b, vv, o1, o2, o3, o4, o5, o6, o7, o8, o9⟩ := h.at hj
  obtain ⟨_, onx⟩ := h.okv
  refine ⟨b, vv, o2, o7.2.1, o9, fun s' F => ?_⟩
  have hb : s'.get b = st.get b := F.old b (by omega)
  refine ⟨fun K => ?_, fun K => ?_, fun K => ?_, fun K => ?_, o7.1.keep fun i hi => F.old i (by omega)⟩
  · rw [rk_loadK_of hb]; exact o3 K
  · rw [rk_load1, hb, ← rk_load1]; exact o4 K
  · rw [rk_load1, hb, ← rk_load1]; exact o5 K
  · rw [rk_load1, hb, ← rk_load1]; exact o6 K
theorem AgC.keep {st st' : St} {v : Value} {ns : List ByteArray} {cs : List Cl} (h : AgC st v ns cs) (F : Frm st st') : AgC st' v ns cs := by
  refine ⟨h.1, fun j hj => ?_⟩
  obtain ⟨b, vv, o1, o2, o3, o4⟩ := h.2 j hj
  exact ⟨b, vv, o1, o2, Nat.le_trans o3 F.nx, fun s' F' => o4 s' (F.trans F')⟩
theorem AgC.nil (st : St) : AgC st (.slice none 0 0) [] [] := (AgR.nil (ok := fun _ => True) (g := false) (ns := [])).agC
/-- a list of one -/
theorem agC_one {st : St} {b g : Nat} {ro : Bool} {a : ByteArray} {u : Value} {c : Bool} {l : List ByteArray} {m : Bool} (hb : st.get b = some (.row [.string a, u, .bool c] g ro)) (hlt : b < st.next) (hu : Cel st u (l.map Value.string)) (ho : oneCell u = true) (hun : ow u ≤ st.next) : AgC st (.slice (some ⟨b, 0, none⟩) 1 1) [a] [⟨l, c, m⟩] := by
  refine ⟨fun K => pk_lenSl _ _ _, fun j hj => ?_⟩
  obtain rfl : j = 0 := by simp at hj; omega
  refine ⟨b, u, fun K => ?_, ho, hun, fun s' F => ?_⟩
  · rw [pk_indexAddr]
    exact propext ⟨fun h => h.2, fun h => ⟨⟨by omega, by show ((0 : Nat) : Int) < 1; omega⟩, h⟩⟩
  · have hb' := (F.old b hlt).trans hb
    have ld : ∀ (o : Nat) (x : Value), ([.string a, u, .bool c] : List Value)[o]? = some x → ∀ K : Value → Prop, ropK .load1 [.pointer (some ⟨b, o, none⟩)] s' K = K x := fun o x hx K => by
      rw [rk_load1, hb']
      simp only [getK, rowK]
      exact nthK_at hx K
    exact ⟨fun K => rk_loadAll (k := 3) hb' rfl (by decide) K, ld 0 _ rfl, ld 1 _ rfl, ld 2 _ rfl, hu.keep fun i hi => F.old i (by omega)⟩

open Classical in
noncomputable def nmI (x : ByteArray) : List ByteArray → Nat → Int
  | [], _ => -1
  | y :: r, i => if y = x then i else nmI x r (i + 1)

/-- what Get gives -/
def GetO (ns : List ByteArray) (cs : List Cl) (x : ByteArray) (a : ByteArray) (u : Value) (c ok : Bool) (st : St) : Prop :=
  (nmI x ns 0 = -1 ∧ a = .empty ∧ u = .slice none 0 0 ∧ c = false ∧ ok = false) ∨
  ∃ j : Nat, j < cs.length ∧ nmI x ns 0 = (j : Int) ∧ a = ns.getD j .empty ∧ c = (clAt cs j).set ∧ ok = true ∧ oneCell u = true ∧ ow u ≤ st.next ∧ Cel st u ((clAt cs j).vals.map Value.string)

section
variable {st : St} {K : Value → St → Prop} {ns : List ByteArray} {cs : List Cl} {v u : Value} {x : ByteArray}

theorem nmI_at {j : Nat} (hj : j < ns.length) : nmI x (ns.drop j) j = if ns.getD j .empty = x then (j : Int) else nmI x (ns.drop (j + 1)) (j + 1) := by
  rw [List.drop_eq_getElem_cons hj]
  have : ns.getD j .empty = ns[j] := by rw [List.getD_eq_getElem?_getD, List.getElem?_eq_getElem hj, Option.getD_some]
  rw [this]
  simp only [nmI]

theorem kEqArgs (n : Nat) (hu : AgC st u ns cs) (hv : AgC st v ns cs) (hl : cs.length < 90000) (hvl : ∀ k, (clAt cs k).vals.length < 90000) (h : K (.bool true) st) :
    callK (callO T0 orc fns 100000 (n + 2)) 14 [u, v] st K := by
  refine fn_runs (fn := g14) ?_ ?_ ?_
  · rfl
  · rfl
  unfold g14
  have lu := hu.1
  have lv := hv.1
  simp (disch := omega) only [↓sxA, ↓wk_store, sxB, sxP, Nat.reduceLeDiff, reduceCtorEq, Nat.reduceEqDiff, Nat.reduceAdd, Int.reduceLT, Int.reduceLE, Int.reduceEq, Nat.reduceLT, Int.reduceToNat, Int.reduceAdd, Int.reduceSub, ↓reduceIte, ↓lu, ↓lv]
  refine loop_rule [0, 1, 5] (fun vs st' => st' = st ∧ ∃ j : Nat, vs = [u, v, .int .i64 (j : Nat)] ∧ j ≤ cs.length) (fun vs _ => match lget vs 2 with
      | .int _ k => ((cs.length : Int) - k).toNat
      | _ => 0) ?_ ?_ ?_
  · rfl
  · refine ⟨_, rfl, ⟨rfl, 0, rfl, Nat.zero_le _⟩, ?_⟩
    show ((cs.length : Int) - 0).toNat < 100000
    omega
  · rintro vs st' ⟨rfl, j, rfl, hj⟩
    show sx _ _ _ _ _ [(0, _), (1, _), (5, _)] _ _ _ _
    by_cases hjl : j < cs.length
    · obtain ⟨b, vv, o1, o2, o3, o4⟩ := hu.2 j hjl
      obtain ⟨b', vv', w1, w2, w3, w4⟩ := hv.2 j hjl
      obtain ⟨p1, p2, p3, p4, p5⟩ := o4 st' (Frm.refl _)
      obtain ⟨q1, q2, q3, q4, q5⟩ := w4 st' (Frm.refl _)
      have hmeas : ((cs.length : Int) - ((j : Int) + 1)).toNat < ((cs.length : Int) - j).toNat := by omega
      cases hs : (clAt cs j).set
      all_goals
        rw [hs] at p4 q4
        simp (disch := omega) only [↓sxA, ↓wk_store, sxB, sxP, Nat.reduceLeDiff, reduceCtorEq, Nat.reduceEqDiff, Nat.reduceAdd, Int.reduceLT, Int.reduceLE, Int.reduceEq, Nat.reduceLT, Int.reduceToNat, Int.reduceAdd, Int.reduceSub, ↓reduceIte, ↓lu, ↓o1, ↓w1, ↓p2, ↓q2, ↓p3, ↓q3, ↓p4, ↓q4]
        refine kEqStrs n p5 q5 (hvl j) ?_
        simp (disch := omega) only [↓sxA, ↓wk_store, sxB, sxP, Nat.reduceLeDiff, reduceCtorEq, Nat.reduceEqDiff, Nat.reduceAdd, Int.reduceLT, Int.reduceLE, Int.reduceEq, Nat.reduceLT, Int.reduceToNat, Int.reduceAdd, Int.reduceSub, ↓reduceIte]
        exact ⟨_, rfl, ⟨j + 1, by simp, hjl⟩, hmeas⟩
    · simp (disch := omega) only [↓sxA, ↓wk_store, sxB, sxP, Nat.reduceLeDiff, reduceCtorEq, Nat.reduceEqDiff, Nat.reduceAdd, Int.reduceLT, Int.reduceLE, Int.reduceEq, Nat.reduceLT, Int.reduceToNat, Int.reduceAdd, Int.reduceSub, ↓reduceIte, ↓lu]
      exact h

open Classical in
theorem kGetIn (n : Nat) {a : ByteArray} {c : Bool} {b g : Nat} {ro : Bool} (hb : st.get b = some (.row [.string x] g ro)) (hbn : b < st.next) (ho : oneCell u = true) (h : ∀ st', Frm st st' → K (.bool (decide (a = x))) st') :
    callK (callO T0 orc fns 100000 (n + 1)) 36 [.agg #[.string a, u, .bool c], .pointer (some ⟨b, 0, none⟩)] st K := by
  refine fn_runs (fn := g36) ?_ ?_ ?_
  · rfl
  · rfl
  unfold g36
  have F := Frm.new st (.row [.string a, u, .bool c] 0 false)
  have hb2 := (F.old b hbn).trans hb
  have hbx : (st.new (.row [.string a, u, .bool c] 0 false)).get st.next = some (.row [.string a, u, .bool c] 0 false) := get_new_same _ _
  have hc := one_cells ho
  by_cases e : a = x
  · have e1 : (a = x) = True := eq_true e
    rw [decide_eq_true e] at h
    simp (disch := omega) only [↓sxA, ↓wk_store, sxB, sxP, Nat.reduceLeDiff, reduceCtorEq, Nat.reduceEqDiff, Nat.reduceAdd, Int.reduceLT, Int.reduceLE, Int.reduceEq, Nat.reduceLT, Int.reduceToNat, Int.reduceAdd, Int.reduceSub, ↓reduceIte, hb2, hbx, hc, ho, e1]
    exact h _ F
  · have e1 : (a = x) = False := eq_false e
    rw [decide_eq_false e] at h
    simp (disch := omega) only [↓sxA, ↓wk_store, sxB, sxP, Nat.reduceLeDiff, reduceCtorEq, Nat.reduceEqDiff, Nat.reduceAdd, Int.reduceLT, Int.reduceLE, Int.reduceEq, Nat.reduceLT, Int.reduceToNat, Int.reduceAdd, Int.reduceSub, ↓reduceIte, hb2, hbx, hc, ho, e1]
    exact h _ F

open Classical in
theorem kGetItems (n : Nat) {b g : Nat} {ro : Bool} (hA : AgC st v ns cs) (hns : ns.length = cs.length) (hb : st.get b = some (.row [.string x] g ro)) (hbn : b < st.next) (hl : cs.length < 90000) (h : ∀ st', Frm st st' → K (.int .i64 (nmI x ns 0)) st') :
    callK (callO T0 orc fns 100000 (n + 2)) 35 [v, .func (.func 36) #[] #[.pointer (some ⟨b, 0, none⟩)]] st K := by
  refine fn_runs (fn := g35) ?_ ?_ ?_
  · rfl
  · rfl
  unfold g35
  have la := hA.1
  simp (disch := omega) only [↓sxA, ↓wk_store, sxB, sxP, Nat.reduceLeDiff, reduceCtorEq, Nat.reduceEqDiff, Nat.reduceAdd, Int.reduceLT, Int.reduceLE, Int.reduceEq, Nat.reduceLT, Int.reduceToNat, Int.reduceAdd, Int.reduceSub, ↓reduceIte, ↓la]
  refine loop_rule [0, 1, 7, 8] (fun vs s => ∃ j : Nat, vs = [v, .func (.func 36) #[] #[.pointer (some ⟨b, 0, none⟩)], .int .i64 (cs.length : Nat), .int .i64 j] ∧ j ≤ cs.length ∧ Frm st s ∧ nmI x (ns.drop j) j = nmI x ns 0) (fun vs _ => match lget vs 3 with
      | .int _ k => ((cs.length : Int) - k).toNat
      | _ => 0) ?_ ?_ ?_
  · rfl
  · refine ⟨_, rfl, ⟨0, rfl, Nat.zero_le _, Frm.refl _, rfl⟩, ?_⟩
    show ((cs.length : Int) - 0).toNat < 100000
    omega
  · rintro vs s ⟨j, rfl, j1, F, hk⟩
    show sx _ _ _ _ _ [(0, _), (1, _), (7, _), (8, _)] _ _ _ _
    by_cases hj : j < cs.length
    · obtain ⟨bb, vv, o1, o2, o3, o4⟩ := hA.2 j hj
      obtain ⟨p1, p2, p3, p4, p5⟩ := o4 s F
      rw [nmI_at (by omega)] at hk
      simp (disch := omega) only [↓sxA, ↓wk_store, sxB, sxP, Nat.reduceLeDiff, reduceCtorEq, Nat.reduceEqDiff, Nat.reduceAdd, Int.reduceLT, Int.reduceLE, Int.reduceEq, Nat.reduceLT, Int.reduceToNat, Int.reduceAdd, Int.reduceSub, ↓reduceIte, ↓o1, ↓p1]
      refine kGetIn n ((F.old b hbn).trans hb) (Nat.lt_of_lt_of_le hbn F.nx) o2 fun s2 F2 => ?_
      by_cases hin : ns.getD j .empty = x
      · rw [if_pos hin] at hk
        rw [decide_eq_true hin]
        simp (disch := omega) only [↓sxA, ↓wk_store, sxB, sxP, Nat.reduceLeDiff, reduceCtorEq, Nat.reduceEqDiff, Nat.reduceAdd, Int.reduceLT, Int.reduceLE, Int.reduceEq, Nat.reduceLT, Int.reduceToNat, Int.reduceAdd, Int.reduceSub, ↓reduceIte]
        rw [hk]
        exact h _ (F.trans F2)
      · rw [if_neg hin] at hk
        rw [decide_eq_false hin]
        simp (disch := omega) only [↓sxA, ↓wk_store, sxB, sxP, Nat.reduceLeDiff, reduceCtorEq, Nat.reduceEqDiff, Nat.reduceAdd, Int.reduceLT, Int.reduceLE, Int.reduceEq, Nat.reduceLT, Int.reduceToNat, Int.reduceAdd, Int.reduceSub, ↓reduceIte]
        refine ⟨_, rfl, ⟨j + 1, ?_, hj, F.trans F2, hk⟩, ?_⟩
        · simp
        · show ((cs.length : Int) - ((j : Int) + 1)).toNat < ((cs.length : Int) - j).toNat
          omega
    · have e : ns.drop j = [] := List.drop_eq_nil_of_le (by omega)
      rw [e] at hk
      simp only [nmI] at hk
      rw [← hk] at h
      simp (disch := omega) only [↓sxA, ↓wk_store, sxB, sxP, Nat.reduceLeDiff, reduceCtorEq, Nat.reduceEqDiff, Nat.reduceAdd, Int.reduceLT, Int.reduceLE, Int.reduceEq, Nat.reduceLT, Int.reduceToNat, Int.reduceAdd, Int.reduceSub, ↓reduceIte]
      exact h _ F

theorem nmI_lt : ∀ (ns : List ByteArray) (i : Nat), nmI x ns i = -1 ∨ ((i : Int) ≤ nmI x ns i ∧ nmI x ns i < (i : Int) + ns.length)
  | [], i => .inl rfl
  | y :: r, i => by
    simp only [nmI]
    split
    · right; simp; omega
    · rcases nmI_lt r (i + 1) with h | h
      · exact .inl h
      · right; simp only [List.length_cons]; omega

theorem kGet (n : Nat) (hA : AgC st v ns cs) (hns : ns.length = cs.length) (hl : cs.length < 90000) (h : ∀ a u c ok st', GetO ns cs x a u c ok st' → Frm st st' → K (.tuple #[.agg #[.string a, u, .bool c], .bool ok]) st') :
    callK (callO T0 orc fns 100000 (n + 3)) 12 [v, .string x] st K := by
  refine fn_runs (fn := g12) ?_ ?_ ?_
  · rfl
  · rfl
  unfold g12
  obtain ⟨s1, hs1⟩ : ∃ s1, s1 = (st.new (.row [.string x] 0 false)).new (.row [.string .empty, .slice none 0 0, .bool false] 0 false) := ⟨_, rfl⟩
  have F1 : Frm st s1 := by rw [hs1]; exact (Frm.new st _).trans (Frm.new _ _)
  have n1 : s1.next = st.next + 2 := by rw [hs1]; rfl
  have hb1 : s1.get st.next = some (.row [.string x] 0 false) := by rw [hs1, get_new_ne _ _ _ (by show st.next + 1 ≠ st.next; omega)]; exact get_new_same _ _
  have hb2 : s1.get (st.next + 1) = some (.row [.string .empty, .slice none 0 0, .bool false] 0 false) := by rw [hs1]; exact get_new_same _ _
  simp (disch := omega) only [↓sxA, ↓wk_store, sxB, sxP, Nat.reduceLeDiff, reduceCtorEq, Nat.reduceEqDiff, Nat.reduceAdd, Int.reduceLT, Int.reduceLE, Int.reduceEq, Nat.reduceLT, Int.reduceToNat, Int.reduceAdd, Int.reduceSub, ↓reduceIte]
  rw [← hs1]
  clear hs1
  show callK _ _ [v, .func (.func 36) #[] #[.pointer (some ⟨st.next, 0, none⟩)]] _ _
  refine kGetItems n (hA.keep F1) hns hb1 (by omega) hl fun s2 F2 => ?_
  have hbx := (F2.old (st.next + 1) (by omega)).trans hb2
  have F12 := F1.trans F2
  have hn2 := F2.nx
  have hF : ∀ o, Frm st (s2.put (st.next + 1) o) := fun o => F12.put _ (by omega) _
  rcases nmI_lt (x := x) ns 0 with hm | hm
  · rw [hm]
    simp (disch := omega) only [hbx, ↓sxA, ↓wk_store, sxB, sxP, Nat.reduceLeDiff, reduceCtorEq, Nat.reduceEqDiff, Nat.reduceAdd, Int.reduceLT, Int.reduceLE, Int.reduceEq, Nat.reduceLT, Int.reduceToNat, Int.reduceAdd, Int.reduceSub, ↓reduceIte]
    rw [resP_k1]
    simp (disch := omega) only [↓rk_put3, ↓sxA, ↓wk_store, sxB, sxP, Nat.reduceLeDiff, reduceCtorEq, Nat.reduceEqDiff, Nat.reduceAdd, Int.reduceLT, Int.reduceLE, Int.reduceEq, Nat.reduceLT, Int.reduceToNat, Int.reduceAdd, Int.reduceSub, ↓reduceIte]
    exact h _ _ _ _ _ (.inl ⟨hm, rfl, rfl, rfl, rfl⟩) (hF _)
  · obtain ⟨j, hj⟩ : ∃ j : Nat, nmI x ns 0 = (j : Int) := ⟨(nmI x ns 0).toNat, by omega⟩
    have hjl : j < cs.length := by omega
    obtain ⟨bb, vv, o1, o2, o3, o4⟩ := hA.2 j hjl
    obtain ⟨p1, p2, p3, p4, p5⟩ := o4 s2 F12
    have hc := one_cells o2
    rw [hj]
    simp (disch := omega) only [hbx, ↓o1, ↓p1, hc, o2, ↓sxA, ↓wk_store, sxB, sxP, Nat.reduceLeDiff, reduceCtorEq, Nat.reduceEqDiff, Nat.reduceAdd, Int.reduceLT, Int.reduceLE, Int.reduceEq, Nat.reduceLT, Int.reduceToNat, Int.reduceAdd, Int.reduceSub, ↓reduceIte]
    rw [resP_k1]
    simp (disch := omega) only [↓rk_put3, ↓sxA, ↓wk_store, sxB, sxP, Nat.reduceLeDiff, reduceCtorEq, Nat.reduceEqDiff, Nat.reduceAdd, Int.reduceLT, Int.reduceLE, Int.reduceEq, Nat.reduceLT, Int.reduceToNat, Int.reduceAdd, Int.reduceSub, ↓reduceIte]
    have hFr : Frm st (s2.put (st.next + 1) (some (.row [.string (ns.getD j .empty), vv, .bool (clAt cs j).set] 0 false))) := hF _
    exact h _ _ _ _ _ (.inr ⟨j, hjl, hj, rfl, rfl, rfl, o2, Nat.le_trans o3 hFr.nx, (o4 _ hFr).2.2.2.2⟩) hFr

open Classical in
theorem kGetR (n : Nat) (hA : AgC st v ns cs) (hns : ns.length = cs.length) (hl : cs.length < 90000) (h : ∀ a u c ok st', GetO ns cs x a u c ok st' → Frm st st' → K (.tuple #[.agg #[.string a, u, .bool c], .bool ok]) st') :
    callK (callO T0 orc fns 100000 (n + 1)) 13 [v, .string x] st K := by
  refine fn_runs (fn := g13) ?_ ?_ ?_
  · rfl
  · rfl
  unfold g13
  obtain ⟨s1, hs1⟩ : ∃ s1, s1 = st.new (.row [.string .empty, .slice none 0 0, .bool false] 0 false) := ⟨_, rfl⟩
  have F1 : Frm st s1 := by rw [hs1]; exact Frm.new st _
  have hb1 : s1.get st.next = some (.row [.string .empty, .slice none 0 0, .bool false] 0 false) := by rw [hs1]; exact get_new_same _ _
  have la := hA.1
  simp (disch := omega) only [↓sxA, ↓wk_store, sxB, sxP, Nat.reduceLeDiff, reduceCtorEq, Nat.reduceEqDiff, Nat.reduceAdd, Int.reduceLT, Int.reduceLE, Int.reduceEq, Nat.reduceLT, Int.reduceToNat, Int.reduceAdd, Int.reduceSub, ↓reduceIte]
  rw [← hs1]
  clear hs1
  refine loop_rule [0, 1, 4, 6] (fun vs s => s = s1 ∧ ∃ j : Nat, vs = [v, .string x, .pointer (some ⟨st.next, 0, none⟩), .int .i64 j] ∧ j ≤ cs.length ∧ nmI x (ns.drop j) j = nmI x ns 0) (fun vs _ => match lget vs 3 with
      | .int _ k => ((cs.length : Int) - k).toNat
      | _ => 0) ?_ ?_ ?_
  · rfl
  · refine ⟨_, rfl, ⟨rfl, 0, rfl, Nat.zero_le _, rfl⟩, ?_⟩
    show ((cs.length : Int) - 0).toNat < 100000
    omega
  · rintro vs s ⟨rfl, j, rfl, j1, hk⟩
    show sx _ _ _ _ _ [(0, _), (1, _), (4, _), (6, _)] _ _ _ _
    have hF : ∀ o, Frm st (s.put st.next o) := fun o => F1.put _ (Nat.le_refl _) _
    by_cases hj : j < cs.length
    · obtain ⟨bb, vv, o1, o2, o3, o4⟩ := hA.2 j hj
      obtain ⟨p1, p2, p3, p4, p5⟩ := o4 s F1
      have hc := one_cells o2
      rw [nmI_at (by omega)] at hk
      by_cases hin : ns.getD j .empty = x
      · rw [if_pos hin] at hk
        have e1 : (ns.getD j .empty = x) = True := eq_true hin
        simp (disch := omega) only [↓sxA, ↓wk_store, sxB, sxP, Nat.reduceLeDiff, reduceCtorEq, Nat.reduceEqDiff, Nat.reduceAdd, Int.reduceLT, Int.reduceLE, Int.reduceEq, Nat.reduceLT, Int.reduceToNat, Int.reduceAdd, Int.reduceSub, ↓reduceIte, ↓la, ↓o1, ↓p2, e1, ↓p1, hb1, hc, o2]
        rw [resP_k1]
        simp (disch := omega) only [↓rk_put3, ↓sxA, ↓wk_store, sxB, sxP, Nat.reduceLeDiff, reduceCtorEq, Nat.reduceEqDiff, Nat.reduceAdd, Int.reduceLT, Int.reduceLE, Int.reduceEq, Nat.reduceLT, Int.reduceToNat, Int.reduceAdd, Int.reduceSub, ↓reduceIte]
        have hFr : Frm st (s.put st.next (some (.row [.string (ns.getD j .empty), vv, .bool (clAt cs j).set] 0 false))) := hF _
        exact h _ _ _ _ _ (.inr ⟨j, hj, hk.symm, rfl, rfl, rfl, o2, Nat.le_trans o3 hFr.nx, (o4 _ hFr).2.2.2.2⟩) hFr
      · rw [if_neg hin] at hk
        have e1 : (ns.getD j .empty = x) = False := eq_false hin
        simp (disch := omega) only [↓sxA, ↓wk_store, sxB, sxP, Nat.reduceLeDiff, reduceCtorEq, Nat.reduceEqDiff, Nat.reduceAdd, Int.reduceLT, Int.reduceLE, Int.reduceEq, Nat.reduceLT, Int.reduceToNat, Int.reduceAdd, Int.reduceSub, ↓reduceIte, ↓la, ↓o1, ↓p2, e1]
        refine ⟨_, rfl, ⟨j + 1, ?_, hj, hk⟩, ?_⟩
        · simp
        · show ((cs.length : Int) - ((j : Int) + 1)).toNat < ((cs.length : Int) - j).toNat
          omega
    · have e : ns.drop j = [] := List.drop_eq_nil_of_le (by omega)
      rw [e] at hk
      simp only [nmI] at hk
      simp (disch := omega) only [↓sxA, ↓wk_store, sxB, sxP, Nat.reduceLeDiff, reduceCtorEq, Nat.reduceEqDiff, Nat.reduceAdd, Int.reduceLT, Int.reduceLE, Int.reduceEq, Nat.reduceLT, Int.reduceToNat, Int.reduceAdd, Int.reduceSub, ↓reduceIte, ↓la, hb1]
      rw [resP_k1]
      simp (disch := omega) only [↓rk_put3, ↓sxA, ↓wk_store, sxB, sxP, Nat.reduceLeDiff, reduceCtorEq, Nat.reduceEqDiff, Nat.reduceAdd, Int.reduceLT, Int.reduceLE, Int.reduceEq, Nat.reduceLT, Int.reduceToNat, Int.reduceAdd, Int.reduceSub, ↓reduceIte]
      exact h _ _ _ _ _ (.inl ⟨hk.symm, rfl, rfl, rfl, rfl⟩) (hF _)
end
end Go.Proofs.YtdmemibnphcedaaGreatDoor
