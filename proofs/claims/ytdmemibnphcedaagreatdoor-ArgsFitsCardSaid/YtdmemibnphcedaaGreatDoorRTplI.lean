/-
  The chapter's Template.
-/
import Derived.Test.YtdmemibnphcedaaGreatDoorRTplH
set_option linter.unusedSimpArgs false
set_option linter.unusedVariables false
set_option maxRecDepth 10000
set_option linter.unusedSectionVars false
namespace Go.Proofs.YtdmemibnphcedaaGreatDoor
open Go.Am
attribute [local irreducible] callO wopK ropK popK opK grpsE listE sx Runs

/-- a list of items; no part of it lies in the block a - 1 -/
def ItV (lo a : Nat) (st : St) (v : Value) (l : List IM) (nvs : List Value) : Prop :=
  nvs.length = l.length ∧ GroK 7 st v (itRow nvs l) l.length ∧ (ow v = 0 ∨ (lo ≤ ow v ∧ ow v ≠ a)) ∧ ow v ≤ st.next ∧
    ∀ (j : Nat) (nv : Value) (x : IM), nvs[j]? = some nv → l[j]? = some x → Cel st nv (x.names.map Value.string) ∧ oneCell nv = true ∧ (ow nv = 0 ∨ (lo ≤ ow nv ∧ ow nv ≠ ow v ∧ ow nv ≠ a)) ∧ ow nv ≤ st.next

theorem ItV.itR {lo a : Nat} {st : St} {v : Value} {l : List IM} {nvs : List Value} (h : ItV lo a st v l nvs) : ItR lo st v l := by
  obtain ⟨h1, h2, h3, h4, h5⟩ := h
  refine ⟨nvs, h1, h2, by omega, h4, fun j nv x hj hx => ?_⟩
  obtain ⟨k1, k2, k3, k4⟩ := h5 j nv x hj hx
  exact ⟨k1, k2, by omega, k4⟩
theorem ItV.keep {lo a a' : Nat} {st st' : St} {v : Value} {l : List IM} {nvs : List Value} (h : ItV lo a st v l nvs) (hn : st.next ≤ st'.next) (hf : ∀ i, i + 1 ≠ a → lo ≤ i + 1 → i < st.next → st'.get i = st.get i) (ha : a' = a ∨ a' = 0 ∨ st.next < a') : ItV lo a' st' v l nvs := by
  obtain ⟨h1, h2, h3, h4, h5⟩ := h
  refine ⟨h1, h2.keep fun i hi => hf i (by omega) (by omega) (by omega), by omega, by omega, fun j nv x hj hx => ?_⟩
  obtain ⟨k1, k2, k3, k4⟩ := h5 j nv x hj hx
  exact ⟨k1.keep fun i hi => hf i (by omega) (by omega) (by omega), k2, by omega, by omega⟩

/-- between two parts -/
def TR1 (st : St) (lo : Nat) (pv : Value) (ps : List ByteArray) (vs : List Value) (s : St) : Prop :=
  ∃ (done : List IM) (j : Nat) (out nsv : Value) (nvs : List Value), vs = [out, nsv, pv, .bool (decide (0 < manyOf done)), .int .i64 (j : Nat)] ∧ j ≤ ps.length ∧ itemsA (ps.take j) = some done ∧
    ItV lo (ow nsv) s out done nvs ∧ GroK 1 s nsv ((namesOf done).map Value.string) (namesOf done).length ∧ (ow nsv = 0 ∨ lo ≤ ow nsv) ∧ ow nsv ≤ s.next ∧ (namesOf done).Nodup ∧ manyOf done ≤ 1 ∧
    (∀ i y, done[i]? = some y → i + 1 < ps.length → y.mks.f = false) ∧ lo ≤ s.next + 1 ∧ (∀ i, i < st.next → s.get i = st.get i) ∧ Row1 s pv (ps.map Value.string)

/-- between two names -/
def TR2 (st : St) (lo : Nat) (pv out nv : Value) (ps : List ByteArray) (done : List IM) (nvs : List Value) (x : IM) (bx j : Nat) (many : Bool) (n4 : Nat) (vs : List Value) (s : St) : Prop :=
  ∃ (k : Nat) (nsv : Value), vs = [out, nsv, pv, .bool many, .int .i64 (j : Nat), .pointer (some ⟨bx, 0, none⟩), .int .i64 (k : Nat)] ∧ k ≤ x.names.length ∧ ItV lo (ow nsv) s out done nvs ∧
    GroK 1 s nsv ((namesOf done ++ x.names.take k).map Value.string) (namesOf done ++ x.names.take k).length ∧ (ow nsv = 0 ∨ (lo ≤ ow nsv ∧ ow nsv ≠ ow nv ∧ ow nsv ≠ bx + 1)) ∧ ow nsv ≤ s.next ∧ (namesOf done ++ x.names.take k).Nodup ∧
    Cel s nv (x.names.map Value.string) ∧ s.get bx = some (.row [nv, .bool x.mks.a, .bool x.mks.k, .bool x.mks.s, .bool x.mks.n, .bool x.mks.m, .bool x.mks.f] 0 false) ∧ n4 ≤ s.next ∧ (∀ i, i < st.next → s.get i = st.get i) ∧ Row1 s pv (ps.map Value.string)

/-! ### how many names there are at most -/
theorem spl_sum (c : UInt8) : ∀ l, ((spl c l).map fun p => p.length + 1).sum = l.length + 1
  | [] => rfl
  | x :: l => by
    have ih := spl_sum c l
    simp only [spl]
    split
    · simp [ih]; omega
    · split
      · rename_i p ps hp
        rw [hp] at ih
        simp only [List.map_cons, List.sum_cons, List.length_cons] at ih ⊢
        omega
      · rename_i hp; exact (spl_ne c l hp).elim
theorem names_le {p : ByteArray} {x : IM} (h : itemA p = some x) : x.names.length ≤ p.size + 1 := itemA_names h
theorem items_names : ∀ {ps : List ByteArray} {l : List IM}, itemsA ps = some l → (namesOf l).length ≤ (ps.map fun p => p.size + 1).sum
  | [], l, h => by simp [itemsA] at h; subst h; simp [namesOf]
  | p :: ps, l, h => by
    simp only [itemsA] at h
    cases hp : itemA p with
    | none => rw [hp] at h; cases h
    | some x =>
      rw [hp] at h
      simp only [Option.map_eq_some_iff] at h
      obtain ⟨m, h1, rfl⟩ := h
      have h2 := items_names h1
      have h3 := names_le hp
      simp only [namesOf_cons, List.length_append, List.map_cons, List.sum_cons]
      omega
theorem sum_take (f : ByteArray → Nat) : ∀ (ps : List ByteArray) (j : Nat), ((ps.take j).map f).sum ≤ (ps.map f).sum
  | [], j => by simp
  | p :: ps, 0 => by simp
  | p :: ps, j + 1 => by simp only [List.take_succ_cons, List.map_cons, List.sum_cons]; have := sum_take f ps j; omega
theorem take_names {t : ByteArray} {c : UInt8} {j : Nat} {d : List IM} (h : itemsA ((pieces c t).take j) = some d) : (namesOf d).length ≤ t.size + 1 := by
  have h1 := items_names h
  have h2 := sum_take (fun p => p.size + 1) (pieces c t) j
  have h3 : ((pieces c t).map fun p => p.size + 1).sum = t.size + 1 := by
    rw [size_list, ← spl_sum c t.data.toList, pieces, List.map_map]
    try exact congrArg List.sum (List.map_congr_left fun l _ => by simp [bs_size])
  omega

section
variable {st : St} {K : Value → St → Prop}

set_option maxHeartbeats 8000000 in
theorem kTemplateR (n : Nat) (t : ByteArray) (ht : t.size < 80000) (h : ∀ l e v st', TmA t l e → ItR (st.next + 1) st' v l → Frm st st' → K (.tuple #[v, .int .i64 e]) st') :
    callK (callO T0 orc fns 100000 (n + 3)) 17 [.string t] st K := by
  refine fn_runs (fn := g17) ?_ ?_ ?_
  · rfl
  · rfl
  unfold g17
  by_cases h1 : t = ByteArray.empty
  · have e1 : (t = ByteArray.empty) = True := eq_true h1
    simp (disch := omega) only [↓sxA, ↓wk_store, sxB, sxP, Nat.reduceLeDiff, reduceCtorEq, Nat.reduceEqDiff, Nat.reduceAdd, Int.reduceLT, Int.reduceLE, Int.reduceEq, Nat.reduceLT, Int.reduceToNat, Int.reduceAdd, Int.reduceSub, ↓reduceIte, e1]
    exact h [] 0 _ st (.nil h1) (ItR.nil _ _) (Frm.refl _)
  have e1 : (t = ByteArray.empty) = False := eq_false h1
  simp (disch := omega) only [↓sxA, ↓wk_store, sxB, sxP, Nat.reduceLeDiff, reduceCtorEq, Nat.reduceEqDiff, Nat.reduceAdd, Int.reduceLT, Int.reduceLE, Int.reduceEq, Nat.reduceLT, Int.reduceToNat, Int.reduceAdd, Int.reduceSub, ↓reduceIte, e1]
  refine kSplitR (n + 1) t 44 (by omega) fun pv s2 r2 o2 on2 n2 f2 => ?_
  have hlen : (pieces 44 t).length ≤ t.size + 1 := pieces_length 44 t
  have hsz : ∀ p ∈ pieces 44 t, p.size ≤ t.size := fun p hp => pieces_size hp
  have hbadT : (∀ l, itemsA (pieces 44 t) = some l → ¬ goodA l) → TmA t [] 3 := fun hh => .bad h1 hh
  have hlongT : ∀ l, itemsA (pieces 44 t) = some l → goodA l → 20 < l.length → TmA t [] 2 := fun l k1 k2 k3 => .long l h1 k1 k2 k3
  have hokT : ∀ l, itemsA (pieces 44 t) = some l → goodA l → l.length ≤ 20 → TmA t l 0 := fun l k1 k2 k3 => .ok l h1 k1 k2 k3
  have hnb : ∀ j d, itemsA ((pieces 44 t).take j) = some d → (namesOf d).length ≤ t.size + 1 := fun j d hd => take_names hd
  generalize pieces 44 t = ps at r2 hlen hsz hbadT hlongT hokT hnb
  have hpl := len_cel r2.cel
  rw [List.length_map] at hpl
  obtain ⟨lo, hlo⟩ : ∃ lo, lo = s2.next + 1 := ⟨_, rfl⟩
  simp (disch := omega) only [↓sxA, ↓wk_store, sxB, sxP, Nat.reduceLeDiff, reduceCtorEq, Nat.reduceEqDiff, Nat.reduceAdd, Int.reduceLT, Int.reduceLE, Int.reduceEq, Nat.reduceLT, Int.reduceToNat, Int.reduceAdd, Int.reduceSub, ↓reduceIte]
  refine loop_rule [4, 5, 6, 7, 8] (TR1 st lo pv ps) (fun vs _ => match lget vs 4 with
      | .int _ k => ((ps.length : Int) - k).toNat
      | _ => 0) ?_ ?_ ?_
  · rfl
  · refine ⟨_, rfl, ⟨[], 0, _, _, [], rfl, Nat.zero_le _, rfl, ⟨rfl, GroK.nil _ _, .inl rfl, Nat.zero_le _, fun j nv x hj => by simp at hj⟩, GroK.nil _ _, .inl rfl, Nat.zero_le _, List.nodup_nil, Nat.zero_le _, fun i y hi => by simp at hi, by omega, f2, r2⟩, ?_⟩
    show ((ps.length : Int) - 0).toNat < 100000
    omega
  · rintro vs s ⟨done, j, out, nsv, nvs, rfl, hj, hit, hV, hns, hnw, hnn, hnd, hmany, hrest, hlos, hf, hr⟩
    show sx _ _ _ _ _ [(4, _), (5, _), (6, _), (7, _), (8, _)] _ _ _ _
    have F : Frm st s := ⟨by omega, hf⟩
    by_cases hjp : j < ps.length
    · have ix := idx_cel hr.cel .i64 (j : Int)
      rw [List.length_map] at ix
      have ld : ∀ K : Value → Prop, ropK .load1 [bptr pv (j : Int)] s K = K (.string (ps.getD j .empty)) := fun K => by
        rw [load_cel hr.cel (j : Int) K (by omega) (by rw [List.length_map]; omega), Int.toNat_natCast, getD_str _ j hjp]
      have hpj : ps.getD j .empty = ps[j] := by rw [List.getD_eq_getElem?_getD, List.getElem?_eq_getElem hjp, Option.getD_some]
      rw [hpj] at ld
      have hps := hsz _ (List.getElem_mem hjp)
      have hat : ∀ l, itemsA ps = some l → ∃ x r, itemA ps[j] = some x ∧ l = done ++ x :: r ∧ r.length = ps.length - j - 1 := fun l hl => items_at hjp hit hl
      have hsn : ∀ x, itemA ps[j] = some x → itemsA (ps.take (j + 1)) = some (done ++ [x]) := fun x hx => items_snoc hjp hit hx
      have hdl : done.length = j := by rw [itemsA_length hit, List.length_take]; omega
      generalize ps[j] = p at ld hps hat hsn
      simp (disch := omega) only [↓sxA, ↓wk_store, sxB, sxP, Nat.reduceLeDiff, reduceCtorEq, Nat.reduceEqDiff, Nat.reduceAdd, Int.reduceLT, Int.reduceLE, Int.reduceEq, Nat.reduceLT, Int.reduceToNat, Int.reduceAdd, Int.reduceSub, ↓reduceIte, ↓ix, ↓ld, ↓hpl]
      refine kItemR n p (by omega) (fun hb l hl hlo' s3 F3 => ?_) (fun x hx nv s3 F3 hnv ho1 how1 hown => ?_)
      · -- no item
        have st7 := fun W => wk_storeK (W := W) (get_new_same s3 (.row zero7 0 false)) (o := 0) (k := 7) (xs := l) (by decide) hl hlo'
        simp (disch := omega) only [↓sxA, ↓wk_store, sxB, sxP, Nat.reduceLeDiff, reduceCtorEq, Nat.reduceEqDiff, Nat.reduceAdd, Int.reduceLT, Int.reduceLE, Int.reduceEq, Nat.reduceLT, Int.reduceToNat, Int.reduceAdd, Int.reduceSub, ↓reduceIte, ↓st7]
        refine h [] 3 _ _ (hbadT fun l hl => ?_) (ItR.nil _ _) (((F.trans F3).trans (Frm.new s3 _)).put _ (by have := F3.nx; have := F.nx; omega) _)
        obtain ⟨x, r, hx, _⟩ := hat l hl
        rw [hb] at hx
        cases hx
      · obtain ⟨s4, hs4⟩ : ∃ s4, s4 = (s3.new (.row zero7 0 false)).put s3.next (some (.row [nv, .bool x.mks.a, .bool x.mks.k, .bool x.mks.s, .bool x.mks.n, .bool x.mks.m, .bool x.mks.f] 0 false)) := ⟨_, rfl⟩
        have st7 : ∀ W : Value → St → Prop, wopK (.store 7) [.pointer (some ⟨s3.next, 0, none⟩), .agg (itCells nv x.mks).toArray] (s3.new (.row zero7 0 false)) W = W undef s4 :=
          fun W => by rw [hs4]; exact wk_storeK (W := W) (get_new_same s3 (.row zero7 0 false)) (o := 0) (k := 7) (xs := itCells nv x.mks) (by decide) rfl (it7 ho1 _)
        have hnl := itemA_names hx
        have hnb1 := hnb (j + 1) _ (hsn x hx)
        have hns1 : namesOf (done ++ [x]) = namesOf done ++ x.names := by rw [namesOf_append]; simp [namesOf]
        rw [hns1, List.length_append] at hnb1
        have hbx : s4.get s3.next = some (.row [nv, .bool x.mks.a, .bool x.mks.k, .bool x.mks.s, .bool x.mks.n, .bool x.mks.m, .bool x.mks.f] 0 false) := by rw [hs4]; exact get_put_same _ _ _
        have n4 : s4.next = s3.next + 1 := by rw [hs4]; rfl
        have f4 : ∀ i, i < s3.next → s4.get i = s3.get i := fun i hi => by rw [hs4, get_put_ne _ _ _ _ (by omega), get_new_ne _ _ _ (by omega)]
        have hn3 := F3.nx
        have F4 : Frm s s4 := F3.trans ⟨by omega, f4⟩
        have Fst : Frm st s4 := F.trans F4
        have hnv4 : Cel s4 nv (x.names.map Value.string) := hnv.keep fun i hi => f4 i (by omega)
        have hstn := F.nx
        have early : x.mks.f = true → (j : Int) + 1 < (ps.length : Int) → K (.tuple #[.slice none 0 0, .int .i64 3]) s4 := fun hxf hlt => by
          refine h [] 3 _ _ (hbadT fun l hl hg => ?_) (ItR.nil _ _) Fst
          obtain ⟨x', r, hx', hl', hrl⟩ := hat l hl
          rw [hx] at hx'
          cases hx'
          have := (restOk_iff l).1 hg.1 j x (by rw [hl', List.getElem?_append_right (by omega), hdl]; simp) (by rw [hl', List.length_append, List.length_cons]; omega)
          rw [hxf] at this
          cases this
        have two : x.mks.m = true → 0 < manyOf done → K (.tuple #[.slice none 0 0, .int .i64 3]) s4 := fun hxm hpos => by
          refine h [] 3 _ _ (hbadT fun l hl hg => ?_) (ItR.nil _ _) Fst
          obtain ⟨x', r, hx', hl', hrl⟩ := hat l hl
          rw [hx] at hx'
          cases hx'
          have h2 := hg.2.2
          have e : manyOf l = manyOf done + (manyOf [x] + manyOf r) := by rw [hl', manyOf_append, show x :: r = [x] ++ r from rfl, manyOf_append]
          rw [manyOf_one, if_pos hxm] at e
          omega
        have hdup : ∀ (k : Nat) (q : ByteArray), k < x.names.length → x.names[k]? = some q → q ∈ namesOf done ++ x.names.take k → ∀ l, itemsA ps = some l → ¬ goodA l := fun k q hk hq hin l hl hg => by
          obtain ⟨x', r, hx', hl', hrl⟩ := hat l hl
          rw [hx] at hx'
          cases hx'
          have hnod := hg.2.1
          have hqk : x.names[k] = q := by rw [List.getElem?_eq_getElem hk] at hq; exact Option.some.inj hq
          rw [hl', namesOf_append, namesOf_cons] at hnod
          have e : x.names = x.names.take k ++ q :: x.names.drop (k + 1) := by rw [← hqk, ← List.drop_eq_getElem_cons hk, List.take_append_drop]
          rw [e, List.append_assoc, ← List.append_assoc, List.cons_append] at hnod
          rw [List.nodup_append] at hnod
          exact hnod.2.2 q hin q (by simp) rfl
        have hmm : manyOf (done ++ [x]) = manyOf done + manyOf [x] := manyOf_append _ _
        rw [manyOf_one] at hmm
        by_cases hE2 : x.mks.m = true ∧ 0 < manyOf done
        · have hmv := hE2.1
          have d1 : decide (0 < manyOf done) = true := decide_eq_true hE2.2
          simp (disch := omega) only [↓sxA, ↓wk_store, sxB, sxP, Nat.reduceLeDiff, reduceCtorEq, Nat.reduceEqDiff, Nat.reduceAdd, Int.reduceLT, Int.reduceLE, Int.reduceEq, Nat.reduceLT, Int.reduceToNat, Int.reduceAdd, Int.reduceSub, ↓reduceIte, ↓st7, hbx, hmv, d1]
          exact two hmv hE2.2
        -- the many so far, and with this one
        obtain ⟨mb, mb', hmb, hmb', hmbx, hmle⟩ : ∃ mb mb' : Bool, decide (0 < manyOf done) = mb ∧ mb' = decide (0 < manyOf (done ++ [x])) ∧ ((mb = true ∧ x.mks.m = false ∧ mb' = true) ∨ (mb = false ∧ mb' = x.mks.m)) ∧ manyOf (done ++ [x]) ≤ 1 := by
          cases hm : x.mks.m with
          | true =>
            rw [hm] at hmm
            simp only [if_true] at hmm
            have : ¬ 0 < manyOf done := fun hh => hE2 ⟨hm, hh⟩
            exact ⟨false, true, decide_eq_false this, (decide_eq_true (by omega)).symm, .inr ⟨rfl, rfl⟩, by omega⟩
          | false =>
            rw [hm] at hmm
            simp only [Bool.false_eq_true, if_false, Nat.add_zero] at hmm
            by_cases hp : 0 < manyOf done
            · exact ⟨true, true, decide_eq_true hp, (decide_eq_true (by omega)).symm, .inl ⟨rfl, rfl, rfl⟩, by omega⟩
            · exact ⟨false, false, decide_eq_false hp, (decide_eq_false (by omega)).symm, .inr ⟨rfl, rfl⟩, by omega⟩
        rw [hmb]
        by_cases hE : x.mks.f = true ∧ (j : Int) + 1 < (ps.length : Int)
        · have hfv := hE.1
          have hlt := hE.2
          rcases hmbx with ⟨rfl, hxm, rfl⟩ | ⟨rfl, rfl⟩
          · simp (disch := omega) only [↓sxA, ↓wk_store, sxB, sxP, Nat.reduceLeDiff, reduceCtorEq, Nat.reduceEqDiff, Nat.reduceAdd, Int.reduceLT, Int.reduceLE, Int.reduceEq, Nat.reduceLT, Int.reduceToNat, Int.reduceAdd, Int.reduceSub, ↓reduceIte, ↓st7, hbx, hfv, hxm, ↓hpl]
            exact early hfv hlt
          · cases hxm : x.mks.m with
            | true =>
              simp (disch := omega) only [↓sxA, ↓wk_store, sxB, sxP, Nat.reduceLeDiff, reduceCtorEq, Nat.reduceEqDiff, Nat.reduceAdd, Int.reduceLT, Int.reduceLE, Int.reduceEq, Nat.reduceLT, Int.reduceToNat, Int.reduceAdd, Int.reduceSub, ↓reduceIte, ↓st7, hbx, hfv, hxm, ↓hpl]
              exact early hfv hlt
            | false =>
              simp (disch := omega) only [↓sxA, ↓wk_store, sxB, sxP, Nat.reduceLeDiff, reduceCtorEq, Nat.reduceEqDiff, Nat.reduceAdd, Int.reduceLT, Int.reduceLE, Int.reduceEq, Nat.reduceLT, Int.reduceToNat, Int.reduceAdd, Int.reduceSub, ↓reduceIte, ↓st7, hbx, hfv, hxm, ↓hpl]
              exact early hfv hlt
        have hcase : x.mks.f = false ∨ (x.mks.f = true ∧ ¬ (j : Int) + 1 < (ps.length : Int)) := by
          cases hh : x.mks.f with
          | false => exact .inl rfl
          | true => exact .inr ⟨rfl, fun hlt => hE ⟨hh, hlt⟩⟩
        have hmc : (mb = true ∧ x.mks.m = false ∧ mb' = true) ∨ (mb = false ∧ x.mks.m = true ∧ mb' = true) ∨ (mb = false ∧ x.mks.m = false ∧ mb' = false) := by
          rcases hmbx with hh | ⟨h3, h4⟩
          · exact .inl hh
          · cases hm : x.mks.m with
            | true => exact .inr (.inl ⟨h3, rfl, by rw [h4, hm]⟩)
            | false => exact .inr (.inr ⟨h3, rfl, by rw [h4, hm]⟩)
        have hrest' : ∀ i y, (done ++ [x])[i]? = some y → i + 1 < ps.length → y.mks.f = false := fun i y hi hil => by
          by_cases hid : i < done.length
          · rw [List.getElem?_append_left hid] at hi; exact hrest i y hi hil
          · rw [List.getElem?_append_right (by omega)] at hi
            have e0 : i - done.length = 0 := by
              have := (List.getElem?_eq_some_iff.1 hi).1
              simp at this
              omega
            rw [e0] at hi
            simp at hi
            subst hi
            rcases hcase with hh | ⟨_, hh⟩
            · exact hh
            · exfalso; omega
        have hV4 : ItV lo (ow nsv) s4 out done nvs := hV.keep F4.nx (fun i _ _ hi => F4.old i hi) (.inl rfl)
        have hgo := hV.2.2.2.1
        have hgo3 := hV.2.2.1
        have init : TR2 st lo pv out nv ps done nvs x s3.next j mb' s4.next [out, nsv, pv, .bool mb', .int .i64 (j : Nat), .pointer (some ⟨s3.next, 0, none⟩), .int .i64 0] s4 :=
          ⟨0, nsv, rfl, Nat.zero_le _, hV4, by simpa using hns.keep fun i hi => F4.old i (by omega), by omega, by omega, by simpa using hnd, hnv4, hbx, Nat.le_refl _, Fst.old, hr.keep fun i hi => F4.old i (by obtain ⟨b, cap, g, ro, e, e2, e3, e4, e5⟩ := hr; subst e; have : b + 1 = i + 1 := hi.symm; have := hlos; have := on2; show i < s.next; simp only [ow] at on2; omega)⟩
        rcases hcase with hfv | ⟨hfv, hlast⟩ <;> rcases hmc with ⟨hmbv, hxm, hmb2⟩ | ⟨hmbv, hxm, hmb2⟩ | ⟨hmbv, hxm, hmb2⟩
        all_goals
          rw [hmbv]
          simp (disch := omega) only [↓sxA, ↓wk_store, sxB, sxP, Nat.reduceLeDiff, reduceCtorEq, Nat.reduceEqDiff, Nat.reduceAdd, Int.reduceLT, Int.reduceLE, Int.reduceEq, Nat.reduceLT, Int.reduceToNat, Int.reduceAdd, Int.reduceSub, ↓reduceIte, ↓st7, hbx, hfv, hxm, ↓hpl]
          refine loop_rule [4, 5, 6, 7, 8, 9, 11] (TR2 st lo pv out nv ps done nvs x s3.next j mb' s4.next) (fun vs _ => match lget vs 6 with
              | .int _ k => ((x.names.length : Int) - k).toNat
              | _ => 0) ?_ ?_ ?_
          · rfl
          · refine ⟨_, rfl, (by have hi := init; rw [hmb2] at hi ⊢; exact hi), ?_⟩
            show ((x.names.length : Int) - 0).toNat < 100000
            omega
          · clear init early two hbx hV hV4 hns hnv4 hnv
            rintro vs s5 ⟨k, nsv5, rfl, hk, hV, hns, hnw5, hnn5, hnd5, hnv5, hbx5, n5, f5, hr5⟩
            show sx _ _ _ _ _ [(4, _), (5, _), (6, _), (7, _), (8, _), (9, _), (11, _)] _ _ _ _
            have F5 : Frm st s5 := ⟨by have := Fst.nx; omega, f5⟩
            have lnv := len_cel hnv5
            rw [List.length_map] at lnv
            by_cases hkn : k < x.names.length
            · have ix5 := idx_cel hnv5 .i64 (k : Int)
              rw [List.length_map] at ix5
              have hqk : x.names[k]? = some (x.names.getD k .empty) := by rw [List.getD_eq_getElem?_getD, List.getElem?_eq_getElem hkn]; rfl
              have ld5 : ∀ K : Value → Prop, ropK .load1 [bptr nv (k : Int)] s5 K = K (.string (x.names.getD k .empty)) := fun K => by
                rw [load_cel hnv5 (k : Int) K (by omega) (by rw [List.length_map]; omega), Int.toNat_natCast, getD_str _ k hkn]
              have htk : x.names.take (k + 1) = x.names.take k ++ [x.names.getD k .empty] := by rw [List.take_add_one, hqk]; rfl
              have hdq := hdup k _ hkn hqk
              have hll : (namesOf done ++ x.names.take k).length < 90000 := by rw [List.length_append, List.length_take]; omega
              generalize x.names.getD k .empty = q at ld5 htk hdq
              simp (disch := omega) only [↓sxA, ↓wk_store, sxB, sxP, Nat.reduceLeDiff, reduceCtorEq, Nat.reduceEqDiff, Nat.reduceAdd, Int.reduceLT, Int.reduceLE, Int.reduceEq, Nat.reduceLT, Int.reduceToNat, Int.reduceAdd, Int.reduceSub, ↓reduceIte, hbx5, ↓lnv, ↓ix5, ↓ld5]
              refine kHas (n + 1) hns.cel.1 hll (fun hin r hr => ?_) (fun hin => ?_)
              · simp (disch := omega) only [↓sxA, ↓wk_store, sxB, sxP, Nat.reduceLeDiff, reduceCtorEq, Nat.reduceEqDiff, Nat.reduceAdd, Int.reduceLT, Int.reduceLE, Int.reduceEq, Nat.reduceLT, Int.reduceToNat, Int.reduceAdd, Int.reduceSub, ↓reduceIte]
                exact h [] 3 _ _ (hbadT (hdq hin)) (ItR.nil _ _) F5
              · simp (disch := omega) only [↓sxA, ↓wk_store, sxB, sxP, Nat.reduceLeDiff, reduceCtorEq, Nat.reduceEqDiff, Nat.reduceAdd, Int.reduceLT, Int.reduceLE, Int.reduceEq, Nat.reduceLT, Int.reduceToNat, Int.reduceAdd, Int.reduceSub, ↓reduceIte, hbx5, ↓ix5, ↓ld5]
                refine appendK (hns.keep fun i hi => get_new_ne _ _ _ (by omega)) (get_new_same _ _) rfl (by decide) rfl (by omega) (by omega) fun s6 k1 k2 k3 => ?_
                have hnx5 : (s5.new (.row [.string q] 0 false)).next = s5.next + 1 := rfl
                have fr : ∀ i, i + 1 ≠ ow nsv5 → i < s5.next → s6.get i = s5.get i := fun i hi hlt => (k3 i hi (by omega)).trans (get_new_ne _ _ _ (by omega))
                have hvn := hV.2.2.2.1
                simp (disch := omega) only [↓sxA, ↓wk_store, sxB, sxP, Nat.reduceLeDiff, reduceCtorEq, Nat.reduceEqDiff, Nat.reduceAdd, Int.reduceLT, Int.reduceLE, Int.reduceEq, Nat.reduceLT, Int.reduceToNat, Int.reduceAdd, Int.reduceSub, ↓reduceIte]
                have how6 : ow (Value.slice (some ⟨s5.next + 1, 0, none⟩) ((namesOf done ++ x.names.take k).length + 1) ((namesOf done ++ x.names.take k).length + 1)) = s5.next + 2 := rfl
                refine ⟨_, rfl, ⟨k + 1, .slice (some ⟨s5.next + 1, 0, none⟩) ((namesOf done ++ x.names.take k).length + 1) ((namesOf done ++ x.names.take k).length + 1), rfl, hkn, hV.keep (by omega) (fun i hi _ hlt => fr i hi hlt) (by omega), ?_, ?_, ?_, ?_, ?_, ?_, by omega, fun i hi => (fr i (by omega) (by omega)).trans (f5 i hi), ?_⟩, ?_⟩
                · have e : (namesOf done ++ x.names.take k ++ [q]).length = (namesOf done ++ x.names.take k).length + 1 := by rw [List.length_append]; rfl
                  rw [htk, ← List.append_assoc, e, List.map_append]
                  exact k1
                · omega
                · omega
                · rw [htk, ← List.append_assoc, List.nodup_append]
                  refine ⟨hnd5, by simp, fun a ha b hb => ?_⟩
                  simp at hb
                  subst hb
                  exact fun e => hin (e ▸ ha)
                · exact hnv5.keep fun i hi => fr i (by omega) (by omega)
                · exact (fr _ (by omega) (by omega)).trans hbx5
                · exact hr5.keep fun i hi => fr i (by omega) (by omega)
                · show ((x.names.length : Int) - ((k : Int) + 1)).toNat < ((x.names.length : Int) - (k : Int)).toNat
                  omega
            · have htk : x.names.take k = x.names := List.take_of_length_le (by omega)
              rw [htk, ← hns1] at hns hnd5
              have all5 := rk_loadAll (k := 7) hbx5 rfl (by decide)
              obtain ⟨g1, g2, g3, g4, g5⟩ := hV
              simp (disch := omega) only [↓sxA, ↓wk_store, sxB, sxP, Nat.reduceLeDiff, reduceCtorEq, Nat.reduceEqDiff, Nat.reduceAdd, Int.reduceLT, Int.reduceLE, Int.reduceEq, Nat.reduceLT, Int.reduceToNat, Int.reduceAdd, Int.reduceSub, ↓reduceIte, hbx5, ↓lnv, ↓all5]
              have hnx5 : (s5.new (.row [nv, .bool x.mks.a, .bool x.mks.k, .bool x.mks.s, .bool x.mks.n, .bool x.mks.m, .bool x.mks.f] 0 false)).next = s5.next + 1 := rfl
              refine appendK (new := [nv, .bool x.mks.a, .bool x.mks.k, .bool x.mks.s, .bool x.mks.n, .bool x.mks.m, .bool x.mks.f]) (g2.keep fun i hi => get_new_ne _ _ _ (by omega)) (get_new_same _ _) rfl (by decide) (it7 ho1 x.mks) (by omega) (by omega) fun s6 k1 k2 k3 => ?_
              have fr : ∀ i, i + 1 ≠ ow out → i < s5.next → s6.get i = s5.get i := fun i hi hlt => (k3 i hi (by omega)).trans (get_new_ne _ _ _ (by omega))
              have how6 : ∀ a b : Nat, ow (Value.slice (some ⟨s5.next + 1, 0, none⟩) a b) = s5.next + 2 := fun a b => rfl
              simp (disch := omega) only [↓sxA, ↓wk_store, sxB, sxP, Nat.reduceLeDiff, reduceCtorEq, Nat.reduceEqDiff, Nat.reduceAdd, Int.reduceLT, Int.reduceLE, Int.reduceEq, Nat.reduceLT, Int.reduceToNat, Int.reduceAdd, Int.reduceSub, ↓reduceIte]
              have hmeas : ((ps.length : Int) - ((j : Int) + 1)).toNat < ((ps.length : Int) - (j : Int)).toNat := by omega
              refine ⟨_, rfl, ⟨done ++ [x], j + 1, .slice (some ⟨s5.next + 1, 0, none⟩) (done.length + 1) (done.length + 1), nsv5, nvs ++ [nv], by rw [← hmb', hmb2]; rfl, hjp, hsn x hx, ⟨by simp [g1], ?_, ?_, ?_, fun i nv' x' hi hx' => ?_⟩, hns.keep fun i hi => fr i (by omega) (by omega), by omega, by omega, hnd5, hmle, hrest', by omega, fun i hi => (fr i (by omega) (by omega)).trans (f5 i hi), hr5.keep fun i hi => fr i (by omega) (by omega)⟩, hmeas⟩
              · rw [itRow_snoc _ _ _ _ g1, List.length_append]
                exact k1
              · right
                rw [how6]
                omega
              · rw [how6]
                omega
              · rw [how6]
                by_cases hil : i < done.length
                · rw [List.getElem?_append_left (by omega)] at hi hx'
                  obtain ⟨q1, q2, q3, q4⟩ := g5 i nv' x' hi hx'
                  exact ⟨q1.keep fun i hi => fr i (by omega) (by omega), q2, by omega, by omega⟩
                · rw [List.getElem?_append_right (by omega)] at hi hx'
                  have e0 : i - nvs.length = 0 := by
                    have := (List.getElem?_eq_some_iff.1 hi).1
                    simp at this
                    omega
                  rw [e0] at hi
                  rw [show i - done.length = 0 by omega] at hx'
                  simp at hi hx'
                  subst hi hx'
                  exact ⟨hnv5.keep fun i hi => fr i (by omega) (by omega), ho1, by omega, by omega⟩
    · have hjl : j = ps.length := by omega
      have hps : ps.take j = ps := List.take_of_length_le (by omega)
      rw [hps] at hit
      have hdl := itemsA_length hit
      have hR := hV.itR
      have hlo' := hR.len
      have hro : restOk done = true := (restOk_iff done).2 fun i y hi hl => hrest i y hi (by omega)
      have hg : goodA done := ⟨hro, hnd, hmany⟩
      by_cases h20 : 20 < done.length
      · simp (disch := omega) only [↓sxA, ↓wk_store, sxB, sxP, Nat.reduceLeDiff, reduceCtorEq, Nat.reduceEqDiff, Nat.reduceAdd, Int.reduceLT, Int.reduceLE, Int.reduceEq, Nat.reduceLT, Int.reduceToNat, Int.reduceAdd, Int.reduceSub, ↓reduceIte, ↓hlo', ↓hpl]
        exact h [] 2 _ _ (hlongT done hit hg h20) (ItR.nil _ _) F
      · simp (disch := omega) only [↓sxA, ↓wk_store, sxB, sxP, Nat.reduceLeDiff, reduceCtorEq, Nat.reduceEqDiff, Nat.reduceAdd, Int.reduceLT, Int.reduceLE, Int.reduceEq, Nat.reduceLT, Int.reduceToNat, Int.reduceAdd, Int.reduceSub, ↓reduceIte, ↓hlo', ↓hpl]
        exact h done 0 _ _ (hokT done hit hg (by omega)) (hR.weak (by omega)) F
end
end Go.Proofs.YtdmemibnphcedaaGreatDoor
