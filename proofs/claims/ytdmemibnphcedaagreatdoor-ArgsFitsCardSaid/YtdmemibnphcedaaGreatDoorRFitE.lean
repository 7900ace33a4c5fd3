/-
  The program's find and free.
-/
import Derived.Test.YtdmemibnphcedaaGreatDoorRFitD
set_option linter.unusedSimpArgs false
set_option linter.unusedVariables false
set_option maxRecDepth 10000
set_option linter.unusedSectionVars false
namespace Go.Proofs.YtdmemibnphcedaaGreatDoor
open Go.Am
attribute [local irreducible] callO wopK ropK popK opK grpsE listE sx Runs

def nm0 (x : IM) : ByteArray := x.names.headD .empty

/-- the fitter: where its parts are -/
structure FtR (s0 st : St) (bf : Nat) (lv : Value) (s : ByteArray) (l : List IM) (p : Nat) (cs : List Cl) : Prop where
  frm : Frm s0 st
  bf1 : s0.next ≤ bf
  bf2 : bf < st.next
  items : ItR 1 s0 lv l
  len : cs.length = l.length
  body : ∃ ov bn g, st.get bf = some (.row [lv, .string s, .int .i64 (p : Nat), ov, .slice (some ⟨bn, 0, none⟩) l.length l.length] 0 false) ∧ AgR (fun n => s0.next + 1 ≤ n ∧ n ≠ bf + 1 ∧ n ≠ bn + 1) true st ov (l.map nm0) cs ∧
    st.get bn = some (.row (cs.map fun c => .bool c.nm) g false) ∧ s0.next ≤ bn ∧ bn < st.next ∧ bn ≠ bf

section
variable {s0 st st' : St} {bf p : Nat} {lv : Value} {s : ByteArray} {l : List IM} {cs : List Cl}
theorem FtR.keep (h : FtR s0 st bf lv s l p cs) (k : Frm st st') : FtR s0 st' bf lv s l p cs := by
  obtain ⟨ov, bn, g, b1, b2, b3, b4, b5, b6⟩ := h.body
  refine ⟨h.frm.trans k, h.bf1, Nat.lt_of_lt_of_le h.bf2 k.nx, h.items, h.len, ov, bn, g, (k.old _ h.bf2).trans b1, b2.keep k.nx fun i _ hi => k.old i hi, (k.old _ b5).trans b3, b4, Nat.lt_of_lt_of_le b5 k.nx, b6⟩
theorem FtR.its (h : FtR s0 st bf lv s l p cs) : ItR 1 st lv l := h.items.keep h.frm.nx fun i _ hi => h.frm.old i hi
theorem FtR.box (h : FtR s0 st bf lv s l p cs) : ∃ ov nv, st.get bf = some (.row [lv, .string s, .int .i64 (p : Nat), ov, nv] 0 false) := by
  obtain ⟨ov, bn, g, b1, _⟩ := h.body
  exact ⟨_, _, b1⟩
end

theorem itBox (s : St) {nv : Value} (x : Mk) (ho : oneCell nv = true) : ∃ s4, (∀ W : Value → St → Prop, wopK (.store 7) [.pointer (some ⟨s.next, 0, none⟩), .agg (itCells nv x).toArray] (s.new (.row zero7 0 false)) W = W undef s4) ∧ s4.get s.next = some (.row [nv, .bool x.a, .bool x.k, .bool x.s, .bool x.n, .bool x.m, .bool x.f] 0 false) ∧ s4.next = s.next + 1 ∧ Frm s s4 :=
  ⟨(s.new (.row zero7 0 false)).put s.next (some (.row [nv, .bool x.a, .bool x.k, .bool x.s, .bool x.n, .bool x.m, .bool x.f] 0 false)), fun W => wk_storeK (W := W) (get_new_same s (.row zero7 0 false)) (o := 0) (k := 7) (xs := itCells nv x) (by decide) rfl (it7 ho x), get_put_same _ _ _, rfl, (Frm.new s _).put _ (Nat.le_refl _) _⟩

section
variable {st : St} {v : Value} {K : Value → St → Prop} {xs : List ByteArray} {x : ByteArray}

theorem kIndexS (n : Nat) (hv : Cel st v (xs.map Value.string)) (hl : xs.length < 90000) (h1 : x ∈ xs → ∀ r : Int, 0 ≤ r → K (.int .i64 r) st) (h2 : x ∉ xs → K (.int .i64 (-1)) st) :
    callK (callO T0 orc fns 100000 (n + 1)) 122 [v, .string x] st K := by
  refine fn_runs (fn := g122) ?_ ?_ ?_
  · rfl
  · rfl
  unfold g122
  have hn := len_cel hv
  rw [List.length_map] at hn
  simp (disch := omega) only [↓sxA, ↓wk_store, sxB, sxP, Nat.reduceLeDiff, reduceCtorEq, Nat.reduceEqDiff, Nat.reduceAdd, Int.reduceLT, Int.reduceLE, Int.reduceEq, Nat.reduceLT, Int.reduceToNat, Int.reduceAdd, Int.reduceSub, ↓reduceIte, ↓hn]
  refine loop_rule [0, 1, 7, 8] (fun vs st' => st' = st ∧ ∃ j : Nat, vs = [v, .string x, .int .i64 (xs.length : Nat), .int .i64 j] ∧ j ≤ xs.length ∧ ∀ i, i < j → x ≠ xs.getD i .empty) (fun vs _ => match lget vs 3 with
      | .int _ k => ((xs.length : Int) - k).toNat
      | _ => 0) ?_ ?_ ?_
  · rfl
  · refine ⟨_, rfl, ⟨rfl, 0, rfl, Nat.zero_le _, fun i hi => by omega⟩, ?_⟩
    show ((xs.length : Int) - 0).toNat < 100000
    omega
  · rintro vs st' ⟨rfl, j, rfl, j1, j2⟩
    show sx _ _ _ _ _ [(0, _), (1, _), (7, _), (8, _)] _ _ _ _
    by_cases hj : j < xs.length
    · have i1 := idx_cel hv
      have ld := load_cel hv
      rw [List.length_map] at i1 ld
      have e := getD_str xs j hj
      simp (disch := omega) only [↓sxA, ↓wk_store, sxB, sxP, Nat.reduceLeDiff, reduceCtorEq, Nat.reduceEqDiff, Nat.reduceAdd, Int.reduceLT, Int.reduceLE, Int.reduceEq, Nat.reduceLT, Int.reduceToNat, Int.reduceAdd, Int.reduceSub, ↓reduceIte, ↓i1, ↓ld, Int.toNat_natCast, e]
      refine iteI (fun hq => ?_) (fun hq => ?_)
      · refine h1 ?_ _ (by omega)
        rw [hq, List.getD_eq_getElem?_getD, List.getElem?_eq_getElem hj]
        exact List.getElem_mem hj
      · refine ⟨_, rfl, ⟨j + 1, ?_, hj, fun i hi => ?_⟩, ?_⟩
        · simp
        · by_cases e : i = j
          · rw [e]; exact hq
          · exact j2 i (by omega)
        · show ((xs.length : Int) - ((j : Int) + 1)).toNat < ((xs.length : Int) - j).toNat
          omega
    · simp (disch := omega) only [↓sxA, ↓wk_store, sxB, sxP, Nat.reduceLeDiff, reduceCtorEq, Nat.reduceEqDiff, Nat.reduceAdd, Int.reduceLT, Int.reduceLE, Int.reduceEq, Nat.reduceLT, Int.reduceToNat, Int.reduceAdd, Int.reduceSub, ↓reduceIte]
      refine h2 fun hm => ?_
      obtain ⟨i, hi, rfl⟩ := List.getElem_of_mem hm
      refine j2 i (by omega) ?_
      rw [List.getD_eq_getElem?_getD, List.getElem?_eq_getElem hi, Option.getD_some]

open Classical in
theorem kContains (n : Nat) (hv : Cel st v (xs.map Value.string)) (hl : xs.length < 90000) (h : K (.bool (decide (x ∈ xs))) st) :
    callK (callO T0 orc fns 100000 (n + 2)) 93 [v, .string x] st K := by
  refine fn_runs (fn := g93) ?_ ?_ ?_
  · rfl
  · rfl
  unfold g93
  simp (disch := omega) only [↓sxA, ↓wk_store, sxB, sxP, Nat.reduceLeDiff, reduceCtorEq, Nat.reduceEqDiff, Nat.reduceAdd, Int.reduceLT, Int.reduceLE, Int.reduceEq, Nat.reduceLT, Int.reduceToNat, Int.reduceAdd, Int.reduceSub, ↓reduceIte]
  refine kIndexS n hv hl (fun hm r hr => ?_) (fun hm => ?_)
  · rw [decide_eq_true hm] at h
    simp (disch := omega) only [↓sxA, ↓wk_store, sxB, sxP, Nat.reduceLeDiff, reduceCtorEq, Nat.reduceEqDiff, Nat.reduceAdd, Int.reduceLT, Int.reduceLE, Int.reduceEq, Nat.reduceLT, Int.reduceToNat, Int.reduceAdd, Int.reduceSub, ↓reduceIte]
    exact h
  · rw [decide_eq_false hm] at h
    simp (disch := omega) only [↓sxA, ↓wk_store, sxB, sxP, Nat.reduceLeDiff, reduceCtorEq, Nat.reduceEqDiff, Nat.reduceAdd, Int.reduceLT, Int.reduceLE, Int.reduceEq, Nat.reduceLT, Int.reduceToNat, Int.reduceAdd, Int.reduceSub, ↓reduceIte]
    exact h

open Classical in
theorem kFindIn (n : Nat) {nv : Value} {mk : Mk} {b g : Nat} {ro : Bool} (hb : st.get b = some (.row [.string x] g ro)) (hbn : b < st.next) (hv : Cel st nv (xs.map Value.string)) (ho : oneCell nv = true) (hvn : ow nv ≤ st.next) (hl : xs.length < 90000) (h : ∀ st', Frm st st' → K (.bool (decide (x ∈ xs))) st') :
    callK (callO T0 orc fns 100000 (n + 3)) 92 [.agg (itCells nv mk).toArray, .pointer (some ⟨b, 0, none⟩)] st K := by
  refine fn_runs (fn := g92) ?_ ?_ ?_
  · rfl
  · rfl
  unfold g92
  unfold itCells
  have F := Frm.new st (.row [nv, .bool mk.a, .bool mk.k, .bool mk.s, .bool mk.n, .bool mk.m, .bool mk.f] 0 false)
  have hb2 := (F.old b hbn).trans hb
  have hbx : (st.new (.row [nv, .bool mk.a, .bool mk.k, .bool mk.s, .bool mk.n, .bool mk.m, .bool mk.f] 0 false)).get st.next = some (.row [nv, .bool mk.a, .bool mk.k, .bool mk.s, .bool mk.n, .bool mk.m, .bool mk.f] 0 false) := get_new_same _ _
  simp (disch := omega) only [↓sxA, ↓wk_store, sxB, sxP, Nat.reduceLeDiff, reduceCtorEq, Nat.reduceEqDiff, Nat.reduceAdd, Int.reduceLT, Int.reduceLE, Int.reduceEq, Nat.reduceLT, Int.reduceToNat, Int.reduceAdd, Int.reduceSub, ↓reduceIte, hb2, hbx]
  refine kContains n (hv.keep fun i hi => F.old i (by omega)) hl ?_
  try simp (disch := omega) only [↓sxA, ↓wk_store, sxB, sxP, Nat.reduceLeDiff, reduceCtorEq, Nat.reduceEqDiff, Nat.reduceAdd, Int.reduceLT, Int.reduceLE, Int.reduceEq, Nat.reduceLT, Int.reduceToNat, Int.reduceAdd, Int.reduceSub, ↓reduceIte]
  exact h _ F

/-- what the items' names need -/
def NmOk (l : List IM) : Prop := ∀ x ∈ l, x.names.length < 90000

open Classical in
theorem kFindItems (n : Nat) {lo b g : Nat} {ro : Bool} {l : List IM} (hR : ItR lo st v l) (hb : st.get b = some (.row [.string x] g ro)) (hbn : b < st.next) (hl : l.length < 90000) (hN : NmOk l) (h : ∀ st', Frm st st' → K (.int .i64 (knownL x l 0)) st') :
    callK (callO T0 orc fns 100000 (n + 4)) 91 [v, .func (.func 92) #[] #[.pointer (some ⟨b, 0, none⟩)]] st K := by
  refine fn_runs (fn := g91) ?_ ?_ ?_
  · rfl
  · rfl
  unfold g91
  have la := hR.len
  simp (disch := omega) only [↓sxA, ↓wk_store, sxB, sxP, Nat.reduceLeDiff, reduceCtorEq, Nat.reduceEqDiff, Nat.reduceAdd, Int.reduceLT, Int.reduceLE, Int.reduceEq, Nat.reduceLT, Int.reduceToNat, Int.reduceAdd, Int.reduceSub, ↓reduceIte, ↓la]
  refine loop_rule [0, 1, 7, 8] (fun vs s => ∃ j : Nat, vs = [v, .func (.func 92) #[] #[.pointer (some ⟨b, 0, none⟩)], .int .i64 (l.length : Nat), .int .i64 j] ∧ j ≤ l.length ∧ Frm st s ∧ knownL x (l.drop j) j = knownL x l 0) (fun vs _ => match lget vs 3 with
      | .int _ k => ((l.length : Int) - k).toNat
      | _ => 0) ?_ ?_ ?_
  · rfl
  · refine ⟨_, rfl, ⟨0, rfl, Nat.zero_le _, Frm.refl _, rfl⟩, ?_⟩
    show ((l.length : Int) - 0).toNat < 100000
    omega
  · rintro vs s ⟨j, rfl, j1, F, hk⟩
    show sx _ _ _ _ _ [(0, _), (1, _), (7, _), (8, _)] _ _ _ _
    by_cases hj : j < l.length
    · obtain ⟨bb, nv, a1, a2, a3, a4, a5, a6, a7⟩ := (hR.keep (st' := s) F.nx fun i _ hi => F.old i hi).at hj
      have hm := hN _ (List.getElem_mem hj)
      rw [List.drop_eq_getElem_cons hj] at hk
      simp only [knownL] at hk
      simp (disch := omega) only [↓sxA, ↓wk_store, sxB, sxP, Nat.reduceLeDiff, reduceCtorEq, Nat.reduceEqDiff, Nat.reduceAdd, Int.reduceLT, Int.reduceLE, Int.reduceEq, Nat.reduceLT, Int.reduceToNat, Int.reduceAdd, Int.reduceSub, ↓reduceIte, ↓a1, ↓a2]
      refine kFindIn n ((F.old b hbn).trans hb) (Nat.lt_of_lt_of_le hbn F.nx) a4 a5 a7 hm fun s2 F2 => ?_
      by_cases hin : x ∈ l[j].names
      · rw [if_pos hin] at hk
        rw [decide_eq_true hin]
        simp (disch := omega) only [↓sxA, ↓wk_store, sxB, sxP, Nat.reduceLeDiff, reduceCtorEq, Nat.reduceEqDiff, Nat.reduceAdd, Int.reduceLT, Int.reduceLE, Int.reduceEq, Nat.reduceLT, Int.reduceToNat, Int.reduceAdd, Int.reduceSub, ↓reduceIte]
        rw [hk]
        exact h _ (F.trans F2)
      · rw [if_neg hin] at hk
        rw [decide_eq_false hin]
        simp (disch := omega) only [↓sxA, ↓wk_store, sxB, sxP, Nat.reduceLeDiff, reduceCtorEq, Nat.reduceEqDiff, Nat.reduceAdd, Int.reduceLT, Int.reduceLE, Int.reduceEq, Nat.reduceLT, Int.reduceToNat, Int.reduceAdd, Int.reduceSub, ↓reduceIte]
        refine ⟨_, rfl, ⟨j + 1, ?_, hj, F.trans F2, hk⟩, ?_⟩
        · simp
        · show ((l.length : Int) - ((j : Int) + 1)).toNat < ((l.length : Int) - j).toNat
          omega
    · have e : l.drop j = [] := List.drop_eq_nil_of_le (by omega)
      rw [e] at hk
      simp only [knownL] at hk
      rw [← hk] at h
      simp (disch := omega) only [↓sxA, ↓wk_store, sxB, sxP, Nat.reduceLeDiff, reduceCtorEq, Nat.reduceEqDiff, Nat.reduceAdd, Int.reduceLT, Int.reduceLE, Int.reduceEq, Nat.reduceLT, Int.reduceToNat, Int.reduceAdd, Int.reduceSub, ↓reduceIte]
      exact h _ F

theorem kLower (n : Nat) (s : ByteArray) (hs : s.size ≤ 4294967280) (ha : asciiB s = true) (h : K (.string (lowerV s)) st) : callK (callO T0 orc fns 100000 n) 90 [.string s] st K := by
  rw [callO_none (by rfl)]
  have e : orc 90 [.string s] st = .ret (.string (lowerV s), st) := by
    rw [orc_eq (by decide)]
    simp [orc1, hs, ha]
  exact (propext (callK_ret (K := K) e)).mpr h

theorem prn_ascii {s : ByteArray} (h : s.data.toList.all prn = true) : asciiB s = true := by
  unfold asciiB
  rw [List.all_eq_true] at h ⊢
  intro b hb
  have := h b hb
  simp only [prn, Bool.and_eq_true, decide_eq_true_eq] at this ⊢
  omega

theorem kFind (n : Nat) {lo : Nat} {l : List IM} (s : ByteArray) (hs : s.size ≤ 90000) (hp : s.data.toList.all prn = true) (hR : ItR lo st v l) (hl : l.length < 90000) (hN : NmOk l) (h : ∀ st', Frm st st' → K (.int .i64 (knownL (lowerV s) l 0)) st') :
    callK (callO T0 orc fns 100000 (n + 5)) 53 [v, .string s] st K := by
  refine fn_runs (fn := g53) ?_ ?_ ?_
  · rfl
  · rfl
  unfold g53
  have F1 := Frm.new st (.row [.string s] 0 false)
  have hbx : (st.new (.row [.string s] 0 false)).get st.next = some (.row [.string s] 0 false) := get_new_same _ _
  have hn1 : (st.new (.row [.string s] 0 false)).next = st.next + 1 := rfl
  simp (disch := omega) only [↓sxA, ↓wk_store, sxB, sxP, Nat.reduceLeDiff, reduceCtorEq, Nat.reduceEqDiff, Nat.reduceAdd, Int.reduceLT, Int.reduceLE, Int.reduceEq, Nat.reduceLT, Int.reduceToNat, Int.reduceAdd, Int.reduceSub, ↓reduceIte, hbx]
  generalize st.new (.row [.string s] 0 false) = s1 at F1 hbx hn1
  refine loop_rule [0, 3, 7, 8] (fun vs s' => s' = s1 ∧ ∃ j : Nat, vs = [v, .pointer (some ⟨st.next, 0, none⟩), .int .i64 (s.size : Nat), .int .i64 j] ∧ j ≤ s.size) (fun vs _ => match lget vs 3 with
      | .int _ k => ((s.size : Int) - k).toNat
      | _ => 0) ?_ ?_ ?_
  · rfl
  · refine ⟨_, rfl, ⟨rfl, 0, rfl, Nat.zero_le _⟩, ?_⟩
    show ((s.size : Int) - 0).toNat < 100000
    omega
  · rintro vs s' ⟨rfl, j, rfl, j1⟩
    show sx _ _ _ _ _ [(0, _), (3, _), (7, _), (8, _)] _ _ _ _
    by_cases hj : j < s.size
    · obtain ⟨c, hc, hg, hb'⟩ := byte_at s j hj
      have hcp : prn c = true := List.all_eq_true.1 hp c (List.mem_of_getElem? hc)
      have hc128 : ¬ ((128 : Int) ≤ (c.toNat : Int)) := by
        simp only [prn, Bool.and_eq_true, decide_eq_true_eq] at hcp
        omega
      simp (disch := omega) only [hbx, q_indexStr, Int.toNat_natCast, hg, ↓sxA, ↓wk_store, sxB, sxP, Nat.reduceLeDiff, reduceCtorEq, Nat.reduceEqDiff, Nat.reduceAdd, Int.reduceLT, Int.reduceLE, Int.reduceEq, Nat.reduceLT, Int.reduceToNat, Int.reduceAdd, Int.reduceSub, ↓reduceIte]
      refine iteI (fun c1 => absurd c1 hc128) (fun _ => ?_)
      refine ⟨_, rfl, ⟨j + 1, ?_, hj⟩, ?_⟩
      · simp
      · show ((s.size : Int) - ((j : Int) + 1)).toNat < ((s.size : Int) - j).toNat
        omega
    · simp (disch := omega) only [hbx, ↓sxA, ↓wk_store, sxB, sxP, Nat.reduceLeDiff, reduceCtorEq, Nat.reduceEqDiff, Nat.reduceAdd, Int.reduceLT, Int.reduceLE, Int.reduceEq, Nat.reduceLT, Int.reduceToNat, Int.reduceAdd, Int.reduceSub, ↓reduceIte]
      refine kLower (n + 4) s (by omega) (prn_ascii hp) ?_
      have F2 : Frm st (s'.put st.next (some (.row [.string (lowerV s)] 0 false))) := F1.put _ (Nat.le_refl _) _
      simp (disch := omega) only [hbx, ↓sxA, ↓wk_store, sxB, sxP, Nat.reduceLeDiff, reduceCtorEq, Nat.reduceEqDiff, Nat.reduceAdd, Int.reduceLT, Int.reduceLE, Int.reduceEq, Nat.reduceLT, Int.reduceToNat, Int.reduceAdd, Int.reduceSub, ↓reduceIte]
      show callK _ _ [v, .func (.func 92) #[] #[.pointer (some ⟨st.next, 0, none⟩)]] _ _
      refine kFindItems n (hR.keep F2.nx fun i _ hi => F2.old i hi) (get_put_same _ _ _) (by show st.next < s'.next; omega) hl hN fun s3 F3 => ?_
      simp (disch := omega) only [↓sxA, ↓wk_store, sxB, sxP, Nat.reduceLeDiff, reduceCtorEq, Nat.reduceEqDiff, Nat.reduceAdd, Int.reduceLT, Int.reduceLE, Int.reduceEq, Nat.reduceLT, Int.reduceToNat, Int.reduceAdd, Int.reduceSub, ↓reduceIte]
      exact h _ (F2.trans F3)

theorem kPlain (n : Nat) {nv : Value} {mk : Mk} (h : ∀ st', Frm st st' → K (.bool (!(mk.s || mk.k))) st') :
    callK (callO T0 orc fns 100000 (n + 1)) 52 [.agg (itCells nv mk).toArray] st K := by
  refine fn_runs (fn := g52) ?_ ?_ ?_
  · rfl
  · rfl
  unfold g52
  unfold itCells
  have F := Frm.new st (.row [nv, .bool mk.a, .bool mk.k, .bool mk.s, .bool mk.n, .bool mk.m, .bool mk.f] 0 false)
  cases h1 : mk.s with
  | true =>
    rw [h1] at h F
    simp (disch := omega) only [↓sxA, ↓wk_store, sxB, sxP, Nat.reduceLeDiff, reduceCtorEq, Nat.reduceEqDiff, Nat.reduceAdd, Int.reduceLT, Int.reduceLE, Int.reduceEq, Nat.reduceLT, Int.reduceToNat, Int.reduceAdd, Int.reduceSub, ↓reduceIte, h1]
    exact h _ F
  | false =>
    cases h2 : mk.k with
    | true =>
      rw [h1, h2] at h F
      simp (disch := omega) only [↓sxA, ↓wk_store, sxB, sxP, Nat.reduceLeDiff, reduceCtorEq, Nat.reduceEqDiff, Nat.reduceAdd, Int.reduceLT, Int.reduceLE, Int.reduceEq, Nat.reduceLT, Int.reduceToNat, Int.reduceAdd, Int.reduceSub, ↓reduceIte, h1, h2]
      exact h _ F
    | false =>
      rw [h1, h2] at h F
      simp (disch := omega) only [↓sxA, ↓wk_store, sxB, sxP, Nat.reduceLeDiff, reduceCtorEq, Nat.reduceEqDiff, Nat.reduceAdd, Int.reduceLT, Int.reduceLE, Int.reduceEq, Nat.reduceLT, Int.reduceToNat, Int.reduceAdd, Int.reduceSub, ↓reduceIte, h1, h2]
      exact h _ F

/-- the search for an open item, from a place on -/
theorem openL_at {l : List IM} {cs : List Cl} {j : Nat} (hj : j < l.length) (hc : j < cs.length) (m : Int) : openL (l.drop j) (cs.drop j) j m = if (l[j].mks.s || l[j].mks.k) = true then openL (l.drop (j + 1)) (cs.drop (j + 1)) (j + 1) m else if l[j].mks.m = true then openL (l.drop (j + 1)) (cs.drop (j + 1)) (j + 1) j else if (clAt cs j).set = true then openL (l.drop (j + 1)) (cs.drop (j + 1)) (j + 1) m else j := by
  rw [List.drop_eq_getElem_cons hj, List.drop_eq_getElem_cons hc]
  simp only [openL]
  have : clAt cs j = cs[j] := by rw [clAt, List.getD_eq_getElem?_getD, List.getElem?_eq_getElem hc, Option.getD_some]
  rw [this]

set_option maxHeartbeats 1000000 in
theorem kFree (n : Nat) {s0 : St} {bf p : Nat} {lv : Value} {s : ByteArray} {l : List IM} {cs : List Cl} (hF : FtR s0 st bf lv s l p cs) (hl : l.length < 90000) (h : ∀ st', Frm st st' → K (.int .i64 (openL l cs 0 (-1))) st') :
    callK (callO T0 orc fns 100000 (n + 2)) 58 [.pointer (some ⟨bf, 0, none⟩)] st K := by
  refine fn_runs (fn := g58) ?_ ?_ ?_
  · rfl
  · rfl
  unfold g58
  obtain ⟨ov, nv', hbx⟩ := hF.box
  have la := hF.its.len
  simp (disch := omega) only [↓sxA, ↓wk_store, sxB, sxP, Nat.reduceLeDiff, reduceCtorEq, Nat.reduceEqDiff, Nat.reduceAdd, Int.reduceLT, Int.reduceLE, Int.reduceEq, Nat.reduceLT, Int.reduceToNat, Int.reduceAdd, Int.reduceSub, ↓reduceIte, hbx, ↓la]
  refine loop_rule [0, 3, 9, 10, 11] (fun vs s' => ∃ (j : Nat) (m : Int), vs = [.pointer (some ⟨bf, 0, none⟩), .int .i64 m, lv, .int .i64 (l.length : Nat), .int .i64 (j : Nat)] ∧ j ≤ l.length ∧ Frm st s' ∧ openL (l.drop j) (cs.drop j) j m = openL l cs 0 (-1)) (fun vs _ => match lget vs 4 with
      | .int _ k => ((l.length : Int) - k).toNat
      | _ => 0) ?_ ?_ ?_
  · rfl
  · refine ⟨_, rfl, ⟨0, -1, rfl, Nat.zero_le _, Frm.refl _, rfl⟩, ?_⟩
    show ((l.length : Int) - 0).toNat < 100000
    omega
  · rintro vs s1 ⟨j, m, rfl, j1, F, hk⟩
    show sx _ _ _ _ _ [(0, _), (3, _), (9, _), (10, _), (11, _)] _ _ _ _
    have hF1 := hF.keep F
    have hcl := hF.len
    by_cases hj : j < l.length
    · obtain ⟨bb, nv, a1, a2, a3, a4, a5, a6, a7⟩ := hF1.its.at hj
      obtain ⟨s4, st7, hb4, n4, F4⟩ := itBox s1 l[j].mks a5
      have all4 := rk_loadAll (k := 7) hb4 rfl (by decide)
      have hF4 := hF1.keep F4
      obtain ⟨ov4, bn4, g4, q1, q2, q3, q4, q5, q6⟩ := hF4.body
      obtain ⟨b5, vv5, o1, o2, o3, o4, o5, o6, o7⟩ := q2.at (j := j) (by omega)
      rw [openL_at hj (by omega)] at hk
      have hmeas : ((l.length : Int) - ((j : Int) + 1)).toNat < ((l.length : Int) - j).toNat := by omega
      simp (disch := omega) only [↓sxA, ↓wk_store, sxB, sxP, Nat.reduceLeDiff, reduceCtorEq, Nat.reduceEqDiff, Nat.reduceAdd, Int.reduceLT, Int.reduceLE, Int.reduceEq, Nat.reduceLT, Int.reduceToNat, Int.reduceAdd, Int.reduceSub, ↓reduceIte, ↓a1, ↓a2, ↓st7, ↓all4]
      refine kPlain n fun s5 F5 => ?_
      have hb5 := (F5.old _ (by omega)).trans hb4
      have hF5 := hF4.keep F5
      obtain ⟨ov5, bn5, g5, r1, r2, r3, r4, r5, r6⟩ := hF5.body
      obtain ⟨b6, vv6, t1, t2, t3, t4, t5, t6, t7⟩ := r2.at (j := j) (by omega)
      have Fa := (F.trans F4).trans F5
      cases hp : (l[j].mks.s || l[j].mks.k) with
      | true =>
        rw [hp] at hk
        simp only [if_true] at hk
        simp (disch := omega) only [↓sxA, ↓wk_store, sxB, sxP, Nat.reduceLeDiff, reduceCtorEq, Nat.reduceEqDiff, Nat.reduceAdd, Int.reduceLT, Int.reduceLE, Int.reduceEq, Nat.reduceLT, Int.reduceToNat, Int.reduceAdd, Int.reduceSub, ↓reduceIte]
        exact ⟨_, rfl, ⟨j + 1, m, by simp, hj, Fa, hk⟩, hmeas⟩
      | false =>
        rw [hp] at hk
        simp only [Bool.false_eq_true, if_false] at hk
        cases hm : l[j].mks.m with
        | true =>
          rw [hm] at hk
          simp only [if_true] at hk
          simp (disch := omega) only [↓sxA, ↓wk_store, sxB, sxP, Nat.reduceLeDiff, reduceCtorEq, Nat.reduceEqDiff, Nat.reduceAdd, Int.reduceLT, Int.reduceLE, Int.reduceEq, Nat.reduceLT, Int.reduceToNat, Int.reduceAdd, Int.reduceSub, ↓reduceIte, hb5, hm]
          exact ⟨_, rfl, ⟨j + 1, (j : Int), by simp, hj, Fa, hk⟩, hmeas⟩
        | false =>
          rw [hm] at hk
          simp only [Bool.false_eq_true, if_false] at hk
          cases hs : (clAt cs j).set with
          | true =>
            rw [hs] at hk t6
            simp only [if_true] at hk
            simp (disch := omega) only [↓sxA, ↓wk_store, sxB, sxP, Nat.reduceLeDiff, reduceCtorEq, Nat.reduceEqDiff, Nat.reduceAdd, Int.reduceLT, Int.reduceLE, Int.reduceEq, Nat.reduceLT, Int.reduceToNat, Int.reduceAdd, Int.reduceSub, ↓reduceIte, hb5, hm, r1, ↓t2, ↓t6]
            exact ⟨_, rfl, ⟨j + 1, m, by simp, hj, Fa, hk⟩, hmeas⟩
          | false =>
            rw [hs] at hk t6
            simp only [Bool.false_eq_true, if_false] at hk
            simp (disch := omega) only [↓sxA, ↓wk_store, sxB, sxP, Nat.reduceLeDiff, reduceCtorEq, Nat.reduceEqDiff, Nat.reduceAdd, Int.reduceLT, Int.reduceLE, Int.reduceEq, Nat.reduceLT, Int.reduceToNat, Int.reduceAdd, Int.reduceSub, ↓reduceIte, hb5, hm, r1, ↓t2, ↓t6]
            rw [hk]
            exact h _ Fa
    · have e : l.drop j = [] := List.drop_eq_nil_of_le (by omega)
      have e2 : cs.drop j = [] := List.drop_eq_nil_of_le (by omega)
      rw [e, e2] at hk
      simp only [openL] at hk
      rw [← hk] at h
      simp (disch := omega) only [↓sxA, ↓wk_store, sxB, sxP, Nat.reduceLeDiff, reduceCtorEq, Nat.reduceEqDiff, Nat.reduceAdd, Int.reduceLT, Int.reduceLE, Int.reduceEq, Nat.reduceLT, Int.reduceToNat, Int.reduceAdd, Int.reduceSub, ↓reduceIte]
      exact h _ F
end
end Go.Proofs.YtdmemibnphcedaaGreatDoor
