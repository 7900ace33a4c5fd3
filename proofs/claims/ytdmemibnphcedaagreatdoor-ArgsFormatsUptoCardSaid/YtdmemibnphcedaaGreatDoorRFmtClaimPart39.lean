/-
  The chapter's Format: the items.
  The chapter's Format, walked.
-/
import Derived.Test.YtdmemibnphcedaaGreatDoorRFmtClaimPart37
import Derived.Test.YtdmemibnphcedaaGreatDoorRFmtClaimPart38
section
set_option linter.unusedSimpArgs false
set_option linter.unusedVariables false
set_option maxRecDepth 10000
set_option linter.unusedSectionVars false
namespace Go.Proofs.YtdmemibnphcedaaGreatDoor
open Go.Am

theorem tm_parts {t : ByteArray} {l : List IM} (h : TmA t l 0) : (∀ i y, l[i]? = some y → i + 1 < l.length → y.mks.f = false) ∧ manyOf l ≤ 1 ∧ ∀ x ∈ l, ItGood x := by
 cases h with
 | nil _ => exact ⟨fun i y hy => by simp at hy, by decide, fun x hx => by cases hx⟩
 | ok _ h0 h1 h2 h3 => exact ⟨(restOk_iff l).1 h2.1, h2.2.2, (itemsA_good h1).2⟩
theorem many_pos {xs : List IM} {x : IM} (hx : x ∈ xs) (hm : x.mks.m = true) : 1 ≤ manyOf xs := by
 unfold manyOf
 exact List.length_pos_of_mem (List.mem_filter.2 ⟨hx, hm⟩)
theorem itAt_eq {l : List IM} {j : Nat} (h : j < l.length) : itAt l j = l[j] := by simp [itAt, List.getD_eq_getElem?_getD, List.getElem?_eq_getElem h]
theorem many_once {l : List IM} (h : manyOf l ≤ 1) {i k : Nat} (hik : i < k) (hk : k < l.length) (h1 : (itAt l i).mks.m = true) (h2 : (itAt l k).mks.m = true) : False := by
 have e : l = l.take k ++ l.drop k := (List.take_append_drop k l).symm
 have a1 : 1 ≤ manyOf (l.take k) := by
  refine many_pos (x := itAt l i) ?_ h1
  rw [itAt_eq (by omega)]
  exact List.mem_take_iff_getElem.2 ⟨i, by omega, rfl⟩
 have a2 : 1 ≤ manyOf (l.drop k) := by
  refine many_pos (x := itAt l k) ?_ h2
  rw [itAt_eq hk]
  exact List.mem_drop_iff_getElem.2 ⟨0, by omega, by simp⟩
 rw [e, manyOf_append] at h
 omega

theorem known_mem {s : ByteArray} : ∀ {l : List IM} {i : Nat}, 0 ≤ knownL s l i → ∃ x ∈ l, s ∈ x.names
 | [], i, h => by simp [knownL] at h
 | x :: r, i, h => by
  simp only [knownL] at h
  split at h
  ·rename_i hh; exact ⟨x, by simp, hh⟩
  ·obtain ⟨y, h1, h2⟩ := known_mem h
   exact ⟨y, by simp [h1], h2⟩
/-- a name, in letters of either case -/
theorem known_letters {l : List IM} (hg : ∀ x ∈ l, ItGood x) {v : ByteArray} (h : 0 ≤ knownL (lowerV v) l 0) : v.data.toList ≠ [] ∧ ∀ c ∈ v.data.toList, (65 ≤ c.toNat ∧ c.toNat ≤ 90) ∨ (97 ≤ c.toNat ∧ c.toNat ≤ 122) := by
 obtain ⟨x, h1, h2⟩ := known_mem h
 have h3 := (hg x h1).2.1
 rw [List.all_eq_true] at h3
 have h4 := h3 _ h2
 have h5 := nm_ne h4
 have e : (lowerV v).data.toList = v.data.toList.map Lib.lowerB := by show (bs (Lib.toLowerA v.data.toList)).data.toList = _; rw [bs_list]; rfl
 rw [e] at h5
 refine ⟨fun hh => h5 (by rw [hh]; rfl), fun c hc => ?_⟩
 unfold isNm at h4
 simp only [Bool.and_eq_true, List.all_eq_true, decide_eq_true_eq] at h4
 rw [e] at h4
 have := h4.2 _ (List.mem_map_of_mem hc)
 by_cases hu : 65 ≤ c.toNat ∧ c.toNat ≤ 90
 ·exact .inl hu
 ·rw [(lower_byte c).2 hu] at this
  exact .inr this
theorem known_quote {l : List IM} (hg : ∀ x ∈ l, ItGood x) {v : ByteArray} (h : 0 ≤ knownL (lowerV v) l 0) : quoteL v.data.toList = v.data.toList ∧ escL v.data.toList = v.data.toList ∧ ∃ c r, v.data.toList = c :: r ∧ c ≠ 34 := by
 obtain ⟨h1, h2⟩ := known_letters hg h
 have hs : v.data.toList.any spc = false := by
  rw [List.any_eq_false]
  intro c hc
  have := h2 c hc
  rw [spc_no (by omega)]
  decide
 have hok : v.data.toList.all okB = true := by
  rw [List.all_eq_true]
  intro c hc
  have := h2 c hc
  exact (okB_it c).2 (by omega)
 refine ⟨?_, escL_nospc _ hs, ?_⟩
 ·unfold quoteL
  rw [map_qB hok, if_pos ⟨h1, hs⟩]
 ·obtain ⟨c, r, hcr⟩ := List.exists_cons_of_ne_nil h1
  refine ⟨c, r, hcr, fun e => ?_⟩
  have := h2 c (by rw [hcr]; simp)
  rw [e] at this
  revert this
  decide

/-- what the chapter has gathered -/
structure GI (s0 : St) (l : List IM) (ns : List ByteArray) (cs : List Cl) (j : Nat) (wv : Value) (mi la : Int) (ev : Bool) (s : St) : Prop where
 go : GroK 1 s wv ((accL l ns cs j).out.map Value.string) (accL l ns cs j).out.length
 o1 : ow wv = 0 ∨ s0.next + 1 ≤ ow wv
 o2 : ow wv ≤ s.next
 al : ∀ i, i < j → alongA (itAt l i) (ns.getD i .empty) (clAt cs i) = true
 fr : Frm s0 s
 le : (accL l ns cs j).out.length ≤ 2 * j ∧ ∀ x ∈ (accL l ns cs j).out, x.size ≤ 20010
 wh : (accL l ns cs j).whole = (ev && decide (la < 0))
 mn : (mi = -1 ∧ (accL l ns cs j).several = [] ∧ ∀ i, i < j → (itAt l i).mks.m = false) ∨ ∃ k : Nat, k < j ∧ mi = (k : Int) ∧ (itAt l k).mks.m = true ∧ (((clAt cs k).set = false ∧ (accL l ns cs j).several = []) ∨ ((clAt cs k).set = true ∧ (accL l ns cs j).several = (clAt cs k).vals ∧ (accL l ns cs j).name = ns.getD k .empty))
 lt : (la = -1 ∧ (accL l ns cs j).last = [] ∧ ∀ i, i < j → (itAt l i).mks.f = false) ∨ ∃ k : Nat, k < j ∧ la = (k : Int) ∧ (itAt l k).mks.f = true ∧ (((clAt cs k).set = false ∧ (accL l ns cs j).last = []) ∨ ((clAt cs k).set = true ∧ (accL l ns cs j).last = [ns.getD k .empty, fst (clAt cs k)]))
theorem GI.keep {s0 s s' : St} {l : List IM} {ns : List ByteArray} {cs : List Cl} {j : Nat} {wv : Value} {mi la : Int} {ev : Bool} (h : GI s0 l ns cs j wv mi la ev s) (F : Frm s s') : GI s0 l ns cs j wv mi la ev s' :=
 ⟨h.go.keep fun i hi => F.old i (by have := h.o2; omega), h.o1, Nat.le_trans h.o2 F.nx, h.al, h.fr.trans F, h.le, h.wh, h.mn, h.lt⟩

section
variable {s0 s s' : St} {l : List IM} {ns : List ByteArray} {cs : List Cl} {j : Nat} {wv : Value} {mi la : Int} {ev : Bool}
/-- nothing is laid on: an item of many -/
theorem GI.many (h : GI s0 l ns cs j wv mi la ev s) (hm1 : manyOf l ≤ 1) (hj : j < l.length) (hs : (itAt l j).mks.s = false) (hk : (itAt l j).mks.k = false) (hm : (itAt l j).mks.m = true) (hf : (itAt l j).mks.f = false) (al : alongA (itAt l j) (ns.getD j .empty) (clAt cs j) = true) : GI s0 l ns cs (j + 1) wv (j : Int) la ev s := by
 have hmn : (accL l ns cs j).several = [] := by
  rcases h.mn with ⟨_, k, _⟩ | ⟨k, k1, _, k2, _⟩
  ·exact k
  ·exact (many_once hm1 k1 hj k2 hm).elim
 have e : accL l ns cs (j + 1) = accS (itAt l j).mks (ns.getD j .empty) (clAt cs j) (accL l ns cs j) := rfl
 have hw : wholeA (itAt l j).mks (clAt cs j) (accL l ns cs j).whole = (accL l ns cs j).whole := by simp [wholeA, hm]
 have e1 : (accL l ns cs (j + 1)).out = (accL l ns cs j).out := by rw [e]; unfold accS; split <;> simp [hs, hm]
 have e2 : (accL l ns cs (j + 1)).last = (accL l ns cs j).last := by rw [e]; unfold accS; split <;> simp [hs, hm]
 have e3 : (accL l ns cs (j + 1)).whole = (accL l ns cs j).whole := by rw [e]; unfold accS; split <;> simp [hs, hm, hw]
 refine ⟨by rw [e1]; exact h.go, h.o1, h.o2, fun i hi => ?_, h.fr, by rw [e1]; exact ⟨by have := h.le.1; omega, h.le.2⟩, by rw [e3]; exact h.wh, .inr ⟨j, by omega, rfl, hm, ?_⟩, ?_⟩
 ·by_cases q : i = j
  ·rw [q]; exact al
  ·exact h.al i (by omega)
 ·cases hset : (clAt cs j).set with
  | false => exact .inl ⟨rfl, by rw [e]; unfold accS; rw [if_pos hset]; exact hmn⟩
  | true => exact .inr ⟨rfl, by rw [e]; unfold accS; rw [if_neg (by rw [hset]; decide)]; simp [hs, hm], by rw [e]; unfold accS; rw [if_neg (by rw [hset]; decide)]; simp [hs, hm]⟩
 ·rw [e2]
  rcases h.lt with ⟨k1, k2, k3⟩ | ⟨k, k1, k2⟩
  ·refine .inl ⟨k1, k2, fun i hi => ?_⟩
   by_cases q : i = j
   ·rw [q]; exact hf
   ·exact k3 i (by omega)
  ·exact .inr ⟨k, by omega, k2⟩
/-- an item that has the rest -/
theorem GI.rest (h : GI s0 l ns cs j wv mi la ev s) (hro : ∀ i y, l[i]? = some y → i + 1 < l.length → y.mks.f = false) (hj : j < l.length) (hs : (itAt l j).mks.s = false) (hk : (itAt l j).mks.k = false) (hm : (itAt l j).mks.m = false) (hf : (itAt l j).mks.f = true) (al : alongA (itAt l j) (ns.getD j .empty) (clAt cs j) = true) : GI s0 l ns cs (j + 1) wv mi (j : Int) ev s := by
 have hlt : (accL l ns cs j).last = [] := by
  rcases h.lt with ⟨_, k, _⟩ | ⟨k, k1, _, k2, _⟩
  ·exact k
  ·have := hro k l[k] (List.getElem?_eq_getElem (by omega)) (by omega)
   rw [itAt_eq (by omega), this] at k2
   cases k2
 have e : accL l ns cs (j + 1) = accS (itAt l j).mks (ns.getD j .empty) (clAt cs j) (accL l ns cs j) := rfl
 have hw : wholeA (itAt l j).mks (clAt cs j) (accL l ns cs j).whole = false := by simp [wholeA, hs, hk, hm, hf]
 have e1 : (accL l ns cs (j + 1)).out = (accL l ns cs j).out := by rw [e]; unfold accS; split <;> simp [hs, hm, hf]
 have e2 : (accL l ns cs (j + 1)).several = (accL l ns cs j).several := by rw [e]; unfold accS; split <;> simp [hs, hm, hf]
 have e4 : (accL l ns cs (j + 1)).name = (accL l ns cs j).name := by rw [e]; unfold accS; split <;> simp [hs, hm, hf]
 have e3 : (accL l ns cs (j + 1)).whole = false := by rw [e]; unfold accS; split <;> simp [hs, hm, hf, hw]
 refine ⟨by rw [e1]; exact h.go, h.o1, h.o2, fun i hi => ?_, h.fr, by rw [e1]; exact ⟨by have := h.le.1; omega, h.le.2⟩, ?_, ?_, .inr ⟨j, by omega, rfl, hf, ?_⟩⟩
 ·by_cases q : i = j
  ·rw [q]; exact al
  ·exact h.al i (by omega)
 ·rw [e3, decide_eq_false (by omega), Bool.and_false]
 ·rw [e2, e4]
  rcases h.mn with ⟨k1, k2, k3⟩ | ⟨k, k1, k2⟩
  ·refine .inl ⟨k1, k2, fun i hi => ?_⟩
   by_cases q : i = j
   ·rw [q]; exact hm
   ·exact k3 i (by omega)
  ·exact .inr ⟨k, by omega, k2⟩
 ·cases hset : (clAt cs j).set with
  | false => exact .inl ⟨rfl, by rw [e]; unfold accS; rw [if_pos hset]; exact hlt⟩
  | true => exact .inr ⟨rfl, by rw [e]; unfold accS; rw [if_neg (by rw [hset]; decide)]; simp [hs, hm, hf]⟩
/-- another item: what is laid on, and whether all are there -/
theorem GI.other (h : GI s0 l ns cs j wv mi la ev s) (hm : (itAt l j).mks.m = false) (hf : (itAt l j).mks.f = false) (al : alongA (itAt l j) (ns.getD j .empty) (clAt cs j) = true) {ev' : Bool} (hev : ev' = (ev && ((itAt l j).mks.s || (itAt l j).mks.k || (clAt cs j).set)))
  {wv' : Value} (go : GroK 1 s' wv' ((accL l ns cs (j + 1)).out.map Value.string) (accL l ns cs (j + 1)).out.length) (o1 : ow wv' = 0 ∨ s0.next + 1 ≤ ow wv') (o2 : ow wv' ≤ s'.next) (fr : Frm s0 s') (le : (accL l ns cs (j + 1)).out.length ≤ 2 * (j + 1) ∧ ∀ x ∈ (accL l ns cs (j + 1)).out, x.size ≤ 20010) : GI s0 l ns cs (j + 1) wv' mi la ev' s' := by
 have e : accL l ns cs (j + 1) = accS (itAt l j).mks (ns.getD j .empty) (clAt cs j) (accL l ns cs j) := rfl
 have e2 : (accL l ns cs (j + 1)).several = (accL l ns cs j).several := by rw [e]; unfold accS; split <;> (try split) <;> simp [hm, hf]
 have e4 : (accL l ns cs (j + 1)).name = (accL l ns cs j).name := by rw [e]; unfold accS; split <;> (try split) <;> simp [hm, hf]
 have e5 : (accL l ns cs (j + 1)).last = (accL l ns cs j).last := by rw [e]; unfold accS; split <;> (try split) <;> simp [hm, hf]
 have e3 : (accL l ns cs (j + 1)).whole = wholeA (itAt l j).mks (clAt cs j) (accL l ns cs j).whole := by rw [e]; unfold accS; split <;> (try split) <;> simp [hm, hf]
 refine ⟨go, o1, o2, fun i hi => ?_, fr, le, ?_, ?_, ?_⟩
 ·by_cases q : i = j
  ·rw [q]; exact al
  ·exact h.al i (by omega)
 ·rw [e3, h.wh, hev]
  simp only [wholeA, hm, hf, Bool.or_false, Bool.not_false, Bool.true_and]
  cases ev <;> cases decide (la < 0) <;> simp
 ·rw [e2, e4]
  rcases h.mn with ⟨k1, k2, k3⟩ | ⟨k, k1, k2⟩
  ·refine .inl ⟨k1, k2, fun i hi => ?_⟩
   by_cases q : i = j
   ·rw [q]; exact hm
   ·exact k3 i (by omega)
  ·exact .inr ⟨k, by omega, k2⟩
 ·rw [e5]
  rcases h.lt with ⟨k1, k2, k3⟩ | ⟨k, k1, k2⟩
  ·refine .inl ⟨k1, k2, fun i hi => ?_⟩
   by_cases q : i = j
   ·rw [q]; exact hf
   ·exact k3 i (by omega)
  ·exact .inr ⟨k, by omega, k2⟩
end
end Go.Proofs.YtdmemibnphcedaaGreatDoor
end
section
set_option linter.unusedSimpArgs false
set_option linter.unusedVariables false
set_option maxRecDepth 10000
set_option linter.unusedSectionVars false
namespace Go.Proofs.YtdmemibnphcedaaGreatDoor
open Go.Am
attribute [local irreducible] callO wopK ropK popK opK grpsE listE sx Runs

theorem join_smaller {xs : List ByteArray} (h : ∀ x ∈ xs, x.size ≤ 20010) (hl : xs.length ≤ 7000) : (Lib.join (xs.map (·.data.toList)) [32]).length ≤ 140800000 := by
 have h1 := join_len 32 (xs.map (·.data.toList))
 have h2 : ∀ ys : List ByteArray, (∀ x ∈ ys, x.size ≤ 20010) → ((ys.map (·.data.toList)).map fun p => p.length + 1).sum ≤ ys.length * 20011 := fun ys => by
  induction ys with
  | nil => intro _; simp
  | cons x r ih =>
   intro hh
   have i1 := ih fun y hy => hh y (by simp [hy])
   have i2 := hh x (by simp)
   rw [size_list] at i2
   simp only [List.map_cons, List.sum_cons, List.length_cons, Nat.add_mul] at i1 ⊢
   omega
 have h3 := h2 xs h
 omega
/-- a list of words on the heap -/
structure XI (s0 : St) (X : List ByteArray) (wv : Value) (s : St) : Prop where
 go : GroK 1 s wv (X.map Value.string) X.length
 o1 : ow wv = 0 ∨ s0.next + 1 ≤ ow wv
 o2 : ow wv ≤ s.next
 fr : Frm s0 s
 le : ∀ x ∈ X, x.size ≤ 20010
theorem XI.keep {s0 s s' : St} {X : List ByteArray} {wv : Value} (h : XI s0 X wv s) (F : Frm s s') : XI s0 X wv s' := ⟨h.go.keep fun i hi => F.old i (by have := h.o2; omega), h.o1, Nat.le_trans h.o2 F.nx, h.fr.trans F, h.le⟩
theorem XI.push {s0 s s' : St} {X xs : List ByteArray} {wv wv' : Value} (h : XI s0 X wv s) (hxs : ∀ x ∈ xs, x.size ≤ 20010) {cells : List Value} {m : Nat} (hm : m = X.length + xs.length) (hcl : cells = X.map Value.string ++ xs.map Value.string) (g : GroK 1 s' wv' cells m) (o1 : s.next < ow wv') (o2 : ow wv' ≤ s'.next) (hn : s.next ≤ s'.next) (fr : ∀ i, i + 1 ≠ ow wv → i < s.next → s'.get i = s.get i) : XI s0 (X ++ xs) wv' s' where
 go := by
  subst hm hcl
  rw [List.map_append, List.length_append]
  exact g
 o1 := .inr (by have := h.fr.nx; omega)
 o2 := o2
 fr := ⟨Nat.le_trans h.fr.nx hn, fun i hi => (fr i (by have := h.o1; omega) (by have := h.fr.nx; omega)).trans (h.fr.old i hi)⟩
 le := fun x hx' => by
  rcases List.mem_append.1 hx' with q | q
  ·exact h.le x q
  ·exact hxs x q

section
variable {st : St} {K : Value → St → Prop}

set_option maxHeartbeats 16000000 in
theorem kFormatR (n : Nat) (t : ByteArray) (ht : t.size < 80000) {av : Value} {ns : List ByteArray} {cs : List Cl} (hA : AgC st av ns cs) (hsm : SmallN ns cs)
  (h : ∀ v e st', FmtO t ns cs v e → Frm st st' → K (.tuple #[.string v, .int .i64 e]) st') :
  callK (callO T0 orc fns 100000 (n + 12)) 30 [.string t, av] st K := by
 refine fn_runs (fn := g30) ?_ ?_ ?_
 ·rfl
 ·rfl
 unfold g30
 simp (disch := omega) only [↓sxA, ↓wk_store, sxB, sxP, simprocAttr]
 refine kTemplateR _ t ht fun l e lv s0 hT hR F0 => ?_
 obtain ⟨hl20, hle, hbd⟩ := tm_bounds hT
 by_cases he0 : e = 0
 case neg =>
  have he' : (e = 0) = False := eq_false he0
  simp (disch := omega) only [↓sxA, ↓wk_store, sxB, sxP, simprocAttr, he']
  exact h _ _ _ ⟨l, e, hT, .inl ⟨he0, rfl, rfl⟩⟩ F0
 subst he0
 obtain ⟨hro, hmo, hgd⟩ := tm_parts hT
 have la := hR.len
 have lc := hA.1
 by_cases hlen : cs.length = l.length
 case neg =>
  simp (disch := omega) only [↓sxA, ↓wk_store, sxB, sxP, simprocAttr, ↓la, ↓lc]
  exact h _ _ _ ⟨l, 0, hT, .inr (.inl ⟨rfl, hlen, rfl, rfl⟩)⟩ F0
 simp (disch := omega) only [↓sxA, ↓wk_store, sxB, sxP, simprocAttr, ↓la, ↓lc]
 refine loop_rule [1, 6, 8, 9, 10, 11, 12] (fun vs s => ∃ (j : Nat) (wv : Value) (mi li : Int) (ev : Bool), vs = [av, lv, wv, .int .i64 mi, .int .i64 li, .bool ev, .int .i64 (j : Nat)] ∧ j ≤ l.length ∧ GI s0 l ns cs j wv mi li ev s) (fun vs _ => match lget vs 6 with
   | .int _ k => ((l.length : Int) - k).toNat
   | _ => 0) ?_ ?_ ?_
 ·rfl
 ·refine ⟨_, rfl, ⟨0, _, _, _, _, rfl, Nat.zero_le _, ⟨GroK.nil _ _, .inl rfl, Nat.zero_le _, fun i hi => by omega, Frm.refl _, ⟨Nat.zero_le _, fun x hx => by cases hx⟩, rfl, .inl ⟨rfl, rfl, fun i hi => by omega⟩, .inl ⟨rfl, rfl, fun i hi => by omega⟩⟩⟩, ?_⟩
  show ((l.length : Int) - 0).toNat < 100000
  omega
 ·rintro vs s ⟨j, wv, mi, li, ev, rfl, hj, hI⟩
  show sx _ _ _ _ _ [(1, _), (6, _), (8, _), (9, _), (10, _), (11, _), (12, _)] _ _ _ _
  have F := F0.trans hI.fr
  have hIf := hI.fr.nx
  by_cases hjl : j < l.length
  ·have hmeas : ((l.length : Int) - ((j : Int) + 1)).toNat < ((l.length : Int) - (j : Int)).toNat := by omega
   have hx : l[j] ∈ l := List.getElem_mem hjl
   obtain ⟨d1, d2, d3⟩ := hbd _ hx
   have hitA : itAt l j = l[j] := itAt_eq hjl
   have hgood : l[j].mks.fit = true := (hgd _ hx).2.2
   obtain ⟨b1, nv, a1, a2, a3, a4, a5, a6, a7⟩ := (hR.keep (st' := s) hI.fr.nx fun i _ hi => hI.fr.old i hi).at hjl
   obtain ⟨b2, vv, c1, c2, c3, c4⟩ := hA.2 j (by omega)
   obtain ⟨c5, _, _, _, _⟩ := c4 s F
   have hnsz := hsm.2 j
   obtain ⟨hvl, hvs⟩ := hsm.1.2 j
   have hcv : ∀ s', Frm st s' → Cel s' vv ((clAt cs j).vals.map Value.string) := fun s' F' => (c4 s' F').2.2.2.2
   simp (disch := omega) only [↓sxA, ↓wk_store, sxB, sxP, simprocAttr, ↓la, ↓a1, ↓a2, ↓c1, ↓c5]
   refine kAlong (n + 8) (x := l[j]) (c := clAt cs j) (ns.getD j .empty) (fun hf => (fit_rest hgood hf).2.1) a4 a5 a7 d1 (by omega) (hcv s F) c2 (by have := F.nx; omega) (by omega) (fun y hy => by have := hvs y hy; omega) fun s3 F4 => ?_
   have Fs := F.trans F4
   have hI3 := hI.keep F4
   cases hal : alongA l[j] (ns.getD j .empty) (clAt cs j) with
   | false =>
    simp (disch := omega) only [↓sxA, ↓wk_store, sxB, sxP, simprocAttr]
    refine h _ _ _ ⟨l, 0, hT, .inr (.inr ⟨rfl, hlen, ?_⟩)⟩ Fs
    have : fmtA l ns cs = none := by
     unfold fmtA
     rw [if_neg (fun hh => by
      have := hh j hjl
      rw [hitA, hal] at this
      cases this)]
    rw [this]
    rfl
   | true =>
    have hok := along_ok hal
    have hset := along_set hal
    obtain ⟨b1', nv', a1', a2', a3', a4', a5', a6', a7'⟩ := (hR.keep (st' := s3) hI3.fr.nx fun i _ hi => hI3.fr.old i hi).at hjl
    obtain ⟨c5', c6', c7', c8', c9'⟩ := c4 s3 Fs
    have hkinds := mk_kinds hgood
    have r2 := a3' 2 _ rfl
    have r3 := a3' 3 _ rfl
    have r5 := a3' 5 _ rfl
    have r6 := a3' 6 _ rfl
    have hal' := hal
    rw [← hitA] at hal' hkinds
    have hmk : l[j].mks = (itAt l j).mks := by rw [hitA]
    rw [hmk] at r2 r3 r5 r6
    have hstt : ∀ b, (clAt cs j).set = b → ∀ K : Value → Prop, ropK .load1 [.pointer (some ⟨b2, j * 3 + 2, none⟩)] s3 K = K (.bool b) := fun b hb K => by rw [c8' K, hb]
    obtain ⟨sv, hsv⟩ : ∃ sv, (clAt cs j).set = sv := ⟨_, rfl⟩
    have r8 := hstt sv hsv
    rcases hkinds with ⟨k1, k2, k3, k4⟩ | ⟨k1, k2, k3, k4⟩ | ⟨k1, k2, k3, k4⟩ | ⟨k1, k2, k3, k4⟩ | ⟨k1, k2, k3, k4⟩
    all_goals
     rw [k2] at r2
     rw [k1] at r3
     rw [k3] at r5
     rw [k4] at r6
    rotate_left 2
    ·simp (disch := omega) only [↓sxA, ↓wk_store, sxB, sxP, simprocAttr, ↓la, ↓a1', ↓r5]
     exact ⟨_, rfl, ⟨j + 1, wv, _, li, ev, rfl, hjl, hI3.many hmo hjl k1 k2 k3 k4 hal'⟩, hmeas⟩
    ·simp (disch := omega) only [↓sxA, ↓wk_store, sxB, sxP, simprocAttr, ↓la, ↓a1', ↓r5, ↓r6]
     exact ⟨_, rfl, ⟨j + 1, wv, mi, _, ev, rfl, hjl, hI3.rest hro hjl k1 k2 k3 k4 hal'⟩, hmeas⟩
    all_goals cases sv
    all_goals simp (disch := omega) only [↓sxA, ↓wk_store, sxB, sxP, simprocAttr, ↓la, ↓a1', ↓r2, ↓r3, ↓r5, ↓r6, ↓c1, ↓c6', ↓c7', ↓r8]
    ·have eo : (accL l ns cs (j + 1)).out = (accL l ns cs j).out := by
      show (accS _ _ _ _).out = _
      unfold accS
      rw [if_pos hsv]
     refine ⟨_, rfl, ⟨j + 1, wv, mi, li, _, rfl, hjl, hI3.other k3 k4 hal' (by simp [k1, k2, hsv]) (by rw [eo]; exact hI3.go) hI3.o1 hI3.o2 hI3.fr (by rw [eo]; exact ⟨by have := hI3.le.1; omega, hI3.le.2⟩)⟩, hmeas⟩
    ·have hle3 := hI3.le.1
     refine appendM (n := (accL l ns cs j).out.length) (m := 1) (new := [.string (ns.getD j .empty)]) (hI3.go.keep fun i hi => get_new_ne _ _ _ (by have := hI3.o2; omega)) rfl (src_row (get_new_same _ _) rfl (by simp)) rfl (by decide) (by decide) rfl (by omega) (by omega) fun s6 g1 g2 g3 => ?_
     have e6 : s6.next = s3.next + 2 := g2
     have fr6 : ∀ i, i + 1 ≠ ow wv → i < s3.next → s6.get i = s3.get i := fun i h1 h2 => (g3 i h1 (by show i < s3.next + 1; omega)).trans (get_new_ne _ _ _ (by omega))
     have F6 : Frm s0 s6 := ⟨by have := hI3.fr.nx; omega, fun i hi => (fr6 i (by have := hI3.o1; omega) (by have := hI3.fr.nx; omega)).trans (hI3.fr.old i hi)⟩
     have n03 := hI3.fr.nx
     obtain ⟨b1q, nvq, a1q, _, a3q, _⟩ := (hR.keep (st' := s6) F6.nx fun i _ hi => F6.old i hi).at hjl
     obtain ⟨_, c6q, c7q, c8q, c9q⟩ := c4 s6 (F0.trans F6)
     have r3q := a3q 3 _ rfl
     rw [hmk] at r3q
     rw [k1] at r3q
     have hne : (clAt cs j).vals ≠ [] := by
      intro hv0
      have := hset (by rw [hmk]; exact k1)
      rw [hsv, hv0] at this
      cases this
     obtain ⟨v0, vr, hvv⟩ := List.exists_cons_of_ne_nil hne
     have hfst : fst (clAt cs j) = v0 := by unfold fst; rw [hvv]; rfl
     have eo : (accL l ns cs (j + 1)).out = (accL l ns cs j).out ++ [ns.getD j .empty] ++ [bs (quoteL v0.data.toList)] := by
      show (accS _ _ _ _).out = _
      unfold accS
      rw [if_neg (by rw [hsv]; decide), if_neg (by rw [k1]; decide), if_neg (by rw [k3]; decide), if_neg (by rw [k4]; decide), hfst, List.append_assoc]
      rfl
     have hv0s := hvs v0 (by rw [hvv]; simp)
     have hv0o := hok v0 (by rw [hvv]; simp)
     have ix : ∀ K : Value → Prop, popK (.indexAddr 1) [vv, .int .i64 0] K = K (bptr vv 0) := fun K => by
      rw [idx_cel c9q .i64 0 K (by omega) (by rw [hvv]; simp)]
     have ld : ∀ K : Value → Prop, ropK .load1 [bptr vv 0] s6 K = K (.string v0) := fun K => by
      rw [load_cel c9q 0 K (by omega) (by rw [hvv]; simp), hvv]
      rfl
     simp (disch := omega) only [↓sxA, ↓wk_store, sxB, sxP, simprocAttr, ↓la, ↓a1q, ↓r3q, ↓c1, ↓c7q, ↓ix, ↓ld]
     refine kQuoteR _ v0 (by omega) fun s7 F7 => ?_
     have h1q := quoteL_len2 hv0o
     have h2q := bs_size (quoteL v0.data.toList)
     have h3q := size_list v0
     have n67 := F7.nx
     simp (disch := omega) only [↓sxA, ↓wk_store, sxB, sxP, simprocAttr]
     refine appendM (n := (accL l ns cs j).out.length + 1) (m := 1) (new := [.string (bs (quoteL v0.data.toList))]) (g1.keep fun i hi => ?_) rfl (src_row (get_new_same _ _) rfl (by simp)) rfl (by decide) (by decide) rfl (by omega) (by omega) fun s8 p1 p2 p3 => ?_
     ·have : i + 1 = s3.next + 1 + 1 := hi
      rw [get_new_ne _ _ _ (by omega)]
      exact F7.old i (by omega)
     have e8 : s8.next = s7.next + 2 := p2
     have fr8 : ∀ i, i < s6.next → i ≠ s3.next + 1 → s8.get i = s6.get i := fun i h1 h2 => (p3 i (by show i + 1 ≠ s3.next + 1 + 1; omega) (by show i < s7.next + 1; omega)).trans ((get_new_ne _ _ _ (by omega)).trans (F7.old i h1))
     have F8 : Frm s0 s8 := ⟨by omega, fun i hi => (fr8 i (by omega) (by omega)).trans (F6.old i hi)⟩
     simp (disch := omega) only [↓sxA, ↓wk_store, sxB, sxP, simprocAttr]
     refine ⟨_, rfl, ⟨j + 1, _, mi, li, _, rfl, hjl, hI3.other k3 k4 hal' (by simp [hsv]) (by rw [eo, List.map_append, List.map_append, List.length_append, List.length_append]; exact p1) (.inr (by show s0.next + 1 ≤ s7.next + 1 + 1; omega)) (by show s7.next + 1 + 1 ≤ s8.next; omega) F8 (by
      rw [eo]
      refine ⟨by rw [List.length_append, List.length_append]; show _ + 1 + 1 ≤ _; omega, fun x hx => ?_⟩
      rcases List.mem_append.1 hx with q | q
      ·rcases List.mem_append.1 q with q | q
       ·exact hI3.le.2 x q
       ·simp at q; rw [q, ← List.getD_eq_getElem?_getD]; omega
      ·simp at q; rw [q]; omega)⟩, hmeas⟩
    ·have eo : (accL l ns cs (j + 1)).out = (accL l ns cs j).out := by
      show (accS _ _ _ _).out = _
      unfold accS
      rw [if_pos hsv]
     refine ⟨_, rfl, ⟨j + 1, wv, mi, li, _, rfl, hjl, hI3.other k3 k4 hal' (by simp [k1, k2, hsv]) (by rw [eo]; exact hI3.go) hI3.o1 hI3.o2 hI3.fr (by rw [eo]; exact ⟨by have := hI3.le.1; omega, hI3.le.2⟩)⟩, hmeas⟩
    ·have hle3 := hI3.le.1
     refine appendM (n := (accL l ns cs j).out.length) (m := 1) (new := [.string (ns.getD j .empty)]) (hI3.go.keep fun i hi => get_new_ne _ _ _ (by have := hI3.o2; omega)) rfl (src_row (get_new_same _ _) rfl (by simp)) rfl (by decide) (by decide) rfl (by omega) (by omega) fun s6 g1 g2 g3 => ?_
     have e6 : s6.next = s3.next + 2 := g2
     have fr6 : ∀ i, i + 1 ≠ ow wv → i < s3.next → s6.get i = s3.get i := fun i h1 h2 => (g3 i h1 (by show i < s3.next + 1; omega)).trans (get_new_ne _ _ _ (by omega))
     have F6 : Frm s0 s6 := ⟨by have := hI3.fr.nx; omega, fun i hi => (fr6 i (by have := hI3.o1; omega) (by have := hI3.fr.nx; omega)).trans (hI3.fr.old i hi)⟩
     have n03 := hI3.fr.nx
     obtain ⟨b1q, nvq, a1q, _, a3q, _⟩ := (hR.keep (st' := s6) F6.nx fun i _ hi => F6.old i hi).at hjl
     obtain ⟨_, c6q, c7q, c8q, c9q⟩ := c4 s6 (F0.trans F6)
     have r3q := a3q 3 _ rfl
     rw [hmk] at r3q
     rw [k1] at r3q
     have eo : (accL l ns cs (j + 1)).out = (accL l ns cs j).out ++ [ns.getD j .empty] := by
      show (accS _ _ _ _).out = _
      unfold accS
      rw [if_neg (by rw [hsv]; decide), if_pos k1]
     simp (disch := omega) only [↓sxA, ↓wk_store, sxB, sxP, simprocAttr, ↓la, ↓a1q, ↓r3q]
     refine ⟨_, rfl, ⟨j + 1, _, mi, li, _, rfl, hjl, hI3.other k3 k4 hal' (by simp [k1]) (by rw [eo, List.map_append, List.length_append]; exact g1) (.inr (by show s0.next + 1 ≤ s3.next + 1 + 1; omega)) (by show s3.next + 1 + 1 ≤ s6.next; omega) F6 (by
      rw [eo]
      refine ⟨by rw [List.length_append]; show _ + 1 ≤ _; omega, fun x hx => ?_⟩
      rcases List.mem_append.1 hx with q | q
      ·exact hI3.le.2 x q
      ·simp at q; rw [q, ← List.getD_eq_getElem?_getD]; omega)⟩, hmeas⟩
    ·have eo : (accL l ns cs (j + 1)).out = (accL l ns cs j).out := by
      show (accS _ _ _ _).out = _
      unfold accS
      rw [if_pos hsv]
     refine ⟨_, rfl, ⟨j + 1, wv, mi, li, _, rfl, hjl, hI3.other k3 k4 hal' (by simp [k1, k2, hsv]) (by rw [eo]; exact hI3.go) hI3.o1 hI3.o2 hI3.fr (by rw [eo]; exact ⟨by have := hI3.le.1; omega, hI3.le.2⟩)⟩, hmeas⟩
    ·have hle3 := hI3.le.1
     refine appendM (n := (accL l ns cs j).out.length) (m := 1) (new := [.string (ns.getD j .empty)]) (hI3.go.keep fun i hi => get_new_ne _ _ _ (by have := hI3.o2; omega)) rfl (src_row (get_new_same _ _) rfl (by simp)) rfl (by decide) (by decide) rfl (by omega) (by omega) fun s6 g1 g2 g3 => ?_
     have e6 : s6.next = s3.next + 2 := g2
     have fr6 : ∀ i, i + 1 ≠ ow wv → i < s3.next → s6.get i = s3.get i := fun i h1 h2 => (g3 i h1 (by show i < s3.next + 1; omega)).trans (get_new_ne _ _ _ (by omega))
     have F6 : Frm s0 s6 := ⟨by have := hI3.fr.nx; omega, fun i hi => (fr6 i (by have := hI3.o1; omega) (by have := hI3.fr.nx; omega)).trans (hI3.fr.old i hi)⟩
     have n03 := hI3.fr.nx
     obtain ⟨b1q, nvq, a1q, _, a3q, _⟩ := (hR.keep (st' := s6) F6.nx fun i _ hi => F6.old i hi).at hjl
     obtain ⟨_, c6q, c7q, c8q, c9q⟩ := c4 s6 (F0.trans F6)
     have r3q := a3q 3 _ rfl
     rw [hmk] at r3q
     rw [k1] at r3q
     have hne : (clAt cs j).vals ≠ [] := by
      intro hv0
      have := hset (by rw [hmk]; exact k1)
      rw [hsv, hv0] at this
      cases this
     obtain ⟨v0, vr, hvv⟩ := List.exists_cons_of_ne_nil hne
     have hfst : fst (clAt cs j) = v0 := by unfold fst; rw [hvv]; rfl
     have eo : (accL l ns cs (j + 1)).out = (accL l ns cs j).out ++ [ns.getD j .empty] ++ [bs (quoteL v0.data.toList)] := by
      show (accS _ _ _ _).out = _
      unfold accS
      rw [if_neg (by rw [hsv]; decide), if_neg (by rw [k1]; decide), if_neg (by rw [k3]; decide), if_neg (by rw [k4]; decide), hfst, List.append_assoc]
      rfl
     have hv0s := hvs v0 (by rw [hvv]; simp)
     have hv0o := hok v0 (by rw [hvv]; simp)
     have ix : ∀ K : Value → Prop, popK (.indexAddr 1) [vv, .int .i64 0] K = K (bptr vv 0) := fun K => by
      rw [idx_cel c9q .i64 0 K (by omega) (by rw [hvv]; simp)]
     have ld : ∀ K : Value → Prop, ropK .load1 [bptr vv 0] s6 K = K (.string v0) := fun K => by
      rw [load_cel c9q 0 K (by omega) (by rw [hvv]; simp), hvv]
      rfl
     simp (disch := omega) only [↓sxA, ↓wk_store, sxB, sxP, simprocAttr, ↓la, ↓a1q, ↓r3q, ↓c1, ↓c7q, ↓ix, ↓ld]
     refine kQuoteR _ v0 (by omega) fun s7 F7 => ?_
     have h1q := quoteL_len2 hv0o
     have h2q := bs_size (quoteL v0.data.toList)
     have h3q := size_list v0
     have n67 := F7.nx
     simp (disch := omega) only [↓sxA, ↓wk_store, sxB, sxP, simprocAttr]
     refine appendM (n := (accL l ns cs j).out.length + 1) (m := 1) (new := [.string (bs (quoteL v0.data.toList))]) (g1.keep fun i hi => ?_) rfl (src_row (get_new_same _ _) rfl (by simp)) rfl (by decide) (by decide) rfl (by omega) (by omega) fun s8 p1 p2 p3 => ?_
     ·have : i + 1 = s3.next + 1 + 1 := hi
      rw [get_new_ne _ _ _ (by omega)]
      exact F7.old i (by omega)
     have e8 : s8.next = s7.next + 2 := p2
     have fr8 : ∀ i, i < s6.next → i ≠ s3.next + 1 → s8.get i = s6.get i := fun i h1 h2 => (p3 i (by show i + 1 ≠ s3.next + 1 + 1; omega) (by show i < s7.next + 1; omega)).trans ((get_new_ne _ _ _ (by omega)).trans (F7.old i h1))
     have F8 : Frm s0 s8 := ⟨by omega, fun i hi => (fr8 i (by omega) (by omega)).trans (F6.old i hi)⟩
     simp (disch := omega) only [↓sxA, ↓wk_store, sxB, sxP, simprocAttr]
     refine ⟨_, rfl, ⟨j + 1, _, mi, li, _, rfl, hjl, hI3.other k3 k4 hal' (by simp [hsv]) (by rw [eo, List.map_append, List.map_append, List.length_append, List.length_append]; exact p1) (.inr (by show s0.next + 1 ≤ s7.next + 1 + 1; omega)) (by show s7.next + 1 + 1 ≤ s8.next; omega) F8 (by
      rw [eo]
      refine ⟨by rw [List.length_append, List.length_append]; show _ + 1 + 1 ≤ _; omega, fun x hx => ?_⟩
      rcases List.mem_append.1 hx with q | q
      ·rcases List.mem_append.1 q with q | q
       ·exact hI3.le.2 x q
       ·simp at q; rw [q, ← List.getD_eq_getElem?_getD]; omega
      ·simp at q; rw [q]; omega)⟩, hmeas⟩
  ·have hje : j = l.length := by omega
   subst hje
   have hall : allAlong l ns cs := fun i hi => hI.al i hi
   have hF : fmtA l ns cs = fmtB l (accL l ns cs l.length) := by unfold fmtA; rw [if_pos hall]
   have hN : NmOk l := fun x hx => by have := (hbd x hx).2.1; omega
   have fin : ∀ v e st', (v, e) = lineE (fmtA l ns cs) → Frm s0 st' → K (.tuple #[.string v, .int .i64 e]) st' := fun v e st' hv hF' => h v e st' ⟨l, 0, hT, .inr (.inr ⟨rfl, hlen, hv⟩)⟩ (F0.trans hF')
   have hX0 : XI s0 (accL l ns cs l.length).out wv s := ⟨hI.go, hI.o1, hI.o2, hI.fr, hI.le.2⟩
   have hol := hI.le.1
   have hwh := hI.wh
   have hmn := hI.mn
   have hlt := hI.lt
   generalize accL l ns cs l.length = a at *
   rw [hF] at fin
   rcases hlt with ⟨rfl, hlast, _⟩ | ⟨kL, hkL, rfl, hkf, ⟨hLset, hlast⟩ | ⟨hLset, hlast⟩⟩
   ·skip
    rcases hmn with ⟨rfl, hsv, _⟩ | ⟨k, hkl, rfl, hkm, ⟨hkset, hsv⟩ | ⟨hkset, hsv, hkn⟩⟩
    ·have hB : fmtB l a = some (a.out ++ a.last) := by
      unfold fmtB
      rw [hsv]
      split <;> simp
     rw [hlast, List.append_nil] at hB
     simp (disch := omega) only [↓sxA, ↓wk_store, sxB, sxP, simprocAttr, ↓la, ↓lc]
     have hYle := hX0.le
     have hY7 : (a.out).length ≤ 7000 := by (try simp only [List.length_append, List.length_map, List.length_cons, List.length_nil]); omega
     have hYt : ∀ kk, (Lib.join (((a.out).take kk).map (·.data.toList)) [32]).length ≤ 140800000 := fun kk => by
      refine join_smaller (fun x hx => hYle x (List.mem_of_mem_take hx)) ?_
      rw [List.length_take]
      omega
     obtain ⟨Y, hYe⟩ : ∃ Y, Y = a.out := ⟨_, rfl⟩
     rw [← hYe] at hY7 hYt hYle
     have hXY : XI s0 Y wv s := by rw [hYe]; exact hX0
     have hBY : fmtB l a = some Y := by rw [hYe]; exact hB
     have hC0 : Cel s wv (Y.map Value.string) := hXY.go.cel.1
     refine loop_rule [8, 16, 17] (fun vs s' => ∃ (k : Nat) (ov : Value), vs = [wv, ov, .int .i64 (k : Nat)] ∧ k ≤ Y.length ∧ Wr s s' ov (Lib.join ((Y.take k).map (·.data.toList)) [32])) (fun vs _ => match lget vs 2 with
       | .int _ k => ((Y.length : Int) - k).toNat
       | _ => 0) ?_ ?_ ?_
     ·rfl
     ·refine ⟨_, rfl, ⟨0, _, rfl, Nat.zero_le _, by simpa [Lib.join_nil] using ⟨Gro.nil _, .inl rfl, Nat.zero_le _, Frm.refl _⟩⟩, ?_⟩
      show ((Y.length : Int) - 0).toNat < 100000
      omega
     rintro vs s7 ⟨k, ov, rfl, hk, hW⟩
     show sx _ _ _ _ _ [(8, _), (16, _), (17, _)] _ _ _ _
     have FW := hW.2.2.2
     have hC : Cel s7 wv (Y.map Value.string) := hC0.keep fun i hi => FW.old i (by have := hXY.o2; omega)
     have nC := len_cel hC
     rw [List.length_map] at nC
     by_cases hkl : k < Y.length
     ·have i1 := idx_cel hC
      have ld1 := load_cel hC
      rw [List.length_map] at i1 ld1
      have e := getD_str Y k hkl
      have htk : Y.take (k + 1) = Y.take k ++ [Y.getD k .empty] := by
       rw [List.take_add_one, List.getElem?_eq_getElem hkl, List.getD_eq_getElem?_getD, List.getElem?_eq_getElem hkl]
       rfl
      have hys : (Y.getD k .empty).size ≤ 20010 := by
       rw [List.getD_eq_getElem?_getD, List.getElem?_eq_getElem hkl, Option.getD_some]
       exact hYle _ (List.getElem_mem hkl)
      have hup : Lib.join ((Y.take (k + 1)).map (·.data.toList)) [32] = Lib.join ((Y.take k).map (·.data.toList)) [32] ++ (if k = 0 then [] else [32]) ++ (Y.getD k .empty).data.toList := by
       rw [htk, List.map_append, List.map_cons, List.map_nil, join_snoc]
       have : ((Y.take k).map (·.data.toList) = []) ↔ k = 0 := by
        rw [List.map_eq_nil_iff, List.take_eq_nil_iff]
        constructor
        ·rintro (h | h)
         ·exact h
         ·rw [h] at hkl; simp at hkl
        ·exact .inl
       by_cases h0 : k = 0
       ·rw [if_pos h0, if_pos (this.2 h0)]
       ·rw [if_neg h0, if_neg (fun h => h0 (this.1 h))]
      have hjk := hYt k
      generalize Y.getD k .empty = y at e hys hup
      have ld2 : ∀ s' : St, Frm s7 s' → ∀ K : Value → Prop, ropK .load1 [bptr wv (k : Int)] s' K = K (.string y) := fun s' F' K => by
       have hC' : Cel s' wv (Y.map Value.string) := hC.keep fun i hi => F'.old i (by have := hXY.o2; have := FW.nx; omega)
       rw [load_cel hC' k K (by omega) (by rw [List.length_map]; omega), Int.toNat_natCast, e]
      have hmeas : ((Y.length : Int) - ((k : Int) + 1)).toNat < ((Y.length : Int) - (k : Int)).toNat := by omega
      by_cases hk0 : k = 0
      ·rw [if_pos hk0, List.append_nil] at hup
       have l0 := ld2 s7 (Frm.refl _)
       simp (disch := omega) only [↓sxA, ↓wk_store, sxB, sxP, simprocAttr, ↓nC, ↓i1, ↓l0]
       refine hW.str y (by omega) fun v8 s8 hW8 _ _ _ => ?_
       simp (disch := omega) only [↓sxA, ↓wk_store, sxB, sxP, simprocAttr]
       exact ⟨_, rfl, ⟨k + 1, v8, rfl, hkl, by rw [hup]; exact hW8⟩, hmeas⟩
      ·rw [if_neg hk0] at hup
       simp (disch := omega) only [↓sxA, ↓wk_store, sxB, sxP, simprocAttr, ↓nC]
       refine hW.row (m := [32]) rfl (by decide) (by simp only [List.length_cons, List.length_nil]; omega) fun v8 s8 hW8 n8 f8 _ => ?_
       have l8 : ∀ K : Value → Prop, ropK .load1 [bptr wv (k : Int)] s8 K = K (.string y) := fun K => by
        have hC' : Cel s8 wv (Y.map Value.string) := hC0.keep fun i hi => hW8.2.2.2.old i (by have := hXY.o2; omega)
        rw [load_cel hC' k K (by omega) (by rw [List.length_map]; omega), Int.toNat_natCast, e]
       simp (disch := omega) only [↓sxA, ↓wk_store, sxB, sxP, simprocAttr, ↓i1, ↓l8]
       refine hW8.str y (by rw [List.length_append]; simp only [List.length_cons, List.length_nil]; omega) fun v9 s9 hW9 _ _ _ => ?_
       simp (disch := omega) only [↓sxA, ↓wk_store, sxB, sxP, simprocAttr]
       exact ⟨_, rfl, ⟨k + 1, v9, rfl, hkl, by rw [hup]; exact hW9⟩, hmeas⟩
     ·have hke : k = Y.length := by omega
      rw [hke, List.take_length] at hW
      have F9 : Frm s0 s7 := hXY.fr.trans FW
      have nv := fun K => len_bys (hW.1.bys) K
      have rs := fun K => rk_str (K := K) hW.1
      rw [hBY] at fin
      simp only [lineE] at fin
      by_cases hJ : 1000 < (Lib.join (Y.map (·.data.toList)) [32]).length
      ·rw [if_pos hJ] at fin
       generalize Lib.join (Y.map (·.data.toList)) [32] = J at *
       simp (disch := omega) only [↓sxA, ↓wk_store, sxB, sxP, simprocAttr, ↓nC, ↓nv]
       exact fin _ _ _ rfl F9
      ·rw [if_neg hJ] at fin
       generalize Lib.join (Y.map (·.data.toList)) [32] = J at *
       simp (disch := omega) only [↓sxA, ↓wk_store, sxB, sxP, simprocAttr, ↓nC, ↓nv, ↓rs]
       exact fin _ _ _ rfl F9
    ·obtain ⟨b2, vv, c1, c2, c3, c4⟩ := hA.2 k (by omega)
     obtain ⟨_, c6, c7, c8, c9⟩ := c4 s F
     rw [hkset] at c8
     have hB : fmtB l a = some (a.out ++ a.last) := by
      unfold fmtB
      rw [hsv]
      split <;> simp
     rw [hlast, List.append_nil] at hB
     simp (disch := omega) only [↓sxA, ↓wk_store, sxB, sxP, simprocAttr, ↓la, ↓lc, ↓c1, ↓c8]
     have hYle := hX0.le
     have hY7 : (a.out).length ≤ 7000 := by (try simp only [List.length_append, List.length_map, List.length_cons, List.length_nil]); omega
     have hYt : ∀ kk, (Lib.join (((a.out).take kk).map (·.data.toList)) [32]).length ≤ 140800000 := fun kk => by
      refine join_smaller (fun x hx => hYle x (List.mem_of_mem_take hx)) ?_
      rw [List.length_take]
      omega
     obtain ⟨Y, hYe⟩ : ∃ Y, Y = a.out := ⟨_, rfl⟩
     rw [← hYe] at hY7 hYt hYle
     have hXY : XI s0 Y wv s := by rw [hYe]; exact hX0
     have hBY : fmtB l a = some Y := by rw [hYe]; exact hB
     have hC0 : Cel s wv (Y.map Value.string) := hXY.go.cel.1
     refine loop_rule [8, 16, 17] (fun vs s' => ∃ (k : Nat) (ov : Value), vs = [wv, ov, .int .i64 (k : Nat)] ∧ k ≤ Y.length ∧ Wr s s' ov (Lib.join ((Y.take k).map (·.data.toList)) [32])) (fun vs _ => match lget vs 2 with
       | .int _ k => ((Y.length : Int) - k).toNat
       | _ => 0) ?_ ?_ ?_
     ·rfl
     ·refine ⟨_, rfl, ⟨0, _, rfl, Nat.zero_le _, by simpa [Lib.join_nil] using ⟨Gro.nil _, .inl rfl, Nat.zero_le _, Frm.refl _⟩⟩, ?_⟩
      show ((Y.length : Int) - 0).toNat < 100000
      omega
     rintro vs s7 ⟨k, ov, rfl, hk, hW⟩
     show sx _ _ _ _ _ [(8, _), (16, _), (17, _)] _ _ _ _
     have FW := hW.2.2.2
     have hC : Cel s7 wv (Y.map Value.string) := hC0.keep fun i hi => FW.old i (by have := hXY.o2; omega)
     have nC := len_cel hC
     rw [List.length_map] at nC
     by_cases hkl : k < Y.length
     ·have i1 := idx_cel hC
      have ld1 := load_cel hC
      rw [List.length_map] at i1 ld1
      have e := getD_str Y k hkl
      have htk : Y.take (k + 1) = Y.take k ++ [Y.getD k .empty] := by
       rw [List.take_add_one, List.getElem?_eq_getElem hkl, List.getD_eq_getElem?_getD, List.getElem?_eq_getElem hkl]
       rfl
      have hys : (Y.getD k .empty).size ≤ 20010 := by
       rw [List.getD_eq_getElem?_getD, List.getElem?_eq_getElem hkl, Option.getD_some]
       exact hYle _ (List.getElem_mem hkl)
      have hup : Lib.join ((Y.take (k + 1)).map (·.data.toList)) [32] = Lib.join ((Y.take k).map (·.data.toList)) [32] ++ (if k = 0 then [] else [32]) ++ (Y.getD k .empty).data.toList := by
       rw [htk, List.map_append, List.map_cons, List.map_nil, join_snoc]
       have : ((Y.take k).map (·.data.toList) = []) ↔ k = 0 := by
        rw [List.map_eq_nil_iff, List.take_eq_nil_iff]
        constructor
        ·rintro (h | h)
         ·exact h
         ·rw [h] at hkl; simp at hkl
        ·exact .inl
       by_cases h0 : k = 0
       ·rw [if_pos h0, if_pos (this.2 h0)]
       ·rw [if_neg h0, if_neg (fun h => h0 (this.1 h))]
      have hjk := hYt k
      generalize Y.getD k .empty = y at e hys hup
      have ld2 : ∀ s' : St, Frm s7 s' → ∀ K : Value → Prop, ropK .load1 [bptr wv (k : Int)] s' K = K (.string y) := fun s' F' K => by
       have hC' : Cel s' wv (Y.map Value.string) := hC.keep fun i hi => F'.old i (by have := hXY.o2; have := FW.nx; omega)
       rw [load_cel hC' k K (by omega) (by rw [List.length_map]; omega), Int.toNat_natCast, e]
      have hmeas : ((Y.length : Int) - ((k : Int) + 1)).toNat < ((Y.length : Int) - (k : Int)).toNat := by omega
      by_cases hk0 : k = 0
      ·rw [if_pos hk0, List.append_nil] at hup
       have l0 := ld2 s7 (Frm.refl _)
       simp (disch := omega) only [↓sxA, ↓wk_store, sxB, sxP, simprocAttr, ↓nC, ↓i1, ↓l0]
       refine hW.str y (by omega) fun v8 s8 hW8 _ _ _ => ?_
       simp (disch := omega) only [↓sxA, ↓wk_store, sxB, sxP, simprocAttr]
       exact ⟨_, rfl, ⟨k + 1, v8, rfl, hkl, by rw [hup]; exact hW8⟩, hmeas⟩
      ·rw [if_neg hk0] at hup
       simp (disch := omega) only [↓sxA, ↓wk_store, sxB, sxP, simprocAttr, ↓nC]
       refine hW.row (m := [32]) rfl (by decide) (by simp only [List.length_cons, List.length_nil]; omega) fun v8 s8 hW8 n8 f8 _ => ?_
       have l8 : ∀ K : Value → Prop, ropK .load1 [bptr wv (k : Int)] s8 K = K (.string y) := fun K => by
        have hC' : Cel s8 wv (Y.map Value.string) := hC0.keep fun i hi => hW8.2.2.2.old i (by have := hXY.o2; omega)
        rw [load_cel hC' k K (by omega) (by rw [List.length_map]; omega), Int.toNat_natCast, e]
       simp (disch := omega) only [↓sxA, ↓wk_store, sxB, sxP, simprocAttr, ↓i1, ↓l8]
       refine hW8.str y (by rw [List.length_append]; simp only [List.length_cons, List.length_nil]; omega) fun v9 s9 hW9 _ _ _ => ?_
       simp (disch := omega) only [↓sxA, ↓wk_store, sxB, sxP, simprocAttr]
       exact ⟨_, rfl, ⟨k + 1, v9, rfl, hkl, by rw [hup]; exact hW9⟩, hmeas⟩
     ·have hke : k = Y.length := by omega
      rw [hke, List.take_length] at hW
      have F9 : Frm s0 s7 := hXY.fr.trans FW
      have nv := fun K => len_bys (hW.1.bys) K
      have rs := fun K => rk_str (K := K) hW.1
      rw [hBY] at fin
      simp only [lineE] at fin
      by_cases hJ : 1000 < (Lib.join (Y.map (·.data.toList)) [32]).length
      ·rw [if_pos hJ] at fin
       generalize Lib.join (Y.map (·.data.toList)) [32] = J at *
       simp (disch := omega) only [↓sxA, ↓wk_store, sxB, sxP, simprocAttr, ↓nC, ↓nv]
       exact fin _ _ _ rfl F9
      ·rw [if_neg hJ] at fin
       generalize Lib.join (Y.map (·.data.toList)) [32] = J at *
       simp (disch := omega) only [↓sxA, ↓wk_store, sxB, sxP, simprocAttr, ↓nC, ↓nv, ↓rs]
       exact fin _ _ _ rfl F9
    ·obtain ⟨b2, vv, c1, c2, c3, c4⟩ := hA.2 k (by omega)
     obtain ⟨_, c6, c7, c8, c9⟩ := c4 s F
     rw [hkset] at c8
     have hkal := hall k hkl
     have hkok := along_ok hkal
     obtain ⟨hkl5, hks5⟩ := hsm.1.2 k
     have hnk := hsm.2 k
     have nk := len_cel c9
     have ik := idx_cel c9
     have lk := load_cel c9
     rw [List.length_map] at nk ik lk
     cases ev with
     | false =>
      have hnw : a.whole = false := by rw [hwh]; rfl
      rcases hvals : (clAt cs k).vals with _ | ⟨v0, vr⟩
      ·exfalso
       have := along_set hkal (by
        have hg := (hgd _ (List.getElem_mem hkl)).2.2
        rw [← itAt_eq hkl] at hg
        rcases mk_kinds hg with q | q | q | q | q
        ·rw [q.2.2.1] at hkm; cases hkm
        all_goals exact q.1)
       rw [hkset, hvals] at this
       cases this
      rw [hvals] at nk ik lk hkl5
      by_cases hvr : vr = []
      case neg =>
       have hB : fmtB l a = none := by
        unfold fmtB
        rw [if_neg (by rw [hnw]; decide), hsv, hvals]
        cases vr with
        | nil => exact (hvr rfl).elim
        | cons x y => rfl
       have z : (1 : Int) < ((v0 :: vr).length : Nat) := by have := List.length_pos_iff.2 hvr; rw [List.length_cons]; omega
       simp (disch := omega) only [↓sxA, ↓wk_store, sxB, sxP, simprocAttr, ↓la, ↓lc, ↓c1, ↓c8, ↓c7, ↓nk]
       refine fin _ _ _ ?_ hI.fr
       rw [hB]
       rfl
      subst hvr
      have hB : fmtB l a = some (a.out ++ [a.name, bs (quoteL v0.data.toList)] ++ a.last) := by unfold fmtB; rw [if_neg (by rw [hnw]; decide), hsv, hvals]
      rw [hkn] at hB
      have y2 := hkok v0 (by rw [hvals]; simp)
      have y1 := hks5 v0 (by rw [hvals]; simp)
      have z1 : ¬ (1 : Int) < (([v0] : List ByteArray).length : Nat) := by simp
      have ld2 : ∀ K : Value → Prop, ropK .load1 [bptr vv 0] s K = K (.string v0) := fun K => by rw [lk 0 K (by omega) (by simp)]; rfl
      have ix2 : ∀ K : Value → Prop, popK (.indexAddr 1) [vv, .int .i64 0] K = K (bptr vv 0) := fun K => by rw [ik .i64 0 K (by omega) (by simp)]
      simp (disch := omega) only [↓sxA, ↓wk_store, sxB, sxP, simprocAttr, ↓la, ↓lc, ↓c1, ↓c6, ↓c8, ↓c7, ↓nk, ↓ix2, ↓ld2]
      refine kQuoteR _ v0 (by omega) fun s5 F5 => ?_
      have hX5 := hX0.keep F5
      obtain ⟨_, c6q, _, _, _⟩ := c4 s5 (F.trans F5)
      have h1q := quoteL_len2 y2
      have h2q := bs_size (quoteL v0.data.toList)
      have h3q := size_list v0
      have hce : cellEq (.string (ns.getD k .empty)) (.string (ns.getD k .empty)) = true := by simp [cellEq]
      have hs1 := again c6q hce
      simp (disch := omega) only [↓sxA, ↓wk_store, sxB, sxP, simprocAttr, ↓hs1]
      refine appendM (n := a.out.length) (m := 2) (new := [.string (ns.getD k .empty), .string (bs (quoteL v0.data.toList))]) (hX5.go.keep fun i hi => get_new_ne _ _ _ (by have := hX5.o2; omega)) rfl (src_row (get_new_same _ _) rfl (by simp)) rfl (by decide) (by decide) rfl (by omega) (by omega) fun s8 g1 g2 g3 => ?_
      have e8 : s8.next = s5.next + 2 := g2
      obtain ⟨wv8, hwv8⟩ : ∃ wv8, wv8 = Value.slice (some ⟨s5.next + 1, 0, none⟩) (a.out.length + 2) (a.out.length + 2) := ⟨_, rfl⟩
      have hwv8' : Value.slice (some ⟨(s5.new (.row [.string (ns.getD k .empty), .string (bs (quoteL v0.data.toList))] 0 false)).next, 0, none⟩) (a.out.length + 2) (a.out.length + 2) = wv8 := hwv8.symm
      have hX8 := hX5.push (xs := [ns.getD k .empty, bs (quoteL v0.data.toList)]) (fun x hx => by
       rcases List.mem_cons.1 hx with rfl | hx
       ·omega
       ·rcases List.mem_cons.1 hx with rfl | hx
        ·omega
        ·cases hx) rfl rfl g1 (by show s5.next < s5.next + 1 + 1; omega) (by show s5.next + 1 + 1 ≤ s8.next; omega) (by omega) (fun i h1 h2 => (g3 i h1 (by show i < s5.next + 1; omega)).trans (get_new_ne _ _ _ (by omega)))
      rw [hwv8'] at hX8 ⊢
      rw [hlast, List.append_nil] at hB
      simp (disch := omega) only [↓sxA, ↓wk_store, sxB, sxP, simprocAttr]
      have hYle := hX8.le
      have hY7 : ((a.out ++ [ns.getD k .empty, bs (quoteL v0.data.toList)])).length ≤ 7000 := by (try simp only [List.length_append, List.length_map, List.length_cons, List.length_nil]); omega
      have hYt : ∀ kk, (Lib.join ((((a.out ++ [ns.getD k .empty, bs (quoteL v0.data.toList)])).take kk).map (·.data.toList)) [32]).length ≤ 140800000 := fun kk => by
       refine join_smaller (fun x hx => hYle x (List.mem_of_mem_take hx)) ?_
       rw [List.length_take]
       omega
      obtain ⟨Y, hYe⟩ : ∃ Y, Y = (a.out ++ [ns.getD k .empty, bs (quoteL v0.data.toList)]) := ⟨_, rfl⟩
      rw [← hYe] at hY7 hYt hYle
      have hXY : XI s0 Y wv8 s8 := by rw [hYe]; exact hX8
      have hBY : fmtB l a = some Y := by rw [hYe]; exact hB
      have hC0 : Cel s8 wv8 (Y.map Value.string) := hXY.go.cel.1
      refine loop_rule [8, 16, 17] (fun vs s' => ∃ (k : Nat) (ov : Value), vs = [wv8, ov, .int .i64 (k : Nat)] ∧ k ≤ Y.length ∧ Wr s8 s' ov (Lib.join ((Y.take k).map (·.data.toList)) [32])) (fun vs _ => match lget vs 2 with
        | .int _ k => ((Y.length : Int) - k).toNat
        | _ => 0) ?_ ?_ ?_
      ·rfl
      ·refine ⟨_, rfl, ⟨0, _, rfl, Nat.zero_le _, by simpa [Lib.join_nil] using ⟨Gro.nil _, .inl rfl, Nat.zero_le _, Frm.refl _⟩⟩, ?_⟩
       show ((Y.length : Int) - 0).toNat < 100000
       omega
      rintro vs s7 ⟨k, ov, rfl, hk, hW⟩
      show sx _ _ _ _ _ [(8, _), (16, _), (17, _)] _ _ _ _
      have FW := hW.2.2.2
      have hC : Cel s7 wv8 (Y.map Value.string) := hC0.keep fun i hi => FW.old i (by have := hXY.o2; omega)
      have nC := len_cel hC
      rw [List.length_map] at nC
      by_cases hkl : k < Y.length
      ·have i1 := idx_cel hC
       have ld1 := load_cel hC
       rw [List.length_map] at i1 ld1
       have e := getD_str Y k hkl
       have htk : Y.take (k + 1) = Y.take k ++ [Y.getD k .empty] := by
        rw [List.take_add_one, List.getElem?_eq_getElem hkl, List.getD_eq_getElem?_getD, List.getElem?_eq_getElem hkl]
        rfl
       have hys : (Y.getD k .empty).size ≤ 20010 := by
        rw [List.getD_eq_getElem?_getD, List.getElem?_eq_getElem hkl, Option.getD_some]
        exact hYle _ (List.getElem_mem hkl)
       have hup : Lib.join ((Y.take (k + 1)).map (·.data.toList)) [32] = Lib.join ((Y.take k).map (·.data.toList)) [32] ++ (if k = 0 then [] else [32]) ++ (Y.getD k .empty).data.toList := by
        rw [htk, List.map_append, List.map_cons, List.map_nil, join_snoc]
        have : ((Y.take k).map (·.data.toList) = []) ↔ k = 0 := by
         rw [List.map_eq_nil_iff, List.take_eq_nil_iff]
         constructor
         ·rintro (h | h)
          ·exact h
          ·rw [h] at hkl; simp at hkl
         ·exact .inl
        by_cases h0 : k = 0
        ·rw [if_pos h0, if_pos (this.2 h0)]
        ·rw [if_neg h0, if_neg (fun h => h0 (this.1 h))]
       have hjk := hYt k
       generalize Y.getD k .empty = y at e hys hup
       have ld2 : ∀ s' : St, Frm s7 s' → ∀ K : Value → Prop, ropK .load1 [bptr wv8 (k : Int)] s' K = K (.string y) := fun s' F' K => by
        have hC' : Cel s' wv8 (Y.map Value.string) := hC.keep fun i hi => F'.old i (by have := hXY.o2; have := FW.nx; omega)
        rw [load_cel hC' k K (by omega) (by rw [List.length_map]; omega), Int.toNat_natCast, e]
       have hmeas : ((Y.length : Int) - ((k : Int) + 1)).toNat < ((Y.length : Int) - (k : Int)).toNat := by omega
       by_cases hk0 : k = 0
       ·rw [if_pos hk0, List.append_nil] at hup
        have l0 := ld2 s7 (Frm.refl _)
        simp (disch := omega) only [↓sxA, ↓wk_store, sxB, sxP, simprocAttr, ↓nC, ↓i1, ↓l0]
        refine hW.str y (by omega) fun v8 s8 hW8 _ _ _ => ?_
        simp (disch := omega) only [↓sxA, ↓wk_store, sxB, sxP, simprocAttr]
        exact ⟨_, rfl, ⟨k + 1, v8, rfl, hkl, by rw [hup]; exact hW8⟩, hmeas⟩
       ·rw [if_neg hk0] at hup
        simp (disch := omega) only [↓sxA, ↓wk_store, sxB, sxP, simprocAttr, ↓nC]
        refine hW.row (m := [32]) rfl (by decide) (by simp only [List.length_cons, List.length_nil]; omega) fun v8 s8 hW8 n8 f8 _ => ?_
        have l8 : ∀ K : Value → Prop, ropK .load1 [bptr wv8 (k : Int)] s8 K = K (.string y) := fun K => by
         have hC' : Cel s8 wv8 (Y.map Value.string) := hC0.keep fun i hi => hW8.2.2.2.old i (by have := hXY.o2; omega)
         rw [load_cel hC' k K (by omega) (by rw [List.length_map]; omega), Int.toNat_natCast, e]
        simp (disch := omega) only [↓sxA, ↓wk_store, sxB, sxP, simprocAttr, ↓i1, ↓l8]
        refine hW8.str y (by rw [List.length_append]; simp only [List.length_cons, List.length_nil]; omega) fun v9 s9 hW9 _ _ _ => ?_
        simp (disch := omega) only [↓sxA, ↓wk_store, sxB, sxP, simprocAttr]
        exact ⟨_, rfl, ⟨k + 1, v9, rfl, hkl, by rw [hup]; exact hW9⟩, hmeas⟩
      ·have hke : k = Y.length := by omega
       rw [hke, List.take_length] at hW
       have F9 : Frm s0 s7 := hXY.fr.trans FW
       have nv := fun K => len_bys (hW.1.bys) K
       have rs := fun K => rk_str (K := K) hW.1
       rw [hBY] at fin
       simp only [lineE] at fin
       by_cases hJ : 1000 < (Lib.join (Y.map (·.data.toList)) [32]).length
       ·rw [if_pos hJ] at fin
        generalize Lib.join (Y.map (·.data.toList)) [32] = J at *
        simp (disch := omega) only [↓sxA, ↓wk_store, sxB, sxP, simprocAttr, ↓nC, ↓nv]
        exact fin _ _ _ rfl F9
       ·rw [if_neg hJ] at fin
        generalize Lib.join (Y.map (·.data.toList)) [32] = J at *
        simp (disch := omega) only [↓sxA, ↓wk_store, sxB, sxP, simprocAttr, ↓nC, ↓nv, ↓rs]
        exact fin _ _ _ rfl F9
     | true =>
      have hnw : a.whole = true := by rw [hwh]; rfl
      simp (disch := omega) only [↓sxA, ↓wk_store, sxB, sxP, simprocAttr, ↓la, ↓lc, ↓c1, ↓c8, ↓c7]
      have hB : fmtB l a = some (a.out ++ a.several.map (sevT l) ++ a.last) := by unfold fmtB; rw [if_pos hnw]
      have sevsz : ∀ v ∈ a.several, v.size ≤ 10000 ∧ (sevT l v).size ≤ 20010 := fun v hv => by
       rw [hsv] at hv
       have k2 := hkok v hv
       have k1 := hks5 v hv
       have h1 := quoteL_len2 k2
       have h2 := bs_size (quoteL v.data.toList)
       have h3 := size_list v
       have h4 := escL_len v.data.toList
       have h5 := nesc_le v.data.toList
       have h6 := bs_size (34 :: (escL v.data.toList ++ [34]))
       simp only [List.length_cons, List.length_append, List.length_nil] at h6
       unfold sevT
       split <;> omega
      rw [← hsv] at hkl5 nk ik lk c9
      refine loop_rule [1, 6, 8, 10, 13, 14] (fun vs s' => ∃ (q : Nat) (wv' : Value), vs = [av, lv, wv', .int .i64 (-1), vv, .int .i64 (q : Nat)] ∧ q ≤ a.several.length ∧ XI s0 (a.out ++ (a.several.take q).map (sevT l)) wv' s') (fun vs _ => match lget vs 5 with
        | .int _ k => ((a.several.length : Int) - k).toNat
        | _ => 0) ?_ ?_ ?_
      ·rfl
      ·refine ⟨_, rfl, ⟨0, wv, rfl, Nat.zero_le _, by simpa using hX0⟩, ?_⟩
       show ((a.several.length : Int) - 0).toNat < 100000
       omega
      rintro vs s5 ⟨q, wv5, rfl, hq, hX5⟩
      show sx _ _ _ _ _ [(1, _), (6, _), (8, _), (10, _), (13, _), (14, _)] _ _ _ _
      have F5 := F0.trans hX5.fr
      have hC5 : Cel s5 vv (a.several.map Value.string) := by rw [hsv]; exact (c4 s5 F5).2.2.2.2
      have nk5 := len_cel hC5
      have i1 := idx_cel hC5
      have ld1 := load_cel hC5
      rw [List.length_map] at nk5 i1 ld1
      by_cases hql : q < a.several.length
      ·have e := getD_str a.several q hql
       have hmm : a.several.getD q .empty ∈ a.several := by rw [List.getD_eq_getElem?_getD, List.getElem?_eq_getElem hql, Option.getD_some]; exact List.getElem_mem hql
       have htk : a.several.take (q + 1) = a.several.take q ++ [a.several.getD q .empty] := by
        rw [List.take_add_one, List.getElem?_eq_getElem hql, List.getD_eq_getElem?_getD, List.getElem?_eq_getElem hql]
        rfl
       generalize a.several.getD q .empty = y at e hmm htk
       obtain ⟨y1, ys⟩ := sevsz y hmm
       have ld2 : ∀ s' : St, Frm s5 s' → ∀ K : Value → Prop, ropK .load1 [bptr vv (q : Int)] s' K = K (.string y) := fun s' F' K => by
        have hC' : Cel s' vv (a.several.map Value.string) := by rw [hsv]; exact (c4 s' (F5.trans F')).2.2.2.2
        rw [load_cel hC' q K (by omega) (by rw [List.length_map]; omega), Int.toNat_natCast, e]
       have l5 := ld2 s5 (Frm.refl _)
       have hXl : (a.out ++ (a.several.take q).map (sevT l)).length = a.out.length + q := by simp; omega
       have hb1 : ((a.out ++ (a.several.take q).map (sevT l)).length + 1) * 16 ≤ 1099511627776 := by rw [hXl]; omega
       have hb2 : (a.out ++ (a.several.take q).map (sevT l)).length + 1 ≤ 1099511627776 := by rw [hXl]; omega
       simp (disch := omega) only [↓sxA, ↓wk_store, sxB, sxP, simprocAttr, ↓nk5, ↓i1, ↓l5]
       refine kQuoteR _ y (by omega) fun s6 F6 => ?_
       have l6 := ld2 s6 F6
       simp (disch := omega) only [↓sxA, ↓wk_store, sxB, sxP, simprocAttr, ↓i1, ↓l6]
       have F06 := hX5.fr.trans F6
       refine kKnown _ y (by omega) (hR.keep (st' := s6) F06.nx fun i _ hi => F06.old i hi) (by omega) hN fun s7 F7 => ?_
       have hX7 := hX5.keep (F6.trans F7)
       by_cases hkn2 : 0 ≤ knownL (lowerV y) l 0
       case' pos =>
        obtain ⟨u1, u2, ch, cr, u3, u4⟩ := known_quote hgd hkn2
        have hst : sevT l y = bs (34 :: (escL y.data.toList ++ [34])) := by unfold sevT; rw [if_pos hkn2]
        have hst2 : (⟨#[34]⟩ : ByteArray) ++ bs (quoteL y.data.toList) ++ ⟨#[34]⟩ = sevT l y := by
         rw [hst, u1, u2]
         exact (bs_of _).symm.trans (congrArg bs (by simp [bs, ByteArray.toList_data_append]))
        have u5 : (bs (quoteL y.data.toList)).data.toList.getD 0 0 = ch := by rw [bs_list, u1, u3]; rfl
        have u6 : ¬ ((ch.toNat : Int) = 34) := fun hh => u4 (u8_eq (n := 34) hh)
        have u7 : 0 < (bs (quoteL y.data.toList)).size := by rw [bs_size, u1, u3]; simp
        simp (disch := omega) only [↓sxA, ↓wk_store, sxB, sxP, simprocAttr, q_indexStr]
        rw [u5, if_neg u6, hst2]
        have u8 : (bs (quoteL y.data.toList)).size ≤ 10000 := by rw [bs_size, u1, ← size_list]; exact y1
        have u9 : (⟨#[34]⟩ : ByteArray).size = 1 := rfl
        refine ⟨by omega, by rw [ByteArray.size_append]; omega, ?_⟩
       case' neg =>
        have hst : sevT l y = bs (quoteL y.data.toList) := by unfold sevT; rw [if_neg hkn2]
        simp (disch := omega) only [↓sxA, ↓wk_store, sxB, sxP, simprocAttr]
        rw [← hst]
       all_goals
        refine appendM (n := (a.out ++ (a.several.take q).map (sevT l)).length) (m := 1) (new := [.string (sevT l y)]) (hX7.go.keep fun i hi => get_new_ne _ _ _ (by have := hX7.o2; omega)) rfl (src_row (get_new_same _ _) rfl (by simp)) rfl (by decide) (by decide) rfl hb1 hb2 fun s8 g1 g2 g3 => ?_
        have e8 : s8.next = s7.next + 2 := g2
        have fr8 : ∀ i, i + 1 ≠ ow wv5 → i < s7.next → s8.get i = s7.get i := fun i h1 h2 => (g3 i h1 (by show i < s7.next + 1; omega)).trans (get_new_ne _ _ _ (by omega))
        simp (disch := omega) only [↓sxA, ↓wk_store, sxB, sxP, simprocAttr]
        refine ⟨_, rfl, ⟨q + 1, _, rfl, hql, ?_⟩, ?_⟩
        ·have := hX7.push (xs := [sevT l y]) (fun x hx => by simp at hx; subst hx; exact ys) rfl rfl g1 (by show s7.next < s7.next + 1 + 1; omega) (by show s7.next + 1 + 1 ≤ s8.next; omega) (by omega) fr8
         rw [htk, List.map_append, ← List.append_assoc]
         exact this
        ·show ((a.several.length : Int) - ((q : Int) + 1)).toNat < ((a.several.length : Int) - (q : Int)).toNat
         omega
      ·have hqe : q = a.several.length := by omega
       rw [hqe, List.take_length] at hX5
       have hsl5 : a.several.length ≤ 5000 := hkl5
       rw [hlast, List.append_nil] at hB
       simp (disch := omega) only [↓sxA, ↓wk_store, sxB, sxP, simprocAttr, ↓nk5]
       have hYle := hX5.le
       have hY7 : ((a.out ++ a.several.map (sevT l))).length ≤ 7000 := by (try simp only [List.length_append, List.length_map, List.length_cons, List.length_nil]); omega
       have hYt : ∀ kk, (Lib.join ((((a.out ++ a.several.map (sevT l))).take kk).map (·.data.toList)) [32]).length ≤ 140800000 := fun kk => by
        refine join_smaller (fun x hx => hYle x (List.mem_of_mem_take hx)) ?_
        rw [List.length_take]
        omega
       obtain ⟨Y, hYe⟩ : ∃ Y, Y = (a.out ++ a.several.map (sevT l)) := ⟨_, rfl⟩
       rw [← hYe] at hY7 hYt hYle
       have hXY : XI s0 Y wv5 s5 := by rw [hYe]; exact hX5
       have hBY : fmtB l a = some Y := by rw [hYe]; exact hB
       have hC0 : Cel s5 wv5 (Y.map Value.string) := hXY.go.cel.1
       refine loop_rule [8, 16, 17] (fun vs s' => ∃ (k : Nat) (ov : Value), vs = [wv5, ov, .int .i64 (k : Nat)] ∧ k ≤ Y.length ∧ Wr s5 s' ov (Lib.join ((Y.take k).map (·.data.toList)) [32])) (fun vs _ => match lget vs 2 with
         | .int _ k => ((Y.length : Int) - k).toNat
         | _ => 0) ?_ ?_ ?_
       ·rfl
       ·refine ⟨_, rfl, ⟨0, _, rfl, Nat.zero_le _, by simpa [Lib.join_nil] using ⟨Gro.nil _, .inl rfl, Nat.zero_le _, Frm.refl _⟩⟩, ?_⟩
        show ((Y.length : Int) - 0).toNat < 100000
        omega
       rintro vs s7 ⟨k, ov, rfl, hk, hW⟩
       show sx _ _ _ _ _ [(8, _), (16, _), (17, _)] _ _ _ _
       have FW := hW.2.2.2
       have hC : Cel s7 wv5 (Y.map Value.string) := hC0.keep fun i hi => FW.old i (by have := hXY.o2; omega)
       have nC := len_cel hC
       rw [List.length_map] at nC
       by_cases hkl : k < Y.length
       ·have i1 := idx_cel hC
        have ld1 := load_cel hC
        rw [List.length_map] at i1 ld1
        have e := getD_str Y k hkl
        have htk : Y.take (k + 1) = Y.take k ++ [Y.getD k .empty] := by
         rw [List.take_add_one, List.getElem?_eq_getElem hkl, List.getD_eq_getElem?_getD, List.getElem?_eq_getElem hkl]
         rfl
        have hys : (Y.getD k .empty).size ≤ 20010 := by
         rw [List.getD_eq_getElem?_getD, List.getElem?_eq_getElem hkl, Option.getD_some]
         exact hYle _ (List.getElem_mem hkl)
        have hup : Lib.join ((Y.take (k + 1)).map (·.data.toList)) [32] = Lib.join ((Y.take k).map (·.data.toList)) [32] ++ (if k = 0 then [] else [32]) ++ (Y.getD k .empty).data.toList := by
         rw [htk, List.map_append, List.map_cons, List.map_nil, join_snoc]
         have : ((Y.take k).map (·.data.toList) = []) ↔ k = 0 := by
          rw [List.map_eq_nil_iff, List.take_eq_nil_iff]
          constructor
          ·rintro (h | h)
           ·exact h
           ·rw [h] at hkl; simp at hkl
          ·exact .inl
         by_cases h0 : k = 0
         ·rw [if_pos h0, if_pos (this.2 h0)]
         ·rw [if_neg h0, if_neg (fun h => h0 (this.1 h))]
        have hjk := hYt k
        generalize Y.getD k .empty = y at e hys hup
        have ld2 : ∀ s' : St, Frm s7 s' → ∀ K : Value → Prop, ropK .load1 [bptr wv5 (k : Int)] s' K = K (.string y) := fun s' F' K => by
         have hC' : Cel s' wv5 (Y.map Value.string) := hC.keep fun i hi => F'.old i (by have := hXY.o2; have := FW.nx; omega)
         rw [load_cel hC' k K (by omega) (by rw [List.length_map]; omega), Int.toNat_natCast, e]
        have hmeas : ((Y.length : Int) - ((k : Int) + 1)).toNat < ((Y.length : Int) - (k : Int)).toNat := by omega
        by_cases hk0 : k = 0
        ·rw [if_pos hk0, List.append_nil] at hup
         have l0 := ld2 s7 (Frm.refl _)
         simp (disch := omega) only [↓sxA, ↓wk_store, sxB, sxP, simprocAttr, ↓nC, ↓i1, ↓l0]
         refine hW.str y (by omega) fun v8 s8 hW8 _ _ _ => ?_
         simp (disch := omega) only [↓sxA, ↓wk_store, sxB, sxP, simprocAttr]
         exact ⟨_, rfl, ⟨k + 1, v8, rfl, hkl, by rw [hup]; exact hW8⟩, hmeas⟩
        ·rw [if_neg hk0] at hup
         simp (disch := omega) only [↓sxA, ↓wk_store, sxB, sxP, simprocAttr, ↓nC]
         refine hW.row (m := [32]) rfl (by decide) (by simp only [List.length_cons, List.length_nil]; omega) fun v8 s8 hW8 n8 f8 _ => ?_
         have l8 : ∀ K : Value → Prop, ropK .load1 [bptr wv5 (k : Int)] s8 K = K (.string y) := fun K => by
          have hC' : Cel s8 wv5 (Y.map Value.string) := hC0.keep fun i hi => hW8.2.2.2.old i (by have := hXY.o2; omega)
          rw [load_cel hC' k K (by omega) (by rw [List.length_map]; omega), Int.toNat_natCast, e]
         simp (disch := omega) only [↓sxA, ↓wk_store, sxB, sxP, simprocAttr, ↓i1, ↓l8]
         refine hW8.str y (by rw [List.length_append]; simp only [List.length_cons, List.length_nil]; omega) fun v9 s9 hW9 _ _ _ => ?_
         simp (disch := omega) only [↓sxA, ↓wk_store, sxB, sxP, simprocAttr]
         exact ⟨_, rfl, ⟨k + 1, v9, rfl, hkl, by rw [hup]; exact hW9⟩, hmeas⟩
       ·have hke : k = Y.length := by omega
        rw [hke, List.take_length] at hW
        have F9 : Frm s0 s7 := hXY.fr.trans FW
        have nv := fun K => len_bys (hW.1.bys) K
        have rs := fun K => rk_str (K := K) hW.1
        rw [hBY] at fin
        simp only [lineE] at fin
        by_cases hJ : 1000 < (Lib.join (Y.map (·.data.toList)) [32]).length
        ·rw [if_pos hJ] at fin
         generalize Lib.join (Y.map (·.data.toList)) [32] = J at *
         simp (disch := omega) only [↓sxA, ↓wk_store, sxB, sxP, simprocAttr, ↓nC, ↓nv]
         exact fin _ _ _ rfl F9
        ·rw [if_neg hJ] at fin
         generalize Lib.join (Y.map (·.data.toList)) [32] = J at *
         simp (disch := omega) only [↓sxA, ↓wk_store, sxB, sxP, simprocAttr, ↓nC, ↓nv, ↓rs]
         exact fin _ _ _ rfl F9
   ·obtain ⟨bL, vL, cL1, cL2, cL3, cL4⟩ := hA.2 kL (by omega)
    rcases hmn with ⟨rfl, hsv, _⟩ | ⟨k, hkl, rfl, hkm, ⟨hkset, hsv⟩ | ⟨hkset, hsv, hkn⟩⟩
    ·have hB : fmtB l a = some (a.out ++ a.last) := by
      unfold fmtB
      rw [hsv]
      split <;> simp
     rw [hlast, List.append_nil] at hB
     have Fq := F0.trans hX0.fr
     obtain ⟨_, _, _, cL8, _⟩ := cL4 s Fq
     rw [hLset] at cL8
     simp (disch := omega) only [↓sxA, ↓wk_store, sxB, sxP, simprocAttr, ↓la, ↓lc, ↓cL1, ↓cL8]
     have hYle := hX0.le
     have hY7 : (a.out).length ≤ 7000 := by (try simp only [List.length_append, List.length_map, List.length_cons, List.length_nil]); omega
     have hYt : ∀ kk, (Lib.join (((a.out).take kk).map (·.data.toList)) [32]).length ≤ 140800000 := fun kk => by
      refine join_smaller (fun x hx => hYle x (List.mem_of_mem_take hx)) ?_
      rw [List.length_take]
      omega
     obtain ⟨Y, hYe⟩ : ∃ Y, Y = a.out := ⟨_, rfl⟩
     rw [← hYe] at hY7 hYt hYle
     have hXY : XI s0 Y wv s := by rw [hYe]; exact hX0
     have hBY : fmtB l a = some Y := by rw [hYe]; exact hB
     have hC0 : Cel s wv (Y.map Value.string) := hXY.go.cel.1
     refine loop_rule [8, 16, 17] (fun vs s' => ∃ (k : Nat) (ov : Value), vs = [wv, ov, .int .i64 (k : Nat)] ∧ k ≤ Y.length ∧ Wr s s' ov (Lib.join ((Y.take k).map (·.data.toList)) [32])) (fun vs _ => match lget vs 2 with
       | .int _ k => ((Y.length : Int) - k).toNat
       | _ => 0) ?_ ?_ ?_
     ·rfl
     ·refine ⟨_, rfl, ⟨0, _, rfl, Nat.zero_le _, by simpa [Lib.join_nil] using ⟨Gro.nil _, .inl rfl, Nat.zero_le _, Frm.refl _⟩⟩, ?_⟩
      show ((Y.length : Int) - 0).toNat < 100000
      omega
     rintro vs s7 ⟨k, ov, rfl, hk, hW⟩
     show sx _ _ _ _ _ [(8, _), (16, _), (17, _)] _ _ _ _
     have FW := hW.2.2.2
     have hC : Cel s7 wv (Y.map Value.string) := hC0.keep fun i hi => FW.old i (by have := hXY.o2; omega)
     have nC := len_cel hC
     rw [List.length_map] at nC
     by_cases hkl : k < Y.length
     ·have i1 := idx_cel hC
      have ld1 := load_cel hC
      rw [List.length_map] at i1 ld1
      have e := getD_str Y k hkl
      have htk : Y.take (k + 1) = Y.take k ++ [Y.getD k .empty] := by
       rw [List.take_add_one, List.getElem?_eq_getElem hkl, List.getD_eq_getElem?_getD, List.getElem?_eq_getElem hkl]
       rfl
      have hys : (Y.getD k .empty).size ≤ 20010 := by
       rw [List.getD_eq_getElem?_getD, List.getElem?_eq_getElem hkl, Option.getD_some]
       exact hYle _ (List.getElem_mem hkl)
      have hup : Lib.join ((Y.take (k + 1)).map (·.data.toList)) [32] = Lib.join ((Y.take k).map (·.data.toList)) [32] ++ (if k = 0 then [] else [32]) ++ (Y.getD k .empty).data.toList := by
       rw [htk, List.map_append, List.map_cons, List.map_nil, join_snoc]
       have : ((Y.take k).map (·.data.toList) = []) ↔ k = 0 := by
        rw [List.map_eq_nil_iff, List.take_eq_nil_iff]
        constructor
        ·rintro (h | h)
         ·exact h
         ·rw [h] at hkl; simp at hkl
        ·exact .inl
       by_cases h0 : k = 0
       ·rw [if_pos h0, if_pos (this.2 h0)]
       ·rw [if_neg h0, if_neg (fun h => h0 (this.1 h))]
      have hjk := hYt k
      generalize Y.getD k .empty = y at e hys hup
      have ld2 : ∀ s' : St, Frm s7 s' → ∀ K : Value → Prop, ropK .load1 [bptr wv (k : Int)] s' K = K (.string y) := fun s' F' K => by
       have hC' : Cel s' wv (Y.map Value.string) := hC.keep fun i hi => F'.old i (by have := hXY.o2; have := FW.nx; omega)
       rw [load_cel hC' k K (by omega) (by rw [List.length_map]; omega), Int.toNat_natCast, e]
      have hmeas : ((Y.length : Int) - ((k : Int) + 1)).toNat < ((Y.length : Int) - (k : Int)).toNat := by omega
      by_cases hk0 : k = 0
      ·rw [if_pos hk0, List.append_nil] at hup
       have l0 := ld2 s7 (Frm.refl _)
       simp (disch := omega) only [↓sxA, ↓wk_store, sxB, sxP, simprocAttr, ↓nC, ↓i1, ↓l0]
       refine hW.str y (by omega) fun v8 s8 hW8 _ _ _ => ?_
       simp (disch := omega) only [↓sxA, ↓wk_store, sxB, sxP, simprocAttr]
       exact ⟨_, rfl, ⟨k + 1, v8, rfl, hkl, by rw [hup]; exact hW8⟩, hmeas⟩
      ·rw [if_neg hk0] at hup
       simp (disch := omega) only [↓sxA, ↓wk_store, sxB, sxP, simprocAttr, ↓nC]
       refine hW.row (m := [32]) rfl (by decide) (by simp only [List.length_cons, List.length_nil]; omega) fun v8 s8 hW8 n8 f8 _ => ?_
       have l8 : ∀ K : Value → Prop, ropK .load1 [bptr wv (k : Int)] s8 K = K (.string y) := fun K => by
        have hC' : Cel s8 wv (Y.map Value.string) := hC0.keep fun i hi => hW8.2.2.2.old i (by have := hXY.o2; omega)
        rw [load_cel hC' k K (by omega) (by rw [List.length_map]; omega), Int.toNat_natCast, e]
       simp (disch := omega) only [↓sxA, ↓wk_store, sxB, sxP, simprocAttr, ↓i1, ↓l8]
       refine hW8.str y (by rw [List.length_append]; simp only [List.length_cons, List.length_nil]; omega) fun v9 s9 hW9 _ _ _ => ?_
       simp (disch := omega) only [↓sxA, ↓wk_store, sxB, sxP, simprocAttr]
       exact ⟨_, rfl, ⟨k + 1, v9, rfl, hkl, by rw [hup]; exact hW9⟩, hmeas⟩
     ·have hke : k = Y.length := by omega
      rw [hke, List.take_length] at hW
      have F9 : Frm s0 s7 := hXY.fr.trans FW
      have nv := fun K => len_bys (hW.1.bys) K
      have rs := fun K => rk_str (K := K) hW.1
      rw [hBY] at fin
      simp only [lineE] at fin
      by_cases hJ : 1000 < (Lib.join (Y.map (·.data.toList)) [32]).length
      ·rw [if_pos hJ] at fin
       generalize Lib.join (Y.map (·.data.toList)) [32] = J at *
       simp (disch := omega) only [↓sxA, ↓wk_store, sxB, sxP, simprocAttr, ↓nC, ↓nv]
       exact fin _ _ _ rfl F9
      ·rw [if_neg hJ] at fin
       generalize Lib.join (Y.map (·.data.toList)) [32] = J at *
       simp (disch := omega) only [↓sxA, ↓wk_store, sxB, sxP, simprocAttr, ↓nC, ↓nv, ↓rs]
       exact fin _ _ _ rfl F9
    ·obtain ⟨b2, vv, c1, c2, c3, c4⟩ := hA.2 k (by omega)
     obtain ⟨_, c6, c7, c8, c9⟩ := c4 s F
     rw [hkset] at c8
     have hB : fmtB l a = some (a.out ++ a.last) := by
      unfold fmtB
      rw [hsv]
      split <;> simp
     rw [hlast, List.append_nil] at hB
     have Fq := F0.trans hX0.fr
     obtain ⟨_, _, _, cL8, _⟩ := cL4 s Fq
     rw [hLset] at cL8
     simp (disch := omega) only [↓sxA, ↓wk_store, sxB, sxP, simprocAttr, ↓la, ↓lc, ↓c1, ↓c8, ↓cL1, ↓cL8]
     have hYle := hX0.le
     have hY7 : (a.out).length ≤ 7000 := by (try simp only [List.length_append, List.length_map, List.length_cons, List.length_nil]); omega
     have hYt : ∀ kk, (Lib.join (((a.out).take kk).map (·.data.toList)) [32]).length ≤ 140800000 := fun kk => by
      refine join_smaller (fun x hx => hYle x (List.mem_of_mem_take hx)) ?_
      rw [List.length_take]
      omega
     obtain ⟨Y, hYe⟩ : ∃ Y, Y = a.out := ⟨_, rfl⟩
     rw [← hYe] at hY7 hYt hYle
     have hXY : XI s0 Y wv s := by rw [hYe]; exact hX0
     have hBY : fmtB l a = some Y := by rw [hYe]; exact hB
     have hC0 : Cel s wv (Y.map Value.string) := hXY.go.cel.1
     refine loop_rule [8, 16, 17] (fun vs s' => ∃ (k : Nat) (ov : Value), vs = [wv, ov, .int .i64 (k : Nat)] ∧ k ≤ Y.length ∧ Wr s s' ov (Lib.join ((Y.take k).map (·.data.toList)) [32])) (fun vs _ => match lget vs 2 with
       | .int _ k => ((Y.length : Int) - k).toNat
       | _ => 0) ?_ ?_ ?_
     ·rfl
     ·refine ⟨_, rfl, ⟨0, _, rfl, Nat.zero_le _, by simpa [Lib.join_nil] using ⟨Gro.nil _, .inl rfl, Nat.zero_le _, Frm.refl _⟩⟩, ?_⟩
      show ((Y.length : Int) - 0).toNat < 100000
      omega
     rintro vs s7 ⟨k, ov, rfl, hk, hW⟩
     show sx _ _ _ _ _ [(8, _), (16, _), (17, _)] _ _ _ _
     have FW := hW.2.2.2
     have hC : Cel s7 wv (Y.map Value.string) := hC0.keep fun i hi => FW.old i (by have := hXY.o2; omega)
     have nC := len_cel hC
     rw [List.length_map] at nC
     by_cases hkl : k < Y.length
     ·have i1 := idx_cel hC
      have ld1 := load_cel hC
      rw [List.length_map] at i1 ld1
      have e := getD_str Y k hkl
      have htk : Y.take (k + 1) = Y.take k ++ [Y.getD k .empty] := by
       rw [List.take_add_one, List.getElem?_eq_getElem hkl, List.getD_eq_getElem?_getD, List.getElem?_eq_getElem hkl]
       rfl
      have hys : (Y.getD k .empty).size ≤ 20010 := by
       rw [List.getD_eq_getElem?_getD, List.getElem?_eq_getElem hkl, Option.getD_some]
       exact hYle _ (List.getElem_mem hkl)
      have hup : Lib.join ((Y.take (k + 1)).map (·.data.toList)) [32] = Lib.join ((Y.take k).map (·.data.toList)) [32] ++ (if k = 0 then [] else [32]) ++ (Y.getD k .empty).data.toList := by
       rw [htk, List.map_append, List.map_cons, List.map_nil, join_snoc]
       have : ((Y.take k).map (·.data.toList) = []) ↔ k = 0 := by
        rw [List.map_eq_nil_iff, List.take_eq_nil_iff]
        constructor
        ·rintro (h | h)
         ·exact h
         ·rw [h] at hkl; simp at hkl
        ·exact .inl
       by_cases h0 : k = 0
       ·rw [if_pos h0, if_pos (this.2 h0)]
       ·rw [if_neg h0, if_neg (fun h => h0 (this.1 h))]
      have hjk := hYt k
      generalize Y.getD k .empty = y at e hys hup
      have ld2 : ∀ s' : St, Frm s7 s' → ∀ K : Value → Prop, ropK .load1 [bptr wv (k : Int)] s' K = K (.string y) := fun s' F' K => by
       have hC' : Cel s' wv (Y.map Value.string) := hC.keep fun i hi => F'.old i (by have := hXY.o2; have := FW.nx; omega)
       rw [load_cel hC' k K (by omega) (by rw [List.length_map]; omega), Int.toNat_natCast, e]
      have hmeas : ((Y.length : Int) - ((k : Int) + 1)).toNat < ((Y.length : Int) - (k : Int)).toNat := by omega
      by_cases hk0 : k = 0
      ·rw [if_pos hk0, List.append_nil] at hup
       have l0 := ld2 s7 (Frm.refl _)
       simp (disch := omega) only [↓sxA, ↓wk_store, sxB, sxP, simprocAttr, ↓nC, ↓i1, ↓l0]
       refine hW.str y (by omega) fun v8 s8 hW8 _ _ _ => ?_
       simp (disch := omega) only [↓sxA, ↓wk_store, sxB, sxP, simprocAttr]
       exact ⟨_, rfl, ⟨k + 1, v8, rfl, hkl, by rw [hup]; exact hW8⟩, hmeas⟩
      ·rw [if_neg hk0] at hup
       simp (disch := omega) only [↓sxA, ↓wk_store, sxB, sxP, simprocAttr, ↓nC]
       refine hW.row (m := [32]) rfl (by decide) (by simp only [List.length_cons, List.length_nil]; omega) fun v8 s8 hW8 n8 f8 _ => ?_
       have l8 : ∀ K : Value → Prop, ropK .load1 [bptr wv (k : Int)] s8 K = K (.string y) := fun K => by
        have hC' : Cel s8 wv (Y.map Value.string) := hC0.keep fun i hi => hW8.2.2.2.old i (by have := hXY.o2; omega)
        rw [load_cel hC' k K (by omega) (by rw [List.length_map]; omega), Int.toNat_natCast, e]
       simp (disch := omega) only [↓sxA, ↓wk_store, sxB, sxP, simprocAttr, ↓i1, ↓l8]
       refine hW8.str y (by rw [List.length_append]; simp only [List.length_cons, List.length_nil]; omega) fun v9 s9 hW9 _ _ _ => ?_
       simp (disch := omega) only [↓sxA, ↓wk_store, sxB, sxP, simprocAttr]
       exact ⟨_, rfl, ⟨k + 1, v9, rfl, hkl, by rw [hup]; exact hW9⟩, hmeas⟩
     ·have hke : k = Y.length := by omega
      rw [hke, List.take_length] at hW
      have F9 : Frm s0 s7 := hXY.fr.trans FW
      have nv := fun K => len_bys (hW.1.bys) K
      have rs := fun K => rk_str (K := K) hW.1
      rw [hBY] at fin
      simp only [lineE] at fin
      by_cases hJ : 1000 < (Lib.join (Y.map (·.data.toList)) [32]).length
      ·rw [if_pos hJ] at fin
       generalize Lib.join (Y.map (·.data.toList)) [32] = J at *
       simp (disch := omega) only [↓sxA, ↓wk_store, sxB, sxP, simprocAttr, ↓nC, ↓nv]
       exact fin _ _ _ rfl F9
      ·rw [if_neg hJ] at fin
       generalize Lib.join (Y.map (·.data.toList)) [32] = J at *
       simp (disch := omega) only [↓sxA, ↓wk_store, sxB, sxP, simprocAttr, ↓nC, ↓nv, ↓rs]
       exact fin _ _ _ rfl F9
    ·obtain ⟨b2, vv, c1, c2, c3, c4⟩ := hA.2 k (by omega)
     obtain ⟨_, c6, c7, c8, c9⟩ := c4 s F
     rw [hkset] at c8
     have hkal := hall k hkl
     have hkok := along_ok hkal
     obtain ⟨hkl5, hks5⟩ := hsm.1.2 k
     have hnk := hsm.2 k
     have nk := len_cel c9
     have ik := idx_cel c9
     have lk := load_cel c9
     rw [List.length_map] at nk ik lk
     have hnw : a.whole = false := by rw [hwh, decide_eq_false (by omega), Bool.and_false]
     rcases hvals : (clAt cs k).vals with _ | ⟨v0, vr⟩
     ·exfalso
      have := along_set hkal (by
       have hg := (hgd _ (List.getElem_mem hkl)).2.2
       rw [← itAt_eq hkl] at hg
       rcases mk_kinds hg with q | q | q | q | q
       ·rw [q.2.2.1] at hkm; cases hkm
       all_goals exact q.1)
      rw [hkset, hvals] at this
      cases this
     rw [hvals] at nk ik lk hkl5
     by_cases hvr : vr = []
     case neg =>
      have hB : fmtB l a = none := by
       unfold fmtB
       rw [if_neg (by rw [hnw]; decide), hsv, hvals]
       cases vr with
       | nil => exact (hvr rfl).elim
       | cons x y => rfl
      have z : (1 : Int) < ((v0 :: vr).length : Nat) := by have := List.length_pos_iff.2 hvr; rw [List.length_cons]; omega
      simp (disch := omega) only [↓sxA, ↓wk_store, sxB, sxP, simprocAttr, ↓la, ↓lc, ↓c1, ↓c8, ↓c7, ↓nk]
      refine fin _ _ _ ?_ hI.fr
      rw [hB]
      rfl
     subst hvr
     have hB : fmtB l a = some (a.out ++ [a.name, bs (quoteL v0.data.toList)] ++ a.last) := by unfold fmtB; rw [if_neg (by rw [hnw]; decide), hsv, hvals]
     rw [hkn] at hB
     have y2 := hkok v0 (by rw [hvals]; simp)
     have y1 := hks5 v0 (by rw [hvals]; simp)
     have z1 : ¬ (1 : Int) < (([v0] : List ByteArray).length : Nat) := by simp
     have ld2 : ∀ K : Value → Prop, ropK .load1 [bptr vv 0] s K = K (.string v0) := fun K => by rw [lk 0 K (by omega) (by simp)]; rfl
     have ix2 : ∀ K : Value → Prop, popK (.indexAddr 1) [vv, .int .i64 0] K = K (bptr vv 0) := fun K => by rw [ik .i64 0 K (by omega) (by simp)]
     simp (disch := omega) only [↓sxA, ↓wk_store, sxB, sxP, simprocAttr, ↓la, ↓lc, ↓c1, ↓c6, ↓c8, ↓c7, ↓nk, ↓ix2, ↓ld2]
     refine kQuoteR _ v0 (by omega) fun s5 F5 => ?_
     have hX5 := hX0.keep F5
     obtain ⟨_, c6q, _, _, _⟩ := c4 s5 (F.trans F5)
     have h1q := quoteL_len2 y2
     have h2q := bs_size (quoteL v0.data.toList)
     have h3q := size_list v0
     have hce : cellEq (.string (ns.getD k .empty)) (.string (ns.getD k .empty)) = true := by simp [cellEq]
     have hs1 := again c6q hce
     simp (disch := omega) only [↓sxA, ↓wk_store, sxB, sxP, simprocAttr, ↓hs1]
     refine appendM (n := a.out.length) (m := 2) (new := [.string (ns.getD k .empty), .string (bs (quoteL v0.data.toList))]) (hX5.go.keep fun i hi => get_new_ne _ _ _ (by have := hX5.o2; omega)) rfl (src_row (get_new_same _ _) rfl (by simp)) rfl (by decide) (by decide) rfl (by omega) (by omega) fun s8 g1 g2 g3 => ?_
     have e8 : s8.next = s5.next + 2 := g2
     obtain ⟨wv8, hwv8⟩ : ∃ wv8, wv8 = Value.slice (some ⟨s5.next + 1, 0, none⟩) (a.out.length + 2) (a.out.length + 2) := ⟨_, rfl⟩
     have hwv8' : Value.slice (some ⟨(s5.new (.row [.string (ns.getD k .empty), .string (bs (quoteL v0.data.toList))] 0 false)).next, 0, none⟩) (a.out.length + 2) (a.out.length + 2) = wv8 := hwv8.symm
     have hX8 := hX5.push (xs := [ns.getD k .empty, bs (quoteL v0.data.toList)]) (fun x hx => by
      rcases List.mem_cons.1 hx with rfl | hx
      ·omega
      ·rcases List.mem_cons.1 hx with rfl | hx
       ·omega
       ·cases hx) rfl rfl g1 (by show s5.next < s5.next + 1 + 1; omega) (by show s5.next + 1 + 1 ≤ s8.next; omega) (by omega) (fun i h1 h2 => (g3 i h1 (by show i < s5.next + 1; omega)).trans (get_new_ne _ _ _ (by omega)))
     rw [hwv8'] at hX8 ⊢
     rw [hlast, List.append_nil] at hB
     have Fq := F0.trans hX8.fr
     obtain ⟨_, _, _, cL8, _⟩ := cL4 s8 Fq
     rw [hLset] at cL8
     simp (disch := omega) only [↓sxA, ↓wk_store, sxB, sxP, simprocAttr, ↓cL1, ↓cL8]
     have hYle := hX8.le
     have hY7 : ((a.out ++ [ns.getD k .empty, bs (quoteL v0.data.toList)])).length ≤ 7000 := by (try simp only [List.length_append, List.length_map, List.length_cons, List.length_nil]); omega
     have hYt : ∀ kk, (Lib.join ((((a.out ++ [ns.getD k .empty, bs (quoteL v0.data.toList)])).take kk).map (·.data.toList)) [32]).length ≤ 140800000 := fun kk => by
      refine join_smaller (fun x hx => hYle x (List.mem_of_mem_take hx)) ?_
      rw [List.length_take]
      omega
     obtain ⟨Y, hYe⟩ : ∃ Y, Y = (a.out ++ [ns.getD k .empty, bs (quoteL v0.data.toList)]) := ⟨_, rfl⟩
     rw [← hYe] at hY7 hYt hYle
     have hXY : XI s0 Y wv8 s8 := by rw [hYe]; exact hX8
     have hBY : fmtB l a = some Y := by rw [hYe]; exact hB
     have hC0 : Cel s8 wv8 (Y.map Value.string) := hXY.go.cel.1
     refine loop_rule [8, 16, 17] (fun vs s' => ∃ (k : Nat) (ov : Value), vs = [wv8, ov, .int .i64 (k : Nat)] ∧ k ≤ Y.length ∧ Wr s8 s' ov (Lib.join ((Y.take k).map (·.data.toList)) [32])) (fun vs _ => match lget vs 2 with
       | .int _ k => ((Y.length : Int) - k).toNat
       | _ => 0) ?_ ?_ ?_
     ·rfl
     ·refine ⟨_, rfl, ⟨0, _, rfl, Nat.zero_le _, by simpa [Lib.join_nil] using ⟨Gro.nil _, .inl rfl, Nat.zero_le _, Frm.refl _⟩⟩, ?_⟩
      show ((Y.length : Int) - 0).toNat < 100000
      omega
     rintro vs s7 ⟨k, ov, rfl, hk, hW⟩
     show sx _ _ _ _ _ [(8, _), (16, _), (17, _)] _ _ _ _
     have FW := hW.2.2.2
     have hC : Cel s7 wv8 (Y.map Value.string) := hC0.keep fun i hi => FW.old i (by have := hXY.o2; omega)
     have nC := len_cel hC
     rw [List.length_map] at nC
     by_cases hkl : k < Y.length
     ·have i1 := idx_cel hC
      have ld1 := load_cel hC
      rw [List.length_map] at i1 ld1
      have e := getD_str Y k hkl
      have htk : Y.take (k + 1) = Y.take k ++ [Y.getD k .empty] := by
       rw [List.take_add_one, List.getElem?_eq_getElem hkl, List.getD_eq_getElem?_getD, List.getElem?_eq_getElem hkl]
       rfl
      have hys : (Y.getD k .empty).size ≤ 20010 := by
       rw [List.getD_eq_getElem?_getD, List.getElem?_eq_getElem hkl, Option.getD_some]
       exact hYle _ (List.getElem_mem hkl)
      have hup : Lib.join ((Y.take (k + 1)).map (·.data.toList)) [32] = Lib.join ((Y.take k).map (·.data.toList)) [32] ++ (if k = 0 then [] else [32]) ++ (Y.getD k .empty).data.toList := by
       rw [htk, List.map_append, List.map_cons, List.map_nil, join_snoc]
       have : ((Y.take k).map (·.data.toList) = []) ↔ k = 0 := by
        rw [List.map_eq_nil_iff, List.take_eq_nil_iff]
        constructor
        ·rintro (h | h)
         ·exact h
         ·rw [h] at hkl; simp at hkl
        ·exact .inl
       by_cases h0 : k = 0
       ·rw [if_pos h0, if_pos (this.2 h0)]
       ·rw [if_neg h0, if_neg (fun h => h0 (this.1 h))]
      have hjk := hYt k
      generalize Y.getD k .empty = y at e hys hup
      have ld2 : ∀ s' : St, Frm s7 s' → ∀ K : Value → Prop, ropK .load1 [bptr wv8 (k : Int)] s' K = K (.string y) := fun s' F' K => by
       have hC' : Cel s' wv8 (Y.map Value.string) := hC.keep fun i hi => F'.old i (by have := hXY.o2; have := FW.nx; omega)
       rw [load_cel hC' k K (by omega) (by rw [List.length_map]; omega), Int.toNat_natCast, e]
      have hmeas : ((Y.length : Int) - ((k : Int) + 1)).toNat < ((Y.length : Int) - (k : Int)).toNat := by omega
      by_cases hk0 : k = 0
      ·rw [if_pos hk0, List.append_nil] at hup
       have l0 := ld2 s7 (Frm.refl _)
       simp (disch := omega) only [↓sxA, ↓wk_store, sxB, sxP, simprocAttr, ↓nC, ↓i1, ↓l0]
       refine hW.str y (by omega) fun v8 s8 hW8 _ _ _ => ?_
       simp (disch := omega) only [↓sxA, ↓wk_store, sxB, sxP, simprocAttr]
       exact ⟨_, rfl, ⟨k + 1, v8, rfl, hkl, by rw [hup]; exact hW8⟩, hmeas⟩
      ·rw [if_neg hk0] at hup
       simp (disch := omega) only [↓sxA, ↓wk_store, sxB, sxP, simprocAttr, ↓nC]
       refine hW.row (m := [32]) rfl (by decide) (by simp only [List.length_cons, List.length_nil]; omega) fun v8 s8 hW8 n8 f8 _ => ?_
       have l8 : ∀ K : Value → Prop, ropK .load1 [bptr wv8 (k : Int)] s8 K = K (.string y) := fun K => by
        have hC' : Cel s8 wv8 (Y.map Value.string) := hC0.keep fun i hi => hW8.2.2.2.old i (by have := hXY.o2; omega)
        rw [load_cel hC' k K (by omega) (by rw [List.length_map]; omega), Int.toNat_natCast, e]
       simp (disch := omega) only [↓sxA, ↓wk_store, sxB, sxP, simprocAttr, ↓i1, ↓l8]
       refine hW8.str y (by rw [List.length_append]; simp only [List.length_cons, List.length_nil]; omega) fun v9 s9 hW9 _ _ _ => ?_
       simp (disch := omega) only [↓sxA, ↓wk_store, sxB, sxP, simprocAttr]
       exact ⟨_, rfl, ⟨k + 1, v9, rfl, hkl, by rw [hup]; exact hW9⟩, hmeas⟩
     ·have hke : k = Y.length := by omega
      rw [hke, List.take_length] at hW
      have F9 : Frm s0 s7 := hXY.fr.trans FW
      have nv := fun K => len_bys (hW.1.bys) K
      have rs := fun K => rk_str (K := K) hW.1
      rw [hBY] at fin
      simp only [lineE] at fin
      by_cases hJ : 1000 < (Lib.join (Y.map (·.data.toList)) [32]).length
      ·rw [if_pos hJ] at fin
       generalize Lib.join (Y.map (·.data.toList)) [32] = J at *
       simp (disch := omega) only [↓sxA, ↓wk_store, sxB, sxP, simprocAttr, ↓nC, ↓nv]
       exact fin _ _ _ rfl F9
      ·rw [if_neg hJ] at fin
       generalize Lib.join (Y.map (·.data.toList)) [32] = J at *
       simp (disch := omega) only [↓sxA, ↓wk_store, sxB, sxP, simprocAttr, ↓nC, ↓nv, ↓rs]
       exact fin _ _ _ rfl F9
   ·obtain ⟨bL, vL, cL1, cL2, cL3, cL4⟩ := hA.2 kL (by omega)
    have hLal := hall kL hkL
    obtain ⟨hkl5L, hks5L⟩ := hsm.1.2 kL
    have hLne : 0 < (clAt cs kL).vals.length := by
     have := along_set hLal (by
      have hg := (hgd _ (List.getElem_mem hkL)).2.2
      rw [← itAt_eq hkL] at hg
      exact (fit_rest hg hkf).2.2.1)
     rw [hLset] at this
     cases hcv : (clAt cs kL).vals with
     | nil => rw [hcv] at this; cases this
     | cons x y => simp
    have hLs : (fst (clAt cs kL)).size ≤ 10000 := by
     refine hks5L _ ?_
     unfold fst
     cases hcv : (clAt cs kL).vals with
     | nil => rw [hcv] at hLne; cases hLne
     | cons x y => simp
    rcases hmn with ⟨rfl, hsv, _⟩ | ⟨k, hkl, rfl, hkm, ⟨hkset, hsv⟩ | ⟨hkset, hsv, hkn⟩⟩
    ·have hB : fmtB l a = some (a.out ++ a.last) := by
      unfold fmtB
      rw [hsv]
      split <;> simp
     have Fq := F0.trans hX0.fr
     obtain ⟨_, cL6, cL7, cL8, cL9⟩ := cL4 s Fq
     rw [hLset] at cL8
     rw [hlast] at hB
     have ixL : ∀ K : Value → Prop, popK (.indexAddr 1) [vL, .int .i64 0] K = K (bptr vL 0) := fun K => by
      rw [idx_cel cL9 .i64 0 K (by omega) (by rw [List.length_map]; omega)]
     have ldL : ∀ K : Value → Prop, ropK .load1 [bptr vL 0] s K = K (.string (fst (clAt cs kL))) := fun K => by
      rw [load_cel cL9 0 K (by omega) (by rw [List.length_map]; omega)]
      unfold fst
      cases hcv : (clAt cs kL).vals with
      | nil => rw [hcv] at hLne; cases hLne
      | cons x y => rfl
     simp (disch := omega) only [↓sxA, ↓wk_store, sxB, sxP, simprocAttr, ↓la, ↓lc, ↓cL1, ↓cL6, ↓cL7, ↓cL8, ↓ixL, ↓ldL]
     have hXl0 : (a.out).length ≤ 6000 := by (try simp only [List.length_append, List.length_map, List.length_cons, List.length_nil]); omega
     refine appendM (n := (a.out).length) (m := 2) (new := [.string (ns.getD kL .empty), .string (fst (clAt cs kL))]) (hX0.go.keep fun i hi => get_new_ne _ _ _ (by have := hX0.o2; omega)) rfl (src_row (get_new_same _ _) rfl (by simp)) rfl (by decide) (by decide) rfl (by omega) (by omega) fun s6 g1 g2 g3 => ?_
     have e6 : s6.next = (s).next + 2 := g2
     obtain ⟨wv6, hwv6⟩ : ∃ wv6, wv6 = Value.slice (some ⟨(s).next + 1, 0, none⟩) ((a.out).length + 2) ((a.out).length + 2) := ⟨_, rfl⟩
     have hwv6' : Value.slice (some ⟨((s).new (.row [.string (ns.getD kL .empty), .string (fst (clAt cs kL))] 0 false)).next, 0, none⟩) ((a.out).length + 2) ((a.out).length + 2) = wv6 := hwv6.symm
     have hX6 := hX0.push (xs := [ns.getD kL .empty, fst (clAt cs kL)]) (fun x hx => by
      have q1 := hsm.2 kL
      rcases List.mem_cons.1 hx with rfl | hx
      ·omega
      ·rcases List.mem_cons.1 hx with rfl | hx
       ·omega
       ·cases hx) rfl rfl g1 (by show (s).next < (s).next + 1 + 1; omega) (by show (s).next + 1 + 1 ≤ s6.next; omega) (by omega) (fun i h1 h2 => (g3 i h1 (by show i < (s).next + 1; omega)).trans (get_new_ne _ _ _ (by omega)))
     rw [hwv6'] at hX6 ⊢
     simp (disch := omega) only [↓sxA, ↓wk_store, sxB, sxP, simprocAttr]
     have hYle := hX6.le
     have hY7 : ((a.out ++ [ns.getD kL .empty, fst (clAt cs kL)])).length ≤ 7000 := by (try simp only [List.length_append, List.length_map, List.length_cons, List.length_nil]); omega
     have hYt : ∀ kk, (Lib.join ((((a.out ++ [ns.getD kL .empty, fst (clAt cs kL)])).take kk).map (·.data.toList)) [32]).length ≤ 140800000 := fun kk => by
      refine join_smaller (fun x hx => hYle x (List.mem_of_mem_take hx)) ?_
      rw [List.length_take]
      omega
     obtain ⟨Y, hYe⟩ : ∃ Y, Y = (a.out ++ [ns.getD kL .empty, fst (clAt cs kL)]) := ⟨_, rfl⟩
     rw [← hYe] at hY7 hYt hYle
     have hXY : XI s0 Y wv6 s6 := by rw [hYe]; exact hX6
     have hBY : fmtB l a = some Y := by rw [hYe]; exact hB
     have hC0 : Cel s6 wv6 (Y.map Value.string) := hXY.go.cel.1
     refine loop_rule [8, 16, 17] (fun vs s' => ∃ (k : Nat) (ov : Value), vs = [wv6, ov, .int .i64 (k : Nat)] ∧ k ≤ Y.length ∧ Wr s6 s' ov (Lib.join ((Y.take k).map (·.data.toList)) [32])) (fun vs _ => match lget vs 2 with
       | .int _ k => ((Y.length : Int) - k).toNat
       | _ => 0) ?_ ?_ ?_
     ·rfl
     ·refine ⟨_, rfl, ⟨0, _, rfl, Nat.zero_le _, by simpa [Lib.join_nil] using ⟨Gro.nil _, .inl rfl, Nat.zero_le _, Frm.refl _⟩⟩, ?_⟩
      show ((Y.length : Int) - 0).toNat < 100000
      omega
     rintro vs s7 ⟨k, ov, rfl, hk, hW⟩
     show sx _ _ _ _ _ [(8, _), (16, _), (17, _)] _ _ _ _
     have FW := hW.2.2.2
     have hC : Cel s7 wv6 (Y.map Value.string) := hC0.keep fun i hi => FW.old i (by have := hXY.o2; omega)
     have nC := len_cel hC
     rw [List.length_map] at nC
     by_cases hkl : k < Y.length
     ·have i1 := idx_cel hC
      have ld1 := load_cel hC
      rw [List.length_map] at i1 ld1
      have e := getD_str Y k hkl
      have htk : Y.take (k + 1) = Y.take k ++ [Y.getD k .empty] := by
       rw [List.take_add_one, List.getElem?_eq_getElem hkl, List.getD_eq_getElem?_getD, List.getElem?_eq_getElem hkl]
       rfl
      have hys : (Y.getD k .empty).size ≤ 20010 := by
       rw [List.getD_eq_getElem?_getD, List.getElem?_eq_getElem hkl, Option.getD_some]
       exact hYle _ (List.getElem_mem hkl)
      have hup : Lib.join ((Y.take (k + 1)).map (·.data.toList)) [32] = Lib.join ((Y.take k).map (·.data.toList)) [32] ++ (if k = 0 then [] else [32]) ++ (Y.getD k .empty).data.toList := by
       rw [htk, List.map_append, List.map_cons, List.map_nil, join_snoc]
       have : ((Y.take k).map (·.data.toList) = []) ↔ k = 0 := by
        rw [List.map_eq_nil_iff, List.take_eq_nil_iff]
        constructor
        ·rintro (h | h)
         ·exact h
         ·rw [h] at hkl; simp at hkl
        ·exact .inl
       by_cases h0 : k = 0
       ·rw [if_pos h0, if_pos (this.2 h0)]
       ·rw [if_neg h0, if_neg (fun h => h0 (this.1 h))]
      have hjk := hYt k
      generalize Y.getD k .empty = y at e hys hup
      have ld2 : ∀ s' : St, Frm s7 s' → ∀ K : Value → Prop, ropK .load1 [bptr wv6 (k : Int)] s' K = K (.string y) := fun s' F' K => by
       have hC' : Cel s' wv6 (Y.map Value.string) := hC.keep fun i hi => F'.old i (by have := hXY.o2; have := FW.nx; omega)
       rw [load_cel hC' k K (by omega) (by rw [List.length_map]; omega), Int.toNat_natCast, e]
      have hmeas : ((Y.length : Int) - ((k : Int) + 1)).toNat < ((Y.length : Int) - (k : Int)).toNat := by omega
      by_cases hk0 : k = 0
      ·rw [if_pos hk0, List.append_nil] at hup
       have l0 := ld2 s7 (Frm.refl _)
       simp (disch := omega) only [↓sxA, ↓wk_store, sxB, sxP, simprocAttr, ↓nC, ↓i1, ↓l0]
       refine hW.str y (by omega) fun v8 s8 hW8 _ _ _ => ?_
       simp (disch := omega) only [↓sxA, ↓wk_store, sxB, sxP, simprocAttr]
       exact ⟨_, rfl, ⟨k + 1, v8, rfl, hkl, by rw [hup]; exact hW8⟩, hmeas⟩
      ·rw [if_neg hk0] at hup
       simp (disch := omega) only [↓sxA, ↓wk_store, sxB, sxP, simprocAttr, ↓nC]
       refine hW.row (m := [32]) rfl (by decide) (by simp only [List.length_cons, List.length_nil]; omega) fun v8 s8 hW8 n8 f8 _ => ?_
       have l8 : ∀ K : Value → Prop, ropK .load1 [bptr wv6 (k : Int)] s8 K = K (.string y) := fun K => by
        have hC' : Cel s8 wv6 (Y.map Value.string) := hC0.keep fun i hi => hW8.2.2.2.old i (by have := hXY.o2; omega)
        rw [load_cel hC' k K (by omega) (by rw [List.length_map]; omega), Int.toNat_natCast, e]
       simp (disch := omega) only [↓sxA, ↓wk_store, sxB, sxP, simprocAttr, ↓i1, ↓l8]
       refine hW8.str y (by rw [List.length_append]; simp only [List.length_cons, List.length_nil]; omega) fun v9 s9 hW9 _ _ _ => ?_
       simp (disch := omega) only [↓sxA, ↓wk_store, sxB, sxP, simprocAttr]
       exact ⟨_, rfl, ⟨k + 1, v9, rfl, hkl, by rw [hup]; exact hW9⟩, hmeas⟩
     ·have hke : k = Y.length := by omega
      rw [hke, List.take_length] at hW
      have F9 : Frm s0 s7 := hXY.fr.trans FW
      have nv := fun K => len_bys (hW.1.bys) K
      have rs := fun K => rk_str (K := K) hW.1
      rw [hBY] at fin
      simp only [lineE] at fin
      by_cases hJ : 1000 < (Lib.join (Y.map (·.data.toList)) [32]).length
      ·rw [if_pos hJ] at fin
       generalize Lib.join (Y.map (·.data.toList)) [32] = J at *
       simp (disch := omega) only [↓sxA, ↓wk_store, sxB, sxP, simprocAttr, ↓nC, ↓nv]
       exact fin _ _ _ rfl F9
      ·rw [if_neg hJ] at fin
       generalize Lib.join (Y.map (·.data.toList)) [32] = J at *
       simp (disch := omega) only [↓sxA, ↓wk_store, sxB, sxP, simprocAttr, ↓nC, ↓nv, ↓rs]
       exact fin _ _ _ rfl F9
    ·obtain ⟨b2, vv, c1, c2, c3, c4⟩ := hA.2 k (by omega)
     obtain ⟨_, c6, c7, c8, c9⟩ := c4 s F
     rw [hkset] at c8
     have hB : fmtB l a = some (a.out ++ a.last) := by
      unfold fmtB
      rw [hsv]
      split <;> simp
     have Fq := F0.trans hX0.fr
     obtain ⟨_, cL6, cL7, cL8, cL9⟩ := cL4 s Fq
     rw [hLset] at cL8
     rw [hlast] at hB
     have ixL : ∀ K : Value → Prop, popK (.indexAddr 1) [vL, .int .i64 0] K = K (bptr vL 0) := fun K => by
      rw [idx_cel cL9 .i64 0 K (by omega) (by rw [List.length_map]; omega)]
     have ldL : ∀ K : Value → Prop, ropK .load1 [bptr vL 0] s K = K (.string (fst (clAt cs kL))) := fun K => by
      rw [load_cel cL9 0 K (by omega) (by rw [List.length_map]; omega)]
      unfold fst
      cases hcv : (clAt cs kL).vals with
      | nil => rw [hcv] at hLne; cases hLne
      | cons x y => rfl
     simp (disch := omega) only [↓sxA, ↓wk_store, sxB, sxP, simprocAttr, ↓la, ↓lc, ↓c1, ↓c8, ↓cL1, ↓cL6, ↓cL7, ↓cL8, ↓ixL, ↓ldL]
     have hXl0 : (a.out).length ≤ 6000 := by (try simp only [List.length_append, List.length_map, List.length_cons, List.length_nil]); omega
     refine appendM (n := (a.out).length) (m := 2) (new := [.string (ns.getD kL .empty), .string (fst (clAt cs kL))]) (hX0.go.keep fun i hi => get_new_ne _ _ _ (by have := hX0.o2; omega)) rfl (src_row (get_new_same _ _) rfl (by simp)) rfl (by decide) (by decide) rfl (by omega) (by omega) fun s6 g1 g2 g3 => ?_
     have e6 : s6.next = (s).next + 2 := g2
     obtain ⟨wv6, hwv6⟩ : ∃ wv6, wv6 = Value.slice (some ⟨(s).next + 1, 0, none⟩) ((a.out).length + 2) ((a.out).length + 2) := ⟨_, rfl⟩
     have hwv6' : Value.slice (some ⟨((s).new (.row [.string (ns.getD kL .empty), .string (fst (clAt cs kL))] 0 false)).next, 0, none⟩) ((a.out).length + 2) ((a.out).length + 2) = wv6 := hwv6.symm
     have hX6 := hX0.push (xs := [ns.getD kL .empty, fst (clAt cs kL)]) (fun x hx => by
      have q1 := hsm.2 kL
      rcases List.mem_cons.1 hx with rfl | hx
      ·omega
      ·rcases List.mem_cons.1 hx with rfl | hx
       ·omega
       ·cases hx) rfl rfl g1 (by show (s).next < (s).next + 1 + 1; omega) (by show (s).next + 1 + 1 ≤ s6.next; omega) (by omega) (fun i h1 h2 => (g3 i h1 (by show i < (s).next + 1; omega)).trans (get_new_ne _ _ _ (by omega)))
     rw [hwv6'] at hX6 ⊢
     simp (disch := omega) only [↓sxA, ↓wk_store, sxB, sxP, simprocAttr]
     have hYle := hX6.le
     have hY7 : ((a.out ++ [ns.getD kL .empty, fst (clAt cs kL)])).length ≤ 7000 := by (try simp only [List.length_append, List.length_map, List.length_cons, List.length_nil]); omega
     have hYt : ∀ kk, (Lib.join ((((a.out ++ [ns.getD kL .empty, fst (clAt cs kL)])).take kk).map (·.data.toList)) [32]).length ≤ 140800000 := fun kk => by
      refine join_smaller (fun x hx => hYle x (List.mem_of_mem_take hx)) ?_
      rw [List.length_take]
      omega
     obtain ⟨Y, hYe⟩ : ∃ Y, Y = (a.out ++ [ns.getD kL .empty, fst (clAt cs kL)]) := ⟨_, rfl⟩
     rw [← hYe] at hY7 hYt hYle
     have hXY : XI s0 Y wv6 s6 := by rw [hYe]; exact hX6
     have hBY : fmtB l a = some Y := by rw [hYe]; exact hB
     have hC0 : Cel s6 wv6 (Y.map Value.string) := hXY.go.cel.1
     refine loop_rule [8, 16, 17] (fun vs s' => ∃ (k : Nat) (ov : Value), vs = [wv6, ov, .int .i64 (k : Nat)] ∧ k ≤ Y.length ∧ Wr s6 s' ov (Lib.join ((Y.take k).map (·.data.toList)) [32])) (fun vs _ => match lget vs 2 with
       | .int _ k => ((Y.length : Int) - k).toNat
       | _ => 0) ?_ ?_ ?_
     ·rfl
     ·refine ⟨_, rfl, ⟨0, _, rfl, Nat.zero_le _, by simpa [Lib.join_nil] using ⟨Gro.nil _, .inl rfl, Nat.zero_le _, Frm.refl _⟩⟩, ?_⟩
      show ((Y.length : Int) - 0).toNat < 100000
      omega
     rintro vs s7 ⟨k, ov, rfl, hk, hW⟩
     show sx _ _ _ _ _ [(8, _), (16, _), (17, _)] _ _ _ _
     have FW := hW.2.2.2
     have hC : Cel s7 wv6 (Y.map Value.string) := hC0.keep fun i hi => FW.old i (by have := hXY.o2; omega)
     have nC := len_cel hC
     rw [List.length_map] at nC
     by_cases hkl : k < Y.length
     ·have i1 := idx_cel hC
      have ld1 := load_cel hC
      rw [List.length_map] at i1 ld1
      have e := getD_str Y k hkl
      have htk : Y.take (k + 1) = Y.take k ++ [Y.getD k .empty] := by
       rw [List.take_add_one, List.getElem?_eq_getElem hkl, List.getD_eq_getElem?_getD, List.getElem?_eq_getElem hkl]
       rfl
      have hys : (Y.getD k .empty).size ≤ 20010 := by
       rw [List.getD_eq_getElem?_getD, List.getElem?_eq_getElem hkl, Option.getD_some]
       exact hYle _ (List.getElem_mem hkl)
      have hup : Lib.join ((Y.take (k + 1)).map (·.data.toList)) [32] = Lib.join ((Y.take k).map (·.data.toList)) [32] ++ (if k = 0 then [] else [32]) ++ (Y.getD k .empty).data.toList := by
       rw [htk, List.map_append, List.map_cons, List.map_nil, join_snoc]
       have : ((Y.take k).map (·.data.toList) = []) ↔ k = 0 := by
        rw [List.map_eq_nil_iff, List.take_eq_nil_iff]
        constructor
        ·rintro (h | h)
         ·exact h
         ·rw [h] at hkl; simp at hkl
        ·exact .inl
       by_cases h0 : k = 0
       ·rw [if_pos h0, if_pos (this.2 h0)]
       ·rw [if_neg h0, if_neg (fun h => h0 (this.1 h))]
      have hjk := hYt k
      generalize Y.getD k .empty = y at e hys hup
      have ld2 : ∀ s' : St, Frm s7 s' → ∀ K : Value → Prop, ropK .load1 [bptr wv6 (k : Int)] s' K = K (.string y) := fun s' F' K => by
       have hC' : Cel s' wv6 (Y.map Value.string) := hC.keep fun i hi => F'.old i (by have := hXY.o2; have := FW.nx; omega)
       rw [load_cel hC' k K (by omega) (by rw [List.length_map]; omega), Int.toNat_natCast, e]
      have hmeas : ((Y.length : Int) - ((k : Int) + 1)).toNat < ((Y.length : Int) - (k : Int)).toNat := by omega
      by_cases hk0 : k = 0
      ·rw [if_pos hk0, List.append_nil] at hup
       have l0 := ld2 s7 (Frm.refl _)
       simp (disch := omega) only [↓sxA, ↓wk_store, sxB, sxP, simprocAttr, ↓nC, ↓i1, ↓l0]
       refine hW.str y (by omega) fun v8 s8 hW8 _ _ _ => ?_
       simp (disch := omega) only [↓sxA, ↓wk_store, sxB, sxP, simprocAttr]
       exact ⟨_, rfl, ⟨k + 1, v8, rfl, hkl, by rw [hup]; exact hW8⟩, hmeas⟩
      ·rw [if_neg hk0] at hup
       simp (disch := omega) only [↓sxA, ↓wk_store, sxB, sxP, simprocAttr, ↓nC]
       refine hW.row (m := [32]) rfl (by decide) (by simp only [List.length_cons, List.length_nil]; omega) fun v8 s8 hW8 n8 f8 _ => ?_
       have l8 : ∀ K : Value → Prop, ropK .load1 [bptr wv6 (k : Int)] s8 K = K (.string y) := fun K => by
        have hC' : Cel s8 wv6 (Y.map Value.string) := hC0.keep fun i hi => hW8.2.2.2.old i (by have := hXY.o2; omega)
        rw [load_cel hC' k K (by omega) (by rw [List.length_map]; omega), Int.toNat_natCast, e]
       simp (disch := omega) only [↓sxA, ↓wk_store, sxB, sxP, simprocAttr, ↓i1, ↓l8]
       refine hW8.str y (by rw [List.length_append]; simp only [List.length_cons, List.length_nil]; omega) fun v9 s9 hW9 _ _ _ => ?_
       simp (disch := omega) only [↓sxA, ↓wk_store, sxB, sxP, simprocAttr]
       exact ⟨_, rfl, ⟨k + 1, v9, rfl, hkl, by rw [hup]; exact hW9⟩, hmeas⟩
     ·have hke : k = Y.length := by omega
      rw [hke, List.take_length] at hW
      have F9 : Frm s0 s7 := hXY.fr.trans FW
      have nv := fun K => len_bys (hW.1.bys) K
      have rs := fun K => rk_str (K := K) hW.1
      rw [hBY] at fin
      simp only [lineE] at fin
      by_cases hJ : 1000 < (Lib.join (Y.map (·.data.toList)) [32]).length
      ·rw [if_pos hJ] at fin
       generalize Lib.join (Y.map (·.data.toList)) [32] = J at *
       simp (disch := omega) only [↓sxA, ↓wk_store, sxB, sxP, simprocAttr, ↓nC, ↓nv]
       exact fin _ _ _ rfl F9
      ·rw [if_neg hJ] at fin
       generalize Lib.join (Y.map (·.data.toList)) [32] = J at *
       simp (disch := omega) only [↓sxA, ↓wk_store, sxB, sxP, simprocAttr, ↓nC, ↓nv, ↓rs]
       exact fin _ _ _ rfl F9
    ·obtain ⟨b2, vv, c1, c2, c3, c4⟩ := hA.2 k (by omega)
     obtain ⟨_, c6, c7, c8, c9⟩ := c4 s F
     rw [hkset] at c8
     have hkal := hall k hkl
     have hkok := along_ok hkal
     obtain ⟨hkl5, hks5⟩ := hsm.1.2 k
     have hnk := hsm.2 k
     have nk := len_cel c9
     have ik := idx_cel c9
     have lk := load_cel c9
     rw [List.length_map] at nk ik lk
     have hnw : a.whole = false := by rw [hwh, decide_eq_false (by omega), Bool.and_false]
     rcases hvals : (clAt cs k).vals with _ | ⟨v0, vr⟩
     ·exfalso
      have := along_set hkal (by
       have hg := (hgd _ (List.getElem_mem hkl)).2.2
       rw [← itAt_eq hkl] at hg
       rcases mk_kinds hg with q | q | q | q | q
       ·rw [q.2.2.1] at hkm; cases hkm
       all_goals exact q.1)
      rw [hkset, hvals] at this
      cases this
     rw [hvals] at nk ik lk hkl5
     by_cases hvr : vr = []
     case neg =>
      have hB : fmtB l a = none := by
       unfold fmtB
       rw [if_neg (by rw [hnw]; decide), hsv, hvals]
       cases vr with
       | nil => exact (hvr rfl).elim
       | cons x y => rfl
      have z : (1 : Int) < ((v0 :: vr).length : Nat) := by have := List.length_pos_iff.2 hvr; rw [List.length_cons]; omega
      simp (disch := omega) only [↓sxA, ↓wk_store, sxB, sxP, simprocAttr, ↓la, ↓lc, ↓c1, ↓c8, ↓c7, ↓nk]
      refine fin _ _ _ ?_ hI.fr
      rw [hB]
      rfl
     subst hvr
     have hB : fmtB l a = some (a.out ++ [a.name, bs (quoteL v0.data.toList)] ++ a.last) := by unfold fmtB; rw [if_neg (by rw [hnw]; decide), hsv, hvals]
     rw [hkn] at hB
     have y2 := hkok v0 (by rw [hvals]; simp)
     have y1 := hks5 v0 (by rw [hvals]; simp)
     have z1 : ¬ (1 : Int) < (([v0] : List ByteArray).length : Nat) := by simp
     have ld2 : ∀ K : Value → Prop, ropK .load1 [bptr vv 0] s K = K (.string v0) := fun K => by rw [lk 0 K (by omega) (by simp)]; rfl
     have ix2 : ∀ K : Value → Prop, popK (.indexAddr 1) [vv, .int .i64 0] K = K (bptr vv 0) := fun K => by rw [ik .i64 0 K (by omega) (by simp)]
     simp (disch := omega) only [↓sxA, ↓wk_store, sxB, sxP, simprocAttr, ↓la, ↓lc, ↓c1, ↓c6, ↓c8, ↓c7, ↓nk, ↓ix2, ↓ld2]
     refine kQuoteR _ v0 (by omega) fun s5 F5 => ?_
     have hX5 := hX0.keep F5
     obtain ⟨_, c6q, _, _, _⟩ := c4 s5 (F.trans F5)
     have h1q := quoteL_len2 y2
     have h2q := bs_size (quoteL v0.data.toList)
     have h3q := size_list v0
     have hce : cellEq (.string (ns.getD k .empty)) (.string (ns.getD k .empty)) = true := by simp [cellEq]
     have hs1 := again c6q hce
     simp (disch := omega) only [↓sxA, ↓wk_store, sxB, sxP, simprocAttr, ↓hs1]
     refine appendM (n := a.out.length) (m := 2) (new := [.string (ns.getD k .empty), .string (bs (quoteL v0.data.toList))]) (hX5.go.keep fun i hi => get_new_ne _ _ _ (by have := hX5.o2; omega)) rfl (src_row (get_new_same _ _) rfl (by simp)) rfl (by decide) (by decide) rfl (by omega) (by omega) fun s8 g1 g2 g3 => ?_
     have e8 : s8.next = s5.next + 2 := g2
     obtain ⟨wv8, hwv8⟩ : ∃ wv8, wv8 = Value.slice (some ⟨s5.next + 1, 0, none⟩) (a.out.length + 2) (a.out.length + 2) := ⟨_, rfl⟩
     have hwv8' : Value.slice (some ⟨(s5.new (.row [.string (ns.getD k .empty), .string (bs (quoteL v0.data.toList))] 0 false)).next, 0, none⟩) (a.out.length + 2) (a.out.length + 2) = wv8 := hwv8.symm
     have hX8 := hX5.push (xs := [ns.getD k .empty, bs (quoteL v0.data.toList)]) (fun x hx => by
      rcases List.mem_cons.1 hx with rfl | hx
      ·omega
      ·rcases List.mem_cons.1 hx with rfl | hx
       ·omega
       ·cases hx) rfl rfl g1 (by show s5.next < s5.next + 1 + 1; omega) (by show s5.next + 1 + 1 ≤ s8.next; omega) (by omega) (fun i h1 h2 => (g3 i h1 (by show i < s5.next + 1; omega)).trans (get_new_ne _ _ _ (by omega)))
     rw [hwv8'] at hX8 ⊢
     have Fq := F0.trans hX8.fr
     obtain ⟨_, cL6, cL7, cL8, cL9⟩ := cL4 s8 Fq
     rw [hLset] at cL8
     rw [hlast] at hB
     have ixL : ∀ K : Value → Prop, popK (.indexAddr 1) [vL, .int .i64 0] K = K (bptr vL 0) := fun K => by
      rw [idx_cel cL9 .i64 0 K (by omega) (by rw [List.length_map]; omega)]
     have ldL : ∀ K : Value → Prop, ropK .load1 [bptr vL 0] s8 K = K (.string (fst (clAt cs kL))) := fun K => by
      rw [load_cel cL9 0 K (by omega) (by rw [List.length_map]; omega)]
      unfold fst
      cases hcv : (clAt cs kL).vals with
      | nil => rw [hcv] at hLne; cases hLne
      | cons x y => rfl
     simp (disch := omega) only [↓sxA, ↓wk_store, sxB, sxP, simprocAttr, ↓cL1, ↓cL6, ↓cL7, ↓cL8, ↓ixL, ↓ldL]
     have hXl0 : ((a.out ++ [ns.getD k .empty, bs (quoteL v0.data.toList)])).length ≤ 6000 := by (try simp only [List.length_append, List.length_map, List.length_cons, List.length_nil]); omega
     refine appendM (n := ((a.out ++ [ns.getD k .empty, bs (quoteL v0.data.toList)])).length) (m := 2) (new := [.string (ns.getD kL .empty), .string (fst (clAt cs kL))]) (hX8.go.keep fun i hi => get_new_ne _ _ _ (by have := hX8.o2; omega)) rfl (src_row (get_new_same _ _) rfl (by simp)) rfl (by decide) (by decide) rfl (by omega) (by omega) fun s6 g1 g2 g3 => ?_
     have e6 : s6.next = (s8).next + 2 := g2
     obtain ⟨wv6, hwv6⟩ : ∃ wv6, wv6 = Value.slice (some ⟨(s8).next + 1, 0, none⟩) (((a.out ++ [ns.getD k .empty, bs (quoteL v0.data.toList)])).length + 2) (((a.out ++ [ns.getD k .empty, bs (quoteL v0.data.toList)])).length + 2) := ⟨_, rfl⟩
     have hwv6' : Value.slice (some ⟨((s8).new (.row [.string (ns.getD kL .empty), .string (fst (clAt cs kL))] 0 false)).next, 0, none⟩) (((a.out ++ [ns.getD k .empty, bs (quoteL v0.data.toList)])).length + 2) (((a.out ++ [ns.getD k .empty, bs (quoteL v0.data.toList)])).length + 2) = wv6 := hwv6.symm
     have hX6 := hX8.push (xs := [ns.getD kL .empty, fst (clAt cs kL)]) (fun x hx => by
      have q1 := hsm.2 kL
      rcases List.mem_cons.1 hx with rfl | hx
      ·omega
      ·rcases List.mem_cons.1 hx with rfl | hx
       ·omega
       ·cases hx) rfl rfl g1 (by show (s8).next < (s8).next + 1 + 1; omega) (by show (s8).next + 1 + 1 ≤ s6.next; omega) (by omega) (fun i h1 h2 => (g3 i h1 (by show i < (s8).next + 1; omega)).trans (get_new_ne _ _ _ (by omega)))
     rw [hwv6'] at hX6 ⊢
     simp (disch := omega) only [↓sxA, ↓wk_store, sxB, sxP, simprocAttr]
     have hYle := hX6.le
     have hY7 : (((a.out ++ [ns.getD k .empty, bs (quoteL v0.data.toList)]) ++ [ns.getD kL .empty, fst (clAt cs kL)])).length ≤ 7000 := by (try simp only [List.length_append, List.length_map, List.length_cons, List.length_nil]); omega
     have hYt : ∀ kk, (Lib.join (((((a.out ++ [ns.getD k .empty, bs (quoteL v0.data.toList)]) ++ [ns.getD kL .empty, fst (clAt cs kL)])).take kk).map (·.data.toList)) [32]).length ≤ 140800000 := fun kk => by
      refine join_smaller (fun x hx => hYle x (List.mem_of_mem_take hx)) ?_
      rw [List.length_take]
      omega
     obtain ⟨Y, hYe⟩ : ∃ Y, Y = ((a.out ++ [ns.getD k .empty, bs (quoteL v0.data.toList)]) ++ [ns.getD kL .empty, fst (clAt cs kL)]) := ⟨_, rfl⟩
     rw [← hYe] at hY7 hYt hYle
     have hXY : XI s0 Y wv6 s6 := by rw [hYe]; exact hX6
     have hBY : fmtB l a = some Y := by rw [hYe]; exact hB
     have hC0 : Cel s6 wv6 (Y.map Value.string) := hXY.go.cel.1
     refine loop_rule [8, 16, 17] (fun vs s' => ∃ (k : Nat) (ov : Value), vs = [wv6, ov, .int .i64 (k : Nat)] ∧ k ≤ Y.length ∧ Wr s6 s' ov (Lib.join ((Y.take k).map (·.data.toList)) [32])) (fun vs _ => match lget vs 2 with
       | .int _ k => ((Y.length : Int) - k).toNat
       | _ => 0) ?_ ?_ ?_
     ·rfl
     ·refine ⟨_, rfl, ⟨0, _, rfl, Nat.zero_le _, by simpa [Lib.join_nil] using ⟨Gro.nil _, .inl rfl, Nat.zero_le _, Frm.refl _⟩⟩, ?_⟩
      show ((Y.length : Int) - 0).toNat < 100000
      omega
     rintro vs s7 ⟨k, ov, rfl, hk, hW⟩
     show sx _ _ _ _ _ [(8, _), (16, _), (17, _)] _ _ _ _
     have FW := hW.2.2.2
     have hC : Cel s7 wv6 (Y.map Value.string) := hC0.keep fun i hi => FW.old i (by have := hXY.o2; omega)
     have nC := len_cel hC
     rw [List.length_map] at nC
     by_cases hkl : k < Y.length
     ·have i1 := idx_cel hC
      have ld1 := load_cel hC
      rw [List.length_map] at i1 ld1
      have e := getD_str Y k hkl
      have htk : Y.take (k + 1) = Y.take k ++ [Y.getD k .empty] := by
       rw [List.take_add_one, List.getElem?_eq_getElem hkl, List.getD_eq_getElem?_getD, List.getElem?_eq_getElem hkl]
       rfl
      have hys : (Y.getD k .empty).size ≤ 20010 := by
       rw [List.getD_eq_getElem?_getD, List.getElem?_eq_getElem hkl, Option.getD_some]
       exact hYle _ (List.getElem_mem hkl)
      have hup : Lib.join ((Y.take (k + 1)).map (·.data.toList)) [32] = Lib.join ((Y.take k).map (·.data.toList)) [32] ++ (if k = 0 then [] else [32]) ++ (Y.getD k .empty).data.toList := by
       rw [htk, List.map_append, List.map_cons, List.map_nil, join_snoc]
       have : ((Y.take k).map (·.data.toList) = []) ↔ k = 0 := by
        rw [List.map_eq_nil_iff, List.take_eq_nil_iff]
        constructor
        ·rintro (h | h)
         ·exact h
         ·rw [h] at hkl; simp at hkl
        ·exact .inl
       by_cases h0 : k = 0
       ·rw [if_pos h0, if_pos (this.2 h0)]
       ·rw [if_neg h0, if_neg (fun h => h0 (this.1 h))]
      have hjk := hYt k
      generalize Y.getD k .empty = y at e hys hup
      have ld2 : ∀ s' : St, Frm s7 s' → ∀ K : Value → Prop, ropK .load1 [bptr wv6 (k : Int)] s' K = K (.string y) := fun s' F' K => by
       have hC' : Cel s' wv6 (Y.map Value.string) := hC.keep fun i hi => F'.old i (by have := hXY.o2; have := FW.nx; omega)
       rw [load_cel hC' k K (by omega) (by rw [List.length_map]; omega), Int.toNat_natCast, e]
      have hmeas : ((Y.length : Int) - ((k : Int) + 1)).toNat < ((Y.length : Int) - (k : Int)).toNat := by omega
      by_cases hk0 : k = 0
      ·rw [if_pos hk0, List.append_nil] at hup
       have l0 := ld2 s7 (Frm.refl _)
       simp (disch := omega) only [↓sxA, ↓wk_store, sxB, sxP, simprocAttr, ↓nC, ↓i1, ↓l0]
       refine hW.str y (by omega) fun v8 s8 hW8 _ _ _ => ?_
       simp (disch := omega) only [↓sxA, ↓wk_store, sxB, sxP, simprocAttr]
       exact ⟨_, rfl, ⟨k + 1, v8, rfl, hkl, by rw [hup]; exact hW8⟩, hmeas⟩
      ·rw [if_neg hk0] at hup
       simp (disch := omega) only [↓sxA, ↓wk_store, sxB, sxP, simprocAttr, ↓nC]
       refine hW.row (m := [32]) rfl (by decide) (by simp only [List.length_cons, List.length_nil]; omega) fun v8 s8 hW8 n8 f8 _ => ?_
       have l8 : ∀ K : Value → Prop, ropK .load1 [bptr wv6 (k : Int)] s8 K = K (.string y) := fun K => by
        have hC' : Cel s8 wv6 (Y.map Value.string) := hC0.keep fun i hi => hW8.2.2.2.old i (by have := hXY.o2; omega)
        rw [load_cel hC' k K (by omega) (by rw [List.length_map]; omega), Int.toNat_natCast, e]
       simp (disch := omega) only [↓sxA, ↓wk_store, sxB, sxP, simprocAttr, ↓i1, ↓l8]
       refine hW8.str y (by rw [List.length_append]; simp only [List.length_cons, List.length_nil]; omega) fun v9 s9 hW9 _ _ _ => ?_
       simp (disch := omega) only [↓sxA, ↓wk_store, sxB, sxP, simprocAttr]
       exact ⟨_, rfl, ⟨k + 1, v9, rfl, hkl, by rw [hup]; exact hW9⟩, hmeas⟩
     ·have hke : k = Y.length := by omega
      rw [hke, List.take_length] at hW
      have F9 : Frm s0 s7 := hXY.fr.trans FW
      have nv := fun K => len_bys (hW.1.bys) K
      have rs := fun K => rk_str (K := K) hW.1
      rw [hBY] at fin
      simp only [lineE] at fin
      by_cases hJ : 1000 < (Lib.join (Y.map (·.data.toList)) [32]).length
      ·rw [if_pos hJ] at fin
       generalize Lib.join (Y.map (·.data.toList)) [32] = J at *
       simp (disch := omega) only [↓sxA, ↓wk_store, sxB, sxP, simprocAttr, ↓nC, ↓nv]
       exact fin _ _ _ rfl F9
      ·rw [if_neg hJ] at fin
       generalize Lib.join (Y.map (·.data.toList)) [32] = J at *
       simp (disch := omega) only [↓sxA, ↓wk_store, sxB, sxP, simprocAttr, ↓nC, ↓nv, ↓rs]
       exact fin _ _ _ rfl F9
end
end Go.Proofs.YtdmemibnphcedaaGreatDoor
end
