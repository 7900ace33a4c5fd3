/-
  The chapter's Format: the items.
-/
import Derived.Test.YtdmemibnphcedaaGreatDoorRBckClaimPart37
import Derived.Test.YtdmemibnphcedaaGreatDoorRBckClaimPart38
set_option linter.unusedSimpArgs false
set_option linter.unusedVariables false
set_option maxRecDepth 10000
set_option linter.unusedSectionVars false
namespace Go.Proofs.YtdmemibnphcedaaGreatDoor
open Go.Am

theorem tm_parts {t : ByteArray} {l : List IM} (h : TmA t l 0) : (∀ i y, l[i]? = some y → i + 1 < l.length → y.mks.f = false) ∧ manyOf l ≤ 1 ∧ ∀ x ∈ l, ItGood x := by
 cases h with
 | nil _ => exact ⟨fun i y hy => by simp at hy, by decide, fun x hx => by cases hx⟩
 | ok _ h0 h1 h2 h3 => exact ⟨(restOk_iff l).1 h2.1, h2.2.2, (itemsA_good h1).2⟩
theorem many_pos {xs : List IM} {x : IM} (hx : x ∈ xs) (hm : x.mks.m = true) : 1 ≤ manyOf xs := by
 unfold manyOf
 exact List.length_pos_of_mem (List.mem_filter.2 ⟨hx, hm⟩)
theorem itAt_eq {l : List IM} {j : Nat} (h : j < l.length) : itAt l j = l[j] := by simp [itAt, List.getD_eq_getElem?_getD, List.getElem?_eq_getElem h]
theorem many_once {l : List IM} (h : manyOf l ≤ 1) {i k : Nat} (hik : i < k) (hk : k < l.length) (h1 : (itAt l i).mks.m = true) (h2 : (itAt l k).mks.m = true) : False := by
 have e : l = l.take k ++ l.drop k := (List.take_append_drop k l).symm
 have a1 : 1 ≤ manyOf (l.take k) := by
  refine many_pos (x := itAt l i) ?_ h1
  rw [itAt_eq (by omega)]
  exact List.mem_take_iff_getElem.2 ⟨i, by omega, rfl⟩
 have a2 : 1 ≤ manyOf (l.drop k) := by
  refine many_pos (x := itAt l k) ?_ h2
  rw [itAt_eq hk]
  exact List.mem_drop_iff_getElem.2 ⟨0, by omega, by simp⟩
 rw [e, manyOf_append] at h
 omega

/-- what the chapter has gathered -/
structure GI (s0 : St) (l : List IM) (ns : List ByteArray) (cs : List Cl) (j : Nat) (wv : Value) (mi la : Int) (ev : Bool) (s : St) : Prop where
 go : GroK 1 s wv ((accL l ns cs j).out.map Value.string) (accL l ns cs j).out.length
 o1 : ow wv = 0 ∨ s0.next + 1 ≤ ow wv
 o2 : ow wv ≤ s.next
 al : ∀ i, i < j → alongA (itAt l i) (ns.getD i .empty) (clAt cs i) = true
 fr : Frm s0 s
 le : (accL l ns cs j).out.length ≤ 2 * j ∧ ∀ x ∈ (accL l ns cs j).out, x.size ≤ 20010
 wh : (accL l ns cs j).whole = (ev && decide (la < 0))
 mn : (mi = -1 ∧ (accL l ns cs j).several = [] ∧ ∀ i, i < j → (itAt l i).mks.m = false) ∨ ∃ k : Nat, k < j ∧ mi = (k : Int) ∧ (itAt l k).mks.m = true ∧ (((clAt cs k).set = false ∧ (accL l ns cs j).several = []) ∨ ((clAt cs k).set = true ∧ (accL l ns cs j).several = (clAt cs k).vals ∧ (accL l ns cs j).name = ns.getD k .empty))
 lt : (la = -1 ∧ (accL l ns cs j).last = [] ∧ ∀ i, i < j → (itAt l i).mks.f = false) ∨ ∃ k : Nat, k < j ∧ la = (k : Int) ∧ (itAt l k).mks.f = true ∧ (((clAt cs k).set = false ∧ (accL l ns cs j).last = []) ∨ ((clAt cs k).set = true ∧ (accL l ns cs j).last = [ns.getD k .empty, fst (clAt cs k)]))
theorem GI.keep {s0 s s' : St} {l : List IM} {ns : List ByteArray} {cs : List Cl} {j : Nat} {wv : Value} {mi la : Int} {ev : Bool} (h : GI s0 l ns cs j wv mi la ev s) (F : Frm s s') : GI s0 l ns cs j wv mi la ev s' :=
 ⟨h.go.keep fun i hi => F.old i (by have := h.o2; omega), h.o1, Nat.le_trans h.o2 F.nx, h.al, h.fr.trans F, h.le, h.wh, h.mn, h.lt⟩

section
variable {s0 s s' : St} {l : List IM} {ns : List ByteArray} {cs : List Cl} {j : Nat} {wv : Value} {mi la : Int} {ev : Bool}
/-- nothing is laid on: an item of many -/
theorem GI.many (h : GI s0 l ns cs j wv mi la ev s) (hm1 : manyOf l ≤ 1) (hj : j < l.length) (hs : (itAt l j).mks.s = false) (hk : (itAt l j).mks.k = false) (hm : (itAt l j).mks.m = true) (hf : (itAt l j).mks.f = false) (al : alongA (itAt l j) (ns.getD j .empty) (clAt cs j) = true) : GI s0 l ns cs (j + 1) wv (j : Int) la ev s := by
 have hmn : (accL l ns cs j).several = [] := by
  rcases h.mn with ⟨_, k, _⟩ | ⟨k, k1, _, k2, _⟩
  ·exact k
  ·exact (many_once hm1 k1 hj k2 hm).elim
 have e : accL l ns cs (j + 1) = accS (itAt l j).mks (ns.getD j .empty) (clAt cs j) (accL l ns cs j) := rfl
 have hw : wholeA (itAt l j).mks (clAt cs j) (accL l ns cs j).whole = (accL l ns cs j).whole := by simp [wholeA, hm]
 have e1 : (accL l ns cs (j + 1)).out = (accL l ns cs j).out := by rw [e]; unfold accS; split <;> simp [hs, hm]
 have e2 : (accL l ns cs (j + 1)).last = (accL l ns cs j).last := by rw [e]; unfold accS; split <;> simp [hs, hm]
 have e3 : (accL l ns cs (j + 1)).whole = (accL l ns cs j).whole := by rw [e]; unfold accS; split <;> simp [hs, hm, hw]
 refine ⟨by rw [e1]; exact h.go, h.o1, h.o2, fun i hi => ?_, h.fr, by rw [e1]; exact ⟨by have := h.le.1; omega, h.le.2⟩, by rw [e3]; exact h.wh, .inr ⟨j, by omega, rfl, hm, ?_⟩, ?_⟩
 ·by_cases q : i = j
  ·rw [q]; exact al
  ·exact h.al i (by omega)
 ·cases hset : (clAt cs j).set with
  | false => exact .inl ⟨rfl, by rw [e]; unfold accS; rw [if_pos hset]; exact hmn⟩
  | true => exact .inr ⟨rfl, by rw [e]; unfold accS; rw [if_neg (by rw [hset]; decide)]; simp [hs, hm], by rw [e]; unfold accS; rw [if_neg (by rw [hset]; decide)]; simp [hs, hm]⟩
 ·rw [e2]
  rcases h.lt with ⟨k1, k2, k3⟩ | ⟨k, k1, k2⟩
  ·refine .inl ⟨k1, k2, fun i hi => ?_⟩
   by_cases q : i = j
   ·rw [q]; exact hf
   ·exact k3 i (by omega)
  ·exact .inr ⟨k, by omega, k2⟩
/-- an item that has the rest -/
theorem GI.rest (h : GI s0 l ns cs j wv mi la ev s) (hro : ∀ i y, l[i]? = some y → i + 1 < l.length → y.mks.f = false) (hj : j < l.length) (hs : (itAt l j).mks.s = false) (hk : (itAt l j).mks.k = false) (hm : (itAt l j).mks.m = false) (hf : (itAt l j).mks.f = true) (al : alongA (itAt l j) (ns.getD j .empty) (clAt cs j) = true) : GI s0 l ns cs (j + 1) wv mi (j : Int) ev s := by
 have hlt : (accL l ns cs j).last = [] := by
  rcases h.lt with ⟨_, k, _⟩ | ⟨k, k1, _, k2, _⟩
  ·exact k
  ·have := hro k l[k] (List.getElem?_eq_getElem (by omega)) (by omega)
   rw [itAt_eq (by omega), this] at k2
   cases k2
 have e : accL l ns cs (j + 1) = accS (itAt l j).mks (ns.getD j .empty) (clAt cs j) (accL l ns cs j) := rfl
 have hw : wholeA (itAt l j).mks (clAt cs j) (accL l ns cs j).whole = false := by simp [wholeA, hs, hk, hm, hf]
 have e1 : (accL l ns cs (j + 1)).out = (accL l ns cs j).out := by rw [e]; unfold accS; split <;> simp [hs, hm, hf]
 have e2 : (accL l ns cs (j + 1)).several = (accL l ns cs j).several := by rw [e]; unfold accS; split <;> simp [hs, hm, hf]
 have e4 : (accL l ns cs (j + 1)).name = (accL l ns cs j).name := by rw [e]; unfold accS; split <;> simp [hs, hm, hf]
 have e3 : (accL l ns cs (j + 1)).whole = false := by rw [e]; unfold accS; split <;> simp [hs, hm, hf, hw]
 refine ⟨by rw [e1]; exact h.go, h.o1, h.o2, fun i hi => ?_, h.fr, by rw [e1]; exact ⟨by have := h.le.1; omega, h.le.2⟩, ?_, ?_, .inr ⟨j, by omega, rfl, hf, ?_⟩⟩
 ·by_cases q : i = j
  ·rw [q]; exact al
  ·exact h.al i (by omega)
 ·rw [e3, decide_eq_false (by omega), Bool.and_false]
 ·rw [e2, e4]
  rcases h.mn with ⟨k1, k2, k3⟩ | ⟨k, k1, k2⟩
  ·refine .inl ⟨k1, k2, fun i hi => ?_⟩
   by_cases q : i = j
   ·rw [q]; exact hm
   ·exact k3 i (by omega)
  ·exact .inr ⟨k, by omega, k2⟩
 ·cases hset : (clAt cs j).set with
  | false => exact .inl ⟨rfl, by rw [e]; unfold accS; rw [if_pos hset]; exact hlt⟩
  | true => exact .inr ⟨rfl, by rw [e]; unfold accS; rw [if_neg (by rw [hset]; decide)]; simp [hs, hm, hf]⟩
/-- another item: what is laid on, and whether all are there -/
theorem GI.other (h : GI s0 l ns cs j wv mi la ev s) (hm : (itAt l j).mks.m = false) (hf : (itAt l j).mks.f = false) (al : alongA (itAt l j) (ns.getD j .empty) (clAt cs j) = true) {ev' : Bool} (hev : ev' = (ev && ((itAt l j).mks.s || (itAt l j).mks.k || (clAt cs j).set)))
  {wv' : Value} (go : GroK 1 s' wv' ((accL l ns cs (j + 1)).out.map Value.string) (accL l ns cs (j + 1)).out.length) (o1 : ow wv' = 0 ∨ s0.next + 1 ≤ ow wv') (o2 : ow wv' ≤ s'.next) (fr : Frm s0 s') (le : (accL l ns cs (j + 1)).out.length ≤ 2 * (j + 1) ∧ ∀ x ∈ (accL l ns cs (j + 1)).out, x.size ≤ 20010) : GI s0 l ns cs (j + 1) wv' mi la ev' s' := by
 have e : accL l ns cs (j + 1) = accS (itAt l j).mks (ns.getD j .empty) (clAt cs j) (accL l ns cs j) := rfl
 have e2 : (accL l ns cs (j + 1)).several = (accL l ns cs j).several := by rw [e]; unfold accS; split <;> (try split) <;> simp [hm, hf]
 have e4 : (accL l ns cs (j + 1)).name = (accL l ns cs j).name := by rw [e]; unfold accS; split <;> (try split) <;> simp [hm, hf]
 have e5 : (accL l ns cs (j + 1)).last = (accL l ns cs j).last := by rw [e]; unfold accS; split <;> (try split) <;> simp [hm, hf]
 have e3 : (accL l ns cs (j + 1)).whole = wholeA (itAt l j).mks (clAt cs j) (accL l ns cs j).whole := by rw [e]; unfold accS; split <;> (try split) <;> simp [hm, hf]
 refine ⟨go, o1, o2, fun i hi => ?_, fr, le, ?_, ?_, ?_⟩
 ·by_cases q : i = j
  ·rw [q]; exact al
  ·exact h.al i (by omega)
 ·rw [e3, h.wh, hev]
  simp only [wholeA, hm, hf, Bool.or_false, Bool.not_false, Bool.true_and]
  cases ev <;> cases decide (la < 0) <;> simp
 ·rw [e2, e4]
  rcases h.mn with ⟨k1, k2, k3⟩ | ⟨k, k1, k2⟩
  ·refine .inl ⟨k1, k2, fun i hi => ?_⟩
   by_cases q : i = j
   ·rw [q]; exact hm
   ·exact k3 i (by omega)
  ·exact .inr ⟨k, by omega, k2⟩
 ·rw [e5]
  rcases h.lt with ⟨k1, k2, k3⟩ | ⟨k, k1, k2⟩
  ·refine .inl ⟨k1, k2, fun i hi => ?_⟩
   by_cases q : i = j
   ·rw [q]; exact hf
   ·exact k3 i (by omega)
  ·exact .inr ⟨k, by omega, k2⟩
end
end Go.Proofs.YtdmemibnphcedaaGreatDoor
