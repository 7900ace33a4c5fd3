/-
  The program's find and free.
  The program's give and rest.
  The program's name: what stands behind an item's name.
  The program's name, walked.
  The program's step: the next word.
  The program's Fit.
  The chapter's small functions: lower, known, rest, open, Number.
  The chapter's next.
-/
import Derived.Test.YtdmemibnphcedaaGreatDoorRFmtClaimPart25
section
set_option linter.unusedSimpArgs false
set_option linter.unusedVariables false
set_option maxRecDepth 10000
set_option linter.unusedSectionVars false
namespace Go.Proofs.YtdmemibnphcedaaGreatDoor
open Go.Am
attribute [local irreducible] callO wopK ropK popK opK grpsE listE sx Runs

def nm0 (x : IM) : ByteArray := x.names.headD .empty

/-- the fitter: where its parts are -/
structure FtR (s0 st : St) (bf : Nat) (lv : Value) (s : ByteArray) (l : List IM) (p : Nat) (cs : List Cl) : Prop where
 frm : Frm s0 st
 bf1 : s0.next ≤ bf
 bf2 : bf < st.next
 items : ItR 1 s0 lv l
 len : cs.length = l.length
 body : ∃ ov bn g, st.get bf = some (.row [lv, .string s, .int .i64 (p : Nat), ov, .slice (some ⟨bn, 0, none⟩) l.length l.length] 0 false) ∧ AgR (fun n => s0.next + 1 ≤ n ∧ n ≠ bf + 1 ∧ n ≠ bn + 1) true st ov (l.map nm0) cs ∧
  st.get bn = some (.row (cs.map fun c => .bool c.nm) g false) ∧ s0.next ≤ bn ∧ bn < st.next ∧ bn ≠ bf

section
variable {s0 st st' : St} {bf p : Nat} {lv : Value} {s : ByteArray} {l : List IM} {cs : List Cl}
theorem FtR.keep (h : FtR s0 st bf lv s l p cs) (k : Frm st st') : FtR s0 st' bf lv s l p cs := by
 obtain ⟨ov, bn, g, b1, b2, b3, b4, b5, b6⟩ := h.body
 refine ⟨h.frm.trans k, h.bf1, Nat.lt_of_lt_of_le h.bf2 k.nx, h.items, h.len, ov, bn, g, (k.old _ h.bf2).trans b1, b2.keep k.nx fun i _ hi => k.old i hi, (k.old _ b5).trans b3, b4, Nat.lt_of_lt_of_le b5 k.nx, b6⟩
theorem FtR.its (h : FtR s0 st bf lv s l p cs) : ItR 1 st lv l := h.items.keep h.frm.nx fun i _ hi => h.frm.old i hi
theorem FtR.box (h : FtR s0 st bf lv s l p cs) : ∃ ov nv, st.get bf = some (.row [lv, .string s, .int .i64 (p : Nat), ov, nv] 0 false) := by
 obtain ⟨ov, bn, g, b1, _⟩ := h.body
 exact ⟨_, _, b1⟩
end

theorem itBox (s : St) {nv : Value} (x : Mk) (ho : oneCell nv = true) : ∃ s4, (∀ W : Value → St → Prop, wopK (.store 7) [.pointer (some ⟨s.next, 0, none⟩), .agg (itCells nv x).toArray] (s.new (.row zero7 0 false)) W = W undef s4) ∧ s4.get s.next = some (.row [nv, .bool x.a, .bool x.k, .bool x.s, .bool x.n, .bool x.m, .bool x.f] 0 false) ∧ s4.next = s.next + 1 ∧ Frm s s4 :=
 ⟨(s.new (.row zero7 0 false)).put s.next (some (.row [nv, .bool x.a, .bool x.k, .bool x.s, .bool x.n, .bool x.m, .bool x.f] 0 false)), fun W => wk_storeK (W := W) (get_new_same s (.row zero7 0 false)) (o := 0) (k := 7) (xs := itCells nv x) (by decide) rfl (it7 ho x), get_put_same _ _ _, rfl, (Frm.new s _).put _ (Nat.le_refl _) _⟩

section
variable {st : St} {v : Value} {K : Value → St → Prop} {xs : List ByteArray} {x : ByteArray}

theorem kIndexS (n : Nat) (hv : Cel st v (xs.map Value.string)) (hl : xs.length < 90000) (h1 : x ∈ xs → ∀ r : Int, 0 ≤ r → K (.int .i64 r) st) (h2 : x ∉ xs → K (.int .i64 (-1)) st) :
  callK (callO T0 orc fns 100000 (n + 1)) 122 [v, .string x] st K := by
 refine fn_runs (fn := g122) ?_ ?_ ?_
 ·rfl
 ·rfl
 unfold g122
 have hn := len_cel hv
 rw [List.length_map] at hn
 simp (disch := omega) only [↓sxA, ↓wk_store, sxB, sxP, simprocAttr, ↓hn]
 refine loop_rule [0, 1, 7, 8] (fun vs st' => st' = st ∧ ∃ j : Nat, vs = [v, .string x, .int .i64 (xs.length : Nat), .int .i64 j] ∧ j ≤ xs.length ∧ ∀ i, i < j → x ≠ xs.getD i .empty) (fun vs _ => match lget vs 3 with
   | .int _ k => ((xs.length : Int) - k).toNat
   | _ => 0) ?_ ?_ ?_
 ·rfl
 ·refine ⟨_, rfl, ⟨rfl, 0, rfl, Nat.zero_le _, fun i hi => by omega⟩, ?_⟩
  show ((xs.length : Int) - 0).toNat < 100000
  omega
 ·rintro vs st' ⟨rfl, j, rfl, j1, j2⟩
  show sx _ _ _ _ _ [(0, _), (1, _), (7, _), (8, _)] _ _ _ _
  by_cases hj : j < xs.length
  ·have i1 := idx_cel hv
   have ld := load_cel hv
   rw [List.length_map] at i1 ld
   have e := getD_str xs j hj
   simp (disch := omega) only [↓sxA, ↓wk_store, sxB, sxP, simprocAttr, ↓i1, ↓ld, Int.toNat_natCast, e]
   refine iteI (fun hq => ?_) (fun hq => ?_)
   ·refine h1 ?_ _ (by omega)
    rw [hq, List.getD_eq_getElem?_getD, List.getElem?_eq_getElem hj]
    exact List.getElem_mem hj
   ·refine ⟨_, rfl, ⟨j + 1, ?_, hj, fun i hi => ?_⟩, ?_⟩
    ·simp
    ·by_cases e : i = j
     ·rw [e]; exact hq
     ·exact j2 i (by omega)
    ·show ((xs.length : Int) - ((j : Int) + 1)).toNat < ((xs.length : Int) - j).toNat
     omega
  ·simp (disch := omega) only [↓sxA, ↓wk_store, sxB, sxP, simprocAttr]
   refine h2 fun hm => ?_
   obtain ⟨i, hi, rfl⟩ := List.getElem_of_mem hm
   refine j2 i (by omega) ?_
   rw [List.getD_eq_getElem?_getD, List.getElem?_eq_getElem hi, Option.getD_some]

open Classical in
theorem kContains (n : Nat) (hv : Cel st v (xs.map Value.string)) (hl : xs.length < 90000) (h : K (.bool (decide (x ∈ xs))) st) :
  callK (callO T0 orc fns 100000 (n + 2)) 93 [v, .string x] st K := by
 refine fn_runs (fn := g93) ?_ ?_ ?_
 ·rfl
 ·rfl
 unfold g93
 simp (disch := omega) only [↓sxA, ↓wk_store, sxB, sxP, simprocAttr]
 refine kIndexS n hv hl (fun hm r hr => ?_) (fun hm => ?_)
 ·rw [decide_eq_true hm] at h
  simp (disch := omega) only [↓sxA, ↓wk_store, sxB, sxP, simprocAttr]
  exact h
 ·rw [decide_eq_false hm] at h
  simp (disch := omega) only [↓sxA, ↓wk_store, sxB, sxP, simprocAttr]
  exact h

open Classical in
theorem kFindIn (n : Nat) {nv : Value} {mk : Mk} {b g : Nat} {ro : Bool} (hb : st.get b = some (.row [.string x] g ro)) (hbn : b < st.next) (hv : Cel st nv (xs.map Value.string)) (ho : oneCell nv = true) (hvn : ow nv ≤ st.next) (hl : xs.length < 90000) (h : ∀ st', Frm st st' → K (.bool (decide (x ∈ xs))) st') :
  callK (callO T0 orc fns 100000 (n + 3)) 92 [.agg (itCells nv mk).toArray, .pointer (some ⟨b, 0, none⟩)] st K := by
 refine fn_runs (fn := g92) ?_ ?_ ?_
 ·rfl
 ·rfl
 unfold g92
 unfold itCells
 have F := Frm.new st (.row [nv, .bool mk.a, .bool mk.k, .bool mk.s, .bool mk.n, .bool mk.m, .bool mk.f] 0 false)
 have hb2 := (F.old b hbn).trans hb
 have hbx : (st.new (.row [nv, .bool mk.a, .bool mk.k, .bool mk.s, .bool mk.n, .bool mk.m, .bool mk.f] 0 false)).get st.next = some (.row [nv, .bool mk.a, .bool mk.k, .bool mk.s, .bool mk.n, .bool mk.m, .bool mk.f] 0 false) := get_new_same _ _
 simp (disch := omega) only [↓sxA, ↓wk_store, sxB, sxP, simprocAttr, hb2, hbx]
 refine kContains n (hv.keep fun i hi => F.old i (by omega)) hl ?_
 try simp (disch := omega) only [↓sxA, ↓wk_store, sxB, sxP, simprocAttr]
 exact h _ F

/-- what the items' names need -/
def NmOk (l : List IM) : Prop := ∀ x ∈ l, x.names.length < 90000

open Classical in
theorem kFindItems (n : Nat) {lo b g : Nat} {ro : Bool} {l : List IM} (hR : ItR lo st v l) (hb : st.get b = some (.row [.string x] g ro)) (hbn : b < st.next) (hl : l.length < 90000) (hN : NmOk l) (h : ∀ st', Frm st st' → K (.int .i64 (knownL x l 0)) st') :
  callK (callO T0 orc fns 100000 (n + 4)) 91 [v, .func (.func 92) #[] #[.pointer (some ⟨b, 0, none⟩)]] st K := by
 refine fn_runs (fn := g91) ?_ ?_ ?_
 ·rfl
 ·rfl
 unfold g91
 have la := hR.len
 simp (disch := omega) only [↓sxA, ↓wk_store, sxB, sxP, simprocAttr, ↓la]
 refine loop_rule [0, 1, 7, 8] (fun vs s => ∃ j : Nat, vs = [v, .func (.func 92) #[] #[.pointer (some ⟨b, 0, none⟩)], .int .i64 (l.length : Nat), .int .i64 j] ∧ j ≤ l.length ∧ Frm st s ∧ knownL x (l.drop j) j = knownL x l 0) (fun vs _ => match lget vs 3 with
   | .int _ k => ((l.length : Int) - k).toNat
   | _ => 0) ?_ ?_ ?_
 ·rfl
 ·refine ⟨_, rfl, ⟨0, rfl, Nat.zero_le _, Frm.refl _, rfl⟩, ?_⟩
  show ((l.length : Int) - 0).toNat < 100000
  omega
 ·rintro vs s ⟨j, rfl, j1, F, hk⟩
  show sx _ _ _ _ _ [(0, _), (1, _), (7, _), (8, _)] _ _ _ _
  by_cases hj : j < l.length
  ·obtain ⟨bb, nv, a1, a2, a3, a4, a5, a6, a7⟩ := (hR.keep (st' := s) F.nx fun i _ hi => F.old i hi).at hj
   have hm := hN _ (List.getElem_mem hj)
   rw [List.drop_eq_getElem_cons hj] at hk
   simp only [knownL] at hk
   simp (disch := omega) only [↓sxA, ↓wk_store, sxB, sxP, simprocAttr, ↓a1, ↓a2]
   refine kFindIn n ((F.old b hbn).trans hb) (Nat.lt_of_lt_of_le hbn F.nx) a4 a5 a7 hm fun s2 F2 => ?_
   by_cases hin : x ∈ l[j].names
   ·rw [if_pos hin] at hk
    rw [decide_eq_true hin]
    simp (disch := omega) only [↓sxA, ↓wk_store, sxB, sxP, simprocAttr]
    rw [hk]
    exact h _ (F.trans F2)
   ·rw [if_neg hin] at hk
    rw [decide_eq_false hin]
    simp (disch := omega) only [↓sxA, ↓wk_store, sxB, sxP, simprocAttr]
    refine ⟨_, rfl, ⟨j + 1, ?_, hj, F.trans F2, hk⟩, ?_⟩
    ·simp
    ·show ((l.length : Int) - ((j : Int) + 1)).toNat < ((l.length : Int) - j).toNat
     omega
  ·have e : l.drop j = [] := List.drop_eq_nil_of_le (by omega)
   rw [e] at hk
   simp only [knownL] at hk
   rw [← hk] at h
   simp (disch := omega) only [↓sxA, ↓wk_store, sxB, sxP, simprocAttr]
   exact h _ F

theorem kLower (n : Nat) (s : ByteArray) (hs : s.size ≤ 4294967280) (ha : asciiB s = true) (h : K (.string (lowerV s)) st) : callK (callO T0 orc fns 100000 n) 90 [.string s] st K := by
 rw [callO_none (by rfl)]
 have e : orc 90 [.string s] st = .ret (.string (lowerV s), st) := by
  rw [orc_eq (by decide)]
  simp [orc1, hs, ha]
 exact (propext (callK_ret (K := K) e)).mpr h

theorem kPlain (n : Nat) {nv : Value} {mk : Mk} (h : ∀ st', Frm st st' → K (.bool (!(mk.s || mk.k))) st') :
  callK (callO T0 orc fns 100000 (n + 1)) 52 [.agg (itCells nv mk).toArray] st K := by
 refine fn_runs (fn := g52) ?_ ?_ ?_
 ·rfl
 ·rfl
 unfold g52
 unfold itCells
 have F := Frm.new st (.row [nv, .bool mk.a, .bool mk.k, .bool mk.s, .bool mk.n, .bool mk.m, .bool mk.f] 0 false)
 cases h1 : mk.s with
 | true =>
  rw [h1] at h F
  simp (disch := omega) only [↓sxA, ↓wk_store, sxB, sxP, simprocAttr, h1]
  exact h _ F
 | false =>
  cases h2 : mk.k with
  | true =>
   rw [h1, h2] at h F
   simp (disch := omega) only [↓sxA, ↓wk_store, sxB, sxP, simprocAttr, h1, h2]
   exact h _ F
  | false =>
   rw [h1, h2] at h F
   simp (disch := omega) only [↓sxA, ↓wk_store, sxB, sxP, simprocAttr, h1, h2]
   exact h _ F

end
end Go.Proofs.YtdmemibnphcedaaGreatDoor
end
section
set_option linter.unusedSimpArgs false
set_option linter.unusedVariables false
set_option maxRecDepth 10000
set_option linter.unusedSectionVars false
namespace Go.Proofs.YtdmemibnphcedaaGreatDoor
open Go.Am
attribute [local irreducible] callO wopK ropK popK opK grpsE listE sx Runs

theorem Frm.err {st s : St} (h : Frm st s) (h0 : 2 < st.next) (hm : hasErr st = true) : hasErr s = true := by
 unfold hasErr at hm ⊢
 rw [h.old _ h0]
 exact hm

theorem AgR.okv {ok : Nat → Prop} {g : Bool} {st : St} {v : Value} {ns : List ByteArray} {cs : List Cl} (h : AgR ok g st v ns cs) : (ow v = 0 ∨ ok (ow v)) ∧ ow v ≤ st.next := by
 obtain ⟨es, vf, h1, h2, h3, _⟩ := h
 exact ⟨h2, h3⟩

theorem GroK.ceq {esz n : Nat} {st : St} {v : Value} {cs : List Value} (h : GroK esz st v cs n) : cellEq v v = true := by
 rcases h with ⟨h1, _⟩ | ⟨b, cap, h1, _⟩ <;> subst h1 <;> exact one_eqSlice _ _ _
theorem AgR.ceq {ok : Nat → Prop} {g : Bool} {st : St} {v : Value} {ns : List ByteArray} {cs : List Cl} (h : AgR ok g st v ns cs) : cellEq v v = true := by
 obtain ⟨es, vf, h1, _⟩ := h
 exact h1.ceq
/-- a cell is read again, and is as it was -/
theorem again {st : St} {b o : Nat} {v : Value} (hl : ∀ K : Value → Prop, ropK .load1 [.pointer (some ⟨b, o, none⟩)] st K = K v) (hc : cellEq v v = true) (W : Prop) : (getK (st.get b) fun ob => rowK ob fun cs _ _ => nthK cs o fun u => cellEq u v = true ∧ W) = W := by
 have := hl fun u => cellEq u v = true ∧ W
 rw [rk_load1] at this
 rw [this, hc]
 simp

def numOk (x : Mk) (s : ByteArray) : Bool := !x.n || (numA s.data.toList).isSome

section
variable {st : St} {K : Value → St → Prop}
theorem kNumber (n : Nat) (s : ByteArray) (hs : s.size ≤ 1000000) (he : hasErr st = true) (h : K (numVal (numA s.data.toList)) st) : callK (callO T0 orc fns 100000 n) 24 [.string s] st K := by
 rw [callO_none (by rfl)]
 have e : orc 24 [.string s] st = .ret (numVal (numA s.data.toList), st) := by
  rw [orc_eq (by decide)]
  simp [orc1, hs, numK, he]
 exact (propext (callK_ret (K := K) e)).mpr h
theorem mkAt_lt {l : List IM} {k : Nat} (h : k < l.length) : mkAt l k = l[k].mks := by
 rw [mkAt, List.getD_eq_getElem?_getD, List.getElem?_eq_getElem h, Option.getD_some]
theorem numVal_some (v : Int) : numVal (some v) = .tuple #[.int .i64 v, .int .i64 0] := rfl
theorem numVal_none : numVal none = .tuple #[.int .i64 0, .int .i64 250] := rfl

theorem FtR.move {s0 s1 : St} {bf p p' : Nat} {lv ov nv : Value} {s : ByteArray} {l : List IM} {cs : List Cl} (hF : FtR s0 s1 bf lv s l p cs) (hb : s1.get bf = some (.row [lv, .string s, .int .i64 (p : Nat), ov, nv] 0 false)) : FtR s0 (s1.put bf (some (.row [lv, .string s, .int .i64 (p' : Nat), ov, nv] 0 false))) bf lv s l p' cs := by
 obtain ⟨ov', bn, g, b1, b2, b3, b4, b5, b6⟩ := hF.body
 rw [b1] at hb
 cases hb
 refine ⟨hF.frm.put _ hF.bf1 _, hF.bf1, hF.bf2, hF.items, hF.len, ov, bn, g, get_put_same _ _ _, b2.keep (Nat.le_refl _) fun i hi _ => get_put_ne _ _ _ _ (by omega), (get_put_ne _ _ _ _ (Ne.symm b6)).trans b3, b4, b5, b6⟩

theorem trimE_le (l : List UInt8) : (trimE l).length ≤ l.length := by
 unfold trimE
 rw [List.length_reverse]
 have := (List.dropWhile_sublist (· == (32 : UInt8)) (l := l.reverse)).length_le
 rw [List.length_reverse] at this
 exact this

end
end Go.Proofs.YtdmemibnphcedaaGreatDoor
end
section
set_option linter.unusedSimpArgs false
set_option linter.unusedVariables false
set_option maxRecDepth 10000
set_option linter.unusedSectionVars false
namespace Go.Proofs.YtdmemibnphcedaaGreatDoor
open Go.Am
attribute [local irreducible] callO wopK ropK popK opK grpsE listE sx Runs

def Cl.nam (c : Cl) : Cl := ⟨c.vals, c.set, true⟩
def Cl.put (c : Cl) : Cl := ⟨c.vals, true, c.nm⟩

theorem map_upd (cs : List Cl) (k : Nat) (f : Cl → Cl) (hk : k < cs.length) : (upd' cs k f).map (fun c => Value.bool c.nm) = (cs.map fun c => Value.bool c.nm).set k (.bool (f (clAt cs k)).nm) := by
 unfold upd'
 rw [List.map_set]
theorem map_at (cs : List Cl) (k : Nat) (hk : k < cs.length) : (cs.map fun c => Value.bool c.nm)[k]? = some (.bool (clAt cs k).nm) := by
 rw [List.getElem?_map, List.getElem?_eq_getElem hk]
 simp [clAt, List.getD_eq_getElem?_getD, List.getElem?_eq_getElem hk]

section
variable {s0 st : St} {bf p k : Nat} {lv : Value} {s : ByteArray} {l : List IM} {cs : List Cl}
/-- what may be read of the fitter, and how an item is named, and set -/
theorem FtR.open (hF : FtR s0 st bf lv s l p cs) (hk : k < l.length) : ∃ ov bn b s1 s2, st.get bf = some (.row [lv, .string s, .int .i64 (p : Nat), ov, .slice (some ⟨bn, 0, none⟩) l.length l.length] 0 false) ∧
  (∀ K : Value → Prop, popK (.indexAddr 1) [.slice (some ⟨bn, 0, none⟩) l.length l.length, .int .i64 (k : Int)] K = K (.pointer (some ⟨bn, k, none⟩))) ∧ (∀ K : Value → Prop, ropK .load1 [.pointer (some ⟨bn, k, none⟩)] st K = K (.bool (clAt cs k).nm)) ∧
  (∀ K : Value → Prop, popK (.indexAddr 3) [ov, .int .i64 (k : Int)] K = K (.pointer (some ⟨b, k * 3, none⟩))) ∧ (∀ K : Value → Prop, ropK .load1 [.pointer (some ⟨b, k * 3 + 2, none⟩)] st K = K (.bool (clAt cs k).set)) ∧
  (∀ W : Value → St → Prop, wopK (.store 1) [.pointer (some ⟨bn, k, none⟩), .bool true] st W = W undef s1) ∧ FtR s0 s1 bf lv s l p (upd' cs k Cl.nam) ∧ s1.next = st.next ∧ (∀ i, i ≠ bn → s1.get i = st.get i) ∧ s0.next ≤ bn ∧ bn < st.next ∧ bn ≠ bf ∧
  (∀ W : Value → St → Prop, wopK (.store 1) [.pointer (some ⟨b, k * 3 + 2, none⟩), .bool true] st W = W undef s2) ∧ FtR s0 s2 bf lv s l p (upd' cs k Cl.put) := by
 obtain ⟨ov, bn, g, q1, q2, q3, q4, q5, q6⟩ := hF.body
 have hcl := hF.len
 obtain ⟨b, vv, o1, o2, o3, o4, o5, o6, o7, o8, o9⟩ := q2.at (j := k) (by omega)
 obtain ⟨s2, z1, z2, z3, z4⟩ := q2.put_set (j := k) (by omega) Cl.put (fun c => ⟨rfl, rfl⟩) o1
 obtain ⟨okv, onx⟩ := q2.okv
 have okb : s0.next + 1 ≤ b + 1 ∧ b + 1 ≠ bf + 1 ∧ b + 1 ≠ bn + 1 := by
  rcases okv with e | e
  ·omega
  ·rw [o1] at e; exact e
 have hl : k < (cs.map fun c => Value.bool c.nm).length := by rw [List.length_map]; omega
 have hF2 := hF.bf2
 have hF1 := hF.bf1
 have hfx := hF.frm.nx
 refine ⟨ov, bn, b, st.put bn (some (.row (lputs (cs.map fun c => Value.bool c.nm) k [.bool true]) g false)), s2, q1, fun K => ?_, fun K => ?_, o2, o6, fun W => ?_, ?_, rfl, fun i hi => get_put_ne _ _ _ _ (Ne.symm hi), q4, q5, q6, z1, ?_⟩
 ·rw [pk_indexAddr]
  have e : (0 : Nat) + (k : Int).toNat * 1 = k := by omega
  rw [e]
  exact propext ⟨fun h => h.2, fun h => ⟨⟨by omega, by omega⟩, h⟩⟩
 ·rw [rk_load1, q3]
  simp only [getK, rowK]
  exact nthK_at (map_at cs k (by omega)) K
 ·rw [wk_store, q3]
  simp only [getK, rowK]
  exact propext ⟨fun h => h.2.2, fun h => ⟨rfl, ⟨by first | trivial | rfl, by omega, by rfl⟩, h⟩⟩
 ·refine ⟨hF.frm.put _ q4 _, hF1, hF2, hF.items, by rw [upd_len]; exact hcl, ov, bn, g, (get_put_ne _ _ _ _ q6).trans q1, ?_, ?_, q4, q5, q6⟩
  ·have h := q2.keep (st' := st.put bn (some (.row (lputs (cs.map fun c => Value.bool c.nm) k [.bool true]) g false))) (Nat.le_refl _) fun i hi _ => get_put_ne _ _ _ _ (by omega)
   obtain ⟨es, vf, h1, h2, h3, h4, h5⟩ := h
   refine ⟨es, vf, by rw [upd_len]; exact h1, h2, h3, fun j hj => ?_, fun j hj => ?_⟩
   ·rw [upd_len] at hj
    obtain ⟨a1, a2, a3⟩ := h4 j hj
    refine ⟨a1, a2, ?_⟩
    by_cases e : k = j
    ·subst e; rw [upd_same _ _ _ hj]; exact a3
    ·rw [upd_ne _ _ _ _ e]; exact a3
   ·rw [upd_len] at hj ⊢
    have e : (clAt (upd' cs k Cl.nam) j).vals = (clAt cs j).vals := by
     by_cases e : k = j
     ·subst e; rw [upd_same _ _ _ hj]; rfl
     ·rw [upd_ne _ _ _ _ e]
    rw [e]
    exact h5 j hj
  ·rw [map_upd _ _ _ (by omega), get_put_same]
   congr 2
   refine List.ext_getElem? fun i => ?_
   rw [lput1_get _ _ _ hl]
   by_cases e : i = k
   ·subst e; rw [if_pos rfl, List.getElem?_set_self hl]; rfl
   ·rw [if_neg e, List.getElem?_set_ne (Ne.symm e)]
 ·have hov : ∀ i, i ≠ b → s2.get i = st.get i := z4
  refine ⟨⟨by omega, fun i hi => (hov i (by omega)).trans (hF.frm.old i hi)⟩, hF1, by omega, hF.items, by rw [upd_len]; exact hcl, ov, bn, g, (hov _ (by omega)).trans q1, z2, ?_, q4, by omega, q6⟩
  rw [hov _ (by omega), q3, map_upd _ _ _ (by omega)]
  congr 2
  refine List.ext_getElem? fun i => ?_
  by_cases e : k = i
  ·subst e; rw [List.getElem?_set_self hl, map_at cs k (by omega)]; rfl
  ·rw [List.getElem?_set_ne e]
end

/-- the marks of each item go together -/
def FitL (l : List IM) : Prop := ∀ k, (mkAt l k).fit = true
theorem fit_rest {x : Mk} (h : x.fit = true) (hf : x.f = true) : x.n = false ∧ x.m = false ∧ x.s = false ∧ x.k = false := by
 obtain ⟨a, k, s, n, m, f⟩ := x
 revert h hf a k s n m f
 decide
end Go.Proofs.YtdmemibnphcedaaGreatDoor
end
section
set_option linter.unusedSimpArgs false
set_option linter.unusedVariables false
set_option maxRecDepth 10000
set_option linter.unusedSectionVars false
namespace Go.Proofs.YtdmemibnphcedaaGreatDoor
open Go.Am
attribute [local irreducible] callO wopK ropK popK opK grpsE listE sx Runs

section
variable {st : St} {K : Value → St → Prop}

theorem quo_len : ∀ (l : List UInt8) (s : List UInt8) (k : Nat), quo l = some (s, k) → s.length ≤ l.length
 | [], s, k, h => by simp [quo] at h
 | [c], s, k, h => by
  simp only [quo] at h
  split at h
  ·cases h; simp
  ·cases h
 | c :: d :: r, s, k, h => by
  simp only [quo] at h
  split at h
  ·split at h
   ·cases h; simp
   ·cases h
  ·split at h
   ·cases h
   ·split at h
    ·simp only [Option.map_eq_some_iff] at h
     obtain ⟨⟨s', k'⟩, h1, h2⟩ := h
     cases h2
     have := quo_len r s' k' h1
     simp; omega
    ·split at h
     ·simp only [Option.map_eq_some_iff] at h
      obtain ⟨⟨s', k'⟩, h1, h2⟩ := h
      cases h2
      have := quo_len r s' k' h1
      simp; omega
     ·simp only [Option.map_eq_some_iff] at h
      obtain ⟨⟨s', k'⟩, h1, h2⟩ := h
      cases h2
      have := quo_len (d :: r) s' k' h1
      simp at this ⊢; omega
theorem nxt_len {L : List UInt8} {p : Nat} {w : List UInt8} {q : Bool} {fr to : Nat} (h : nxt L p = .wd w q fr to) : w.length ≤ L.length + 1 := by
 unfold nxt at h
 split at h
 ·cases h
 ·split at h
  ·cases h; simp
  ·split at h
   ·split at h
    ·rename_i x hx
     cases h
     have := quo_len _ x.1 x.2 hx
     rw [List.length_drop] at this
     omega
    ·cases h
   ·split at h
    ·cases h
     rw [List.length_take, List.length_drop]
     omega
    ·cases h
end
end Go.Proofs.YtdmemibnphcedaaGreatDoor
end
section
set_option linter.unusedSimpArgs false
set_option linter.unusedVariables false
set_option maxRecDepth 10000
set_option linter.unusedSectionVars false
namespace Go.Proofs.YtdmemibnphcedaaGreatDoor
open Go.Am
attribute [local irreducible] callO wopK ropK popK opK grpsE listE sx Runs

section
variable {st : St} {K : Value → St → Prop}

end
end Go.Proofs.YtdmemibnphcedaaGreatDoor
end
section
set_option linter.unusedSimpArgs false
set_option linter.unusedVariables false
set_option maxRecDepth 10000
set_option linter.unusedSectionVars false
namespace Go.Proofs.YtdmemibnphcedaaGreatDoor
open Go.Am
attribute [local irreducible] callO wopK ropK popK opK grpsE listE sx Runs

theorem itemA_fit {p : ByteArray} {x : IM} (h : itemA p = some x) : x.mks.fit = true := by
 unfold itemA at h
 split at h
 ·split at h
  ·split at h
   ·rename_i hh
    cases h
    simp only [Bool.and_eq_true] at hh
    exact hh.2
   ·cases h
  ·cases h
 ·cases h
theorem tm_fit {t : ByteArray} {l : List IM} {e : Int} (h : TmA t l e) : FitL l := by
 have hx : ∀ x ∈ l, x.mks.fit = true := by
  cases h with
  | nil _ => intro x hx; cases hx
  | long _ _ _ _ _ => intro x hx; cases hx
  | bad _ _ => intro x hx; cases hx
  | ok _ _ h1 _ _ =>
   intro x hx
   obtain ⟨p, _, h2⟩ := items_mem h1 x hx
   exact itemA_fit h2
 intro k
 by_cases hk : k < l.length
 ·rw [mkAt_lt hk]; exact hx _ (List.getElem_mem hk)
 ·have : mkAt l k = Mk.none := by rw [mkAt, List.getD_eq_getElem?_getD, List.getElem?_eq_none (by omega)]; rfl
  rw [this]; rfl

theorem AgR.one {ok : Nat → Prop} {g : Bool} {st : St} {v : Value} {ns : List ByteArray} {cs : List Cl} (h : AgR ok g st v ns cs) : oneCell v = true := by
 obtain ⟨es, vf, h1, _⟩ := h
 exact h1.one
theorem ItR.one {lo : Nat} {st : St} {v : Value} {l : List IM} (h : ItR lo st v l) : oneCell v = true := by
 obtain ⟨nvs, h1, h2, _⟩ := h
 exact h2.one
section
variable {st : St} {K : Value → St → Prop}

end
end Go.Proofs.YtdmemibnphcedaaGreatDoor
end
section
set_option linter.unusedSimpArgs false
set_option linter.unusedVariables false
set_option maxRecDepth 10000
set_option linter.unusedSectionVars false
namespace Go.Proofs.YtdmemibnphcedaaGreatDoor
open Go.Am
attribute [local irreducible] callO wopK ropK popK opK grpsE listE sx Runs

section
variable {st : St} {K : Value → St → Prop}

theorem kRestR (n : Nat) (s : ByteArray) (hs : s.size ≤ 90000) (p : Nat) (hp : p ≤ s.size)
  (h0 : (s.data.toList.drop p).all prn = false → K (.tuple #[.string .empty, .bool false]) st)
  (h1 : (s.data.toList.drop p).all prn = true → K (.tuple #[.string (bs (trimE (s.data.toList.drop p))), .bool (decide (trimE (s.data.toList.drop p) ≠ []))]) st) :
  callK (callO T0 orc fns 100000 (n + 1)) 63 [.string s, .int .i64 (p : Nat)] st K := by
 refine fn_runs (fn := g63) ?_ ?_ ?_
 ·rfl
 ·rfl
 unfold g63
 have hsz := size_list s
 simp (disch := omega) only [↓sxA, ↓wk_store, sxB, sxP, simprocAttr]
 refine loop_rule [0, 1, 6] (fun vs st' => st' = st ∧ ∃ j : Nat, vs = [.string s, .int .i64 (p : Nat), .int .i64 (j : Nat)] ∧ p ≤ j ∧ j ≤ s.size ∧ ((s.data.toList.drop p).take (j - p)).all prn = true) (fun vs _ => match lget vs 2 with
   | .int _ k => ((s.size : Int) - k).toNat
   | _ => 0) ?_ ?_ ?_
 ·rfl
 ·refine ⟨_, rfl, ⟨rfl, p, rfl, Nat.le_refl _, hp, by simp⟩, ?_⟩
  show ((s.size : Int) - (p : Int)).toNat < 100000
  omega
 ·rintro vs st' ⟨rfl, j, rfl, j0, j1, j2⟩
  show sx _ _ _ _ _ [(0, _), (1, _), (6, _)] _ _ _ _
  by_cases hj : j < s.size
  ·obtain ⟨c, hc, hg, hb⟩ := byte_at s j hj
   have hcd : (s.data.toList.drop p)[j - p]? = some c := by rw [List.getElem?_drop, show p + (j - p) = j by omega]; exact hc
   have bad : prn c = false → (s.data.toList.drop p).all prn = false := fun hp => by
    rw [List.all_eq_false]
    exact ⟨c, List.mem_of_getElem? hcd, by rw [hp]; decide⟩
   have good : prn c = true → ((s.data.toList.drop p).take (j + 1 - p)).all prn = true := fun hp => by
    rw [show j + 1 - p = (j - p) + 1 by omega, List.take_add_one, hcd]
    simp [List.all_append, j2, hp]
   simp (disch := omega) only [q_indexStr, Int.toNat_natCast, hg, ↓sxA, ↓wk_store, sxB, sxP, simprocAttr]
   refine iteI (fun c1 => ?_) (fun c1 => iteI (fun c2 => ?_) (fun c2 => ?_))
   ·exact h0 (bad (by simp [prn]; omega))
   ·exact h0 (bad (by simp [prn]; omega))
   ·refine ⟨_, rfl, ⟨j + 1, ?_, by omega, hj, good (by simp [prn]; omega)⟩, ?_⟩
    ·simp
    ·show ((s.size : Int) - ((j : Int) + 1)).toNat < ((s.size : Int) - j).toNat
     omega
  ·have e : (s.data.toList.drop p).take (j - p) = s.data.toList.drop p := List.take_of_length_le (by rw [List.length_drop]; omega)
   rw [e] at j2
   have h1' := h1 j2
   simp (disch := omega) only [↓sxA, ↓wk_store, sxB, sxP, simprocAttr]
   refine loop_rule [0, 1, 7] (fun vs s2 => s2 = st' ∧ ∃ i : Nat, vs = [.string s, .int .i64 (p : Nat), .int .i64 (i : Nat)] ∧ p ≤ i ∧ i ≤ s.size ∧ trimE (s.data.toList.drop p) = trimE ((s.data.toList.drop p).take (i - p))) (fun vs _ => match lget vs 2 with
     | .int _ k => k.toNat
     | _ => 0) ?_ ?_ ?_
   ·rfl
   ·refine ⟨_, rfl, ⟨rfl, s.size, rfl, hp, Nat.le_refl _, by rw [List.take_of_length_le (by rw [List.length_drop]; omega)]⟩, ?_⟩
    show ((s.size : Int)).toNat < 100000
    omega
   ·rintro vs s2 ⟨rfl, i, rfl, i0, i1, i2⟩
    show sx _ _ _ _ _ [(0, _), (1, _), (7, _)] _ _ _ _
    by_cases hi : p < i
    ·obtain ⟨c, hc, hg, hb⟩ := byte_at s (i - 1) (by omega)
     have hcd : (s.data.toList.drop p)[i - 1 - p]? = some c := by rw [List.getElem?_drop, show p + (i - 1 - p) = i - 1 by omega]; exact hc
     have hsp : (s.data.toList.drop p).take (i - p) = (s.data.toList.drop p).take (i - 1 - p) ++ [c] := by
      rw [show i - p = (i - 1 - p) + 1 by omega, List.take_add_one, hcd]; rfl
     have hcast : (i : Int) - 1 = ((i - 1 : Nat) : Int) := by omega
     simp (disch := omega) only [q_indexStr, hcast, Int.toNat_natCast, hg, ↓sxA, ↓wk_store, sxB, sxP, simprocAttr]
     refine iteI (fun c1 => ?_) (fun c1 => ?_)
     ·refine ⟨_, rfl, ⟨i - 1, ?_, by omega, by omega, ?_⟩, ?_⟩
      ·simp
      ·rw [i2, hsp, u8_eq c1]
       simp [trimE]
      ·show ((i - 1 : Nat) : Int).toNat < ((i : Nat) : Int).toNat
       omega
     ·have hT : trimE (s.data.toList.drop p) = (s.data.toList.drop p).take (i - p) := by
       rw [i2, hsp]
       have : ¬ c = 32 := fun e => c1 (by rw [e]; rfl)
       simp [trimE, this]
      have hne : trimE (s.data.toList.drop p) ≠ [] := by rw [hT, hsp]; simp
      rw [decide_eq_true hne, hT, ← extract_bs] at h1'
      simp (disch := omega) only [q_slBoth, Int.toNat_natCast, ↓sxA, ↓wk_store, sxB, sxP, simprocAttr]
      exact h1'
    ·have hpi : i = p := by omega
     subst hpi
     have hT : trimE (s.data.toList.drop i) = [] := by rw [i2]; simp [trimE]
     rw [hT] at h1'
     have e0 : s.extract i i = ByteArray.empty := by rw [extract_bs]; simp; rfl
     simp (disch := omega) only [q_slBoth, Int.toNat_natCast, e0, ↓sxA, ↓wk_store, sxB, sxP, simprocAttr]
     exact h1'

theorem q_addU8 (a b : Int) (h0 : 0 ≤ a + b) (h1 : a + b ≤ 255) {K : Value → Prop} : popK (.bin .add) [.int .u8 a, .int .u8 b] K = K (.int .u8 (a + b)) := by
 rw [pk_addI]
 simp only [wrapF]
 rw [if_pos ⟨h0, h1⟩]
theorem q_subU8 (a b : Int) (h0 : 0 ≤ a - b) (h1 : a - b ≤ 255) {K : Value → Prop} : popK (.bin .sub) [.int .u8 a, .int .u8 b] K = K (.int .u8 (a - b)) := by
 rw [pk_subI]
 simp only [wrapF]
 rw [if_pos ⟨h0, h1⟩]
theorem wrap64 (a : Int) (h0 : -9223372036854775808 ≤ a) (h1 : a ≤ 9223372036854775807) : wrapF .i64 a = a := by
 simp only [wrapF]
 rw [if_pos ⟨h0, h1⟩]
theorem Cel.ceq {v : Value} {cs : List Value} (h : Cel st v cs) : cellEq v v = true := by
 rcases h with ⟨h1, _⟩ | ⟨b, o, cap, xs, g, ro, h1, _⟩ | ⟨n, h1, _⟩ <;> subst h1 <;> exact one_eqSlice _ _ _

theorem lower_byte (c : UInt8) : (65 ≤ c.toNat ∧ c.toNat ≤ 90 → u8v (Lib.lowerB c) = .int .u8 ((c.toNat : Int) + 32)) ∧ (¬ (65 ≤ c.toNat ∧ c.toNat ≤ 90) → Lib.lowerB c = c) := by
 have h : ∀ n : Fin 256, ((65 ≤ n.val ∧ n.val ≤ 90) → (Lib.lowerB (UInt8.ofNat n.val)).toNat = n.val + 32) ∧ (¬ (65 ≤ n.val ∧ n.val ≤ 90) → Lib.lowerB (UInt8.ofNat n.val) = UInt8.ofNat n.val) := by decide +kernel
 have := h ⟨c.toNat, c.toNat_lt⟩
 simp only [UInt8.ofNat_toNat] at this
 refine ⟨fun hc => ?_, this.2⟩
 have h1 := this.1 hc
 show Value.int .u8 ((Lib.lowerB c).toNat : Int) = _
 rw [h1]
 congr 1

theorem kLowerR (n : Nat) (s : ByteArray) (hs : s.size ≤ 90000) (h : ∀ st', Frm st st' → K (.string (lowerV s)) st') :
  callK (callO T0 orc fns 100000 (n + 1)) 95 [.string s] st K := by
 refine fn_runs (fn := g95) ?_ ?_ ?_
 ·rfl
 ·rfl
 unfold g95
 have hsz := size_list s
 simp (disch := omega) only [↓sxA, ↓wk_store, sxB, sxP, simprocAttr]
 refine loop_rule [3, 4] (fun vs s' => ∃ j : Nat, vs = [.slice (some ⟨st.next, 0, none⟩) s.size s.size, .int .i64 (j : Nat)] ∧ j ≤ s.size ∧ s'.next = st.next + 1 ∧ (∀ i, i < st.next → s'.get i = st.get i) ∧ s'.get st.next = some (.row (((s.data.toList.take j).map Lib.lowerB ++ s.data.toList.drop j).map u8v) 1 false)) (fun vs _ => match lget vs 1 with
   | .int _ k => ((s.size : Int) - k).toNat
   | _ => 0) ?_ ?_ ?_
 ·rfl
 ·refine ⟨_, rfl, ⟨0, rfl, Nat.zero_le _, rfl, fun i hi => get_new_ne _ _ _ (by omega), get_new_same _ _⟩, ?_⟩
  show ((s.size : Int) - 0).toNat < 100000
  omega
 ·rintro vs s' ⟨j, rfl, j1, hn, hf, hg⟩
  show sx _ _ _ _ _ [(3, _), (4, _)] _ _ _ _
  have F : Frm st s' := ⟨by omega, hf⟩
  by_cases hj : j < s.size
  ·obtain ⟨c, hc, hgd, hb⟩ := byte_at s j hj
   have hlj : ((s.data.toList.take j).map Lib.lowerB).length = j := by rw [List.length_map, List.length_take]; omega
   have hcj : (((s.data.toList.take j).map Lib.lowerB ++ s.data.toList.drop j).map u8v)[j]? = some (.int .u8 (c.toNat : Int)) := by
    rw [List.getElem?_map, List.getElem?_append_right (by omega), hlj, List.getElem?_drop, Nat.sub_self, Nat.add_zero, hc]; rfl
   have hdrop : s.data.toList.drop j = c :: s.data.toList.drop (j + 1) := by
    obtain ⟨h1, h2⟩ := List.getElem?_eq_some_iff.1 hc
    rw [List.drop_eq_getElem_cons h1, h2]
   have htake : s.data.toList.take (j + 1) = s.data.toList.take j ++ [c] := by rw [List.take_add_one, hc]; rfl
   obtain ⟨lb1, lb2⟩ := lower_byte c
   have ix : ∀ K : Value → Prop, popK (.indexAddr 1) [.slice (some ⟨st.next, 0, none⟩) s.size s.size, .int .i64 (j : Int)] K = K (.pointer (some ⟨st.next, j, none⟩)) := fun K => by
    rw [pk_indexAddr]
    have e : (0 : Nat) + (j : Int).toNat * 1 = j := by omega
    rw [e]
    exact propext ⟨fun h => h.2, fun h => ⟨⟨by omega, by omega⟩, h⟩⟩
   have ld : ∀ K : Value → Prop, ropK .load1 [.pointer (some ⟨st.next, j, none⟩)] s' K = K (.int .u8 (c.toNat : Int)) := fun K => by
    rw [rk_load1, hg]
    simp only [getK, rowK]
    exact nthK_at hcj K
   have keepRow : Lib.lowerB c = c → (((s.data.toList.take (j + 1)).map Lib.lowerB ++ s.data.toList.drop (j + 1)).map u8v) = (((s.data.toList.take j).map Lib.lowerB ++ s.data.toList.drop j).map u8v) := fun e => by
    rw [htake, hdrop, List.map_append (f := Lib.lowerB), List.append_assoc]
    simp only [List.map_cons, List.map_nil, e, List.singleton_append]
   have hmeas : ((s.size : Int) - ((j : Int) + 1)).toNat < ((s.size : Int) - j).toNat := by omega
   simp (disch := omega) only [↓sxA, ↓wk_store, sxB, sxP, simprocAttr, ↓ix, ↓ld]
   refine iteI (fun c1 => iteI (fun c2 => ?_) (fun c2 => ?_)) (fun c1 => ?_)
   ·have hl : j < (((s.data.toList.take j).map Lib.lowerB ++ s.data.toList.drop j).map u8v).length := by
     rw [List.length_map, List.length_append, hlj, List.length_drop]; omega
    have hrow : lputs (((s.data.toList.take j).map Lib.lowerB ++ s.data.toList.drop j).map u8v) j [.int .u8 ((c.toNat : Int) + 32)] = (((s.data.toList.take (j + 1)).map Lib.lowerB ++ s.data.toList.drop (j + 1)).map u8v) := by
     rw [htake, hdrop, ← lb1 ⟨by omega, by omega⟩]
     simp only [List.map_append, List.map_cons, List.map_nil, List.append_assoc, List.singleton_append]
     unfold lputs
     have e1 : ((s.data.toList.take j).map Lib.lowerB |>.map u8v).length = j := by rw [List.length_map]; exact hlj
     rw [List.take_left' e1, ← List.drop_drop, List.drop_left' e1]
     simp
    have stw : ∀ W : Value → St → Prop, wopK (.store 1) [.pointer (some ⟨st.next, j, none⟩), .int .u8 ((c.toNat : Int) + 32)] s' W = W undef (s'.put st.next (some (.row (((s.data.toList.take (j + 1)).map Lib.lowerB ++ s.data.toList.drop (j + 1)).map u8v) 1 false))) := fun W => by
     rw [wk_store, hg]
     simp only [getK, rowK]
     rw [show cellsOf (.int .u8 ((c.toNat : Int) + 32)) = [.int .u8 ((c.toNat : Int) + 32)] from rfl, hrow]
     exact propext ⟨fun h => h.2.2, fun h => ⟨rfl, ⟨by first | trivial | rfl, by omega, by rfl⟩, h⟩⟩
    simp (disch := omega) only [q_addU8, ↓sxA, ↓wk_store, sxB, sxP, simprocAttr, ↓ix, ↓stw]
    exact ⟨_, rfl, ⟨j + 1, by simp, hj, hn, fun i hi => (get_put_ne _ _ _ _ (by omega)).trans (hf i hi), by first | rfl | exact get_put_same _ _ _⟩, hmeas⟩
   ·refine ⟨_, rfl, ⟨j + 1, by simp, hj, hn, hf, ?_⟩, hmeas⟩
    rw [keepRow (lb2 (by omega))]; exact hg
   ·refine ⟨_, rfl, ⟨j + 1, by simp, hj, hn, hf, ?_⟩, hmeas⟩
    rw [keepRow (lb2 (by omega))]; exact hg
  ·have hjs : j = s.size := by omega
   have e1 : s.data.toList.take j = s.data.toList := List.take_of_length_le (by omega)
   have e2 : s.data.toList.drop j = [] := List.drop_eq_nil_of_le (by omega)
   rw [e1, e2, List.append_nil] at hg
   have hlow : lowerV s = bs (s.data.toList.map Lib.lowerB) := rfl
   have hgro : Gro s' (.slice (some ⟨st.next, 0, none⟩) s.size s.size) (s.data.toList.map Lib.lowerB) := .inr (.inl ⟨st.next, 0, s.size, _, by rw [List.length_map, hsz], by rw [List.length_map, hsz]; exact Nat.le_refl _, hg, by simp, by rw [List.drop_zero, List.take_of_length_le (by simp)]⟩)
   have rs := fun K => rk_str (K := K) hgro
   rw [hlow] at h
   simp (disch := omega) only [↓sxA, ↓wk_store, sxB, sxP, simprocAttr, ↓rs]
   exact h _ F

theorem kKnown (n : Nat) {lo : Nat} {lv : Value} {l : List IM} (s : ByteArray) (hs : s.size ≤ 90000) (hR : ItR lo st lv l) (hl : l.length < 90000) (hN : NmOk l) (h : ∀ st', Frm st st' → K (.int .i64 (knownL (lowerV s) l 0)) st') :
  callK (callO T0 orc fns 100000 (n + 2)) 55 [lv, .string s] st K := by
 refine fn_runs (fn := g55) ?_ ?_ ?_
 ·rfl
 ·rfl
 unfold g55
 have la := hR.len
 simp (disch := omega) only [↓sxA, ↓wk_store, sxB, sxP, simprocAttr]
 refine loop_rule [0, 1, 5] (fun vs s' => ∃ j : Nat, vs = [lv, .string s, .int .i64 (j : Nat)] ∧ j ≤ l.length ∧ Frm st s' ∧ knownL (lowerV s) (l.drop j) j = knownL (lowerV s) l 0) (fun vs _ => match lget vs 2 with
   | .int _ k => ((l.length : Int) - k).toNat
   | _ => 0) ?_ ?_ ?_
 ·rfl
 ·refine ⟨_, rfl, ⟨0, rfl, Nat.zero_le _, Frm.refl _, rfl⟩, ?_⟩
  show ((l.length : Int) - 0).toNat < 100000
  omega
 ·rintro vs s1 ⟨j, rfl, j1, F, hk⟩
  show sx _ _ _ _ _ [(0, _), (1, _), (5, _)] _ _ _ _
  by_cases hj : j < l.length
  ·have hR1 := hR.keep (st' := s1) F.nx fun i _ hi => F.old i hi
   obtain ⟨bb, nv, a1, a2, a3, a4⟩ := hR1.at2 hj
   have hm := hN _ (List.getElem_mem hj)
   rw [List.drop_eq_getElem_cons hj] at hk
   simp only [knownL] at hk
   have rN := fun s' (F' : Frm s1 s') => a2 s' F' 0 nv rfl
   have rN1 := rN s1 (Frm.refl _)
   simp (disch := omega) only [↓sxA, ↓wk_store, sxB, sxP, simprocAttr, ↓la, ↓a1, ↓rN1]
   refine kLowerR n s hs fun s2 F2 => ?_
   have ag := again (rN s2 F2) (Cel.ceq a3)
   simp (disch := omega) only [↓sxA, ↓wk_store, sxB, sxP, simprocAttr]
   refine (ag _).mpr ?_
   simp (disch := omega) only [↓sxA, ↓wk_store, sxB, sxP, simprocAttr]
   have hmeas : ((l.length : Int) - ((j : Int) + 1)).toNat < ((l.length : Int) - j).toNat := by omega
   refine kHas n (a3.keep fun i hi => F2.old i (by omega)) hm (fun hin r hr => ?_) (fun hin => ?_)
   ·rw [if_pos hin] at hk
    simp (disch := omega) only [↓sxA, ↓wk_store, sxB, sxP, simprocAttr]
    rw [hk]
    exact h _ (F.trans F2)
   ·rw [if_neg hin] at hk
    simp (disch := omega) only [↓sxA, ↓wk_store, sxB, sxP, simprocAttr]
    exact ⟨_, rfl, ⟨j + 1, by simp, hj, F.trans F2, hk⟩, hmeas⟩
  ·have e : l.drop j = [] := List.drop_eq_nil_of_le (by omega)
   rw [e] at hk
   simp only [knownL] at hk
   rw [← hk] at h
   simp (disch := omega) only [↓sxA, ↓wk_store, sxB, sxP, simprocAttr, ↓la]
   exact h _ F

/-- a number that stops growing -/
def sat (x : Nat) : Int := if x ≤ 2147483648 then (x : Int) else 2147483649
theorem dval_app (c : UInt8) (l : List UInt8) : ∀ a : Nat, dval a (l ++ [c]) = dval a l * 10 + (c.toNat - 48) := by
 induction l with
 | nil => intro a; rfl
 | cons x l ih => intro a; exact ih (a * 10 + (x.toNat - 48))

set_option maxHeartbeats 1000000 in
theorem kNumberR (n : Nat) (s : ByteArray) (hs : s.size ≤ 90000) (h : K (numVal (numA s.data.toList)) st) :
  callK (callO T0 orc fns 100000 (n + 1)) 25 [.string s] st K := by
 refine fn_runs (fn := g25) ?_ ?_ ?_
 ·rfl
 ·rfl
 unfold g25
 have hsz := size_list s
 have hcase : ∃ a : Nat, a ≤ 1 ∧ a ≤ s.size ∧ digits s.data.toList = s.data.toList.drop a ∧ ((a = 1 ∧ neg s.data.toList = true ∧ 0 < s.size ∧ s.data.toList.getD 0 0 = 45) ∨ (a = 0 ∧ neg s.data.toList = false ∧ (s.size = 0 ∨ (0 < s.size ∧ ¬ ((s.data.toList.getD 0 0).toNat : Int) = 45)))) := by
  cases hl : s.data.toList with
  | nil =>
   rw [hl] at hsz
   exact ⟨0, by decide, by omega, rfl, .inr ⟨rfl, rfl, .inl hsz⟩⟩
  | cons c r =>
   rw [hl] at hsz
   simp only [List.length_cons] at hsz
   by_cases hc : c = 45
   ·subst hc
    exact ⟨1, by decide, by omega, rfl, .inl ⟨rfl, rfl, by omega, rfl⟩⟩
   ·refine ⟨0, by decide, by omega, by simp [digits, hc], .inr ⟨rfl, by simp [neg, hc], .inr ⟨by omega, fun e => hc ?_⟩⟩⟩
    exact u8_eq e
 obtain ⟨a, ha1, has, hdg, hneg⟩ := hcase
 obtain ⟨b, hb⟩ : ∃ b, b = neg s.data.toList := ⟨_, rfl⟩
 have tail : ∀ (e : Int), True := fun _ => trivial
 have hnum : numA s.data.toList = if s.data.toList.drop a ≠ [] ∧ (s.data.toList.drop a).all dig = true then (if b = true then (if dval 0 (s.data.toList.drop a) ≤ 2147483648 then some (-(dval 0 (s.data.toList.drop a) : Int)) else none) else if dval 0 (s.data.toList.drop a) ≤ 2147483647 then some (dval 0 (s.data.toList.drop a) : Int) else none) else none := by
  unfold numA; rw [hdg, hb]
 rw [hnum] at h
 have hdl : (s.data.toList.drop a).length = s.size - a := by rw [List.length_drop]; omega
 have hD : ∀ i, (s.data.toList.drop a)[i]? = s.data.toList[a + i]? := fun i => List.getElem?_drop
 clear hdg
 generalize s.data.toList.drop a = D at h hnum hdl hD
 have empty : a = s.size → K (numVal none) st := fun e => by
  rw [if_neg (fun hh => hh.1 (List.eq_nil_of_length_eq_zero (by omega)))] at h
  exact h
 rcases hneg with ⟨rfl, hn, h0, hg0⟩ | ⟨rfl, hn, h0⟩
 case' inl =>
  rw [hn] at hb
  subst hb
  have hq : ((45 : UInt8).toNat : Int) = 45 := rfl
  have hi0 : ∀ K' : Value → Prop, popK .indexStr [.string s, .int .i64 0] K' = K' (.int .u8 45) := fun K' => by
   rw [q_indexStr s .i64 0 (by omega) (by omega)]
   rw [show (0 : Int).toNat = 0 from rfl, hg0]; rfl
 case' inr =>
  rw [hn] at hb
  subst hb
 case inl =>
  by_cases he : (1 : Nat) = s.size
  ·have hen := empty he
   simp (disch := omega) only [↓sxA, ↓wk_store, sxB, sxP, simprocAttr, ↓hi0]
   exact hen
  simp (disch := omega) only [↓sxA, ↓wk_store, sxB, sxP, simprocAttr, ↓hi0]
  refine loop_rule [0, 5, 6, 7] (fun vs s' => s' = st ∧ ∃ j : Nat, vs = [.string s, .bool true, .int .i64 (sat (dval 0 (D.take (j - 1)))), .int .i64 (j : Nat)] ∧ 1 ≤ j ∧ j ≤ s.size ∧ (D.take (j - 1)).all dig = true) (fun vs _ => match lget vs 3 with
    | .int _ k => ((s.size : Int) - k).toNat
    | _ => 0) ?_ ?_ ?_
  ·rfl
  ·refine ⟨_, rfl, ⟨rfl, 1, by rw [Nat.sub_self, List.take_zero]; rfl, Nat.le_refl _, by omega, by rw [Nat.sub_self, List.take_zero]; rfl⟩, ?_⟩
   show ((s.size : Int) - (1 : Int)).toNat < 100000
   omega
  ·rintro vs s' ⟨rfl, j, rfl, j0, j1, j2⟩
   show sx _ _ _ _ _ [(0, _), (5, _), (6, _), (7, _)] _ _ _ _
   obtain ⟨x, hx⟩ : ∃ x, x = dval 0 (D.take (j - 1)) := ⟨_, rfl⟩
   rw [← hx]
   have sat0 : 0 ≤ sat x := by unfold sat; split <;> omega
   have sat1 : sat x ≤ 2147483649 := by unfold sat; split <;> omega
   by_cases hj : j < s.size
   ·obtain ⟨c, hc, hg, hb'⟩ := byte_at s j hj
    have hcd : D[j - 1]? = some c := by rw [hD, show 1 + (j - 1) = j by omega]; exact hc
    have htk : D.take (j + 1 - 1) = D.take (j - 1) ++ [c] := by rw [show j + 1 - 1 = (j - 1) + 1 by omega, List.take_add_one, hcd]; rfl
    have bad : dig c = false → K (numVal none) s' := fun hp => by
     rw [if_neg] at h
     ·exact h
     ·rintro ⟨_, hh⟩
      have := List.all_eq_true.1 hh c (List.mem_of_getElem? hcd)
      rw [hp] at this
      cases this
    have good : dig c = true → (D.take (j + 1 - 1)).all dig = true := fun hp => by
     rw [htk, List.all_append, j2]; simp [hp]
    have hdv : dval 0 (D.take (j + 1 - 1)) = x * 10 + (c.toNat - 48) := by rw [htk, dval_app, ← hx]
    have hmeas : ((s.size : Int) - ((j : Int) + 1)).toNat < ((s.size : Int) - j).toNat := by omega
    simp (disch := omega) only [q_indexStr, Int.toNat_natCast, hg, ↓sxA, ↓wk_store, sxB, sxP, simprocAttr]
    refine iteI (fun c1 => ?_) (fun c1 => iteI (fun c2 => ?_) (fun c2 => ?_))
    ·exact bad (by simp [dig]; omega)
    ·exact bad (by simp [dig]; omega)
    ·have hd : dig c = true := by simp [dig]; omega
     have hcast : (c.toNat : Int) - 48 = ((c.toNat - 48 : Nat) : Int) := by omega
     simp (disch := omega) only [q_indexStr, q_subU8, wrap64, Int.toNat_natCast, hg, ↓sxA, ↓wk_store, sxB, sxP, simprocAttr]
     refine iteI (fun c3 => ?_) (fun c3 => ?_)
     ·refine ⟨_, rfl, ⟨j + 1, ?_, by omega, hj, good hd⟩, hmeas⟩
      rw [hdv]
      have : sat (x * 10 + (c.toNat - 48)) = 2147483649 := by
       unfold sat at c3 ⊢
       rw [if_neg]
       split at c3 <;> omega
      rw [this]
      simp
     ·refine ⟨_, rfl, ⟨j + 1, ?_, by omega, hj, good hd⟩, hmeas⟩
      rw [hdv]
      have : sat (x * 10 + (c.toNat - 48)) = sat x * 10 + ((c.toNat : Int) - 48) := by
       unfold sat at c3 ⊢
       split at c3
       ·rw [if_pos (by omega)]; rw [if_pos (by assumption)]; omega
       ·omega
      rw [this]
      simp
   ·have e : D.take (j - 1) = D := List.take_of_length_le (by omega)
    rw [e] at hx j2
    have hne : D ≠ [] := fun hh => by
     have := congrArg List.length hh
     rw [hdl, List.length_nil] at this
     omega
    rw [if_pos ⟨hne, j2⟩, ← hx] at h
    simp only [if_true] at h
    by_cases hxv : x ≤ 2147483648
    ·rw [if_pos hxv, numVal_some] at h
     have hs' : sat x = (x : Int) := by unfold sat; rw [if_pos hxv]
     rw [hs']
     simp (disch := omega) only [wrap64, Int.zero_sub, ↓sxA, ↓wk_store, sxB, sxP, simprocAttr]
     rw [if_neg (by omega), if_neg (by omega)]
     exact h
    ·rw [if_neg hxv, numVal_none] at h
     have hs' : sat x = 2147483649 := by unfold sat; rw [if_neg hxv]
     rw [hs']
     simp (disch := omega) only [wrap64, Int.zero_sub, ↓sxA, ↓wk_store, sxB, sxP, simprocAttr]
     exact h
 case inr =>
  by_cases he : (0 : Nat) = s.size
  ·have hen := empty he
   simp (disch := omega) only [↓sxA, ↓wk_store, sxB, sxP, simprocAttr]
   exact hen
  have hi0 : ∀ K' : Value → Prop, popK .indexStr [.string s, .int .i64 0] K' = K' (.int .u8 ((s.data.toList.getD 0 0).toNat : Int)) := fun K' => by
   rw [q_indexStr s .i64 0 (by omega) (by omega)]
   rfl
  have hq1 : (((s.data.toList.getD 0 0).toNat : Int) = 45) = False := eq_false fun e => by
   rcases h0 with h0 | h0
   ·omega
   ·exact h0.2 e
  simp (disch := omega) only [↓sxA, ↓wk_store, sxB, sxP, simprocAttr, ↓hi0, hq1]
  refine loop_rule [0, 5, 6, 7] (fun vs s' => s' = st ∧ ∃ j : Nat, vs = [.string s, .bool false, .int .i64 (sat (dval 0 (D.take (j - 0)))), .int .i64 (j : Nat)] ∧ 0 ≤ j ∧ j ≤ s.size ∧ (D.take (j - 0)).all dig = true) (fun vs _ => match lget vs 3 with
    | .int _ k => ((s.size : Int) - k).toNat
    | _ => 0) ?_ ?_ ?_
  ·rfl
  ·refine ⟨_, rfl, ⟨rfl, 0, by rw [Nat.sub_self, List.take_zero]; rfl, Nat.le_refl _, by omega, by rw [Nat.sub_self, List.take_zero]; rfl⟩, ?_⟩
   show ((s.size : Int) - (0 : Int)).toNat < 100000
   omega
  ·rintro vs s' ⟨rfl, j, rfl, j0, j1, j2⟩
   show sx _ _ _ _ _ [(0, _), (5, _), (6, _), (7, _)] _ _ _ _
   obtain ⟨x, hx⟩ : ∃ x, x = dval 0 (D.take (j - 0)) := ⟨_, rfl⟩
   rw [← hx]
   have sat0 : 0 ≤ sat x := by unfold sat; split <;> omega
   have sat1 : sat x ≤ 2147483649 := by unfold sat; split <;> omega
   by_cases hj : j < s.size
   ·obtain ⟨c, hc, hg, hb'⟩ := byte_at s j hj
    have hcd : D[j - 0]? = some c := by rw [hD, show 0 + (j - 0) = j by omega]; exact hc
    have htk : D.take (j + 1 - 0) = D.take (j - 0) ++ [c] := by rw [show j + 1 - 0 = (j - 0) + 1 by omega, List.take_add_one, hcd]; rfl
    have bad : dig c = false → K (numVal none) s' := fun hp => by
     rw [if_neg] at h
     ·exact h
     ·rintro ⟨_, hh⟩
      have := List.all_eq_true.1 hh c (List.mem_of_getElem? hcd)
      rw [hp] at this
      cases this
    have good : dig c = true → (D.take (j + 1 - 0)).all dig = true := fun hp => by
     rw [htk, List.all_append, j2]; simp [hp]
    have hdv : dval 0 (D.take (j + 1 - 0)) = x * 10 + (c.toNat - 48) := by rw [htk, dval_app, ← hx]
    have hmeas : ((s.size : Int) - ((j : Int) + 1)).toNat < ((s.size : Int) - j).toNat := by omega
    simp (disch := omega) only [q_indexStr, Int.toNat_natCast, hg, ↓sxA, ↓wk_store, sxB, sxP, simprocAttr]
    refine iteI (fun c1 => ?_) (fun c1 => iteI (fun c2 => ?_) (fun c2 => ?_))
    ·exact bad (by simp [dig]; omega)
    ·exact bad (by simp [dig]; omega)
    ·have hd : dig c = true := by simp [dig]; omega
     have hcast : (c.toNat : Int) - 48 = ((c.toNat - 48 : Nat) : Int) := by omega
     simp (disch := omega) only [q_indexStr, q_subU8, wrap64, Int.toNat_natCast, hg, ↓sxA, ↓wk_store, sxB, sxP, simprocAttr]
     refine iteI (fun c3 => ?_) (fun c3 => ?_)
     ·refine ⟨_, rfl, ⟨j + 1, ?_, by omega, hj, good hd⟩, hmeas⟩
      rw [hdv]
      have : sat (x * 10 + (c.toNat - 48)) = 2147483649 := by
       unfold sat at c3 ⊢
       rw [if_neg]
       split at c3 <;> omega
      rw [this]
      simp
     ·refine ⟨_, rfl, ⟨j + 1, ?_, by omega, hj, good hd⟩, hmeas⟩
      rw [hdv]
      have : sat (x * 10 + (c.toNat - 48)) = sat x * 10 + ((c.toNat : Int) - 48) := by
       unfold sat at c3 ⊢
       split at c3
       ·rw [if_pos (by omega)]; rw [if_pos (by assumption)]; omega
       ·omega
      rw [this]
      simp
   ·have e : D.take (j - 0) = D := List.take_of_length_le (by omega)
    rw [e] at hx j2
    have hne : D ≠ [] := fun hh => by
     have := congrArg List.length hh
     rw [hdl, List.length_nil] at this
     omega
    rw [if_pos ⟨hne, j2⟩, ← hx] at h
    simp only [Bool.false_eq_true, if_false] at h
    by_cases hxv : x ≤ 2147483647
    ·rw [if_pos hxv, numVal_some] at h
     have hs' : sat x = (x : Int) := by unfold sat; rw [if_pos (by omega)]
     rw [hs']
     simp (disch := omega) only [↓sxA, ↓wk_store, sxB, sxP, simprocAttr]
     exact h
    ·rw [if_neg hxv, numVal_none] at h
     have hs' : 2147483647 < sat x := by unfold sat; split <;> omega
     have hs2 : ¬ sat x < -2147483648 := by omega
     simp (disch := omega) only [↓sxA, ↓wk_store, sxB, sxP, simprocAttr]
     exact h
end
end Go.Proofs.YtdmemibnphcedaaGreatDoor
end
section
set_option linter.unusedSimpArgs false
set_option linter.unusedVariables false
set_option maxRecDepth 10000
set_option linter.unusedSectionVars false
namespace Go.Proofs.YtdmemibnphcedaaGreatDoor
open Go.Am

section
variable {L : List UInt8} {i : Nat} {c d : UInt8}
end

attribute [local irreducible] callO wopK ropK popK opK grpsE listE sx Runs

section
variable {st : St} {K : Value → St → Prop}

end
end Go.Proofs.YtdmemibnphcedaaGreatDoor
end
