/-
  The program's find and free.
  The program's give and rest.
  The program's name: what stands behind an item's name.
  The program's name, walked.
  The program's step: the next word.
  The program's Fit.
  The chapter's small functions: lower, known, rest, open, Number.
  The chapter's next.
-/
import Derived.Test.YtdmemibnphcedaaGreatDoorRBckClaimPart25
section
set_option linter.unusedSimpArgs false
set_option linter.unusedVariables false
set_option maxRecDepth 10000
set_option linter.unusedSectionVars false
namespace Go.Proofs.YtdmemibnphcedaaGreatDoor
open Go.Am
attribute [local irreducible] callO wopK ropK popK opK grpsE listE sx Runs

def nm0 (x : IM) : ByteArray := x.names.headD .empty

/-- the fitter: where its parts are -/
structure FtR (s0 st : St) (bf : Nat) (lv : Value) (s : ByteArray) (l : List IM) (p : Nat) (cs : List Cl) : Prop where
 frm : Frm s0 st
 bf1 : s0.next ≤ bf
 bf2 : bf < st.next
 items : ItR 1 s0 lv l
 len : cs.length = l.length
 body : ∃ ov bn g, st.get bf = some (.row [lv, .string s, .int .i64 (p : Nat), ov, .slice (some ⟨bn, 0, none⟩) l.length l.length] 0 false) ∧ AgR (fun n => s0.next + 1 ≤ n ∧ n ≠ bf + 1 ∧ n ≠ bn + 1) true st ov (l.map nm0) cs ∧
  st.get bn = some (.row (cs.map fun c => .bool c.nm) g false) ∧ s0.next ≤ bn ∧ bn < st.next ∧ bn ≠ bf

section
variable {s0 st st' : St} {bf p : Nat} {lv : Value} {s : ByteArray} {l : List IM} {cs : List Cl}
theorem FtR.keep (h : FtR s0 st bf lv s l p cs) (k : Frm st st') : FtR s0 st' bf lv s l p cs := by
 obtain ⟨ov, bn, g, b1, b2, b3, b4, b5, b6⟩ := h.body
 refine ⟨h.frm.trans k, h.bf1, Nat.lt_of_lt_of_le h.bf2 k.nx, h.items, h.len, ov, bn, g, (k.old _ h.bf2).trans b1, b2.keep k.nx fun i _ hi => k.old i hi, (k.old _ b5).trans b3, b4, Nat.lt_of_lt_of_le b5 k.nx, b6⟩
theorem FtR.its (h : FtR s0 st bf lv s l p cs) : ItR 1 st lv l := h.items.keep h.frm.nx fun i _ hi => h.frm.old i hi
theorem FtR.box (h : FtR s0 st bf lv s l p cs) : ∃ ov nv, st.get bf = some (.row [lv, .string s, .int .i64 (p : Nat), ov, nv] 0 false) := by
 obtain ⟨ov, bn, g, b1, _⟩ := h.body
 exact ⟨_, _, b1⟩
end

theorem itBox (s : St) {nv : Value} (x : Mk) (ho : oneCell nv = true) : ∃ s4, (∀ W : Value → St → Prop, wopK (.store 7) [.pointer (some ⟨s.next, 0, none⟩), .agg (itCells nv x).toArray] (s.new (.row zero7 0 false)) W = W undef s4) ∧ s4.get s.next = some (.row [nv, .bool x.a, .bool x.k, .bool x.s, .bool x.n, .bool x.m, .bool x.f] 0 false) ∧ s4.next = s.next + 1 ∧ Frm s s4 :=
 ⟨(s.new (.row zero7 0 false)).put s.next (some (.row [nv, .bool x.a, .bool x.k, .bool x.s, .bool x.n, .bool x.m, .bool x.f] 0 false)), fun W => wk_storeK (W := W) (get_new_same s (.row zero7 0 false)) (o := 0) (k := 7) (xs := itCells nv x) (by decide) rfl (it7 ho x), get_put_same _ _ _, rfl, (Frm.new s _).put _ (Nat.le_refl _) _⟩

section
variable {st : St} {v : Value} {K : Value → St → Prop} {xs : List ByteArray} {x : ByteArray}

theorem kIndexS (n : Nat) (hv : Cel st v (xs.map Value.string)) (hl : xs.length < 90000) (h1 : x ∈ xs → ∀ r : Int, 0 ≤ r → K (.int .i64 r) st) (h2 : x ∉ xs → K (.int .i64 (-1)) st) :
  callK (callO T0 orc fns 100000 (n + 1)) 122 [v, .string x] st K := by
 refine fn_runs (fn := g122) ?_ ?_ ?_
 ·rfl
 ·rfl
 unfold g122
 have hn := len_cel hv
 rw [List.length_map] at hn
 simp (disch := omega) only [↓sxA, ↓wk_store, sxB, sxP, simprocAttr, ↓hn]
 refine loop_rule [0, 1, 7, 8] (fun vs st' => st' = st ∧ ∃ j : Nat, vs = [v, .string x, .int .i64 (xs.length : Nat), .int .i64 j] ∧ j ≤ xs.length ∧ ∀ i, i < j → x ≠ xs.getD i .empty) (fun vs _ => match lget vs 3 with
   | .int _ k => ((xs.length : Int) - k).toNat
   | _ => 0) ?_ ?_ ?_
 ·rfl
 ·refine ⟨_, rfl, ⟨rfl, 0, rfl, Nat.zero_le _, fun i hi => by omega⟩, ?_⟩
  show ((xs.length : Int) - 0).toNat < 100000
  omega
 ·rintro vs st' ⟨rfl, j, rfl, j1, j2⟩
  show sx _ _ _ _ _ [(0, _), (1, _), (7, _), (8, _)] _ _ _ _
  by_cases hj : j < xs.length
  ·have i1 := idx_cel hv
   have ld := load_cel hv
   rw [List.length_map] at i1 ld
   have e := getD_str xs j hj
   simp (disch := omega) only [↓sxA, ↓wk_store, sxB, sxP, simprocAttr, ↓i1, ↓ld, Int.toNat_natCast, e]
   refine iteI (fun hq => ?_) (fun hq => ?_)
   ·refine h1 ?_ _ (by omega)
    rw [hq, List.getD_eq_getElem?_getD, List.getElem?_eq_getElem hj]
    exact List.getElem_mem hj
   ·refine ⟨_, rfl, ⟨j + 1, ?_, hj, fun i hi => ?_⟩, ?_⟩
    ·simp
    ·by_cases e : i = j
     ·rw [e]; exact hq
     ·exact j2 i (by omega)
    ·show ((xs.length : Int) - ((j : Int) + 1)).toNat < ((xs.length : Int) - j).toNat
     omega
  ·simp (disch := omega) only [↓sxA, ↓wk_store, sxB, sxP, simprocAttr]
   refine h2 fun hm => ?_
   obtain ⟨i, hi, rfl⟩ := List.getElem_of_mem hm
   refine j2 i (by omega) ?_
   rw [List.getD_eq_getElem?_getD, List.getElem?_eq_getElem hi, Option.getD_some]

open Classical in
theorem kContains (n : Nat) (hv : Cel st v (xs.map Value.string)) (hl : xs.length < 90000) (h : K (.bool (decide (x ∈ xs))) st) :
  callK (callO T0 orc fns 100000 (n + 2)) 93 [v, .string x] st K := by
 refine fn_runs (fn := g93) ?_ ?_ ?_
 ·rfl
 ·rfl
 unfold g93
 simp (disch := omega) only [↓sxA, ↓wk_store, sxB, sxP, simprocAttr]
 refine kIndexS n hv hl (fun hm r hr => ?_) (fun hm => ?_)
 ·rw [decide_eq_true hm] at h
  simp (disch := omega) only [↓sxA, ↓wk_store, sxB, sxP, simprocAttr]
  exact h
 ·rw [decide_eq_false hm] at h
  simp (disch := omega) only [↓sxA, ↓wk_store, sxB, sxP, simprocAttr]
  exact h

open Classical in
theorem kFindIn (n : Nat) {nv : Value} {mk : Mk} {b g : Nat} {ro : Bool} (hb : st.get b = some (.row [.string x] g ro)) (hbn : b < st.next) (hv : Cel st nv (xs.map Value.string)) (ho : oneCell nv = true) (hvn : ow nv ≤ st.next) (hl : xs.length < 90000) (h : ∀ st', Frm st st' → K (.bool (decide (x ∈ xs))) st') :
  callK (callO T0 orc fns 100000 (n + 3)) 92 [.agg (itCells nv mk).toArray, .pointer (some ⟨b, 0, none⟩)] st K := by
 refine fn_runs (fn := g92) ?_ ?_ ?_
 ·rfl
 ·rfl
 unfold g92
 unfold itCells
 have F := Frm.new st (.row [nv, .bool mk.a, .bool mk.k, .bool mk.s, .bool mk.n, .bool mk.m, .bool mk.f] 0 false)
 have hb2 := (F.old b hbn).trans hb
 have hbx : (st.new (.row [nv, .bool mk.a, .bool mk.k, .bool mk.s, .bool mk.n, .bool mk.m, .bool mk.f] 0 false)).get st.next = some (.row [nv, .bool mk.a, .bool mk.k, .bool mk.s, .bool mk.n, .bool mk.m, .bool mk.f] 0 false) := get_new_same _ _
 simp (disch := omega) only [↓sxA, ↓wk_store, sxB, sxP, simprocAttr, hb2, hbx]
 refine kContains n (hv.keep fun i hi => F.old i (by omega)) hl ?_
 try simp (disch := omega) only [↓sxA, ↓wk_store, sxB, sxP, simprocAttr]
 exact h _ F

/-- what the items' names need -/
def NmOk (l : List IM) : Prop := ∀ x ∈ l, x.names.length < 90000

open Classical in
theorem kFindItems (n : Nat) {lo b g : Nat} {ro : Bool} {l : List IM} (hR : ItR lo st v l) (hb : st.get b = some (.row [.string x] g ro)) (hbn : b < st.next) (hl : l.length < 90000) (hN : NmOk l) (h : ∀ st', Frm st st' → K (.int .i64 (knownL x l 0)) st') :
  callK (callO T0 orc fns 100000 (n + 4)) 91 [v, .func (.func 92) #[] #[.pointer (some ⟨b, 0, none⟩)]] st K := by
 refine fn_runs (fn := g91) ?_ ?_ ?_
 ·rfl
 ·rfl
 unfold g91
 have la := hR.len
 simp (disch := omega) only [↓sxA, ↓wk_store, sxB, sxP, simprocAttr, ↓la]
 refine loop_rule [0, 1, 7, 8] (fun vs s => ∃ j : Nat, vs = [v, .func (.func 92) #[] #[.pointer (some ⟨b, 0, none⟩)], .int .i64 (l.length : Nat), .int .i64 j] ∧ j ≤ l.length ∧ Frm st s ∧ knownL x (l.drop j) j = knownL x l 0) (fun vs _ => match lget vs 3 with
   | .int _ k => ((l.length : Int) - k).toNat
   | _ => 0) ?_ ?_ ?_
 ·rfl
 ·refine ⟨_, rfl, ⟨0, rfl, Nat.zero_le _, Frm.refl _, rfl⟩, ?_⟩
  show ((l.length : Int) - 0).toNat < 100000
  omega
 ·rintro vs s ⟨j, rfl, j1, F, hk⟩
  show sx _ _ _ _ _ [(0, _), (1, _), (7, _), (8, _)] _ _ _ _
  by_cases hj : j < l.length
  ·obtain ⟨bb, nv, a1, a2, a3, a4, a5, a6, a7⟩ := (hR.keep (st' := s) F.nx fun i _ hi => F.old i hi).at hj
   have hm := hN _ (List.getElem_mem hj)
   rw [List.drop_eq_getElem_cons hj] at hk
   simp only [knownL] at hk
   simp (disch := omega) only [↓sxA, ↓wk_store, sxB, sxP, simprocAttr, ↓a1, ↓a2]
   refine kFindIn n ((F.old b hbn).trans hb) (Nat.lt_of_lt_of_le hbn F.nx) a4 a5 a7 hm fun s2 F2 => ?_
   by_cases hin : x ∈ l[j].names
   ·rw [if_pos hin] at hk
    rw [decide_eq_true hin]
    simp (disch := omega) only [↓sxA, ↓wk_store, sxB, sxP, simprocAttr]
    rw [hk]
    exact h _ (F.trans F2)
   ·rw [if_neg hin] at hk
    rw [decide_eq_false hin]
    simp (disch := omega) only [↓sxA, ↓wk_store, sxB, sxP, simprocAttr]
    refine ⟨_, rfl, ⟨j + 1, ?_, hj, F.trans F2, hk⟩, ?_⟩
    ·simp
    ·show ((l.length : Int) - ((j : Int) + 1)).toNat < ((l.length : Int) - j).toNat
     omega
  ·have e : l.drop j = [] := List.drop_eq_nil_of_le (by omega)
   rw [e] at hk
   simp only [knownL] at hk
   rw [← hk] at h
   simp (disch := omega) only [↓sxA, ↓wk_store, sxB, sxP, simprocAttr]
   exact h _ F

theorem kLower (n : Nat) (s : ByteArray) (hs : s.size ≤ 4294967280) (ha : asciiB s = true) (h : K (.string (lowerV s)) st) : callK (callO T0 orc fns 100000 n) 90 [.string s] st K := by
 rw [callO_none (by rfl)]
 have e : orc 90 [.string s] st = .ret (.string (lowerV s), st) := by
  rw [orc_eq (by decide)]
  simp [orc1, hs, ha]
 exact (propext (callK_ret (K := K) e)).mpr h

theorem prn_ascii {s : ByteArray} (h : s.data.toList.all prn = true) : asciiB s = true := by
 unfold asciiB
 rw [List.all_eq_true] at h ⊢
 intro b hb
 have := h b hb
 simp only [prn, Bool.and_eq_true, decide_eq_true_eq] at this ⊢
 omega

theorem kFind (n : Nat) {lo : Nat} {l : List IM} (s : ByteArray) (hs : s.size ≤ 90000) (hp : s.data.toList.all prn = true) (hR : ItR lo st v l) (hl : l.length < 90000) (hN : NmOk l) (h : ∀ st', Frm st st' → K (.int .i64 (knownL (lowerV s) l 0)) st') :
  callK (callO T0 orc fns 100000 (n + 5)) 53 [v, .string s] st K := by
 refine fn_runs (fn := g53) ?_ ?_ ?_
 ·rfl
 ·rfl
 unfold g53
 have F1 := Frm.new st (.row [.string s] 0 false)
 have hbx : (st.new (.row [.string s] 0 false)).get st.next = some (.row [.string s] 0 false) := get_new_same _ _
 have hn1 : (st.new (.row [.string s] 0 false)).next = st.next + 1 := rfl
 simp (disch := omega) only [↓sxA, ↓wk_store, sxB, sxP, simprocAttr, hbx]
 generalize st.new (.row [.string s] 0 false) = s1 at F1 hbx hn1
 refine loop_rule [0, 3, 7, 8] (fun vs s' => s' = s1 ∧ ∃ j : Nat, vs = [v, .pointer (some ⟨st.next, 0, none⟩), .int .i64 (s.size : Nat), .int .i64 j] ∧ j ≤ s.size) (fun vs _ => match lget vs 3 with
   | .int _ k => ((s.size : Int) - k).toNat
   | _ => 0) ?_ ?_ ?_
 ·rfl
 ·refine ⟨_, rfl, ⟨rfl, 0, rfl, Nat.zero_le _⟩, ?_⟩
  show ((s.size : Int) - 0).toNat < 100000
  omega
 ·rintro vs s' ⟨rfl, j, rfl, j1⟩
  show sx _ _ _ _ _ [(0, _), (3, _), (7, _), (8, _)] _ _ _ _
  by_cases hj : j < s.size
  ·obtain ⟨c, hc, hg, hb'⟩ := byte_at s j hj
   have hcp : prn c = true := List.all_eq_true.1 hp c (List.mem_of_getElem? hc)
   have hc128 : ¬ ((128 : Int) ≤ (c.toNat : Int)) := by
    simp only [prn, Bool.and_eq_true, decide_eq_true_eq] at hcp
    omega
   simp (disch := omega) only [hbx, q_indexStr, Int.toNat_natCast, hg, ↓sxA, ↓wk_store, sxB, sxP, simprocAttr]
   refine iteI (fun c1 => absurd c1 hc128) (fun _ => ?_)
   refine ⟨_, rfl, ⟨j + 1, ?_, hj⟩, ?_⟩
   ·simp
   ·show ((s.size : Int) - ((j : Int) + 1)).toNat < ((s.size : Int) - j).toNat
    omega
  ·simp (disch := omega) only [hbx, ↓sxA, ↓wk_store, sxB, sxP, simprocAttr]
   refine kLower (n + 4) s (by omega) (prn_ascii hp) ?_
   have F2 : Frm st (s'.put st.next (some (.row [.string (lowerV s)] 0 false))) := F1.put _ (Nat.le_refl _) _
   simp (disch := omega) only [hbx, ↓sxA, ↓wk_store, sxB, sxP, simprocAttr]
   show callK _ _ [v, .func (.func 92) #[] #[.pointer (some ⟨st.next, 0, none⟩)]] _ _
   refine kFindItems n (hR.keep F2.nx fun i _ hi => F2.old i hi) (get_put_same _ _ _) (by show st.next < s'.next; omega) hl hN fun s3 F3 => ?_
   simp (disch := omega) only [↓sxA, ↓wk_store, sxB, sxP, simprocAttr]
   exact h _ (F2.trans F3)

theorem kPlain (n : Nat) {nv : Value} {mk : Mk} (h : ∀ st', Frm st st' → K (.bool (!(mk.s || mk.k))) st') :
  callK (callO T0 orc fns 100000 (n + 1)) 52 [.agg (itCells nv mk).toArray] st K := by
 refine fn_runs (fn := g52) ?_ ?_ ?_
 ·rfl
 ·rfl
 unfold g52
 unfold itCells
 have F := Frm.new st (.row [nv, .bool mk.a, .bool mk.k, .bool mk.s, .bool mk.n, .bool mk.m, .bool mk.f] 0 false)
 cases h1 : mk.s with
 | true =>
  rw [h1] at h F
  simp (disch := omega) only [↓sxA, ↓wk_store, sxB, sxP, simprocAttr, h1]
  exact h _ F
 | false =>
  cases h2 : mk.k with
  | true =>
   rw [h1, h2] at h F
   simp (disch := omega) only [↓sxA, ↓wk_store, sxB, sxP, simprocAttr, h1, h2]
   exact h _ F
  | false =>
   rw [h1, h2] at h F
   simp (disch := omega) only [↓sxA, ↓wk_store, sxB, sxP, simprocAttr, h1, h2]
   exact h _ F

/-- the search for an open item, from a place on -/
theorem openL_at {l : List IM} {cs : List Cl} {j : Nat} (hj : j < l.length) (hc : j < cs.length) (m : Int) : openL (l.drop j) (cs.drop j) j m = if (l[j].mks.s || l[j].mks.k) = true then openL (l.drop (j + 1)) (cs.drop (j + 1)) (j + 1) m else if l[j].mks.m = true then openL (l.drop (j + 1)) (cs.drop (j + 1)) (j + 1) j else if (clAt cs j).set = true then openL (l.drop (j + 1)) (cs.drop (j + 1)) (j + 1) m else j := by
 rw [List.drop_eq_getElem_cons hj, List.drop_eq_getElem_cons hc]
 simp only [openL]
 have : clAt cs j = cs[j] := by rw [clAt, List.getD_eq_getElem?_getD, List.getElem?_eq_getElem hc, Option.getD_some]
 rw [this]

set_option maxHeartbeats 1000000 in
theorem kFree (n : Nat) {s0 : St} {bf p : Nat} {lv : Value} {s : ByteArray} {l : List IM} {cs : List Cl} (hF : FtR s0 st bf lv s l p cs) (hl : l.length < 90000) (h : ∀ st', Frm st st' → K (.int .i64 (openL l cs 0 (-1))) st') :
  callK (callO T0 orc fns 100000 (n + 2)) 58 [.pointer (some ⟨bf, 0, none⟩)] st K := by
 refine fn_runs (fn := g58) ?_ ?_ ?_
 ·rfl
 ·rfl
 unfold g58
 obtain ⟨ov, nv', hbx⟩ := hF.box
 have la := hF.its.len
 simp (disch := omega) only [↓sxA, ↓wk_store, sxB, sxP, simprocAttr, hbx, ↓la]
 refine loop_rule [0, 3, 9, 10, 11] (fun vs s' => ∃ (j : Nat) (m : Int), vs = [.pointer (some ⟨bf, 0, none⟩), .int .i64 m, lv, .int .i64 (l.length : Nat), .int .i64 (j : Nat)] ∧ j ≤ l.length ∧ Frm st s' ∧ openL (l.drop j) (cs.drop j) j m = openL l cs 0 (-1)) (fun vs _ => match lget vs 4 with
   | .int _ k => ((l.length : Int) - k).toNat
   | _ => 0) ?_ ?_ ?_
 ·rfl
 ·refine ⟨_, rfl, ⟨0, -1, rfl, Nat.zero_le _, Frm.refl _, rfl⟩, ?_⟩
  show ((l.length : Int) - 0).toNat < 100000
  omega
 ·rintro vs s1 ⟨j, m, rfl, j1, F, hk⟩
  show sx _ _ _ _ _ [(0, _), (3, _), (9, _), (10, _), (11, _)] _ _ _ _
  have hF1 := hF.keep F
  have hcl := hF.len
  by_cases hj : j < l.length
  ·obtain ⟨bb, nv, a1, a2, a3, a4, a5, a6, a7⟩ := hF1.its.at hj
   obtain ⟨s4, st7, hb4, n4, F4⟩ := itBox s1 l[j].mks a5
   have all4 := rk_loadAll (k := 7) hb4 rfl (by decide)
   have hF4 := hF1.keep F4
   obtain ⟨ov4, bn4, g4, q1, q2, q3, q4, q5, q6⟩ := hF4.body
   obtain ⟨b5, vv5, o1, o2, o3, o4, o5, o6, o7⟩ := q2.at (j := j) (by omega)
   rw [openL_at hj (by omega)] at hk
   have hmeas : ((l.length : Int) - ((j : Int) + 1)).toNat < ((l.length : Int) - j).toNat := by omega
   simp (disch := omega) only [↓sxA, ↓wk_store, sxB, sxP, simprocAttr, ↓a1, ↓a2, ↓st7, ↓all4]
   refine kPlain n fun s5 F5 => ?_
   have hb5 := (F5.old _ (by omega)).trans hb4
   have hF5 := hF4.keep F5
   obtain ⟨ov5, bn5, g5, r1, r2, r3, r4, r5, r6⟩ := hF5.body
   obtain ⟨b6, vv6, t1, t2, t3, t4, t5, t6, t7⟩ := r2.at (j := j) (by omega)
   have Fa := (F.trans F4).trans F5
   cases hp : (l[j].mks.s || l[j].mks.k) with
   | true =>
    rw [hp] at hk
    simp only [if_true] at hk
    simp (disch := omega) only [↓sxA, ↓wk_store, sxB, sxP, simprocAttr]
    exact ⟨_, rfl, ⟨j + 1, m, by simp, hj, Fa, hk⟩, hmeas⟩
   | false =>
    rw [hp] at hk
    simp only [Bool.false_eq_true, if_false] at hk
    cases hm : l[j].mks.m with
    | true =>
     rw [hm] at hk
     simp only [if_true] at hk
     simp (disch := omega) only [↓sxA, ↓wk_store, sxB, sxP, simprocAttr, hb5, hm]
     exact ⟨_, rfl, ⟨j + 1, (j : Int), by simp, hj, Fa, hk⟩, hmeas⟩
    | false =>
     rw [hm] at hk
     simp only [Bool.false_eq_true, if_false] at hk
     cases hs : (clAt cs j).set with
     | true =>
      rw [hs] at hk t6
      simp only [if_true] at hk
      simp (disch := omega) only [↓sxA, ↓wk_store, sxB, sxP, simprocAttr, hb5, hm, r1, ↓t2, ↓t6]
      exact ⟨_, rfl, ⟨j + 1, m, by simp, hj, Fa, hk⟩, hmeas⟩
     | false =>
      rw [hs] at hk t6
      simp only [Bool.false_eq_true, if_false] at hk
      simp (disch := omega) only [↓sxA, ↓wk_store, sxB, sxP, simprocAttr, hb5, hm, r1, ↓t2, ↓t6]
      rw [hk]
      exact h _ Fa
  ·have e : l.drop j = [] := List.drop_eq_nil_of_le (by omega)
   have e2 : cs.drop j = [] := List.drop_eq_nil_of_le (by omega)
   rw [e, e2] at hk
   simp only [openL] at hk
   rw [← hk] at h
   simp (disch := omega) only [↓sxA, ↓wk_store, sxB, sxP, simprocAttr]
   exact h _ F
end
end Go.Proofs.YtdmemibnphcedaaGreatDoor
end
section
set_option linter.unusedSimpArgs false
set_option linter.unusedVariables false
set_option maxRecDepth 10000
set_option linter.unusedSectionVars false
namespace Go.Proofs.YtdmemibnphcedaaGreatDoor
open Go.Am
attribute [local irreducible] callO wopK ropK popK opK grpsE listE sx Runs

theorem Frm.err {st s : St} (h : Frm st s) (h0 : 2 < st.next) (hm : hasErr st = true) : hasErr s = true := by
 unfold hasErr at hm ⊢
 rw [h.old _ h0]
 exact hm

theorem AgR.okv {ok : Nat → Prop} {g : Bool} {st : St} {v : Value} {ns : List ByteArray} {cs : List Cl} (h : AgR ok g st v ns cs) : (ow v = 0 ∨ ok (ow v)) ∧ ow v ≤ st.next := by
 obtain ⟨es, vf, h1, h2, h3, _⟩ := h
 exact ⟨h2, h3⟩

theorem GroK.ceq {esz n : Nat} {st : St} {v : Value} {cs : List Value} (h : GroK esz st v cs n) : cellEq v v = true := by
 rcases h with ⟨h1, _⟩ | ⟨b, cap, h1, _⟩ <;> subst h1 <;> exact one_eqSlice _ _ _
theorem AgR.ceq {ok : Nat → Prop} {g : Bool} {st : St} {v : Value} {ns : List ByteArray} {cs : List Cl} (h : AgR ok g st v ns cs) : cellEq v v = true := by
 obtain ⟨es, vf, h1, _⟩ := h
 exact h1.ceq
/-- a cell is read again, and is as it was -/
theorem again {st : St} {b o : Nat} {v : Value} (hl : ∀ K : Value → Prop, ropK .load1 [.pointer (some ⟨b, o, none⟩)] st K = K v) (hc : cellEq v v = true) (W : Prop) : (getK (st.get b) fun ob => rowK ob fun cs _ _ => nthK cs o fun u => cellEq u v = true ∧ W) = W := by
 have := hl fun u => cellEq u v = true ∧ W
 rw [rk_load1] at this
 rw [this, hc]
 simp

/-- a number that is none -/
def BadNum (l : List IM) (cs : List Cl) : Prop := ∃ k v, k < l.length ∧ (mkAt l k).n = true ∧ v ∈ (clAt cs k).vals ∧ numA v.data.toList = none
def numOk (x : Mk) (s : ByteArray) : Bool := !x.n || (numA s.data.toList).isSome

section
variable {st : St} {K : Value → St → Prop}
theorem kNumber (n : Nat) (s : ByteArray) (hs : s.size ≤ 1000000) (he : hasErr st = true) (h : K (numVal (numA s.data.toList)) st) : callK (callO T0 orc fns 100000 n) 24 [.string s] st K := by
 rw [callO_none (by rfl)]
 have e : orc 24 [.string s] st = .ret (numVal (numA s.data.toList), st) := by
  rw [orc_eq (by decide)]
  simp [orc1, hs, numK, he]
 exact (propext (callK_ret (K := K) e)).mpr h
theorem kTrimR (n : Nat) (s : ByteArray) (hs : s.size ≤ 4294967280) (h : K (.string (bs (trimE s.data.toList))) st) : callK (callO T0 orc fns 100000 n) 97 [.string s, .string ⟨#[32]⟩] st K := by
 rw [callO_none (by rfl)]
 have e : orc 97 [.string s, .string ⟨#[32]⟩] st = .ret (.string (bs (trimE s.data.toList)), st) := by
  rw [orc_eq (by decide)]
  simp [orc1, hs]
  rfl
 exact (propext (callK_ret (K := K) e)).mpr h

theorem mkAt_lt {l : List IM} {k : Nat} (h : k < l.length) : mkAt l k = l[k].mks := by
 rw [mkAt, List.getD_eq_getElem?_getD, List.getElem?_eq_getElem h, Option.getD_some]
theorem numVal_some (v : Int) : numVal (some v) = .tuple #[.int .i64 v, .int .i64 0] := rfl
theorem numVal_none : numVal none = .tuple #[.int .i64 0, .int .i64 250] := rfl

set_option maxHeartbeats 2000000 in
theorem kGive (n : Nat) {s0 : St} {bf p k : Nat} {lv : Value} {s : ByteArray} {l : List IM} {cs : List Cl} (w : ByteArray) (hF : FtR s0 st bf lv s l p cs) (hk : k < l.length) (hw : w.size ≤ 1000000) (h2 : 2 < s0.next) (he : hasErr s0 = true) (hvl : (clAt cs k).vals.length ≤ 90000)
  (h0 : ((clAt cs k).set = true ∧ (mkAt l k).m = false) ∨ numOk (mkAt l k) w = false → ∀ st', Frm s0 st' → K (.bool false) st')
  (h1 : ¬ ((clAt cs k).set = true ∧ (mkAt l k).m = false) → numOk (mkAt l k) w = true → ∀ st', FtR s0 st' bf lv s l p (upd' cs k (Cl.push w)) → K (.bool true) st') :
  callK (callO T0 orc fns 100000 (n + 1)) 61 [.pointer (some ⟨bf, 0, none⟩), .int .i64 (k : Nat), .string w] st K := by
 refine fn_runs (fn := g61) ?_ ?_ ?_
 ·rfl
 ·rfl
 unfold g61
 rw [mkAt_lt hk] at h0 h1
 obtain ⟨ov0, nv0, hbx0⟩ := hF.box
 obtain ⟨bb, nv, a1, a2, a3, a4, a5, a6, a7⟩ := hF.its.at hk
 obtain ⟨s4, st7, hb4, n4, F4⟩ := itBox st l[k].mks a5
 have hF4 := hF.keep F4
 have hcl := hF.len
 obtain ⟨ov, bn, g, q1, q2, q3, q4, q5, q6⟩ := hF4.body
 have hbx : s4.get bf = some (.row [lv, .string s, .int .i64 (p : Nat), ov, .slice (some ⟨bn, 0, none⟩) l.length l.length] 0 false) := q1
 obtain ⟨b, vv0, o1, o2, o3, o4, o5, o6, o7, o8, o9⟩ := q2.at (j := k) (by omega)
 obtain ⟨okv, onx⟩ := q2.okv
 have okb : s0.next + 1 ≤ b + 1 ∧ b + 1 ≠ bf + 1 ∧ b + 1 ≠ bn + 1 := by
  rcases okv with e | e
  ·omega
  ·rw [o1] at e; exact e
 have e4 := hF4.frm.err h2 he
 have hF4f := hF4.frm
 obtain ⟨s5, st1, q25, n5, f5⟩ := q2.put_set (j := k) (by omega) (fun c => ⟨c.vals, true, c.nm⟩) (fun c => ⟨rfl, rfl⟩) o1
 have hbx5 : s5.get bf = some (.row [lv, .string s, .int .i64 (p : Nat), ov, .slice (some ⟨bn, 0, none⟩) l.length l.length] 0 false) := (f5 _ (by omega)).trans hbx
 obtain ⟨b', vv, y1, y2, y3, y4, y5, y6, y7, y8, y9⟩ := q25.at (j := k) (by rw [upd_len]; omega)
 obtain rfl : b' = b := by omega
 have hn5 : s5.next = st.next + 1 := by omega
 obtain ⟨s6, hs6⟩ : ∃ s6, s6 = s5.new (.row [.string w] 0 false) := ⟨_, rfl⟩
 have n6 : s6.next = s5.next + 1 := by rw [hs6]; rfl
 have f6 : ∀ i, i < s5.next → s6.get i = s5.get i := fun i hi => by rw [hs6]; exact get_new_ne _ _ _ (by omega)
 have hbf := hF4.bf2
 have hbf1 := hF4.bf1
 have hbb : b' < s5.next := by omega
 have hbx6 : s6.get bf = some (.row [lv, .string s, .int .i64 (p : Nat), ov, .slice (some ⟨bn, 0, none⟩) l.length l.length] 0 false) := (f6 _ (by omega)).trans hbx5
 have q26 := q25.keep (st' := s6) (by omega) fun i _ hi => f6 i hi
 have ld6 : ∀ K : Value → Prop, ropK .load1 [.pointer (some ⟨b', k * 3 + 1, none⟩)] s6 K = K vv := fun K => by
  rw [rk_load1, f6 _ hbb, ← rk_load1]; exact y5 K
 have hsb : s6.get s5.next = some (.row [.string w] 0 false) := by rw [hs6]; exact get_new_same _ _
 have hvals : (clAt (upd' cs k fun c => ⟨c.vals, true, c.nm⟩) k).vals = (clAt cs k).vals := by rw [upd_same _ _ _ (by omega)]
 rw [hvals] at y7
 -- the value is laid on
 have app : ∀ (W : Value → St → Prop), (∀ v' s7 s8, (∀ W' : Value → St → Prop, wopK (.store 1) [.pointer (some ⟨b', k * 3 + 1, none⟩), v'] s7 W' = W' undef s8) → s7.get bf = some (.row [lv, .string s, .int .i64 (p : Nat), ov, .slice (some ⟨bn, 0, none⟩) l.length l.length] 0 false) → FtR s0 s8 bf lv s l p (upd' cs k (Cl.push w)) → W v' s7) →
   wopK (.append 1 16) [vv, .slice (some ⟨s5.next, 0, none⟩) 1 1] s6 W := fun W hW => by
  refine appendK ((y7.2.2 rfl).keep fun i hi => f6 i (by omega)) hsb rfl (by decide) rfl (by omega) (by omega) fun s7 k1 k2 k3 => ?_
  have ok8 : ow vv = 0 ∨ (s0.next + 1 ≤ ow vv ∧ ow vv ≠ bf + 1 ∧ ow vv ≠ bn + 1) := y8.imp id fun h => h.1
  have hvl7 : VlR true s7 (.slice (some ⟨s6.next, 0, none⟩) ((clAt cs k).vals.length + 1) ((clAt cs k).vals.length + 1)) ((clAt cs k).vals ++ [w]) := by
   refine GroK.vl ?_
   rw [List.map_append, List.length_append]
   exact k1
  obtain ⟨s8, z1, z2, z3, z4⟩ := q26.put_vals (j := k) (by rw [upd_len]; omega) (fun c => ⟨(clAt cs k).vals ++ [w], c.set, c.nm⟩) (fun c => ⟨rfl, rfl⟩) o1 (fun h => h) (by omega) ld6 k3 hvl7 (by show s0.next + 1 ≤ s6.next + 1 ∧ s6.next + 1 ≠ bf + 1 ∧ s6.next + 1 ≠ bn + 1; omega) (by show s6.next < s6.next + 1; omega) (by show s6.next + 1 ≤ s7.next; omega)
  have fr7 : ∀ i, i + 1 ≠ ow vv → i < s5.next → s7.get i = s5.get i := fun i hi hl => (k3 i hi (by omega)).trans (f6 i hl)
  have fr8 : ∀ i, i + 1 ≠ ow vv → i ≠ b' → i < s5.next → s8.get i = s4.get i := fun i h1 h2 h3 => (z4 i h2).trans ((fr7 i h1 h3).trans (f5 i h2))
  refine hW _ s7 s8 z1 ((fr7 _ (by omega) (by omega)).trans hbx5) ⟨⟨by have := hF4f.nx; omega, fun i hi => (fr8 i (by omega) (by omega) (by have := hF4f.nx; omega)).trans (hF4f.old i hi)⟩, hbf1, by omega, hF.items, by rw [upd_len]; exact hcl, ov, bn, g, (fr8 _ (by omega) (by omega) (by omega)).trans hbx, ?_, ?_, q4, by omega, q6⟩
  ·rw [upd_upd _ _ _ _ (by omega)] at z2
   have e : upd' cs k (fun c => (⟨(clAt cs k).vals ++ [w], true, c.nm⟩ : Cl)) = upd' cs k (Cl.push w) := rfl
   exact z2
  ·have : (upd' cs k (Cl.push w)).map (fun c => Value.bool c.nm) = cs.map (fun c => Value.bool c.nm) := by
    unfold upd'
    rw [List.map_set]
    refine List.ext_getElem? fun i => ?_
    by_cases e : k = i
    ·subst e
     rw [List.getElem?_set_self (by rw [List.length_map]; omega), List.getElem?_map, List.getElem?_eq_getElem (by omega)]
     simp [Cl.push, clAt, List.getD_eq_getElem?_getD, List.getElem?_eq_getElem (show k < cs.length by omega)]
    ·rw [List.getElem?_set_ne e]
   rw [this]
   exact (fr8 _ (by omega) (by omega) (by omega)).trans q3
 have hce := q2.ceq
 have hs1 := again y5 (y7.2.2 rfl).ceq
 subst hs6
 have bad : ∀ st', numOk l[k].mks w = false → Frm s0 st' → K (.bool false) st' := fun st' hn hf => h0 (.inr hn) st' hf
 by_cases hA : (clAt cs k).set = true ∧ l[k].mks.m = false
 ·obtain ⟨hs, hm⟩ := hA
  rw [hs] at o6
  rw [hm] at hb4
  simp (disch := omega) only [↓sxA, ↓wk_store, sxB, sxP, simprocAttr, hbx0, ↓a1, ↓a2, ↓st7, hbx, ↓o2, ↓o6, hb4]
  exact h0 (.inl ⟨hs, hm⟩) _ hF4f
 have hB : (clAt cs k).set = false ∨ ((clAt cs k).set = true ∧ l[k].mks.m = true) := by
  cases hs : (clAt cs k).set with
  | false => exact .inl rfl
  | true =>
   cases hm : l[k].mks.m with
   | true => exact .inr ⟨rfl, rfl⟩
   | false => exact (hA ⟨hs, hm⟩).elim
 rcases hB with hs | ⟨hs, hm⟩
 all_goals
  rw [hs] at o6
  try rw [hm] at hb4
  simp (disch := omega) only [↓sxA, ↓wk_store, sxB, sxP, simprocAttr, hbx0, ↓a1, ↓a2, ↓st7, hbx, ↓o2, ↓o6, hb4]
  refine kNumber n w hw e4 ?_
  have good : numOk l[k].mks w = true → ∀ st', FtR s0 st' bf lv s l p (upd' cs k (Cl.push w)) → K (.bool true) st' := fun hn st' hf => h1 hA hn st' hf
  unfold numOk at good bad
  cases hnum : numA w.data.toList with
  | some v =>
   rw [numVal_some]
   rw [hnum] at good
   simp only [Option.isSome_some, Bool.or_true, forall_const] at good
   cases hn : l[k].mks.n
   all_goals
    rw [hn] at hb4
    simp (disch := omega) only [↓sxA, ↓wk_store, sxB, sxP, simprocAttr, hbx, hb4, ↓o2, ↓st1, hbx5, ↓y2, ↓y5, hbx6, ↓ld6]
    refine ⟨hce, hce, (hs1 _).mpr ?_⟩
    simp (disch := omega) only [↓sxA, ↓wk_store, sxB, sxP, simprocAttr]
    refine app _ fun v' s7 s8 z1 z2 z3 => ?_
    simp (disch := omega) only [↓sxA, ↓wk_store, sxB, sxP, simprocAttr, ↓z1, z2, hce, ↓o2]
    exact good _ z3
  | none =>
   rw [numVal_none]
   rw [hnum] at good bad
   simp only [Option.isSome_none, Bool.or_false] at good bad
   cases hn : l[k].mks.n with
   | true =>
    rw [hn] at hb4 bad
    simp (disch := omega) only [↓sxA, ↓wk_store, sxB, sxP, simprocAttr, hbx, hb4]
    exact bad _ rfl hF4f
   | false =>
    rw [hn] at hb4 good
    simp (disch := omega) only [↓sxA, ↓wk_store, sxB, sxP, simprocAttr, hbx, hb4, ↓o2, ↓st1, hbx5, ↓y2, ↓y5, hbx6, ↓ld6]
    refine ⟨hce, hce, (hs1 _).mpr ?_⟩
    simp (disch := omega) only [↓sxA, ↓wk_store, sxB, sxP, simprocAttr]
    refine app _ fun v' s7 s8 z1 z2 z3 => ?_
    simp (disch := omega) only [↓sxA, ↓wk_store, sxB, sxP, simprocAttr, ↓z1, z2, hce, ↓o2]
    exact good rfl _ z3

theorem FtR.move {s0 s1 : St} {bf p p' : Nat} {lv ov nv : Value} {s : ByteArray} {l : List IM} {cs : List Cl} (hF : FtR s0 s1 bf lv s l p cs) (hb : s1.get bf = some (.row [lv, .string s, .int .i64 (p : Nat), ov, nv] 0 false)) : FtR s0 (s1.put bf (some (.row [lv, .string s, .int .i64 (p' : Nat), ov, nv] 0 false))) bf lv s l p' cs := by
 obtain ⟨ov', bn, g, b1, b2, b3, b4, b5, b6⟩ := hF.body
 rw [b1] at hb
 cases hb
 refine ⟨hF.frm.put _ hF.bf1 _, hF.bf1, hF.bf2, hF.items, hF.len, ov, bn, g, get_put_same _ _ _, b2.keep (Nat.le_refl _) fun i hi _ => get_put_ne _ _ _ _ (by omega), (get_put_ne _ _ _ _ (Ne.symm b6)).trans b3, b4, b5, b6⟩

theorem push_one {cs : List Cl} {k : Nat} {w : ByteArray} (h : (clAt cs k).vals = []) : upd' cs k (Cl.push w) = upd' cs k (Cl.one w) := by
 unfold upd' Cl.push Cl.one
 rw [h]
 rfl

theorem trimE_le (l : List UInt8) : (trimE l).length ≤ l.length := by
 unfold trimE
 rw [List.length_reverse]
 have := (List.dropWhile_sublist (· == (32 : UInt8)) (l := l.reverse)).length_le
 rw [List.length_reverse] at this
 exact this

set_option maxHeartbeats 2000000 in
theorem kRest (n : Nat) {s0 : St} {bf p k q : Nat} {lv : Value} {s : ByteArray} {l : List IM} {cs : List Cl} (hF : FtR s0 st bf lv s l p cs) (hk : k < l.length) (hs : s.size ≤ 90000) (hq : q ≤ s.size) (h2 : 2 < s0.next) (he : hasErr s0 = true) (hi : (clAt cs k).set = false → (clAt cs k).vals = []) (hvl : (clAt cs k).vals.length ≤ 90000)
  (hfn : (mkAt l k).n = false) (hfm : (mkAt l k).m = false)
  (h0 : trimE (s.data.toList.drop q) = [] ∨ (clAt cs k).set = true → ∀ st', Frm s0 st' → K (.bool false) st')
  (h1 : trimE (s.data.toList.drop q) ≠ [] → (clAt cs k).set = false → ∀ st', FtR s0 st' bf lv s l s.size (upd' cs k (Cl.one (bs (trimE (s.data.toList.drop q))))) → K (.bool true) st') :
  callK (callO T0 orc fns 100000 (n + 2)) 59 [.pointer (some ⟨bf, 0, none⟩), .int .i64 (k : Nat), .int .i64 (q : Nat)] st K := by
 refine fn_runs (fn := g59) ?_ ?_ ?_
 ·rfl
 ·rfl
 unfold g59
 obtain ⟨ov, nv, hbx⟩ := hF.box
 have hsz := size_list s
 have hext : s.extract q s.size = bs (s.data.toList.drop q) := by
  rw [extract_bs, List.take_of_length_le (by rw [List.length_drop]; omega)]
 have hbsz : (bs (s.data.toList.drop q)).size ≤ 90000 := by rw [bs_size, List.length_drop]; omega
 have hT : (bs (trimE (s.data.toList.drop q))).size ≤ 1000000 := by
  have := trimE_le (s.data.toList.drop q)
  rw [bs_size]
  rw [List.length_drop] at this
  omega
 have hmv := hF.move (p' := s.size) hbx
 simp (disch := omega) only [↓sxA, ↓wk_store, sxB, sxP, simprocAttr, hbx, Int.toNat_natCast]
 try rw [hext]
 refine ⟨⟨by omega, by omega⟩, ?_⟩
 refine kTrimR (n + 1) (bs (s.data.toList.drop q)) (by omega) ?_
 rw [bs_list]
 generalize trimE (s.data.toList.drop q) = T at h0 h1 hT
 by_cases hT0 : T = []
 ·have e1 : (bs T = ByteArray.empty) = True := eq_true (bs_eq_empty.2 hT0)
  simp (disch := omega) only [↓sxA, ↓wk_store, sxB, sxP, simprocAttr, hbx, e1]
  exact h0 (.inl hT0) _ hmv.frm
 ·have e1 : (bs T = ByteArray.empty) = False := eq_false fun e => hT0 (bs_eq_empty.1 e)
  simp (disch := omega) only [↓sxA, ↓wk_store, sxB, sxP, simprocAttr, hbx, e1]
  refine kGive n (bs T) hmv hk hT h2 he hvl (fun hc st' hf => ?_) (fun hc hn st' hf => ?_)
  ·simp (disch := omega) only [↓sxA, ↓wk_store, sxB, sxP, simprocAttr]
   rcases hc with hc | hc
   ·exact h0 (.inr hc.1) _ hf
   ·rw [numOk, hfn] at hc
    cases hc
  ·simp (disch := omega) only [↓sxA, ↓wk_store, sxB, sxP, simprocAttr]
   have hset : (clAt cs k).set = false := by
    cases hh : (clAt cs k).set with
    | false => rfl
    | true => exact (hc ⟨hh, hfm⟩).elim
   rw [push_one (hi hset)] at hf
   exact h1 hT0 hset _ hf
end
end Go.Proofs.YtdmemibnphcedaaGreatDoor
end
section
set_option linter.unusedSimpArgs false
set_option linter.unusedVariables false
set_option maxRecDepth 10000
set_option linter.unusedSectionVars false
namespace Go.Proofs.YtdmemibnphcedaaGreatDoor
open Go.Am
attribute [local irreducible] callO wopK ropK popK opK grpsE listE sx Runs

def Cl.nam (c : Cl) : Cl := ⟨c.vals, c.set, true⟩
def Cl.put (c : Cl) : Cl := ⟨c.vals, true, c.nm⟩

theorem map_upd (cs : List Cl) (k : Nat) (f : Cl → Cl) (hk : k < cs.length) : (upd' cs k f).map (fun c => Value.bool c.nm) = (cs.map fun c => Value.bool c.nm).set k (.bool (f (clAt cs k)).nm) := by
 unfold upd'
 rw [List.map_set]
theorem map_at (cs : List Cl) (k : Nat) (hk : k < cs.length) : (cs.map fun c => Value.bool c.nm)[k]? = some (.bool (clAt cs k).nm) := by
 rw [List.getElem?_map, List.getElem?_eq_getElem hk]
 simp [clAt, List.getD_eq_getElem?_getD, List.getElem?_eq_getElem hk]

section
variable {s0 st : St} {bf p k : Nat} {lv : Value} {s : ByteArray} {l : List IM} {cs : List Cl}
/-- what may be read of the fitter, and how an item is named, and set -/
theorem FtR.open (hF : FtR s0 st bf lv s l p cs) (hk : k < l.length) : ∃ ov bn b s1 s2, st.get bf = some (.row [lv, .string s, .int .i64 (p : Nat), ov, .slice (some ⟨bn, 0, none⟩) l.length l.length] 0 false) ∧
  (∀ K : Value → Prop, popK (.indexAddr 1) [.slice (some ⟨bn, 0, none⟩) l.length l.length, .int .i64 (k : Int)] K = K (.pointer (some ⟨bn, k, none⟩))) ∧ (∀ K : Value → Prop, ropK .load1 [.pointer (some ⟨bn, k, none⟩)] st K = K (.bool (clAt cs k).nm)) ∧
  (∀ K : Value → Prop, popK (.indexAddr 3) [ov, .int .i64 (k : Int)] K = K (.pointer (some ⟨b, k * 3, none⟩))) ∧ (∀ K : Value → Prop, ropK .load1 [.pointer (some ⟨b, k * 3 + 2, none⟩)] st K = K (.bool (clAt cs k).set)) ∧
  (∀ W : Value → St → Prop, wopK (.store 1) [.pointer (some ⟨bn, k, none⟩), .bool true] st W = W undef s1) ∧ FtR s0 s1 bf lv s l p (upd' cs k Cl.nam) ∧ s1.next = st.next ∧ (∀ i, i ≠ bn → s1.get i = st.get i) ∧ s0.next ≤ bn ∧ bn < st.next ∧ bn ≠ bf ∧
  (∀ W : Value → St → Prop, wopK (.store 1) [.pointer (some ⟨b, k * 3 + 2, none⟩), .bool true] st W = W undef s2) ∧ FtR s0 s2 bf lv s l p (upd' cs k Cl.put) := by
 obtain ⟨ov, bn, g, q1, q2, q3, q4, q5, q6⟩ := hF.body
 have hcl := hF.len
 obtain ⟨b, vv, o1, o2, o3, o4, o5, o6, o7, o8, o9⟩ := q2.at (j := k) (by omega)
 obtain ⟨s2, z1, z2, z3, z4⟩ := q2.put_set (j := k) (by omega) Cl.put (fun c => ⟨rfl, rfl⟩) o1
 obtain ⟨okv, onx⟩ := q2.okv
 have okb : s0.next + 1 ≤ b + 1 ∧ b + 1 ≠ bf + 1 ∧ b + 1 ≠ bn + 1 := by
  rcases okv with e | e
  ·omega
  ·rw [o1] at e; exact e
 have hl : k < (cs.map fun c => Value.bool c.nm).length := by rw [List.length_map]; omega
 have hF2 := hF.bf2
 have hF1 := hF.bf1
 have hfx := hF.frm.nx
 refine ⟨ov, bn, b, st.put bn (some (.row (lputs (cs.map fun c => Value.bool c.nm) k [.bool true]) g false)), s2, q1, fun K => ?_, fun K => ?_, o2, o6, fun W => ?_, ?_, rfl, fun i hi => get_put_ne _ _ _ _ (Ne.symm hi), q4, q5, q6, z1, ?_⟩
 ·rw [pk_indexAddr]
  have e : (0 : Nat) + (k : Int).toNat * 1 = k := by omega
  rw [e]
  exact propext ⟨fun h => h.2, fun h => ⟨⟨by omega, by omega⟩, h⟩⟩
 ·rw [rk_load1, q3]
  simp only [getK, rowK]
  exact nthK_at (map_at cs k (by omega)) K
 ·rw [wk_store, q3]
  simp only [getK, rowK]
  exact propext ⟨fun h => h.2.2, fun h => ⟨rfl, ⟨by first | trivial | rfl, by omega, by rfl⟩, h⟩⟩
 ·refine ⟨hF.frm.put _ q4 _, hF1, hF2, hF.items, by rw [upd_len]; exact hcl, ov, bn, g, (get_put_ne _ _ _ _ q6).trans q1, ?_, ?_, q4, q5, q6⟩
  ·have h := q2.keep (st' := st.put bn (some (.row (lputs (cs.map fun c => Value.bool c.nm) k [.bool true]) g false))) (Nat.le_refl _) fun i hi _ => get_put_ne _ _ _ _ (by omega)
   obtain ⟨es, vf, h1, h2, h3, h4, h5⟩ := h
   refine ⟨es, vf, by rw [upd_len]; exact h1, h2, h3, fun j hj => ?_, fun j hj => ?_⟩
   ·rw [upd_len] at hj
    obtain ⟨a1, a2, a3⟩ := h4 j hj
    refine ⟨a1, a2, ?_⟩
    by_cases e : k = j
    ·subst e; rw [upd_same _ _ _ hj]; exact a3
    ·rw [upd_ne _ _ _ _ e]; exact a3
   ·rw [upd_len] at hj ⊢
    have e : (clAt (upd' cs k Cl.nam) j).vals = (clAt cs j).vals := by
     by_cases e : k = j
     ·subst e; rw [upd_same _ _ _ hj]; rfl
     ·rw [upd_ne _ _ _ _ e]
    rw [e]
    exact h5 j hj
  ·rw [map_upd _ _ _ (by omega), get_put_same]
   congr 2
   refine List.ext_getElem? fun i => ?_
   rw [lput1_get _ _ _ hl]
   by_cases e : i = k
   ·subst e; rw [if_pos rfl, List.getElem?_set_self hl]; rfl
   ·rw [if_neg e, List.getElem?_set_ne (Ne.symm e)]
 ·have hov : ∀ i, i ≠ b → s2.get i = st.get i := z4
  refine ⟨⟨by omega, fun i hi => (hov i (by omega)).trans (hF.frm.old i hi)⟩, hF1, by omega, hF.items, by rw [upd_len]; exact hcl, ov, bn, g, (hov _ (by omega)).trans q1, z2, ?_, q4, by omega, q6⟩
  rw [hov _ (by omega), q3, map_upd _ _ _ (by omega)]
  congr 2
  refine List.ext_getElem? fun i => ?_
  by_cases e : k = i
  ·subst e; rw [List.getElem?_set_self hl, map_at cs k (by omega)]; rfl
  ·rw [List.getElem?_set_ne e]
end

theorem wdBox (s : St) (a b c : Value) (ha : oneCell a = true) (hb : oneCell b = true) (hc : oneCell c = true) : ∃ s4, (∀ W : Value → St → Prop, wopK (.store 3) [.pointer (some ⟨s.next, 0, none⟩), .agg #[a, b, c]] (s.new (.row [.string .empty, .int .i64 0, .bool false] 0 false)) W = W undef s4) ∧ s4.get s.next = some (.row [a, b, c] 0 false) ∧ s4.next = s.next + 1 ∧ Frm s s4 :=
 ⟨(s.new (.row [.string .empty, .int .i64 0, .bool false] 0 false)).put s.next (some (.row [a, b, c] 0 false)), fun W => wk_storeK (W := W) (get_new_same s (.row [.string .empty, .int .i64 0, .bool false] 0 false)) (o := 0) (k := 3) (xs := [a, b, c]) (by decide) rfl (by simp [ha, hb, hc]), get_put_same _ _ _, rfl, (Frm.new s _).put _ (Nat.le_refl _) _⟩

/-- what a step of the program comes to -/
def StP (s0 : St) (bf : Nat) (lv : Value) (s : ByteArray) (l : List IM) (cs0 : List Cl) (r : Stp) (b : Bool) (st : St) : Prop := match r with
 | .done none => b = false ∧ Frm s0 st
 | .done (some cs) => b = true ∧ FtR s0 st bf lv s l s.size cs ∧ (BadNum l cs → BadNum l cs0)
 | .go p cs => (b = true ∧ FtR s0 st bf lv s l p cs ∧ (BadNum l cs → BadNum l cs0)) ∨ (b = false ∧ Frm s0 st ∧ BadNum l cs)
theorem badKeep {l : List IM} {cs : List Cl} {k : Nat} {f : Cl → Cl} (hf : ∀ v, v ∈ (f (clAt cs k)).vals → v ∈ (clAt cs k).vals ∨ numOk (mkAt l k) v = true) (h : BadNum l (upd' cs k f)) : BadNum l cs := by
 obtain ⟨k', v, h1, h2, h3, h4⟩ := h
 by_cases e : k = k'
 ·subst e
  by_cases hk : k < cs.length
  ·rw [upd_same _ _ _ hk] at h3
   rcases hf v h3 with h | h
   ·exact ⟨k, v, h1, h2, h, h4⟩
   ·unfold numOk at h
    rw [h2, h4] at h
    cases h
  ·have : upd' cs k f = cs := List.set_eq_of_length_le (by omega)
   rw [this] at h3
   exact ⟨k, v, h1, h2, h3, h4⟩
 ·rw [upd_ne _ _ _ _ e] at h3
  exact ⟨k', v, h1, h2, h3, h4⟩
theorem numOk_no {x : Mk} {v : ByteArray} (h : x.n = false) : numOk x v = true := by unfold numOk; rw [h]; rfl

/-- the marks of each item go together -/
def FitL (l : List IM) : Prop := ∀ k, (mkAt l k).fit = true
theorem fit_rest {x : Mk} (h : x.fit = true) (hf : x.f = true) : x.n = false ∧ x.m = false ∧ x.s = false ∧ x.k = false := by
 obtain ⟨a, k, s, n, m, f⟩ := x
 revert h hf a k s n m f
 decide
theorem fit_switch {x : Mk} (h : x.fit = true) (hf : x.s = true) : x.n = false ∧ x.m = false ∧ x.f = false := by
 obtain ⟨a, k, s, n, m, f⟩ := x
 revert h hf a k s n m f
 decide

theorem rest_all {L : List UInt8} (hr : L.all prn = true) (q : Nat) : (L.drop q).all prn = true := by
 rw [List.all_eq_true] at hr ⊢
 exact fun x hx => hr x (List.mem_of_mem_drop hx)

/-- a value that is laid on, and is no number -/
theorem badNum {l : List IM} {cs : List Cl} {k : Nat} {w : ByteArray} (hk : k < l.length) (hc : cs.length = l.length) (f : Cl → Cl) (hf : w ∈ (f (clAt cs k)).vals) (h : numOk (mkAt l k) w = false) : BadNum l (upd' cs k f) := by
 unfold numOk at h
 simp only [Bool.or_eq_false_iff, Bool.not_eq_false', Option.isSome_eq_false_iff, Option.isNone_iff_eq_none] at h
 exact ⟨k, w, hk, h.1, by rw [upd_same _ _ _ (by omega)]; exact hf, h.2⟩

theorem sign_iff (w : List UInt8) (q : Bool) : (decide (bs w = ⟨#[61]⟩) && !q) = true ↔ (q = false ∧ w = [61]) := by
 simp only [Bool.and_eq_true, decide_eq_true_eq, Bool.not_eq_true']
 constructor
 ·rintro ⟨h1, h2⟩; exact ⟨h2, bs_inj h1⟩
 ·rintro ⟨h1, h2⟩; exact ⟨by rw [h2]; rfl, h1⟩
end Go.Proofs.YtdmemibnphcedaaGreatDoor
end
section
set_option linter.unusedSimpArgs false
set_option linter.unusedVariables false
set_option maxRecDepth 10000
set_option linter.unusedSectionVars false
namespace Go.Proofs.YtdmemibnphcedaaGreatDoor
open Go.Am
attribute [local irreducible] callO wopK ropK popK opK grpsE listE sx Runs

section
variable {st : St} {K : Value → St → Prop}

/-- what stands behind a name: from the place q on -/
def namB (L : List UInt8) (l : List IM) (k q : Nat) (cs : List Cl) : Stp :=
 match nxt L q with
 | .fin => .done none
 | .bad fr => if (mkAt l k).f = true then restA L fr k cs else .done none
 | .wd s q' fr to => if (mkAt l k).f = true then restA L fr k cs else if q' = false ∧ s = [61] then .done none else .go to (upd' cs k (Cl.push (bs s)))

theorem namA_eq (L : List UInt8) (l : List IM) (k p : Nat) (cs : List Cl) (h1 : ¬ ((clAt cs k).nm = true ∨ ((clAt cs k).set = true ∧ (mkAt l k).m = false))) (h2 : (mkAt l k).s = false) : namA L l k p cs = namB L l k (eqA L p) (upd' cs k Cl.on) := by
 unfold namA namB
 rw [if_neg h1, if_neg (by rw [h2]; decide)]
 cases nxt L (eqA L p) <;> rfl
theorem quo_len : ∀ (l : List UInt8) (s : List UInt8) (k : Nat), quo l = some (s, k) → s.length ≤ l.length
 | [], s, k, h => by simp [quo] at h
 | [c], s, k, h => by
  simp only [quo] at h
  split at h
  ·cases h; simp
  ·cases h
 | c :: d :: r, s, k, h => by
  simp only [quo] at h
  split at h
  ·split at h
   ·cases h; simp
   ·cases h
  ·split at h
   ·cases h
   ·split at h
    ·simp only [Option.map_eq_some_iff] at h
     obtain ⟨⟨s', k'⟩, h1, h2⟩ := h
     cases h2
     have := quo_len r s' k' h1
     simp; omega
    ·split at h
     ·simp only [Option.map_eq_some_iff] at h
      obtain ⟨⟨s', k'⟩, h1, h2⟩ := h
      cases h2
      have := quo_len r s' k' h1
      simp; omega
     ·simp only [Option.map_eq_some_iff] at h
      obtain ⟨⟨s', k'⟩, h1, h2⟩ := h
      cases h2
      have := quo_len (d :: r) s' k' h1
      simp at this ⊢; omega
theorem nxt_len {L : List UInt8} {p : Nat} {w : List UInt8} {q : Bool} {fr to : Nat} (h : nxt L p = .wd w q fr to) : w.length ≤ L.length + 1 := by
 unfold nxt at h
 split at h
 ·cases h
 ·split at h
  ·cases h; simp
  ·split at h
   ·split at h
    ·rename_i x hx
     cases h
     have := quo_len _ x.1 x.2 hx
     rw [List.length_drop] at this
     omega
    ·cases h
   ·split at h
    ·cases h
     rw [List.length_take, List.length_drop]
     omega
    ·cases h
theorem namB_blk {L : List UInt8} {q : Nat} (hq : q ≤ L.length) (l : List IM) (k : Nat) (cs : List Cl) : namB L l k (blk L q) cs = namB L l k q cs := by
 unfold namB
 rw [nxt_blk hq]
theorem eq_blk {L : List UInt8} {p : Nat} (hp : p ≤ L.length) : blk L (eqA L p) = if L[blk L p]? = some 61 then blk L (blk L p + 1) else blk L p := by
 unfold eqA
 split <;> rfl

/-- the rest of a line, where all bytes are as they should be -/
theorem restA_eq {L : List UInt8} (hr : L.all prn = true) (q k : Nat) (cs : List Cl) : restA L q k cs = if trimE (L.drop q) = [] then .done none else .done (some (upd' cs k (Cl.one (bs (trimE (L.drop q)))))) := by
 unfold restA
 by_cases h : trimE (L.drop q) = []
 ·rw [if_pos h, if_neg (fun hh => hh.2 h)]
 ·rw [if_neg h, if_pos ⟨rest_all hr q, h⟩]

/-- behind the blanks and the sign -/
theorem namB_cases {L : List UInt8} {q : Nat} (hq : q ≤ L.length) (hb : blk L q = q) (l : List IM) (k : Nat) (cs : List Cl) (hf : (mkAt l k).f = true) (hr : L.all prn = true) : namB L l k q cs = restA L q k cs := by
 unfold namB
 cases hn : nxt L q with
 | fin =>
  have := (nxt_fin hq).1 hn
  rw [hb] at this
  rw [restA_eq hr, if_pos]
  rw [this, List.drop_length]
  rfl
 | bad fr =>
  simp only
  rw [if_pos hf, (nxt_bad hq hn).1, hb]
 | wd s q' fr to =>
  simp only
  rw [if_pos hf, (nxt_wd hq hn).1, hb]

set_option maxHeartbeats 4000000 in
theorem kName (n : Nat) {s0 : St} {bf p k : Nat} {lv : Value} {s : ByteArray} {l : List IM} {cs : List Cl} (hF : FtR s0 st bf lv s l p cs) (hk : k < l.length) (hs : s.size ≤ 80000) (hp : p ≤ s.size) (hr : s.data.toList.all prn = true) (h2 : 2 < s0.next) (he : hasErr s0 = true) (hi : Iv l cs) (hvl : (clAt cs k).vals.length ≤ 80000) (hfit : FitL l)
  (h : ∀ b st', StP s0 bf lv s l cs (namA s.data.toList l k p cs) b st' → K (.bool b) st') :
  callK (callO T0 orc fns 100000 (n + 3)) 57 [.pointer (some ⟨bf, 0, none⟩), .int .i64 (k : Nat)] st K := by
 refine fn_runs (fn := g57) ?_ ?_ ?_
 ·rfl
 ·rfl
 unfold g57
 have hsz := size_list s
 have hmk := mkAt_lt hk
 have hft := hfit k
 have hL : p ≤ s.data.toList.length := by omega
 obtain ⟨ov0, nv0, hbx0⟩ := hF.box
 obtain ⟨bb, nv, a1, a2, a3, a4, a5, a6, a7⟩ := hF.its.at hk
 obtain ⟨s4, st7, hb4, n4, F4⟩ := itBox st l[k].mks a5
 rw [← hmk] at hb4
 have hF4 := hF.keep F4
 obtain ⟨ov1, bn1, g1, c1, c2, c3, c4, c5, c6⟩ := hF.body
 obtain ⟨ov, bn, b, s5, s6, hbx, x1, x2, x3, x4, x5, hF5, n5, f5, y1, y2, y3, x6, hF6⟩ := hF4.open hk
 obtain rfl : bn = bn1 := by
  have := (F4.old bf hF.bf2).trans c1
  rw [hbx] at this
  simp only [Option.some.injEq, AObj.row.injEq, List.cons.injEq, Value.slice.injEq, Addr.mk.injEq] at this
  exact this.1.2.2.2.2.1.1.1
 have no : namA s.data.toList l k p cs = .done none → ∀ st', Frm s0 st' → K (.bool false) st' := fun hn st' hf => h false st' (by rw [hn]; exact ⟨rfl, hf⟩)
 cases hnm : (clAt cs k).nm with
 | true =>
  rw [hnm] at x2
  have hno : namA s.data.toList l k p cs = .done none := by unfold namA; rw [if_pos (.inl hnm)]
  simp (disch := omega) only [↓sxA, ↓wk_store, sxB, sxP, simprocAttr, hbx0, ↓a1, ↓a2, ↓st7, hbx, ↓x1, ↓x2]
  exact no hno _ hF4.frm
 | false =>
  rw [hnm] at x2
  cases hsw : (mkAt l k).s with
  | true =>
   obtain ⟨w1, w2, w3⟩ := fit_switch hft hsw
   rw [hsw] at hb4
   cases hset : (clAt cs k).set with
   | true =>
    rw [hset] at x4
    have hno : namA s.data.toList l k p cs = .done none := by unfold namA; rw [if_pos (.inr ⟨hset, w2⟩)]
    simp (disch := omega) only [↓sxA, ↓wk_store, sxB, sxP, simprocAttr, hbx0, ↓a1, ↓a2, ↓st7, hbx, ↓x1, ↓x2, hb4, ↓x3, ↓x4]
    exact no hno _ hF4.frm
   | false =>
    rw [hset] at x4
    have hgo : namA s.data.toList l k p cs = .go p (upd' cs k Cl.on) := by
     unfold namA
     rw [if_neg (by rw [hnm, hset]; simp), if_pos hsw]
    have hb5 := (f5 st.next (by omega)).trans hb4
    obtain ⟨ov', bn', b', s7, s8, hbx', x1', x2', x3', x4', x5', hF5', n5', f5', y1', y2', y3', x6', hF6'⟩ := hF5.open hk
    simp (disch := omega) only [↓sxA, ↓wk_store, sxB, sxP, simprocAttr, hbx0, ↓a1, ↓a2, ↓st7, hbx, ↓x1, ↓x2, hb4, ↓x3, ↓x4, ↓x5, hb5, hbx', ↓x3', ↓x6']
    refine h true _ ?_
    rw [hgo]
    refine .inl ⟨rfl, ?_, badKeep fun v hv => .inl hv⟩
    rw [upd_upd _ _ _ _ (by rw [hi.1]; exact hk)] at hF6'
    exact hF6'
  | false =>
   rw [hsw] at hb4
   have hb5 := (f5 st.next (by omega)).trans hb4
   have hbx5 := (f5 bf (Ne.symm y3)).trans hbx
   have e5 := hF5.frm.err h2 he
   simp (disch := omega) only [↓sxA, ↓wk_store, sxB, sxP, simprocAttr, hbx0, ↓a1, ↓a2, ↓st7, hbx, ↓x1, ↓x2, hb4, ↓x5, hb5, hbx5]
   refine kBlank (n + 1) s (by omega) p bf 0 false hp hbx5 ?_
   -- what follows is the same with a sign and without
   have hk1 : k < cs.length := by rw [hi.1]; exact hk
   have hc1 : clAt (upd' cs k Cl.nam) k = ⟨(clAt cs k).vals, (clAt cs k).set, true⟩ := upd_same _ _ _ hk1
   have ePush : ∀ w, upd' (upd' cs k Cl.nam) k (Cl.push w) = upd' (upd' cs k Cl.on) k (Cl.push w) := fun w => by rw [upd_upd _ _ _ _ hk1, upd_upd _ _ _ _ hk1]; rfl
   have eOne : ∀ w, upd' (upd' cs k Cl.nam) k (Cl.one w) = upd' (upd' cs k Cl.on) k (Cl.one w) := fun w => by rw [upd_upd _ _ _ _ hk1, upd_upd _ _ _ _ hk1]; rfl
   obtain ⟨e1, e2, e3⟩ := eqA_le (L := s.data.toList) hL
   have hqle := (blk_le e2).2
   have hqb := blk_blk (L := s.data.toList) e2
   have hA : ¬ ((clAt cs k).set = true ∧ (mkAt l k).m = false) → namA s.data.toList l k p cs = namB s.data.toList l k (blk s.data.toList (eqA s.data.toList p)) (upd' cs k Cl.on) := fun hh => by
    rw [namB_blk e2, namA_eq _ _ _ _ _ (by rw [hnm]; rintro (hh' | hh'); cases hh'; exact hh hh') hsw]
   have hB : ((clAt cs k).set = true ∧ (mkAt l k).m = false) → namA s.data.toList l k p cs = .done none := fun hh => by unfold namA; rw [if_pos (.inr hh)]
   have hE := eq_blk (L := s.data.toList) hL
   obtain ⟨bl1, bl2⟩ := blk_le hL
   have hcase : (∃ c, s.data.toList[blk s.data.toList p]? = some c ∧ s.data.toList.getD (blk s.data.toList p) 0 = c ∧ blk s.data.toList p < s.size ∧ (c.toNat : Int) = 61) ∨ (∃ c, s.data.toList[blk s.data.toList p]? = some c ∧ s.data.toList.getD (blk s.data.toList p) 0 = c ∧ blk s.data.toList p < s.size ∧ ¬ (c.toNat : Int) = 61) ∨ s.size ≤ blk s.data.toList p := by
    by_cases hlt : blk s.data.toList p < s.size
    ·obtain ⟨c, hc, hg, _⟩ := byte_at s _ hlt
     by_cases hc61 : (c.toNat : Int) = 61
     ·exact .inl ⟨c, hc, hg, hlt, hc61⟩
     ·exact .inr (.inl ⟨c, hc, hg, hlt, hc61⟩)
    ·exact .inr (.inr (by omega))
   rcases hcase with ⟨c, hc, hg, hlt, hc61⟩ | ⟨c, hc, hg, hlt, hc61⟩ | hge
   case' inl =>
    rw [if_pos (by rw [hc, u8_eq hc61]; rfl)] at hE
    have hq1 : ((c.toNat : Int) = 61) = True := eq_true hc61
    simp (disch := omega) only [↓sxA, ↓wk_store, sxB, sxP, simprocAttr, hbx5, q_indexStr, Int.toNat_natCast, hg, hq1]
    refine kBlank (n + 1) s (by omega) (blk s.data.toList p + 1) bf 0 false (by omega) hbx5 ?_
    rw [← hE]
   case' inr.inl =>
    rw [if_neg (by rw [hc]; intro e; cases e; exact hc61 rfl)] at hE
    have hq1 : ((c.toNat : Int) = 61) = False := eq_false hc61
    simp (disch := omega) only [↓sxA, ↓wk_store, sxB, sxP, simprocAttr, hbx5, q_indexStr, Int.toNat_natCast, hg, hq1]
   case' inr.inr =>
    rw [if_neg (by rw [byte_no s _ hge]; decide)] at hE
    simp (disch := omega) only [↓sxA, ↓wk_store, sxB, sxP, simprocAttr, hbx5]
   case' inr.inl => rw [← hE]
   case' inr.inr => rw [← hE]
   all_goals
    clear hE
    generalize blk s.data.toList (eqA s.data.toList p) = q at hqle hqb hA
    have hqs : q ≤ s.size := by omega
    cases hfR : (mkAt l k).f with
    | true =>
     obtain ⟨w1, w2, _, _⟩ := fit_rest hft hfR
     rw [hfR] at hb5
     simp (disch := omega) only [↓sxA, ↓wk_store, sxB, sxP, simprocAttr, hb5]
     refine kRest n hF5 hk (by omega) hqs h2 he (by rw [hc1]; exact hi.2 k) (by rw [hc1]; exact Nat.le_trans hvl (by decide)) w1 w2 (fun hh st' hf => ?_) (fun hT hs0 st' hf => ?_)
     ·simp (disch := omega) only [↓sxA, ↓wk_store, sxB, sxP, simprocAttr]
      refine no ?_ st' hf
      by_cases hX : (clAt cs k).set = true ∧ (mkAt l k).m = false
      ·exact hB hX
      ·rcases hh with hh | hh
       ·rw [hA hX, namB_cases hqle hqb l k _ hfR hr, restA_eq hr, if_pos hh]
       ·rw [hc1] at hh
        exact (hX ⟨hh, w2⟩).elim
     ·simp (disch := omega) only [↓sxA, ↓wk_store, sxB, sxP, simprocAttr]
      rw [hc1] at hs0
      have hs0' : (clAt cs k).set = false := hs0
      refine h true st' ?_
      rw [hA (by rw [hs0']; simp), namB_cases hqle hqb l k _ hfR hr, restA_eq hr, if_neg hT]
      exact ⟨rfl, by rw [← eOne]; exact hf, by rw [upd_upd _ _ _ _ hk1]; exact badKeep fun v hv => .inr (numOk_no w1)⟩
    | false =>
     rw [hfR] at hb5
     simp (disch := omega) only [↓sxA, ↓wk_store, sxB, sxP, simprocAttr, hb5, hbx5]
     refine kNext (n + 1) s (by omega) q hqs hr fun v e s7 hw F7 => ?_
     have hF7 := hF5.keep F7
     unfold wdVal at hw
     cases hn : nxt s.data.toList q with
     | fin =>
      rw [hn] at hw
      obtain ⟨rfl, rfl⟩ := hw
      have hno : namA s.data.toList l k p cs = .done none := by
       by_cases hX : (clAt cs k).set = true ∧ (mkAt l k).m = false
       ·exact hB hX
       ·rw [hA hX]; unfold namB; rw [hn]
      obtain ⟨s8, st3, hw8, n8, F8⟩ := wdBox s7 (.string .empty) (.int .i64 0) (.bool false) rfl rfl rfl
      simp (disch := omega) only [↓sxA, ↓wk_store, sxB, sxP, simprocAttr, ↓st3]
      exact no hno _ (hF7.keep F8).frm
     | bad fr =>
      rw [hn] at hw
      obtain ⟨⟨sx, ax, rfl⟩, rfl⟩ := hw
      have hno : namA s.data.toList l k p cs = .done none := by
       by_cases hX : (clAt cs k).set = true ∧ (mkAt l k).m = false
       ·exact hB hX
       ·rw [hA hX]; unfold namB; rw [hn]; simp only; rw [if_neg (by rw [hfR]; decide)]
      obtain ⟨s8, st3, hw8, n8, F8⟩ := wdBox s7 (.string sx) (.int .i64 ax) (.bool true) rfl rfl rfl
      simp (disch := omega) only [↓sxA, ↓wk_store, sxB, sxP, simprocAttr, ↓st3]
      exact no hno _ (hF7.keep F8).frm
     | wd w q' fr to =>
      rw [hn] at hw
      obtain ⟨rfl, rfl⟩ := hw
      obtain ⟨r1, r2, r3, r4, r5⟩ := nxt_wd hqle hn
      have hwl := nxt_len hn
      have hN : ¬ ((clAt cs k).set = true ∧ (mkAt l k).m = false) → namA s.data.toList l k p cs = if q' = false ∧ w = [61] then .done none else .go to (upd' (upd' cs k Cl.on) k (Cl.push (bs w))) := fun hX => by
       rw [hA hX]; unfold namB; rw [hn]; simp only; rw [if_neg (by rw [hfR]; decide)]
      obtain ⟨s8, st3, hw8, n8, F8⟩ := wdBox s7 (.string (bs w)) (.int .i64 (fr : Nat)) (.bool q') rfl rfl rfl
      have all3 := rk_loadAll (k := 3) hw8 rfl (by decide)
      have hF8 := hF7.keep F8
      simp (disch := omega) only [↓sxA, ↓wk_store, sxB, sxP, simprocAttr, ↓st3, ↓all3]
      refine kSign (n + 1) (bs w) _ q' fun s9 F9 => ?_
      have hF9 := hF8.keep F9
      have hw9 := (F9.old _ (by omega)).trans hw8
      obtain ⟨ov9, nv9, hbx9⟩ := hF9.box
      have hne : bf < s7.next := hF7.bf2
      by_cases hsg : (decide (bs w = ⟨#[61]⟩) && !q') = true
      ·have hno : namA s.data.toList l k p cs = .done none := by
        by_cases hX : (clAt cs k).set = true ∧ (mkAt l k).m = false
        ·exact hB hX
        ·rw [hN hX, if_pos ((sign_iff w q').1 hsg)]
       rw [hsg]
       simp (disch := omega) only [↓sxA, ↓wk_store, sxB, sxP, simprocAttr]
       exact no hno _ hF9.frm
      ·have hsg' : (decide (bs w = ⟨#[61]⟩) && !q') = false := by simpa using hsg
       rw [hsg']
       simp (disch := omega) only [↓sxA, ↓wk_store, sxB, sxP, simprocAttr, hbx9, hw9]
       refine kGive (n + 1) (bs w) (hF9.move (p' := to) hbx9) hk (by rw [bs_size]; omega) h2 he (by rw [hc1]; exact Nat.le_trans hvl (by decide)) (fun hh st' hf => ?_) (fun hh hnum st' hf => ?_)
       ·simp (disch := omega) only [↓sxA, ↓wk_store, sxB, sxP, simprocAttr]
        by_cases hX : (clAt cs k).set = true ∧ (mkAt l k).m = false
        ·exact no (hB hX) st' hf
        ·rcases hh with hh | hh
         ·rw [hc1] at hh; exact (hX hh).elim
         ·refine h false st' ?_
          rw [hN hX, if_neg (fun hh' => hsg ((sign_iff w q').2 hh'))]
          exact .inr ⟨rfl, hf, badNum hk (by rw [upd_len]; exact hi.1) _ (by simp [Cl.push]) hh⟩
       ·simp (disch := omega) only [↓sxA, ↓wk_store, sxB, sxP, simprocAttr]
        rw [hc1] at hh
        refine h true st' ?_
        rw [hN hh, if_neg (fun hh' => hsg ((sign_iff w q').2 hh'))]
        rw [ePush] at hf
        refine .inl ⟨rfl, hf, ?_⟩
        rw [upd_upd _ _ _ _ hk1]
        refine badKeep fun v hv => ?_
        rcases List.mem_append.1 hv with hv | hv
        ·exact .inl hv
        ·rw [List.mem_singleton.1 hv]; exact .inr hnum
end
end Go.Proofs.YtdmemibnphcedaaGreatDoor
end
section
set_option linter.unusedSimpArgs false
set_option linter.unusedVariables false
set_option maxRecDepth 10000
set_option linter.unusedSectionVars false
namespace Go.Proofs.YtdmemibnphcedaaGreatDoor
open Go.Am
attribute [local irreducible] callO wopK ropK popK opK grpsE listE sx Runs

theorem nxt_prn {L : List UInt8} {p : Nat} {w : List UInt8} {fr to : Nat} (h : nxt L p = .wd w false fr to) : w.all prn = true := by
 unfold nxt at h
 split at h
 ·cases h
 ·split at h
  ·cases h; rfl
  ·split at h
   ·split at h <;> cases h
   ·split at h
    ·rename_i hall; cases h; exact hall
    ·cases h

section
variable {st : St} {K : Value → St → Prop}

set_option maxHeartbeats 4000000 in
theorem kStep (n : Nat) {s0 : St} {bf p q : Nat} {lv : Value} {s : ByteArray} {l : List IM} {cs : List Cl} (hF : FtR s0 st bf lv s l p cs) (hs : s.size ≤ 80000) (hq : q < s.size) (hqb : blk s.data.toList q = q) (hr : s.data.toList.all prn = true) (h2 : 2 < s0.next) (he : hasErr s0 = true) (hi : Iv l cs) (hvl : ∀ k, (clAt cs k).vals.length ≤ 80000) (hfit : FitL l) (hN : NmOk l) (hll : l.length < 90000)
  (h : ∀ b st', StP s0 bf lv s l cs (stepA s.data.toList l q cs) b st' → K (.bool b) st') :
  callK (callO T0 orc fns 100000 (n + 6)) 33 [.pointer (some ⟨bf, 0, none⟩), .int .i64 (q : Nat)] st K := by
 refine fn_runs (fn := g33) ?_ ?_ ?_
 ·rfl
 ·rfl
 unfold g33
 have hsz := size_list s
 have hL : q ≤ s.data.toList.length := by omega
 obtain ⟨ov0, nv0, hbx0⟩ := hF.box
 simp (disch := omega) only [↓sxA, ↓wk_store, sxB, sxP, simprocAttr, hbx0]
 refine kNext (n + 4) s (by omega) q (by omega) hr fun v e s1 hw F1 => ?_
 have hF1 := hF.keep F1
 unfold wdVal at hw
 -- a value
 have tail : ∀ (ww : Option (List UInt8 × Bool × Nat)) , stepA s.data.toList l q cs = valA s.data.toList l q ww cs → True := fun _ _ => trivial
 have hop := openL_spec l cs 0 (-1) hi.1.symm
 obtain ⟨o, ho⟩ : ∃ o, o = openL l cs 0 (-1) := ⟨_, rfl⟩
 rw [← ho] at hop
 have hcase : o = -1 ∨ ∃ k : Nat, k < l.length ∧ o = (k : Int) ∧ ((mkAt l k).m = true ∨ (clAt cs k).set = false) := by
  rcases hop with e | ⟨k, k1, k2, k3⟩
  ·exact .inl e
  ·exact .inr ⟨k, k1, by rw [k2]; simp, k3⟩
 have vNone : o = -1 → ∀ fr ww, valA s.data.toList l fr ww cs = .done none := fun e fr ww => by
  unfold valA; rw [← ho, e, if_pos (by decide)]
 have vRest : ∀ k : Nat, o = (k : Int) → (mkAt l k).f = true → ∀ fr ww, valA s.data.toList l fr ww cs = restA s.data.toList fr k cs := fun k e hf fr ww => by
  unfold valA; rw [← ho, e, if_neg (by omega), Int.toNat_natCast, if_pos hf]
 have vBad : ∀ k : Nat, o = (k : Int) → (mkAt l k).f = false → ∀ fr, valA s.data.toList l fr none cs = .done none := fun k e hf fr => by
  unfold valA; rw [← ho, e, if_neg (by omega), Int.toNat_natCast, if_neg (by rw [hf]; decide)]
 have vWd : ∀ k : Nat, o = (k : Int) → (mkAt l k).f = false → ∀ fr w q' to, valA s.data.toList l fr (some (w, q', to)) cs = if q' = false ∧ w = [61] then .done none else .go to (upd' cs k (Cl.push (bs w))) := fun k e hf fr w q' to => by
  unfold valA; rw [← ho, e, if_neg (by omega), Int.toNat_natCast, if_neg (by rw [hf]; decide)]
 have no : stepA s.data.toList l q cs = .done none → ∀ st', Frm s0 st' → K (.bool false) st' := fun hn st' hf => h false st' (by rw [hn]; exact ⟨rfl, hf⟩)
 cases hn : nxt s.data.toList q with
 | fin =>
  have := (nxt_fin hL).1 hn
  omega
 | bad fr =>
  rw [hn] at hw
  obtain ⟨⟨sx, ax, rfl⟩, rfl⟩ := hw
  obtain ⟨m1, m2, m3, m4⟩ := nxt_bad hL hn
  obtain rfl : fr = q := by omega
  have hst : stepA s.data.toList l fr cs = valA s.data.toList l fr none cs := by unfold stepA; rw [hn]
  obtain ⟨s2, st3, hw2, n2, F2⟩ := wdBox s1 (.string sx) (.int .i64 ax) (.bool true) rfl rfl rfl
  have hF2 := hF1.keep F2
  simp (disch := omega) only [↓sxA, ↓wk_store, sxB, sxP, simprocAttr, ↓st3, hw2]
  refine kFree (n + 3) hF2 hll fun s3 F3 => ?_
  have hF3 := hF2.keep F3
  obtain ⟨ov3, nv3, hbx3⟩ := hF3.box
  rw [← ho]
  rcases hcase with rfl | ⟨k, hk, rfl, hmk⟩
  ·simp (disch := omega) only [↓sxA, ↓wk_store, sxB, sxP, simprocAttr]
   exact no (by rw [hst, vNone rfl]) _ hF3.frm
  ·obtain ⟨bb, nv, a1, a2, a3, a4, a5, a6, a7⟩ := hF3.its.at hk
   have hft := hfit k
   have aR := a3 6 (.bool (mkAt l k).f) (by rw [mkAt_lt hk]; rfl)
   cases hfR : (mkAt l k).f with
   | true =>
    obtain ⟨w1, w2, _, _⟩ := fit_rest hft hfR
    rw [hfR] at aR
    have hset : (clAt cs k).set = false := by
     rcases hmk with e | e
     ·rw [w2] at e; cases e
     ·exact e
    simp (disch := omega) only [↓sxA, ↓wk_store, sxB, sxP, simprocAttr, hbx3, ↓a1, ↓aR]
    refine kRest (n + 3) hF3 hk (by omega) (by omega) h2 he (hi.2 k) (Nat.le_trans (hvl k) (by decide)) w1 w2 (fun hh st' hf => ?_) (fun hT hs0 st' hf => ?_)
    ·simp (disch := omega) only [↓sxA, ↓wk_store, sxB, sxP, simprocAttr]
     rcases hh with hh | hh
     ·exact no (by rw [hst, vRest k rfl hfR, restA_eq hr, if_pos hh]) _ hf
     ·rw [hset] at hh; cases hh
    ·simp (disch := omega) only [↓sxA, ↓wk_store, sxB, sxP, simprocAttr]
     refine h true st' ?_
     rw [hst, vRest k rfl hfR, restA_eq hr, if_neg hT]
     exact ⟨rfl, hf, badKeep fun v hv => .inr (numOk_no w1)⟩
   | false =>
    rw [hfR] at aR
    simp (disch := omega) only [↓sxA, ↓wk_store, sxB, sxP, simprocAttr, hbx3, ↓a1, ↓aR]
    exact no (by rw [hst, vBad k rfl hfR]) _ hF3.frm
 | wd w q' fr to =>
  rw [hn] at hw
  obtain ⟨rfl, rfl⟩ := hw
  obtain ⟨r1, r2, r3, r4, r5⟩ := nxt_wd hL hn
  obtain rfl : fr = q := by omega
  have hwl := nxt_len hn
  obtain ⟨s2, st3, hw2, n2, F2⟩ := wdBox s1 (.string (bs w)) (.int .i64 (fr : Nat)) (.bool q') rfl rfl rfl
  have hF2 := hF1.keep F2
  obtain ⟨ov2, nv2, hbx2⟩ := hF2.box
  have hbs : (bs w).size ≤ 90000 := by rw [bs_size]; omega
  -- no item's name
  have val : stepA s.data.toList l fr cs = valA s.data.toList l fr (some (w, q', to)) cs → True := fun _ => trivial
  cases hq' : q' with
  | false =>
   subst hq'
   have hpw := nxt_prn hn
   simp (disch := omega) only [↓sxA, ↓wk_store, sxB, sxP, simprocAttr, ↓st3, hw2, hbx2]
   refine kFind n (bs w) hbs (by rw [bs_list]; exact hpw) hF2.its hll hN fun s3 F3 => ?_
   have hF3 := hF2.keep F3
   have hw3 := (F3.old _ (by omega)).trans hw2
   obtain ⟨ov3, nv3, hbx3⟩ := hF3.box
   have hnx3 := F3.nx
   have hkl := knownL_lt (lowerV (bs w)) l 0
   have hkn : knownL (lowerV (bs w)) l 0 = kn l w := rfl
   rw [hkn] at hkl ⊢
   by_cases hk0 : 0 ≤ kn l w
   ·have hst : stepA s.data.toList l fr cs = namA s.data.toList l (kn l w).toNat to cs := by unfold stepA; rw [hn]; simp only; rw [if_pos ⟨trivial, hk0⟩]
    obtain ⟨k, hk⟩ : ∃ k : Nat, kn l w = (k : Int) := ⟨(kn l w).toNat, (Int.toNat_of_nonneg hk0).symm⟩
    have hkl' : k < l.length := by
     rcases hkl with e | ⟨_, e⟩
     ·rw [hk] at e; exact absurd e (by omega)
     ·rw [hk] at e; simpa using e
    rw [hk, Int.toNat_natCast] at hst
    rw [hk]
    simp (disch := omega) only [↓sxA, ↓wk_store, sxB, sxP, simprocAttr, hbx3]
    refine kName (n + 2) (hF3.move (p' := to) hbx3) hkl' (by omega) (by omega) hr h2 he hi (hvl k) hfit fun b st' hS => ?_
    have hS' : StP s0 bf lv s l cs (stepA s.data.toList l fr cs) b st' := by rw [hst]; exact hS
    cases b with
    | true =>
     simp (disch := omega) only [↓sxA, ↓wk_store, sxB, sxP, simprocAttr]
     exact h true st' hS'
    | false =>
     simp (disch := omega) only [↓sxA, ↓wk_store, sxB, sxP, simprocAttr]
     exact h false st' hS'
   ·have hst : stepA s.data.toList l fr cs = valA s.data.toList l fr (some (w, false, to)) cs := by unfold stepA; rw [hn]; simp only; rw [if_neg (fun hh => hk0 hh.2)]
    have hk1 : kn l w = -1 := hkl.resolve_right fun hh => hk0 (by simpa using hh.1)
    rw [hk1]
    simp (disch := omega) only [↓sxA, ↓wk_store, sxB, sxP, simprocAttr]
    refine kFree (n + 3) hF3 hll fun s4 F4 => ?_
    have hF4 := hF3.keep F4
    have hw4 := (F4.old _ (by omega)).trans hw3
    have all4 := rk_loadAll (k := 3) hw4 rfl (by decide)
    obtain ⟨ov4, nv4, hbx4⟩ := hF4.box
    have hnx4 := F4.nx
    rw [← ho]
    rcases hcase with rfl | ⟨k, hk, rfl, hmk⟩
    ·simp (disch := omega) only [↓sxA, ↓wk_store, sxB, sxP, simprocAttr]
     exact no (by rw [hst, vNone rfl]) _ hF4.frm
    ·obtain ⟨bb, nv, a1, a2, a3, a4, a5, a6, a7⟩ := hF4.its.at hk
     have hft := hfit k
     have aR := a3 6 (.bool (mkAt l k).f) (by rw [mkAt_lt hk]; rfl)
     cases hfR : (mkAt l k).f with
     | true =>
      obtain ⟨w1, w2, _, _⟩ := fit_rest hft hfR
      rw [hfR] at aR
      have hset : (clAt cs k).set = false := by
       rcases hmk with e | e
       ·rw [w2] at e; cases e
       ·exact e
      simp (disch := omega) only [↓sxA, ↓wk_store, sxB, sxP, simprocAttr, hbx4, ↓a1, ↓aR]
      refine kRest (n + 3) hF4 hk (by omega) (by omega) h2 he (hi.2 k) (Nat.le_trans (hvl k) (by decide)) w1 w2 (fun hh st' hf => ?_) (fun hT hs0 st' hf => ?_)
      ·simp (disch := omega) only [↓sxA, ↓wk_store, sxB, sxP, simprocAttr]
       rcases hh with hh | hh
       ·exact no (by rw [hst, vRest k rfl hfR, restA_eq hr, if_pos hh]) _ hf
       ·rw [hset] at hh; cases hh
      ·simp (disch := omega) only [↓sxA, ↓wk_store, sxB, sxP, simprocAttr]
       refine h true st' ?_
       rw [hst, vRest k rfl hfR, restA_eq hr, if_neg hT]
       exact ⟨rfl, hf, badKeep fun v hv => .inr (numOk_no w1)⟩
     | false =>
      rw [hfR] at aR
      simp (disch := omega) only [↓sxA, ↓wk_store, sxB, sxP, simprocAttr, hbx4, ↓a1, ↓aR, ↓all4]
      refine kSign (n + 4) (bs w) _ false fun s5 F5 => ?_
      have hF5 := hF4.keep F5
      have hw5 := (F5.old _ (by omega)).trans hw4
      obtain ⟨ov5, nv5, hbx5⟩ := hF5.box
      have hne : bf < s1.next := hF1.bf2
      by_cases hsg : (decide (bs w = ⟨#[61]⟩) && !false) = true
      ·rw [hsg]
       simp (disch := omega) only [↓sxA, ↓wk_store, sxB, sxP, simprocAttr]
       exact no (by rw [hst, vWd k rfl hfR, if_pos ((sign_iff w false).1 hsg)]) _ hF5.frm
      ·have hsg' : (decide (bs w = ⟨#[61]⟩) && !false) = false := by simpa using hsg
       rw [hsg']
       simp (disch := omega) only [↓sxA, ↓wk_store, sxB, sxP, simprocAttr, hbx5, hw5]
       refine kGive (n + 4) (bs w) (hF5.move (p' := to) hbx5) hk (by omega) h2 he (Nat.le_trans (hvl k) (by decide)) (fun hh st' hf => ?_) (fun hh hnum st' hf => ?_)
       ·simp (disch := omega) only [↓sxA, ↓wk_store, sxB, sxP, simprocAttr]
        rcases hh with hh | hh
        ·rcases hmk with e | e
         ·rw [hh.2] at e; cases e
         ·rw [hh.1] at e; cases e
        ·refine h false st' ?_
         rw [hst, vWd k rfl hfR, if_neg (fun hh' => hsg ((sign_iff w false).2 hh'))]
         exact .inr ⟨rfl, hf, badNum hk hi.1 _ (by simp [Cl.push]) hh⟩
       ·simp (disch := omega) only [↓sxA, ↓wk_store, sxB, sxP, simprocAttr]
        refine h true st' ?_
        rw [hst, vWd k rfl hfR, if_neg (fun hh' => hsg ((sign_iff w false).2 hh'))]
        refine .inl ⟨rfl, hf, badKeep fun v hv => ?_⟩
        rcases List.mem_append.1 hv with hv | hv
        ·exact .inl hv
        ·rw [List.mem_singleton.1 hv]; exact .inr hnum
  | true =>
   subst hq'
   have hst : stepA s.data.toList l fr cs = valA s.data.toList l fr (some (w, true, to)) cs := by unfold stepA; rw [hn]; simp only; rw [if_neg (fun hh => by cases hh.1)]
   simp (disch := omega) only [↓sxA, ↓wk_store, sxB, sxP, simprocAttr, ↓st3, hw2, hbx2]
   refine kFree (n + 3) hF2 hll fun s4 F4 => ?_
   have hF4 := hF2.keep F4
   have hw4 := (F4.old _ (by omega)).trans hw2
   have all4 := rk_loadAll (k := 3) hw4 rfl (by decide)
   obtain ⟨ov4, nv4, hbx4⟩ := hF4.box
   have hnx4 := F4.nx
   rw [← ho]
   rcases hcase with rfl | ⟨k, hk, rfl, hmk⟩
   ·simp (disch := omega) only [↓sxA, ↓wk_store, sxB, sxP, simprocAttr]
    exact no (by rw [hst, vNone rfl]) _ hF4.frm
   ·obtain ⟨bb, nv, a1, a2, a3, a4, a5, a6, a7⟩ := hF4.its.at hk
    have hft := hfit k
    have aR := a3 6 (.bool (mkAt l k).f) (by rw [mkAt_lt hk]; rfl)
    cases hfR : (mkAt l k).f with
    | true =>
     obtain ⟨w1, w2, _, _⟩ := fit_rest hft hfR
     rw [hfR] at aR
     have hset : (clAt cs k).set = false := by
      rcases hmk with e | e
      ·rw [w2] at e; cases e
      ·exact e
     simp (disch := omega) only [↓sxA, ↓wk_store, sxB, sxP, simprocAttr, hbx4, ↓a1, ↓aR]
     refine kRest (n + 3) hF4 hk (by omega) (by omega) h2 he (hi.2 k) (Nat.le_trans (hvl k) (by decide)) w1 w2 (fun hh st' hf => ?_) (fun hT hs0 st' hf => ?_)
     ·simp (disch := omega) only [↓sxA, ↓wk_store, sxB, sxP, simprocAttr]
      rcases hh with hh | hh
      ·exact no (by rw [hst, vRest k rfl hfR, restA_eq hr, if_pos hh]) _ hf
      ·rw [hset] at hh; cases hh
     ·simp (disch := omega) only [↓sxA, ↓wk_store, sxB, sxP, simprocAttr]
      refine h true st' ?_
      rw [hst, vRest k rfl hfR, restA_eq hr, if_neg hT]
      exact ⟨rfl, hf, badKeep fun v hv => .inr (numOk_no w1)⟩
    | false =>
     rw [hfR] at aR
     simp (disch := omega) only [↓sxA, ↓wk_store, sxB, sxP, simprocAttr, hbx4, ↓a1, ↓aR, ↓all4]
     refine kSign (n + 4) (bs w) _ true fun s5 F5 => ?_
     have hF5 := hF4.keep F5
     have hw5 := (F5.old _ (by omega)).trans hw4
     obtain ⟨ov5, nv5, hbx5⟩ := hF5.box
     have hne : bf < s1.next := hF1.bf2
     by_cases hsg : (decide (bs w = ⟨#[61]⟩) && !true) = true
     ·rw [hsg]
      simp (disch := omega) only [↓sxA, ↓wk_store, sxB, sxP, simprocAttr]
      exact no (by rw [hst, vWd k rfl hfR, if_pos ((sign_iff w true).1 hsg)]) _ hF5.frm
     ·have hsg' : (decide (bs w = ⟨#[61]⟩) && !true) = false := by simp
      rw [hsg']
      simp (disch := omega) only [↓sxA, ↓wk_store, sxB, sxP, simprocAttr, hbx5, hw5]
      refine kGive (n + 4) (bs w) (hF5.move (p' := to) hbx5) hk (by omega) h2 he (Nat.le_trans (hvl k) (by decide)) (fun hh st' hf => ?_) (fun hh hnum st' hf => ?_)
      ·simp (disch := omega) only [↓sxA, ↓wk_store, sxB, sxP, simprocAttr]
       rcases hh with hh | hh
       ·rcases hmk with e | e
        ·rw [hh.2] at e; cases e
        ·rw [hh.1] at e; cases e
       ·refine h false st' ?_
        rw [hst, vWd k rfl hfR, if_neg (fun hh' => hsg ((sign_iff w true).2 hh'))]
        exact .inr ⟨rfl, hf, badNum hk hi.1 _ (by simp [Cl.push]) hh⟩
      ·simp (disch := omega) only [↓sxA, ↓wk_store, sxB, sxP, simprocAttr]
       refine h true st' ?_
       rw [hst, vWd k rfl hfR, if_neg (fun hh' => hsg ((sign_iff w true).2 hh'))]
       refine .inl ⟨rfl, hf, badKeep fun v hv => ?_⟩
       rcases List.mem_append.1 hv with hv | hv
       ·exact .inl hv
       ·rw [List.mem_singleton.1 hv]; exact .inr hnum
end
end Go.Proofs.YtdmemibnphcedaaGreatDoor
end
section
set_option linter.unusedSimpArgs false
set_option linter.unusedVariables false
set_option maxRecDepth 10000
set_option linter.unusedSectionVars false
namespace Go.Proofs.YtdmemibnphcedaaGreatDoor
open Go.Am
attribute [local irreducible] callO wopK ropK popK opK grpsE listE sx Runs

/-- what Fit gives -/
def FitO (Q : List IM → Option (List Cl) → Prop) (t s : ByteArray) (v : Value) (e : Int) (st : St) : Prop :=
 (1000 < s.size ∧ e = 2 ∧ v = .slice none 0 0) ∨ (s.size ≤ 1000 ∧ ∃ l e', TmA t l e' ∧ ((e' ≠ 0 ∧ e = e' ∧ v = .slice none 0 0) ∨ (e' = 0 ∧ ((Q l none ∧ e = 250 ∧ v = .slice none 0 0) ∨ ∃ cs, Q l (some cs) ∧ e = 0 ∧ cs.length = l.length ∧ AgR (fun _ => True) false st v (l.map nm0) cs))))
def QP (L : List UInt8) (l : List IM) (r : Option (List Cl)) : Prop := ∀ q, Fits L l 0 (cls0 l) q → resA l q = r
theorem itemA_fit {p : ByteArray} {x : IM} (h : itemA p = some x) : x.mks.fit = true := by
 unfold itemA at h
 split at h
 ·split at h
  ·split at h
   ·rename_i hh
    cases h
    simp only [Bool.and_eq_true] at hh
    exact hh.2
   ·cases h
  ·cases h
 ·cases h
theorem tm_fit {t : ByteArray} {l : List IM} {e : Int} (h : TmA t l e) : FitL l := by
 have hx : ∀ x ∈ l, x.mks.fit = true := by
  cases h with
  | nil _ => intro x hx; cases hx
  | long _ _ _ _ _ => intro x hx; cases hx
  | bad _ _ => intro x hx; cases hx
  | ok _ _ h1 _ _ =>
   intro x hx
   obtain ⟨p, _, h2⟩ := items_mem h1 x hx
   exact itemA_fit h2
 intro k
 by_cases hk : k < l.length
 ·rw [mkAt_lt hk]; exact hx _ (List.getElem_mem hk)
 ·have : mkAt l k = Mk.none := by rw [mkAt, List.getD_eq_getElem?_getD, List.getElem?_eq_none (by omega)]; rfl
  rw [this]; rfl

theorem rep_cls : ∀ l : List IM, replicateL l.length [.bool false] = (cls0 l).map fun c => Value.bool c.nm
 | [] => rfl
 | x :: l => by
  have := rep_cls l
  simp only [List.length_cons, replicateL, cls0, List.map_cons, List.singleton_append] at this ⊢
  rw [this]
  rfl
theorem wk_mkB {s : St} {W : Value → St → Prop} (n : Nat) (hn : n ≤ 1099511627776) : wopK (.mkSlice [.bool false] 1) [.int .i64 (n : Int), .int .i64 (n : Int)] s W = W (.slice (some ⟨s.next, 0, none⟩) n n) (s.new (.row (replicateL n [.bool false]) 0 false)) := by
 have h1 : (0 : Int) ≤ (n : Int) ∧ (n : Int) ≤ (n : Int) ∧ (n : Int) * ((1 : Nat) : Int) ≤ 1099511627776 ∧ (n : Int) ≤ 1099511627776 := ⟨by omega, by omega, by omega, by omega⟩
 simp only [wopK, wop]
 rw [if_pos h1]
 rfl

theorem one_cells {v : Value} (h : oneCell v = true) : cellsOf v = [v] := by
 cases v <;> first | rfl | (simp [oneCell] at h)
theorem AgR.one {ok : Nat → Prop} {g : Bool} {st : St} {v : Value} {ns : List ByteArray} {cs : List Cl} (h : AgR ok g st v ns cs) : oneCell v = true := by
 obtain ⟨es, vf, h1, _⟩ := h
 exact h1.one
theorem ItR.one {lo : Nat} {st : St} {v : Value} {l : List IM} (h : ItR lo st v l) : oneCell v = true := by
 obtain ⟨nvs, h1, h2, _⟩ := h
 exact h2.one
theorem stepA_blk {L : List UInt8} {p : Nat} (hp : p ≤ L.length) (l : List IM) (cs : List Cl) : stepA L l (blk L p) cs = stepA L l p cs := by
 unfold stepA
 rw [nxt_blk hp]

/-- before the items are laid on: the fitter with an empty list of arguments, and then one more each time -/
def L1 (s1 : St) (va : Value) (s : ByteArray) (l : List IM) (vs : List Value) (st : St) : Prop :=
 ∃ (j : Nat) (ov : Value), vs = [.string s, va, .pointer (some ⟨s1.next + 1, 0, none⟩), va, .int .i64 (l.length : Nat), .int .i64 (j : Nat)] ∧ j ≤ l.length ∧ Frm s1 st ∧ s1.next + 2 ≤ st.next ∧
  st.get (s1.next + 1) = some (.row [va, .string s, .int .i64 0, ov, .slice (some ⟨s1.next, 0, none⟩) l.length l.length] 0 false) ∧ AgR (fun n => s1.next + 1 ≤ n ∧ n ≠ s1.next + 1 + 1 ∧ n ≠ s1.next + 1) true st ov (l.map nm0) (cls0 (l.take j)) ∧
  st.get s1.next = some (.row ((cls0 l).map fun c => Value.bool c.nm) 0 false)
/-- between two words -/
def L2 (s1 : St) (va : Value) (s : ByteArray) (l : List IM) (vs : List Value) (st : St) : Prop :=
 ∃ (p : Nat) (cs : List Cl), vs = [.string s, va, .pointer (some ⟨s1.next + 1, 0, none⟩), .int .i64 (blk s.data.toList p : Nat)] ∧ p ≤ s.size ∧ FtR s1 st (s1.next + 1) va s l p cs ∧ (p < s.size → Iv l cs ∧ ∀ k, (clAt cs k).vals.length ≤ p) ∧ ¬ BadNum l cs ∧ ∀ q, Fits s.data.toList l 0 (cls0 l) q → Fits s.data.toList l p cs q
/-- whether all is there -/
def L3 (s1 s2 : St) (va : Value) (l : List IM) (cs : List Cl) (vs : List Value) (st : St) : Prop :=
 ∃ j : Nat, vs = [.pointer (some ⟨s1.next + 1, 0, none⟩), va, .int .i64 (l.length : Nat), .int .i64 (j : Nat)] ∧ j ≤ l.length ∧ Frm s2 st ∧ ∀ k, k < j → (mkAt l k).a = true → (clAt cs k).set = true

theorem cls_snoc (l : List IM) (j : Nat) (hj : j < l.length) : cls0 (l.take (j + 1)) = cls0 (l.take j) ++ [Cl.zero] := by
 unfold cls0
 rw [List.take_add_one, List.getElem?_eq_getElem hj, List.map_append]
 rfl
theorem cls_no (l : List IM) : ¬ BadNum l (cls0 l) := by
 rintro ⟨k, v, _, _, h, _⟩
 have : clAt (cls0 l) k = Cl.zero := by
  unfold clAt cls0
  rw [List.getD_eq_getElem?_getD, List.getElem?_map]
  cases l[k]? <;> rfl
 rw [this] at h
 cases h

section
variable {st : St} {K : Value → St → Prop}

set_option maxHeartbeats 4000000 in
theorem kFit (n : Nat) (t s : ByteArray) (ht : t.size < 80000) (h0 : 2 < st.next) (hm : hasMax st = true) (he : hasErr st = true)
  (h : ∀ v e st', FitO (QP s.data.toList) t s v e st' → Frm st st' → K (.tuple #[v, .int .i64 e]) st') :
  callK (callO T0 orc fns 100000 (n + 7)) 10 [.string t, .string s] st K := by
 refine fn_runs (fn := g10) ?_ ?_ ?_
 ·rfl
 ·rfl
 unfold g10
 by_cases hbig : 1000 < s.size
 ·simp (disch := omega) only [↓sxA, ↓wk_store, sxB, sxP, simprocAttr]
  exact h _ _ _ (.inl ⟨hbig, rfl, rfl⟩) (Frm.refl _)
 have hle : s.size ≤ 1000 := by omega
 simp (disch := omega) only [↓sxA, ↓wk_store, sxB, sxP, simprocAttr]
 refine kTemplate n t ht (by omega) hm fun l e' va s1 hT hR F1 => ?_
 by_cases he' : e' = 0
 ·subst he'
  simp (disch := omega) only [↓sxA, ↓wk_store, sxB, sxP, simprocAttr]
  refine kReadable (n + 5) s ?_
  by_cases hr : s.data.toList.all prn = true
  ·have hrd : readA s = 0 := by unfold readA; rw [if_neg hbig, if_pos hr]
   rw [hrd]
   have la := hR.len
   obtain ⟨hl20, _, hb⟩ := tm_bounds hT
   have hfit := tm_fit hT
   have hN : NmOk l := fun x hx => by have := (hb x hx).2.1; omega
   have hlb := fun W => wk_mkB (s := s1) (W := W) l.length (by omega)
   have hcl0 : (cls0 l).length = l.length := by simp [cls0]
   have fin0 : ∀ v e st', (∃ r, QP s.data.toList l r ∧ ((r = none ∧ e = 250 ∧ v = .slice none 0 0) ∨ ∃ cs, r = some cs ∧ e = 0 ∧ cs.length = l.length ∧ AgR (fun _ => True) false st' v (l.map nm0) cs)) → Frm s1 st' → K (.tuple #[v, .int .i64 e]) st' := fun v e st' hh hf => by
    obtain ⟨r, hr, hh⟩ := hh
    refine h v e st' (.inr ⟨hle, l, 0, hT, .inr ⟨rfl, ?_⟩⟩) (F1.trans hf)
    rcases hh with ⟨rfl, h1, h2⟩ | ⟨cs, rfl, h1, h2, h3⟩
    ·exact .inl ⟨hr, h1, h2⟩
    ·exact .inr ⟨cs, hr, h1, h2, h3⟩
   clear h
   have hbn0 : (s1.new (.row (replicateL l.length [.bool false]) 0 false)).get s1.next = some (.row ((cls0 l).map fun c => Value.bool c.nm) 0 false) := by rw [get_new_same, rep_cls]
   have hv1 := hR.one
   have hv2 := one_cells hv1
   simp (disch := omega) only [↓sxA, ↓wk_store, sxB, sxP, simprocAttr, ↓la, ↓hlb, hv1, hv2]
   refine loop_rule [1, 6, 9, 38, 39, 40] (L1 s1 va s l) (fun vs _ => match lget vs 5 with
     | .int _ k => ((l.length : Int) - k).toNat
     | _ => 0) ?_ ?_ ?_
   ·rfl
   ·refine ⟨_, rfl, ⟨0, _, rfl, Nat.zero_le _, (Frm.new s1 _).trans (Frm.new _ _), Nat.le_refl _, get_new_same _ _, AgR.nil, (get_new_ne _ _ _ (by show s1.next + 1 ≠ s1.next; omega)).trans hbn0⟩, ?_⟩
    show ((l.length : Int) - 0).toNat < 100000
    omega
   ·rintro vs s2 ⟨j, ov, rfl, hj, F2, n2, hbx, hag, hbn⟩
    show sx _ _ _ _ _ [(1, _), (6, _), (9, _), (38, _), (39, _), (40, _)] _ _ _ _
    by_cases hjl : j < l.length
    ·obtain ⟨bb, nv, a1, a2, a3, a4, a5, a6, a7⟩ := (hR.keep (st' := s2) F2.nx fun i _ hi => F2.old i hi).at hjl
     obtain ⟨s4, st7, hb4, n4, F4⟩ := itBox s2 l[j].mks a5
     have hbx4 := (F4.old _ (by omega)).trans hbx
     have hbn4 := (F4.old _ (by omega)).trans hbn
     have hag4 := hag.keep F4.nx fun i _ hi => F4.old i hi
     have hnv4 := a4.keep (st' := s4) fun i hi => F4.old i (by omega)
     have hnm := (hb _ (List.getElem_mem hjl)).1
     have hnm0 : (l[j].names.map Value.string).getD 0 undef = .string (nm0 l[j]) := by
      cases hh : l[j].names with
      | nil => exact (hnm hh).elim
      | cons a r => simp [nm0, hh]
     have hnl : 0 < l[j].names.length := List.length_pos_iff.2 hnm
     have ix : ∀ K : Value → Prop, popK (.indexAddr 1) [nv, .int .i64 0] K = K (bptr nv 0) := fun K => by
      rw [idx_cel hnv4 .i64 0 K (by omega) (by rw [List.length_map]; omega)]
     have ld : ∀ K : Value → Prop, ropK .load1 [bptr nv 0] s4 K = K (.string (nm0 l[j])) := fun K => by
      rw [load_cel hnv4 0 K (by omega) (by rw [List.length_map]; omega)]
      rw [show (0 : Int).toNat = 0 from rfl, hnm0]
     have hce := hag4.ceq
     obtain ⟨okv, onx⟩ := hag4.okv
     have hlt : (cls0 (l.take j)).length = j := by simp [cls0]; omega
     have hsn := fun W => hag4.snoc (W := W) (s1 := s4.new (.row [.string (nm0 l[j]), .slice none 0 0, .bool false] 0 false)) (nm := nm0 l[j]) (bytes := 48) (sb := s4.next) (gg := 0) (ro := false) (by rw [hlt, List.getD_eq_getElem?_getD, List.getElem?_map, List.getElem?_eq_getElem hjl]; rfl) (fun m hm => ⟨by omega, by omega, by omega⟩) rfl (fun i hi => get_new_ne _ _ _ (by omega)) (Nat.le_refl _) (get_new_same _ _) (by omega) (by omega)
     have hmeas : ((l.length : Int) - ((j : Int) + 1)).toNat < ((l.length : Int) - j).toNat := by omega
     simp (disch := omega) only [↓sxA, ↓wk_store, sxB, sxP, simprocAttr, ↓a1, ↓a2, ↓st7, hbx4, hb4, ↓ix, ↓ld, hce]
     refine hsn _ fun v' s5 g1 g2 g3 g4 => ?_
     have g2' : s5.next = s4.next + 2 := g2
     have hbx5 := (g3 (s1.next + 1) (by omega) (by omega)).trans hbx4
     have hbn5 := (g3 s1.next (by omega) (by omega)).trans hbn4
     rw [← cls_snoc l j hjl] at g1
     have F5 : Frm s1 s5 := ⟨by omega, fun i hi => (g3 i (by omega) (by omega)).trans ((F4.old i (by omega)).trans (F2.old i hi))⟩
     have hw1 := g1.one
     have hw2 := one_cells hw1
     simp (disch := omega) only [↓sxA, ↓wk_store, sxB, sxP, simprocAttr, hbx5, hw1, hw2]
     refine ⟨_, rfl, ⟨j + 1, v', by simp, hjl, F5.put _ (by omega) _, by show s1.next + 2 ≤ s5.next; omega, get_put_same _ _ _, g1.keep (Nat.le_refl _) fun i hi _ => get_put_ne _ _ _ _ (by omega), (get_put_ne _ _ _ _ (by omega)).trans hbn5⟩, hmeas⟩
    ·have hjl' : j = l.length := by omega
     rw [hjl', List.take_length] at hag
     have hF : FtR s1 s2 (s1.next + 1) va s l 0 (cls0 l) := ⟨F2, by omega, by omega, hR.weak (by omega), hcl0, ov, s1.next, 0, hbx, hag, hbn, Nat.le_refl _, by omega, by omega⟩
     simp (disch := omega) only [↓sxA, ↓wk_store, sxB, sxP, simprocAttr]
     refine kBlank (n + 5) s (by omega) 0 (s1.next + 1) 0 false (Nat.zero_le _) hbx ?_
     simp (disch := omega) only [↓sxA, ↓wk_store, sxB, sxP, simprocAttr]
     have hsz := size_list s
     have h2e : 2 < s1.next := Nat.lt_of_lt_of_le h0 F1.nx
     have hes := F1.err h0 he
     have hff : ∀ k, (mkAt l k).f = true → (mkAt l k).m = false := fun k hk => (fit_rest (hfit k) hk).2.1
     refine loop_rule [1, 6, 9, 12] (L2 s1 va s l) (fun vs _ => match lget vs 3 with
       | .int _ k => ((s.size : Int) - k).toNat
       | _ => 0) ?_ ?_ ?_
     ·rfl
     ·refine ⟨_, rfl, ⟨0, cls0 l, rfl, Nat.zero_le _, hF, fun _ => ⟨iv0 l, fun k => ?_⟩, cls_no l, fun q hq => hq⟩, ?_⟩
      ·by_cases hs : (clAt (cls0 l) k).set = false
       ·rw [(iv0 l).2 k hs]; exact Nat.le_refl _
       ·exfalso
        refine hs ?_
        unfold clAt cls0
        rw [List.getD_eq_getElem?_getD, List.getElem?_map]
        cases l[k]? <;> rfl
      ·show ((s.size : Int) - (blk s.data.toList 0 : Int)).toNat < 100000
       omega
     ·rintro vs s3 ⟨p, cs, rfl, hp, hF3, hiv, hbad, hq⟩
      show sx _ _ _ _ _ [(1, _), (6, _), (9, _), (12, _)] _ _ _ _
      have hpL : p ≤ s.data.toList.length := by omega
      obtain ⟨b1, b2⟩ := blk_le hpL
      by_cases hlt : blk s.data.toList p < s.size
      ·obtain ⟨hi, hvl⟩ := hiv (by omega)
       have hbL : blk s.data.toList p ≤ s.data.toList.length := by omega
       simp (disch := omega) only [↓sxA, ↓wk_store, sxB, sxP, simprocAttr]
       refine kStep n hF3 (by omega) hlt (blk_blk hpL) hr h2e hes hi (fun k => by have := hvl k; omega) hfit hN (by omega) fun b s4 hS => ?_
       have bad : ∀ s5, Frm s1 s5 → (∀ q, Fits s.data.toList l 0 (cls0 l) q → resA l q = none) → K (.tuple #[.slice none 0 0, .int .i64 250]) s5 := fun s5 hf hh => fin0 _ _ _ ⟨none, hh, .inl ⟨rfl, rfl, rfl⟩⟩ hf
       cases hst : stepA s.data.toList l (blk s.data.toList p) cs with
       | done r =>
        have hst' := hst
        rw [stepA_blk hpL] at hst'
        cases r with
        | none =>
         rw [hst] at hS
         obtain ⟨rfl, hf⟩ := hS
         simp (disch := omega) only [↓sxA, ↓wk_store, sxB, sxP, simprocAttr]
         refine bad _ hf fun q hq' => ?_
         rw [(hq q hq').stop hst']
         rfl
        | some cs' =>
         rw [hst] at hS
         obtain ⟨rfl, hF4, hb4⟩ := hS
         obtain ⟨ov4, nv4, hbx4⟩ := hF4.box
         simp (disch := omega) only [↓sxA, ↓wk_store, sxB, sxP, simprocAttr, hbx4]
         refine kBlank (n + 5) s (by omega) s.size (s1.next + 1) 0 false (Nat.le_refl _) hbx4 ?_
         simp (disch := omega) only [↓sxA, ↓wk_store, sxB, sxP, simprocAttr]
         have hbe : blk s.data.toList s.size = s.size := blk_stop (by rw [byte_no s s.size (Nat.le_refl _)]; decide)
         refine ⟨_, rfl, ⟨s.size, cs', rfl, Nat.le_refl _, hF4, fun hh => absurd hh (by omega), fun hh => hbad (hb4 hh), fun q hq' => ?_⟩, ?_⟩
         ·rw [(hq q hq').stop hst']
          exact .done (fits_end (by omega) (by rw [hbe]; exact hsz))
         ·show ((s.size : Int) - (blk s.data.toList s.size : Int)).toNat < ((s.size : Int) - (blk s.data.toList p : Int)).toNat
          rw [hbe]; omega
       | go p' cs' =>
        have hst' := hst
        rw [stepA_blk hpL] at hst'
        obtain ⟨g1, g2, g3, g4, _⟩ := stepA_go hbL hst
        rw [hst] at hS
        have hi' := hi.go hbL hst
        rcases hS with ⟨rfl, hF4, hb4⟩ | ⟨rfl, hf, k, v, hk1, hk2, hk3, hk4⟩
        ·obtain ⟨ov4, nv4, hbx4⟩ := hF4.box
         have hp' : p' ≤ s.size := by omega
         simp (disch := omega) only [↓sxA, ↓wk_store, sxB, sxP, simprocAttr, hbx4]
         refine kBlank (n + 5) s (by omega) p' (s1.next + 1) 0 false hp' hbx4 ?_
         simp (disch := omega) only [↓sxA, ↓wk_store, sxB, sxP, simprocAttr]
         obtain ⟨b3, b4⟩ := blk_le g2
         refine ⟨_, rfl, ⟨p', cs', rfl, hp', hF4, fun _ => ⟨hi', fun k => ?_⟩, fun hh => hbad (hb4 hh), fun q hq' => (hq q hq').step hst'⟩, ?_⟩
         ·have := stepA_vl hbL hst hvl k
          omega
         ·show ((s.size : Int) - (blk s.data.toList p' : Int)).toNat < ((s.size : Int) - (blk s.data.toList p : Int)).toNat
          omega
        ·simp (disch := omega) only [↓sxA, ↓wk_store, sxB, sxP, simprocAttr]
         refine bad _ hf fun q hq' => ?_
         exact bad_num hff ((hq q hq').step hst') g2 hi' hk1 hk2 hk3 hk4 (fun cs'' hh => Fits.len hff ((hq q hq').step hst') g2 hi' cs'' hh)
      ·have hbe : blk s.data.toList p = s.size := by omega
       have hend : stepA s.data.toList l p cs = .done (some cs) := fits_end hpL (by omega)
       have hcl := hF3.len
       have hq3 : ∀ q, Fits s.data.toList l 0 (cls0 l) q → q = some cs := fun q hq' => (hq q hq').stop hend
       have la3 := hF3.its.len
       simp (disch := omega) only [↓sxA, ↓wk_store, sxB, sxP, simprocAttr, ↓la3]
       refine loop_rule [9, 75, 76, 77] (L3 s1 s3 va l cs) (fun vs _ => match lget vs 3 with
         | .int _ k => ((l.length : Int) - k).toNat
         | _ => 0) ?_ ?_ ?_
       ·rfl
       ·refine ⟨_, rfl, ⟨0, rfl, Nat.zero_le _, Frm.refl _, fun k hk => by omega⟩, ?_⟩
        show ((l.length : Int) - 0).toNat < 100000
        omega
       ·rintro vs s4 ⟨i, rfl, hi, F4, hmust⟩
        show sx _ _ _ _ _ [(9, _), (75, _), (76, _), (77, _)] _ _ _ _
        have hF4 := hF3.keep F4
        by_cases hil : i < l.length
        ·obtain ⟨bb, nv, a1, a2, a3, a4, a5, a6, a7⟩ := hF4.its.at hil
         obtain ⟨s5, st7, hb5, n5, F5⟩ := itBox s4 l[i].mks a5
         rw [← mkAt_lt hil] at hb5
         have hF5 := hF4.keep F5
         obtain ⟨ov, bn, b, s6, s7, hbx5, x1, x2, x3, x4, x5, hF6, n6, f6, y1, y2, y3, x6, hF7⟩ := hF5.open hil
         have hmeas : ((l.length : Int) - ((i : Int) + 1)).toNat < ((l.length : Int) - i).toNat := by omega
         cases hma : (mkAt l i).a with
         | false =>
          rw [hma] at hb5
          simp (disch := omega) only [↓sxA, ↓wk_store, sxB, sxP, simprocAttr, ↓a1, ↓a2, ↓st7, hb5]
          refine ⟨_, rfl, ⟨i + 1, by simp, hil, F4.trans F5, fun k hk hka => ?_⟩, hmeas⟩
          by_cases e : k = i
          ·subst e; rw [hma] at hka; cases hka
          ·exact hmust k (by omega) hka
         | true =>
          rw [hma] at hb5
          cases hset : (clAt cs i).set with
          | true =>
           rw [hset] at x4
           simp (disch := omega) only [↓sxA, ↓wk_store, sxB, sxP, simprocAttr, ↓a1, ↓a2, ↓st7, hb5, hbx5, ↓x3, ↓x4]
           refine ⟨_, rfl, ⟨i + 1, by simp, hil, F4.trans F5, fun k hk hka => ?_⟩, hmeas⟩
           by_cases e : k = i
           ·subst e; exact hset
           ·exact hmust k (by omega) hka
          | false =>
           rw [hset] at x4
           simp (disch := omega) only [↓sxA, ↓wk_store, sxB, sxP, simprocAttr, ↓a1, ↓a2, ↓st7, hb5, hbx5, ↓x3, ↓x4]
           refine fin0 _ _ _ ⟨none, fun q hq' => ?_, .inl ⟨rfl, rfl, rfl⟩⟩ hF5.frm
           rw [hq3 q hq']
           unfold resA
           simp only
           rw [if_neg]
           intro hok
           have := (okAll_iff l cs hcl.symm).1 hok i hil
           unfold okCl at this
           have e : (l.getD i ⟨[], Mk.none⟩).mks.a = true := hma
           rw [e, hset] at this
           cases this
        ·obtain ⟨ov, bn, g, q1, q2, q3, q4, q5, q6⟩ := hF4.body
         simp (disch := omega) only [↓sxA, ↓wk_store, sxB, sxP, simprocAttr, q1]
         refine fin0 _ _ _ ⟨some cs, fun q hq' => ?_, .inr ⟨cs, rfl, rfl, hcl, q2.weak fun _ _ _ => trivial⟩⟩ hF4.frm
         rw [hq3 q hq']
         unfold resA
         simp only
         rw [if_pos]
         refine (okAll_iff l cs hcl.symm).2 fun k hk => ?_
         unfold okCl
         rw [Bool.and_eq_true]
         constructor
         ·cases hma : (mkAt l k).a with
          | false => show (!(mkAt l k).a || _) = true; rw [hma]; rfl
          | true => show (!(mkAt l k).a || _) = true; rw [hma, hmust k (by omega) hma]; rfl
         ·cases hnn : (mkAt l k).n with
          | false => show (!(mkAt l k).n || _) = true; rw [hnn]; rfl
          | true =>
           show (!(mkAt l k).n || _) = true
           rw [hnn, Bool.not_true, Bool.false_or, List.all_eq_true]
           intro v hv
           cases hnum : numA v.data.toList with
           | some x => rfl
           | none => exact (hbad ⟨k, v, hk, hnn, hv, hnum⟩).elim
  ·have hrd : readA s = 250 := by unfold readA; rw [if_neg hbig, if_neg hr]
   rw [hrd]
   simp (disch := omega) only [↓sxA, ↓wk_store, sxB, sxP, simprocAttr]
   refine h _ _ _ (.inr ⟨hle, l, 0, hT, .inr ⟨rfl, .inl ⟨fun q hq => ?_, rfl, rfl⟩⟩⟩) F1
   cases q with
   | none => rfl
   | some cs' =>
    have hsz := size_list s
    have := (hq.good (fun k hk => (fit_rest (tm_fit hT k) hk).2.1) (Nat.zero_le _) (iv0 l) cs' rfl).1
    exfalso
    refine hr ?_
    rw [List.all_eq_true]
    intro c hc
    obtain ⟨i, hi, rfl⟩ := List.getElem_of_mem hc
    exact this i (Nat.zero_le _) hi _ (List.getElem?_eq_getElem hi)
 ·have hne : (e' = 0) = False := eq_false he'
  simp (disch := omega) only [↓sxA, ↓wk_store, sxB, sxP, simprocAttr, hne]
  exact h _ _ _ (.inr ⟨hle, l, e', hT, .inl ⟨he', rfl, rfl⟩⟩) F1
end
end Go.Proofs.YtdmemibnphcedaaGreatDoor
end
section
set_option linter.unusedSimpArgs false
set_option linter.unusedVariables false
set_option maxRecDepth 10000
set_option linter.unusedSectionVars false
namespace Go.Proofs.YtdmemibnphcedaaGreatDoor
open Go.Am
attribute [local irreducible] callO wopK ropK popK opK grpsE listE sx Runs

section
variable {st : St} {K : Value → St → Prop}

theorem wrap64 (a : Int) (h0 : -9223372036854775808 ≤ a) (h1 : a ≤ 9223372036854775807) : wrapF .i64 a = a := by
 simp only [wrapF]
 rw [if_pos ⟨h0, h1⟩]
theorem Cel.ceq {v : Value} {cs : List Value} (h : Cel st v cs) : cellEq v v = true := by
 rcases h with ⟨h1, _⟩ | ⟨b, o, cap, xs, g, ro, h1, _⟩ | ⟨n, h1, _⟩ <;> subst h1 <;> exact one_eqSlice _ _ _

theorem lower_byte (c : UInt8) : (65 ≤ c.toNat ∧ c.toNat ≤ 90 → u8v (Lib.lowerB c) = .int .u8 ((c.toNat : Int) + 32)) ∧ (¬ (65 ≤ c.toNat ∧ c.toNat ≤ 90) → Lib.lowerB c = c) := by
 have h : ∀ n : Fin 256, ((65 ≤ n.val ∧ n.val ≤ 90) → (Lib.lowerB (UInt8.ofNat n.val)).toNat = n.val + 32) ∧ (¬ (65 ≤ n.val ∧ n.val ≤ 90) → Lib.lowerB (UInt8.ofNat n.val) = UInt8.ofNat n.val) := by decide +kernel
 have := h ⟨c.toNat, c.toNat_lt⟩
 simp only [UInt8.ofNat_toNat] at this
 refine ⟨fun hc => ?_, this.2⟩
 have h1 := this.1 hc
 show Value.int .u8 ((Lib.lowerB c).toNat : Int) = _
 rw [h1]
 congr 1

end
end Go.Proofs.YtdmemibnphcedaaGreatDoor
end
section
set_option linter.unusedSimpArgs false
set_option linter.unusedVariables false
set_option maxRecDepth 10000
set_option linter.unusedSectionVars false
namespace Go.Proofs.YtdmemibnphcedaaGreatDoor
open Go.Am

section
variable {L : List UInt8} {i : Nat} {c d : UInt8}
end

attribute [local irreducible] callO wopK ropK popK opK grpsE listE sx Runs

section
variable {st : St} {K : Value → St → Prop}

end
end Go.Proofs.YtdmemibnphcedaaGreatDoor
end
