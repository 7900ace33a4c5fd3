/-
  The library's replacer of bytes: what it is built of.
-/
import Derived.Test.YtdmemibnphcedaaGreatDoorRBckClaimPart21
set_option linter.unusedSimpArgs false
set_option linter.unusedVariables false
set_option maxRecDepth 10000
set_option linter.unusedSectionVars false
namespace Go.Proofs.YtdmemibnphcedaaGreatDoor
open Go.Am

/-- the replacer's row: what stands for each byte, and the bytes that something stands for -/
abbrev nilS : Value := .slice none 0 0
def tabR (f : Nat → Value) (l : Value) : List Value := (List.range 256).map f ++ [l]
def updR (f : Nat → Value) (c : Nat) (v : Value) : Nat → Value := fun d => if d = c then v else f d

section
variable {f : Nat → Value} {l v : Value} {K : Value → Prop}
theorem tabR_len : (tabR f l).length = 257 := by simp [tabR]
theorem tabR_at {c : Nat} (h : c < 256) : (tabR f l)[c]? = some (f c) := by
 rw [tabR, List.getElem?_append_left (by simpa using h)]
 simp [h]
theorem tabR_last : (tabR f l)[256]? = some l := by
 rw [tabR, List.getElem?_append_right (by simp)]
 simp
theorem nthK_tab {c : Nat} (h : c < 256) : nthK (tabR f l) c K = K (f c) := by
 rw [nthK, tabR_at h]
theorem nthK_tabL : nthK (tabR f l) 256 K = K l := by
 rw [nthK, tabR_last]
theorem lputs_tab {c : Nat} (h : c < 256) : lputs (tabR f l) c [v] = tabR (updR f c v) l := by
 refine List.ext_getElem? fun j => ?_
 rw [lputs_get _ _ _ _ (by rw [tabR_len]; simp; omega)]
 by_cases h1 : j < c
 ·rw [if_pos h1, tabR_at (by omega), tabR_at (by omega), updR, if_neg (by omega)]
 ·rw [if_neg h1]
  by_cases h2 : j < c + 1
  ·have : j = c := by omega
   subst this
   rw [List.length_singleton, if_pos h2, tabR_at h, updR, if_pos rfl]
   simp
  ·rw [List.length_singleton, if_neg h2]
   by_cases h3 : j < 256
   ·rw [tabR_at h3, tabR_at h3, updR, if_neg (by omega)]
   ·by_cases h4 : j = 256
    ·subst h4; rw [tabR_last, tabR_last]
    ·rw [List.getElem?_eq_none (by rw [tabR_len]; omega), List.getElem?_eq_none (by rw [tabR_len]; omega)]
theorem lputs_tabL : lputs (tabR f l) 256 [v] = tabR f v := by
 refine List.ext_getElem? fun j => ?_
 rw [lputs_get _ _ _ _ (by rw [tabR_len]; simp)]
 by_cases h1 : j < 256
 ·rw [if_pos h1, tabR_at h1, tabR_at h1]
 ·rw [if_neg h1]
  by_cases h4 : j = 256
  ·subst h4; rw [if_pos (by simp), tabR_last]; simp
  ·rw [if_neg (by simp; omega), List.getElem?_eq_none (by rw [tabR_len]; omega), List.getElem?_eq_none (by rw [tabR_len]; omega)]
theorem lputs_all : lputs (List.replicate 257 nilS) 0 (tabR f l) = tabR f l := by
 refine List.ext_getElem? fun j => ?_
 rw [lputs_get _ _ _ _ (by rw [tabR_len]; simp)]
 rw [if_neg (by omega)]
 by_cases h4 : j < 257
 ·rw [if_pos (by rw [tabR_len]; omega), Nat.sub_zero]
 ·rw [if_neg (by rw [tabR_len]; omega), List.getElem?_eq_none (by simp; omega), List.getElem?_eq_none (by rw [tabR_len]; omega)]
theorem tabR_one (h : ∀ c, oneCell (f c) = true) (hl : oneCell l = true) : (tabR f l).all oneCell = true := by
 simp [tabR, List.all_append, h, hl]
theorem tabR_nil : tabR (fun _ => nilS) nilS = List.replicate 257 nilS := by kernel_rfl
theorem lputs_rep : lputs (List.replicate 257 (.slice none 0 0)) 256 [v] = tabR (fun _ => nilS) v := by
 show lputs (List.replicate 257 nilS) 256 [v] = _
 rw [← tabR_nil, lputs_tabL]
theorem updR_at (c d : Nat) : updR f c v d = if d = c then v else f d := rfl
end

theorem pk_quo62 (K : Value → Prop) : popK (.bin .quo) [.int .i64 6, .int .i64 2] K = K (.int .i64 3) := of_eq_true (eq_self _)
theorem wk_mkS3 (s : St) (W : Value → St → Prop) : wopK (.mkSlice [.string .empty] 16) [.int .i64 0, .int .i64 3] s W = W (.slice (some ⟨s.next, 0, none⟩) 0 3) (s.new (.row [.string .empty, .string .empty, .string .empty] 0 false)) := of_eq_true (eq_self _)
theorem tabBox (s : St) (v : Value) (ho : oneCell v = true) : ∃ s4, (∀ W : Value → St → Prop, wopK (.store 257) [.pointer (some ⟨s.next, 0, none⟩), .agg (tabR (fun _ => nilS) v).toArray] (s.new (.row (List.replicate 257 nilS) 0 false)) W = W undef s4) ∧ s4.get s.next = some (.row (tabR (fun _ => nilS) v) 0 false) ∧ s4.next = s.next + 1 ∧ Frm s s4 := by
 refine ⟨(s.new (.row (List.replicate 257 nilS) 0 false)).put s.next (some (.row (tabR (fun _ => nilS) v) 0 false)), fun W => ?_, get_put_same _ _ _, rfl, (Frm.new s _).put _ (Nat.le_refl _) _⟩
 have := wk_storeK (W := W) (get_new_same s (.row (List.replicate 257 nilS) 0 false)) (o := 0) (k := 257) (xs := tabR (fun _ => nilS) v) (by rw [List.length_replicate]; decide) tabR_len (tabR_one (fun _ => rfl) ho)
 rw [this, lputs_all]
theorem ixB10 (K : Value → Prop) : popK .indexStr [.string ⟨#[10]⟩, .int .i64 0] K = K (.int .u8 10) := of_eq_true (eq_self _)
theorem ixB34 (K : Value → Prop) : popK .indexStr [.string ⟨#[34]⟩, .int .i64 0] K = K (.int .u8 34) := of_eq_true (eq_self _)
theorem ixB42 (K : Value → Prop) : popK .indexStr [.string ⟨#[42]⟩, .int .i64 0] K = K (.int .u8 42) := of_eq_true (eq_self _)
theorem szB1 (a : UInt8) : (ByteArray.mk #[a]).size = 1 := rfl
theorem szB2 (a b : UInt8) : (ByteArray.mk #[a, b]).size = 2 := rfl

theorem rk_toStr {st : St} {b o : Nat} {cs : List Value} {g : Nat} {ro : Bool} {n cap : Nat} {l : List UInt8} (hb : st.get b = some (.row cs g ro)) (hl : (cs.drop o).take n = l.map u8v) (hn : o + n ≤ cs.length) (K : Value → Prop) : ropK .bytesToStr [.slice (some ⟨b, o, none⟩) n cap] st K = K (.string ⟨l.toArray⟩) := by
 have h : st.cells ⟨b, o, none⟩ n = some (l.map u8v) := by
  simp only [St.cells, hb]
  rw [if_pos hn, hl]
 simp only [ropK, rop, h, Option.bind_some, u8s_map, Option.map_some]

attribute [local irreducible] callO wopK ropK popK opK grpsE listE sx Runs

/-- a slice of some cells, appended to the nil slice -/
theorem append_nilK {st : St} {sb n g cap : Nat} {ro : Bool} {cs : List Value} {esz bytes : Nat} (hs : st.get sb = some (.row cs g ro)) (hl : cs.length = n * esz) (hn : 0 < n) (he : 0 < esz) (ho : cs.all oneCell = true) (hb : n * bytes ≤ 1099511627776) (hn2 : n ≤ 1099511627776) {W : Value → St → Prop}
  (h : W (.slice (some ⟨st.next, 0, none⟩) n n) (st.new (.row cs esz false))) : wopK (.append esz bytes) [.slice none 0 0, .slice (some ⟨sb, 0, none⟩) n cap] st W := by
 have h1 : st.srcCells esz (.slice (some ⟨sb, 0, none⟩) n cap) = some cs := by
  simp only [St.srcCells, St.cells, hs, Nat.ne_of_gt hn, if_false]
  rw [if_pos (by show 0 + n * esz ≤ _; omega), List.drop_zero, List.take_of_length_le (by omega)]
 simp only [wopK, wop, appendV, srcLen, h1, Nat.ne_of_gt hn, Nat.ne_of_gt he, if_false, ho, not_true_eq_false, or_false]
 rw [if_pos ⟨hb, hn2⟩]
 exact h

/-- one cell more where there is room -/
theorem append_inK {st : St} {tr sb k cap g bytes : Nat} {ro : Bool} {cs : List Value} {x : Value} (ht : st.get tr = some (.row cs 0 false)) (hs : st.get sb = some (.row [x] g ro)) (hk : k + 1 ≤ cap) (hlen : k + 1 ≤ cs.length) (ho : oneCell x = true) (hb : (k + 1) * bytes ≤ 1099511627776 ∧ k + 1 ≤ 1099511627776) {W : Value → St → Prop}
  (h : W (.slice (some ⟨tr, 0, none⟩) (k + 1) cap) (st.put tr (some (.row (lputs cs k [x]) 0 false)))) : wopK (.append 1 bytes) [.slice (some ⟨tr, 0, none⟩) k cap, .slice (some ⟨sb, 0, none⟩) 1 1] st W := by
 have h1 : st.srcCells 1 (.slice (some ⟨sb, 0, none⟩) 1 1) = some [x] := by
  simp only [St.srcCells, St.cells, hs, Nat.one_ne_zero, if_false]
  rw [if_pos (by show 0 + 1 * 1 ≤ 1; omega)]
  rfl
 have h2 : st.cells ⟨tr, 0, none⟩ (k * 1) = some (cs.take k) := by
  simp only [St.cells, ht]
  rw [if_pos (by show 0 + k * 1 ≤ _; omega), List.drop_zero, Nat.mul_one]
 have h3 : st.storeAt (addA ⟨tr, 0, none⟩ (k * 1)) [x] = some (st.put tr (some (.row (lputs cs k [x]) 0 false))) := by
  have e : addA ⟨tr, 0, none⟩ (k * 1) = ⟨tr, k, none⟩ := by
   unfold addA
   split
   ·rename_i h0; rw [show k = 0 by omega]
   ·simp
  rw [e]
  simp only [St.storeAt, ht]
  rw [if_pos ⟨by simpa using hlen, by simp [ho]⟩]
 simp only [wopK, wop, appendV, srcLen, h1, h2, ht, Nat.one_ne_zero, if_false, List.all_cons, List.all_nil, ho, Bool.and_true, not_true_eq_false, or_false, if_true]
 rw [if_pos hb, if_pos hk, h3]
 exact h
theorem lputs_mid {a rest : List Value} {k : Nat} {x : Value} (ha : a.length = k) (hr : 0 < rest.length) : lputs (a ++ rest) k [x] = a ++ [x] ++ rest.tail := by
 cases rest with
 | nil => simp at hr
 | cons y r =>
  unfold lputs
  subst ha
  simp
theorem wk_tabL {st : St} {t : Nat} {f : Nat → Value} {l : Value} {a : Option Addr} {n c : Nat} (ht : st.get t = some (.row (tabR f l) 0 false)) {W : Value → St → Prop} (h : W undef (st.put t (some (.row (tabR f (.slice a n c)) 0 false)))) : wopK (.store 1) [.pointer (some ⟨t, 0 + 256, none⟩), .slice a n c] st W := by
 rw [wk_store, ht]
 simp only [getK, rowK, cells_slice, Nat.zero_add, lputs_tabL, tabR_len]
 exact ⟨rfl, ⟨by first | trivial | rfl, by decide, rfl⟩, h⟩
theorem wk_tabAt {st : St} {t d : Nat} (hc : d < 256) {f : Nat → Value} {l : Value} {a : Option Addr} {n c : Nat} (ht : st.get t = some (.row (tabR f l) 0 false)) {W : Value → St → Prop} (h : W undef (st.put t (some (.row (tabR (updR f d (.slice a n c)) l) 0 false)))) : wopK (.store 1) [.pointer (some ⟨t, d, none⟩), .slice a n c] st W := by
 rw [wk_store, ht]
 simp only [getK, rowK, cells_slice, lputs_tab hc, tabR_len]
 exact ⟨rfl, ⟨by first | trivial | rfl, by omega, rfl⟩, h⟩

section
variable {st : St} {K : Value → St → Prop}

def six : List Value := [.string ⟨#[42]⟩, .string ⟨#[42, 42]⟩, .string ⟨#[34]⟩, .string ⟨#[42, 34]⟩, .string ⟨#[10]⟩, .string ⟨#[42, 110]⟩]

/-- NewReplacer: a row that holds the pairs -/
theorem kNewRep (n : Nat) {b g : Nat} {ro : Bool} (hb : st.get b = some (.row six g ro)) (hlt : b < st.next)
  (h : ∀ st', Frm st st' → st'.next = st.next + 2 → st'.get (st.next + 1) = some (.row [.int .u32 0, .int .i32 0, .int .u32 0, .nilIface, .slice (some ⟨st.next, 0, none⟩) 6 6] 0 false) → st'.get st.next = some (.row six 1 false) → K (.pointer (some ⟨st.next + 1, 0, none⟩)) st') :
  callK (callO T0 orc fns 100000 (n + 1)) 84 [.slice (some ⟨b, 0, none⟩) 6 6] st K := by
 refine fn_runs (fn := g84) ?_ ?_ ?_
 ·rfl
 ·rfl
 unfold g84
 simp (disch := omega) only [↓sxA, ↓wk_store, sxB, sxP, Nat.reduceLeDiff, reduceCtorEq, Nat.reduceEqDiff, Nat.reduceAdd, Int.reduceLT, Int.reduceLE, Int.reduceEq, Nat.reduceLT, Int.reduceToNat, Int.reduceAdd, Int.reduceSub, ↓reduceIte]
 rw [if_neg (by decide)]
 refine append_nilK hb rfl (by decide) (by decide) rfl (by decide) (by decide) ?_
 simp (disch := omega) only [↓sxA, ↓wk_store, sxB, sxP, Nat.reduceLeDiff, reduceCtorEq, Nat.reduceEqDiff, Nat.reduceAdd, Int.reduceLT, Int.reduceLE, Int.reduceEq, Nat.reduceLT, Int.reduceToNat, Int.reduceAdd, Int.reduceSub, ↓reduceIte]
 exact h _ ((Frm.new st _).trans (Frm.new _ _)) rfl (get_new_same _ _) ((get_new_ne _ _ _ (by show st.next + 1 ≠ st.next; omega)).trans (get_new_same _ _))

/-- the keys and what stands for them, in the order in which they are laid -/
def keyR : List Nat := [10, 34, 42]
def valR : List (List UInt8) := [[42, 110], [42, 34], [42, 42]]
/-- behind k of them -/
structure TabS (s0 st : St) (tr t k : Nat) : Prop where
 frm : Frm s0 st
 trg : s0.next ≤ tr
 tt : tr < t
 tn : t < st.next
 row : ∃ f, st.get t = some (.row (tabR f (.slice (some ⟨tr, 0, none⟩) k 3)) 0 false) ∧ (∀ j, j < k → ∃ a g, f (keyR.getD j 0) = .slice (some ⟨a, 0, none⟩) 2 2 ∧ t < a ∧ a < st.next ∧ st.get a = some (.row ((valR.getD j []).map u8v) g false)) ∧ (∀ c, (∀ j, j < k → c ≠ keyR.getD j 0) → f c = nilS)
 strs : ∃ rest, st.get tr = some (.row (((keyR.take k).map fun c => Value.string ⟨#[UInt8.ofNat c]⟩) ++ rest) 0 false) ∧ rest.length = 3 - k

theorem kBuild (n : Nat) {p b : Nat} {x y z u : Value} {g g' : Nat} {ro ro' : Bool} (hp : st.get p = some (.row [x, y, z, u, .slice (some ⟨b, 0, none⟩) 6 6] g ro)) (hb : st.get b = some (.row six g' ro')) (hpl : p < st.next) (hbl : b < st.next)
  (h : ∀ st' tr t, TabS st st' tr t 3 → K (.iface 211 (.pointer (some ⟨t, 0, none⟩))) st') : callK (callO T0 orc fns 100000 (n + 1)) 142 [.pointer (some ⟨p, 0, none⟩)] st K := by
 refine fn_runs (fn := g142) ?_ ?_ ?_
 ·rfl
 ·rfl
 unfold g142
 simp (disch := omega) only [↓sxA, ↓wk_store, sxB, sxP, Nat.reduceLeDiff, reduceCtorEq, Nat.reduceEqDiff, Nat.reduceAdd, Int.reduceLT, Int.reduceLE, Int.reduceEq, Nat.reduceLT, Int.reduceToNat, Int.reduceAdd, Int.reduceSub, ↓reduceIte, hp]
 refine loop_rule [0, 2, 3, 4, 5] (fun vs st' => st' = st ∧ (vs = [.pointer (some ⟨p, 0, none⟩), .nilIface, .slice (some ⟨b, 0, none⟩) 6 6, .bool true, .int .i64 0] ∨ vs = [.pointer (some ⟨p, 0, none⟩), .nilIface, .slice (some ⟨b, 0, none⟩) 6 6, .bool false, .int .i64 2] ∨ vs = [.pointer (some ⟨p, 0, none⟩), .nilIface, .slice (some ⟨b, 0, none⟩) 6 6, .bool false, .int .i64 4] ∨ vs = [.pointer (some ⟨p, 0, none⟩), .nilIface, .slice (some ⟨b, 0, none⟩) 6 6, .bool false, .int .i64 6])) (fun vs _ => match lget vs 4 with
   | .int _ k => (6 - k).toNat
   | _ => 0) ?_ ?_ ?_
 ·rfl
 ·refine ⟨_, rfl, ⟨rfl, .inl rfl⟩, ?_⟩
  show ((6 : Int) - 0).toNat < 100000
  decide
 ·rintro vs st' ⟨rfl, hj⟩
  rcases hj with rfl | rfl | rfl | rfl
  ·show sx _ _ _ _ _ [(0, _), (2, _), (3, _), (4, _), (5, _)] _ _ _ _
   simp (disch := omega) only [↓sxA, ↓wk_store, sxB, sxP, Nat.reduceLeDiff, reduceCtorEq, Nat.reduceEqDiff, Nat.reduceAdd, Int.reduceLT, Int.reduceLE, Int.reduceEq, Nat.reduceLT, Int.reduceToNat, Int.reduceAdd, Int.reduceSub, ↓reduceIte, hb, six, nthK_tab, nthK_tabL, tabR_len, updR_at, Nat.reduceMul, Int.reduceToNat, List.length_replicate, szB1, szB2, Int.cast_ofNat_Int, pk_quo62]
   refine ⟨_, rfl, .inr (.inl rfl), ?_⟩
   show ((6 : Int) - 2).toNat < ((6 : Int) - 0).toNat
   decide
  ·show sx _ _ _ _ _ [(0, _), (2, _), (3, _), (4, _), (5, _)] _ _ _ _
   simp (disch := omega) only [↓sxA, ↓wk_store, sxB, sxP, Nat.reduceLeDiff, reduceCtorEq, Nat.reduceEqDiff, Nat.reduceAdd, Int.reduceLT, Int.reduceLE, Int.reduceEq, Nat.reduceLT, Int.reduceToNat, Int.reduceAdd, Int.reduceSub, ↓reduceIte, hb, six, nthK_tab, nthK_tabL, tabR_len, updR_at, Nat.reduceMul, Int.reduceToNat, List.length_replicate, szB1, szB2, Int.cast_ofNat_Int, pk_quo62]
   refine ⟨_, rfl, .inr (.inr (.inl rfl)), ?_⟩
   show ((6 : Int) - 4).toNat < ((6 : Int) - 2).toNat
   decide
  ·show sx _ _ _ _ _ [(0, _), (2, _), (3, _), (4, _), (5, _)] _ _ _ _
   simp (disch := omega) only [↓sxA, ↓wk_store, sxB, sxP, Nat.reduceLeDiff, reduceCtorEq, Nat.reduceEqDiff, Nat.reduceAdd, Int.reduceLT, Int.reduceLE, Int.reduceEq, Nat.reduceLT, Int.reduceToNat, Int.reduceAdd, Int.reduceSub, ↓reduceIte, hb, six, nthK_tab, nthK_tabL, tabR_len, updR_at, Nat.reduceMul, Int.reduceToNat, List.length_replicate, szB1, szB2, Int.cast_ofNat_Int, pk_quo62]
   refine ⟨_, rfl, .inr (.inr (.inr rfl)), ?_⟩
   show ((6 : Int) - 6).toNat < ((6 : Int) - 4).toNat
   decide
  ·show sx _ _ _ _ _ [(0, _), (2, _), (3, _), (4, _), (5, _)] _ _ _ _
   simp (disch := omega) only [↓sxA, ↓wk_store, sxB, sxP, Nat.reduceLeDiff, reduceCtorEq, Nat.reduceEqDiff, Nat.reduceAdd, Int.reduceLT, Int.reduceLE, Int.reduceEq, Nat.reduceLT, Int.reduceToNat, Int.reduceAdd, Int.reduceSub, ↓reduceIte, hb, six, nthK_tab, nthK_tabL, tabR_len, updR_at, Nat.reduceMul, Int.reduceToNat, List.length_replicate, szB1, szB2, Int.cast_ofNat_Int, pk_quo62]
   rw [wk_mkS3]
   have F3 := Frm.new st' (.row [.string .empty, .string .empty, .string .empty] 0 false)
   have g3 := get_new_same st' (.row [.string .empty, .string .empty, .string .empty] 0 false)
   have n3 : (st'.new (.row [.string .empty, .string .empty, .string .empty] 0 false)).next = st'.next + 1 := rfl
   generalize st'.new (.row [.string .empty, .string .empty, .string .empty] 0 false) = s3 at F3 g3 n3 ⊢
   obtain ⟨s4, w4, g4, n4, F4⟩ := tabBox s3 (.slice (some ⟨st'.next, 0, none⟩) 0 3) rfl
   simp (disch := omega) only [↓sxA, sxB, sxP, Nat.reduceLeDiff, reduceCtorEq, Nat.reduceEqDiff, Nat.reduceAdd, Int.reduceLT, Int.reduceLE, Int.reduceEq, Nat.reduceLT, Int.reduceToNat, Int.reduceAdd, Int.reduceSub, ↓reduceIte, ↓w4, lputs_rep, tabR_len]
   refine ⟨by rw [List.length_replicate]; decide, ?_⟩
   refine loop_rule [3, 11, 12] (fun vs s => ∃ k : Nat, k ≤ 3 ∧ vs = [.slice (some ⟨b, 0, none⟩) 6 6, .pointer (some ⟨s3.next, 0, none⟩), .int .i64 (4 - 2 * (k : Int))] ∧ TabS st' s st'.next s3.next k) (fun vs _ => match lget vs 2 with
   | .int _ k => (k + 2).toNat
   | _ => 0) ?_ ?_ ?_
   ·rfl
   ·refine ⟨_, rfl, ⟨0, by decide, rfl, ⟨F3.trans F4, Nat.le_refl _, by omega, by omega, ⟨_, g4, fun j hj => by omega, fun _ _ => rfl⟩, ⟨_, (F4.old _ (by omega)).trans g3, rfl⟩⟩⟩, ?_⟩
    show ((4 : Int) + 2).toNat < 100000
    decide
   ·rintro vs s5 ⟨k, hk, rfl, hT⟩
    obtain ⟨f, hrow, hfk, hfn⟩ := hT.row
    obtain ⟨rest, hstr, hrest⟩ := hT.strs
    have hb5 := (hT.frm.old b hbl).trans hb
    have hk' : k = 0 ∨ k = 1 ∨ k = 2 ∨ k = 3 := by omega
    rcases hk' with rfl | rfl | rfl | rfl
    ·have hf : f 10 = .slice none 0 0 := by
      refine hfn 10 fun j hj => ?_
      have : j = 0 ∨ j = 1 ∨ j = 2 := by omega
      rcases this with rfl | rfl | rfl
      all_goals first | omega | decide
     have tt := hT.tt
     have tn := hT.tn
     show sx _ _ _ _ _ [(3, _), (11, _), (12, .int .i64 4)] _ _ _ _
     simp (disch := omega) only [↓sxA, sxB, sxP, Nat.reduceLeDiff, reduceCtorEq, Nat.reduceEqDiff, Nat.reduceAdd, Int.reduceLT, Int.reduceLE, Int.reduceEq, Nat.reduceLT, Int.reduceToNat, Int.reduceAdd, Int.reduceSub, ↓reduceIte, hb5, hrow, hf, six, nthK_tab, nthK_tabL, tabR_len, updR_at, Nat.reduceMul, Int.reduceToNat, szB1, szB2, Int.cast_ofNat_Int, ↓ixB10, ↓ixB34, ↓ixB42]
     have F6 := Frm.new s5 (.row [.int .u8 10] 0 false)
     have g6 := get_new_same s5 (.row [.int .u8 10] 0 false)
     have n6 : (s5.new (.row [.int .u8 10] 0 false)).next = s5.next + 1 := rfl
     generalize s5.new (.row [.int .u8 10] 0 false) = s6 at F6 g6 n6 ⊢
     rw [rk_toStr (l := [10]) g6 rfl (by decide)]
     simp (disch := omega) only [↓sxA, sxB, sxP, Nat.reduceLeDiff, reduceCtorEq, Nat.reduceEqDiff, Nat.reduceAdd, Int.reduceLT, Int.reduceLE, Int.reduceEq, Nat.reduceLT, Int.reduceToNat, Int.reduceAdd, Int.reduceSub, ↓reduceIte, nthK_tab, nthK_tabL, tabR_len, updR_at, Nat.reduceMul, Int.reduceToNat, szB1, szB2, Int.cast_ofNat_Int, ↓ixB10, ↓ixB34, ↓ixB42]
     have F7 := Frm.new s6 (.row [.string ⟨#[10]⟩] 0 false)
     have g7 := get_new_same s6 (.row [.string ⟨#[10]⟩] 0 false)
     have n7 : (s6.new (.row [.string ⟨#[10]⟩] 0 false)).next = s6.next + 1 := rfl
     generalize s6.new (.row [.string ⟨#[10]⟩] 0 false) = s7 at F7 g7 n7 ⊢
     have htr7 := (F7.old st'.next (by omega)).trans ((F6.old st'.next (by omega)).trans hstr)
     have ht7 := (F7.old s3.next (by omega)).trans ((F6.old s3.next (by omega)).trans hrow)
     refine append_inK htr7 g7 (by decide) (by rw [List.length_append, hrest]; decide) rfl (by decide) ?_
     rw [lputs_mid (a := (keyR.take 0).map fun c => Value.string ⟨#[UInt8.ofNat c]⟩) (k := 0) rfl (by omega)]
     have g8 := get_put_same s7 st'.next (some (.row (((keyR.take 0).map fun c => Value.string ⟨#[UInt8.ofNat c]⟩) ++ [.string ⟨#[10]⟩] ++ rest.tail) 0 false))
     have o8 : ∀ i, st'.next ≠ i → (s7.put st'.next (some (.row (((keyR.take 0).map fun c => Value.string ⟨#[UInt8.ofNat c]⟩) ++ [.string ⟨#[10]⟩] ++ rest.tail) 0 false))).get i = s7.get i := fun i hi => get_put_ne _ _ _ _ hi
     have n8 : (s7.put st'.next (some (.row (((keyR.take 0).map fun c => Value.string ⟨#[UInt8.ofNat c]⟩) ++ [.string ⟨#[10]⟩] ++ rest.tail) 0 false))).next = s7.next := rfl
     generalize s7.put st'.next (some (.row (((keyR.take 0).map fun c => Value.string ⟨#[UInt8.ofNat c]⟩) ++ [.string ⟨#[10]⟩] ++ rest.tail) 0 false)) = s8 at g8 o8 n8 ⊢
     have ht8 := (o8 s3.next (by omega)).trans ht7
     simp (disch := omega) only [↓sxA, sxB, sxP, Nat.reduceLeDiff, reduceCtorEq, Nat.reduceEqDiff, Nat.reduceAdd, Int.reduceLT, Int.reduceLE, Int.reduceEq, Nat.reduceLT, Int.reduceToNat, Int.reduceAdd, Int.reduceSub, ↓reduceIte, nthK_tab, nthK_tabL, tabR_len, updR_at, Nat.reduceMul, Int.reduceToNat, szB1, szB2, Int.cast_ofNat_Int, ↓ixB10, ↓ixB34, ↓ixB42]
     refine wk_tabL ht8 ?_
     have g9 := get_put_same s8 s3.next (some (.row (tabR f (.slice (some ⟨st'.next, 0, none⟩) (0 + 1) 3)) 0 false))
     have o9 : ∀ i, s3.next ≠ i → (s8.put s3.next (some (.row (tabR f (.slice (some ⟨st'.next, 0, none⟩) (0 + 1) 3)) 0 false))).get i = s8.get i := fun i hi => get_put_ne _ _ _ _ hi
     have n9 : (s8.put s3.next (some (.row (tabR f (.slice (some ⟨st'.next, 0, none⟩) (0 + 1) 3)) 0 false))).next = s8.next := rfl
     generalize s8.put s3.next (some (.row (tabR f (.slice (some ⟨st'.next, 0, none⟩) (0 + 1) 3)) 0 false)) = s9 at g9 o9 n9 ⊢
     simp (disch := omega) only [↓sxA, sxB, sxP, Nat.reduceLeDiff, reduceCtorEq, Nat.reduceEqDiff, Nat.reduceAdd, Int.reduceLT, Int.reduceLE, Int.reduceEq, Nat.reduceLT, Int.reduceToNat, Int.reduceAdd, Int.reduceSub, ↓reduceIte, nthK_tab, nthK_tabL, tabR_len, updR_at, Nat.reduceMul, Int.reduceToNat, szB1, szB2, Int.cast_ofNat_Int, ↓ixB10, ↓ixB34, ↓ixB42]
     have F10 := Frm.new s9 (.row (List.map (fun c : UInt8 => Value.int .u8 c.toNat) [42, 110]) 1 false)
     have g10 := get_new_same s9 (.row (List.map (fun c : UInt8 => Value.int .u8 c.toNat) [42, 110]) 1 false)
     have n10 : (s9.new (.row (List.map (fun c : UInt8 => Value.int .u8 c.toNat) [42, 110]) 1 false)).next = s9.next + 1 := rfl
     generalize s9.new (.row (List.map (fun c : UInt8 => Value.int .u8 c.toNat) [42, 110]) 1 false) = s10 at F10 g10 n10 ⊢
     have ht10 := (F10.old s3.next (by omega)).trans g9
     refine wk_tabAt (d := 10) (by decide) ht10 ?_
     have g11 := get_put_same s10 s3.next (some (.row (tabR (updR f 10 (.slice (some ⟨s9.next, 0, none⟩) 2 2)) (.slice (some ⟨st'.next, 0, none⟩) (0 + 1) 3)) 0 false))
     have o11 : ∀ i, s3.next ≠ i → (s10.put s3.next (some (.row (tabR (updR f 10 (.slice (some ⟨s9.next, 0, none⟩) 2 2)) (.slice (some ⟨st'.next, 0, none⟩) (0 + 1) 3)) 0 false))).get i = s10.get i := fun i hi => get_put_ne _ _ _ _ hi
     have n11 : (s10.put s3.next (some (.row (tabR (updR f 10 (.slice (some ⟨s9.next, 0, none⟩) 2 2)) (.slice (some ⟨st'.next, 0, none⟩) (0 + 1) 3)) 0 false))).next = s10.next := rfl
     generalize s10.put s3.next (some (.row (tabR (updR f 10 (.slice (some ⟨s9.next, 0, none⟩) 2 2)) (.slice (some ⟨st'.next, 0, none⟩) (0 + 1) 3)) 0 false)) = s11 at g11 o11 n11 ⊢
     simp (disch := omega) only [↓sxA, sxB, sxP, Nat.reduceLeDiff, reduceCtorEq, Nat.reduceEqDiff, Nat.reduceAdd, Int.reduceLT, Int.reduceLE, Int.reduceEq, Nat.reduceLT, Int.reduceToNat, Int.reduceAdd, Int.reduceSub, ↓reduceIte, nthK_tab, nthK_tabL, tabR_len, updR_at, Nat.reduceMul, Int.reduceToNat, szB1, szB2, Int.cast_ofNat_Int, ↓ixB10, ↓ixB34, ↓ixB42]
     have nx := hT.frm.nx
     have keep : ∀ i, i < s5.next → i ≠ st'.next → i ≠ s3.next → s11.get i = s5.get i := fun i h1 h2 h3 => by
      rw [o11 i (by omega), F10.old i (by omega), o9 i (by omega), o8 i (by omega), F7.old i (by omega), F6.old i (by omega)]
     refine ⟨_, rfl, ⟨1, by decide, rfl, ⟨⟨by omega, fun i hi => (keep i (by omega) (by omega) (by omega)).trans (hT.frm.old i hi)⟩, Nat.le_refl _, by omega, by omega, ⟨_, g11, fun j hj => ?_, fun d hd => ?_⟩, ⟨rest.tail, ?_, by rw [List.length_tail, hrest]⟩⟩⟩, ?_⟩
     ·by_cases hj' : j = 0
      ·subst hj'
       exact ⟨s9.next, 1, rfl, by omega, by omega, (o11 _ (by omega)).trans g10⟩
      ·obtain ⟨a, ga, h1, h2, h3, h4⟩ := hfk j (by omega)
       refine ⟨a, ga, ?_, h2, by omega, (keep a h3 (by omega) (by omega)).trans h4⟩
       rw [updR, if_neg ?_]
       ·exact h1
       ·have : j = 0 ∨ j = 1 ∨ j = 2 := by omega
        rcases this with rfl | rfl | rfl
        all_goals first | omega | decide
     ·rw [updR, if_neg (show ¬ d = 10 from hd 0 (by decide))]
      exact hfn d fun j hj => hd j (by omega)
     ·rw [o11 _ (by omega), F10.old _ (by omega), o9 _ (by omega)]
      exact g8
     ·show ((2 : Int) + 2).toNat < ((4 : Int) + 2).toNat
      decide
    ·have hf : f 34 = .slice none 0 0 := by
      refine hfn 34 fun j hj => ?_
      have : j = 0 ∨ j = 1 ∨ j = 2 := by omega
      rcases this with rfl | rfl | rfl
      all_goals first | omega | decide
     have tt := hT.tt
     have tn := hT.tn
     show sx _ _ _ _ _ [(3, _), (11, _), (12, .int .i64 2)] _ _ _ _
     simp (disch := omega) only [↓sxA, sxB, sxP, Nat.reduceLeDiff, reduceCtorEq, Nat.reduceEqDiff, Nat.reduceAdd, Int.reduceLT, Int.reduceLE, Int.reduceEq, Nat.reduceLT, Int.reduceToNat, Int.reduceAdd, Int.reduceSub, ↓reduceIte, hb5, hrow, hf, six, nthK_tab, nthK_tabL, tabR_len, updR_at, Nat.reduceMul, Int.reduceToNat, szB1, szB2, Int.cast_ofNat_Int, ↓ixB10, ↓ixB34, ↓ixB42]
     have F6 := Frm.new s5 (.row [.int .u8 34] 0 false)
     have g6 := get_new_same s5 (.row [.int .u8 34] 0 false)
     have n6 : (s5.new (.row [.int .u8 34] 0 false)).next = s5.next + 1 := rfl
     generalize s5.new (.row [.int .u8 34] 0 false) = s6 at F6 g6 n6 ⊢
     rw [rk_toStr (l := [34]) g6 rfl (by decide)]
     simp (disch := omega) only [↓sxA, sxB, sxP, Nat.reduceLeDiff, reduceCtorEq, Nat.reduceEqDiff, Nat.reduceAdd, Int.reduceLT, Int.reduceLE, Int.reduceEq, Nat.reduceLT, Int.reduceToNat, Int.reduceAdd, Int.reduceSub, ↓reduceIte, nthK_tab, nthK_tabL, tabR_len, updR_at, Nat.reduceMul, Int.reduceToNat, szB1, szB2, Int.cast_ofNat_Int, ↓ixB10, ↓ixB34, ↓ixB42]
     have F7 := Frm.new s6 (.row [.string ⟨#[34]⟩] 0 false)
     have g7 := get_new_same s6 (.row [.string ⟨#[34]⟩] 0 false)
     have n7 : (s6.new (.row [.string ⟨#[34]⟩] 0 false)).next = s6.next + 1 := rfl
     generalize s6.new (.row [.string ⟨#[34]⟩] 0 false) = s7 at F7 g7 n7 ⊢
     have htr7 := (F7.old st'.next (by omega)).trans ((F6.old st'.next (by omega)).trans hstr)
     have ht7 := (F7.old s3.next (by omega)).trans ((F6.old s3.next (by omega)).trans hrow)
     refine append_inK htr7 g7 (by decide) (by rw [List.length_append, hrest]; decide) rfl (by decide) ?_
     rw [lputs_mid (a := (keyR.take 1).map fun c => Value.string ⟨#[UInt8.ofNat c]⟩) (k := 1) rfl (by omega)]
     have g8 := get_put_same s7 st'.next (some (.row (((keyR.take 1).map fun c => Value.string ⟨#[UInt8.ofNat c]⟩) ++ [.string ⟨#[34]⟩] ++ rest.tail) 0 false))
     have o8 : ∀ i, st'.next ≠ i → (s7.put st'.next (some (.row (((keyR.take 1).map fun c => Value.string ⟨#[UInt8.ofNat c]⟩) ++ [.string ⟨#[34]⟩] ++ rest.tail) 0 false))).get i = s7.get i := fun i hi => get_put_ne _ _ _ _ hi
     have n8 : (s7.put st'.next (some (.row (((keyR.take 1).map fun c => Value.string ⟨#[UInt8.ofNat c]⟩) ++ [.string ⟨#[34]⟩] ++ rest.tail) 0 false))).next = s7.next := rfl
     generalize s7.put st'.next (some (.row (((keyR.take 1).map fun c => Value.string ⟨#[UInt8.ofNat c]⟩) ++ [.string ⟨#[34]⟩] ++ rest.tail) 0 false)) = s8 at g8 o8 n8 ⊢
     have ht8 := (o8 s3.next (by omega)).trans ht7
     simp (disch := omega) only [↓sxA, sxB, sxP, Nat.reduceLeDiff, reduceCtorEq, Nat.reduceEqDiff, Nat.reduceAdd, Int.reduceLT, Int.reduceLE, Int.reduceEq, Nat.reduceLT, Int.reduceToNat, Int.reduceAdd, Int.reduceSub, ↓reduceIte, nthK_tab, nthK_tabL, tabR_len, updR_at, Nat.reduceMul, Int.reduceToNat, szB1, szB2, Int.cast_ofNat_Int, ↓ixB10, ↓ixB34, ↓ixB42]
     refine wk_tabL ht8 ?_
     have g9 := get_put_same s8 s3.next (some (.row (tabR f (.slice (some ⟨st'.next, 0, none⟩) (1 + 1) 3)) 0 false))
     have o9 : ∀ i, s3.next ≠ i → (s8.put s3.next (some (.row (tabR f (.slice (some ⟨st'.next, 0, none⟩) (1 + 1) 3)) 0 false))).get i = s8.get i := fun i hi => get_put_ne _ _ _ _ hi
     have n9 : (s8.put s3.next (some (.row (tabR f (.slice (some ⟨st'.next, 0, none⟩) (1 + 1) 3)) 0 false))).next = s8.next := rfl
     generalize s8.put s3.next (some (.row (tabR f (.slice (some ⟨st'.next, 0, none⟩) (1 + 1) 3)) 0 false)) = s9 at g9 o9 n9 ⊢
     simp (disch := omega) only [↓sxA, sxB, sxP, Nat.reduceLeDiff, reduceCtorEq, Nat.reduceEqDiff, Nat.reduceAdd, Int.reduceLT, Int.reduceLE, Int.reduceEq, Nat.reduceLT, Int.reduceToNat, Int.reduceAdd, Int.reduceSub, ↓reduceIte, nthK_tab, nthK_tabL, tabR_len, updR_at, Nat.reduceMul, Int.reduceToNat, szB1, szB2, Int.cast_ofNat_Int, ↓ixB10, ↓ixB34, ↓ixB42]
     have F10 := Frm.new s9 (.row (List.map (fun c : UInt8 => Value.int .u8 c.toNat) [42, 34]) 1 false)
     have g10 := get_new_same s9 (.row (List.map (fun c : UInt8 => Value.int .u8 c.toNat) [42, 34]) 1 false)
     have n10 : (s9.new (.row (List.map (fun c : UInt8 => Value.int .u8 c.toNat) [42, 34]) 1 false)).next = s9.next + 1 := rfl
     generalize s9.new (.row (List.map (fun c : UInt8 => Value.int .u8 c.toNat) [42, 34]) 1 false) = s10 at F10 g10 n10 ⊢
     have ht10 := (F10.old s3.next (by omega)).trans g9
     refine wk_tabAt (d := 34) (by decide) ht10 ?_
     have g11 := get_put_same s10 s3.next (some (.row (tabR (updR f 34 (.slice (some ⟨s9.next, 0, none⟩) 2 2)) (.slice (some ⟨st'.next, 0, none⟩) (1 + 1) 3)) 0 false))
     have o11 : ∀ i, s3.next ≠ i → (s10.put s3.next (some (.row (tabR (updR f 34 (.slice (some ⟨s9.next, 0, none⟩) 2 2)) (.slice (some ⟨st'.next, 0, none⟩) (1 + 1) 3)) 0 false))).get i = s10.get i := fun i hi => get_put_ne _ _ _ _ hi
     have n11 : (s10.put s3.next (some (.row (tabR (updR f 34 (.slice (some ⟨s9.next, 0, none⟩) 2 2)) (.slice (some ⟨st'.next, 0, none⟩) (1 + 1) 3)) 0 false))).next = s10.next := rfl
     generalize s10.put s3.next (some (.row (tabR (updR f 34 (.slice (some ⟨s9.next, 0, none⟩) 2 2)) (.slice (some ⟨st'.next, 0, none⟩) (1 + 1) 3)) 0 false)) = s11 at g11 o11 n11 ⊢
     simp (disch := omega) only [↓sxA, sxB, sxP, Nat.reduceLeDiff, reduceCtorEq, Nat.reduceEqDiff, Nat.reduceAdd, Int.reduceLT, Int.reduceLE, Int.reduceEq, Nat.reduceLT, Int.reduceToNat, Int.reduceAdd, Int.reduceSub, ↓reduceIte, nthK_tab, nthK_tabL, tabR_len, updR_at, Nat.reduceMul, Int.reduceToNat, szB1, szB2, Int.cast_ofNat_Int, ↓ixB10, ↓ixB34, ↓ixB42]
     have nx := hT.frm.nx
     have keep : ∀ i, i < s5.next → i ≠ st'.next → i ≠ s3.next → s11.get i = s5.get i := fun i h1 h2 h3 => by
      rw [o11 i (by omega), F10.old i (by omega), o9 i (by omega), o8 i (by omega), F7.old i (by omega), F6.old i (by omega)]
     refine ⟨_, rfl, ⟨2, by decide, rfl, ⟨⟨by omega, fun i hi => (keep i (by omega) (by omega) (by omega)).trans (hT.frm.old i hi)⟩, Nat.le_refl _, by omega, by omega, ⟨_, g11, fun j hj => ?_, fun d hd => ?_⟩, ⟨rest.tail, ?_, by rw [List.length_tail, hrest]⟩⟩⟩, ?_⟩
     ·by_cases hj' : j = 1
      ·subst hj'
       exact ⟨s9.next, 1, rfl, by omega, by omega, (o11 _ (by omega)).trans g10⟩
      ·obtain ⟨a, ga, h1, h2, h3, h4⟩ := hfk j (by omega)
       refine ⟨a, ga, ?_, h2, by omega, (keep a h3 (by omega) (by omega)).trans h4⟩
       rw [updR, if_neg ?_]
       ·exact h1
       ·have : j = 0 ∨ j = 1 ∨ j = 2 := by omega
        rcases this with rfl | rfl | rfl
        all_goals first | omega | decide
     ·rw [updR, if_neg (show ¬ d = 34 from hd 1 (by decide))]
      exact hfn d fun j hj => hd j (by omega)
     ·rw [o11 _ (by omega), F10.old _ (by omega), o9 _ (by omega)]
      exact g8
     ·show ((0 : Int) + 2).toNat < ((2 : Int) + 2).toNat
      decide
    ·have hf : f 42 = .slice none 0 0 := by
      refine hfn 42 fun j hj => ?_
      have : j = 0 ∨ j = 1 ∨ j = 2 := by omega
      rcases this with rfl | rfl | rfl
      all_goals first | omega | decide
     have tt := hT.tt
     have tn := hT.tn
     show sx _ _ _ _ _ [(3, _), (11, _), (12, .int .i64 0)] _ _ _ _
     simp (disch := omega) only [↓sxA, sxB, sxP, Nat.reduceLeDiff, reduceCtorEq, Nat.reduceEqDiff, Nat.reduceAdd, Int.reduceLT, Int.reduceLE, Int.reduceEq, Nat.reduceLT, Int.reduceToNat, Int.reduceAdd, Int.reduceSub, ↓reduceIte, hb5, hrow, hf, six, nthK_tab, nthK_tabL, tabR_len, updR_at, Nat.reduceMul, Int.reduceToNat, szB1, szB2, Int.cast_ofNat_Int, ↓ixB10, ↓ixB34, ↓ixB42]
     have F6 := Frm.new s5 (.row [.int .u8 42] 0 false)
     have g6 := get_new_same s5 (.row [.int .u8 42] 0 false)
     have n6 : (s5.new (.row [.int .u8 42] 0 false)).next = s5.next + 1 := rfl
     generalize s5.new (.row [.int .u8 42] 0 false) = s6 at F6 g6 n6 ⊢
     rw [rk_toStr (l := [42]) g6 rfl (by decide)]
     simp (disch := omega) only [↓sxA, sxB, sxP, Nat.reduceLeDiff, reduceCtorEq, Nat.reduceEqDiff, Nat.reduceAdd, Int.reduceLT, Int.reduceLE, Int.reduceEq, Nat.reduceLT, Int.reduceToNat, Int.reduceAdd, Int.reduceSub, ↓reduceIte, nthK_tab, nthK_tabL, tabR_len, updR_at, Nat.reduceMul, Int.reduceToNat, szB1, szB2, Int.cast_ofNat_Int, ↓ixB10, ↓ixB34, ↓ixB42]
     have F7 := Frm.new s6 (.row [.string ⟨#[42]⟩] 0 false)
     have g7 := get_new_same s6 (.row [.string ⟨#[42]⟩] 0 false)
     have n7 : (s6.new (.row [.string ⟨#[42]⟩] 0 false)).next = s6.next + 1 := rfl
     generalize s6.new (.row [.string ⟨#[42]⟩] 0 false) = s7 at F7 g7 n7 ⊢
     have htr7 := (F7.old st'.next (by omega)).trans ((F6.old st'.next (by omega)).trans hstr)
     have ht7 := (F7.old s3.next (by omega)).trans ((F6.old s3.next (by omega)).trans hrow)
     refine append_inK htr7 g7 (by decide) (by rw [List.length_append, hrest]; decide) rfl (by decide) ?_
     rw [lputs_mid (a := (keyR.take 2).map fun c => Value.string ⟨#[UInt8.ofNat c]⟩) (k := 2) rfl (by omega)]
     have g8 := get_put_same s7 st'.next (some (.row (((keyR.take 2).map fun c => Value.string ⟨#[UInt8.ofNat c]⟩) ++ [.string ⟨#[42]⟩] ++ rest.tail) 0 false))
     have o8 : ∀ i, st'.next ≠ i → (s7.put st'.next (some (.row (((keyR.take 2).map fun c => Value.string ⟨#[UInt8.ofNat c]⟩) ++ [.string ⟨#[42]⟩] ++ rest.tail) 0 false))).get i = s7.get i := fun i hi => get_put_ne _ _ _ _ hi
     have n8 : (s7.put st'.next (some (.row (((keyR.take 2).map fun c => Value.string ⟨#[UInt8.ofNat c]⟩) ++ [.string ⟨#[42]⟩] ++ rest.tail) 0 false))).next = s7.next := rfl
     generalize s7.put st'.next (some (.row (((keyR.take 2).map fun c => Value.string ⟨#[UInt8.ofNat c]⟩) ++ [.string ⟨#[42]⟩] ++ rest.tail) 0 false)) = s8 at g8 o8 n8 ⊢
     have ht8 := (o8 s3.next (by omega)).trans ht7
     simp (disch := omega) only [↓sxA, sxB, sxP, Nat.reduceLeDiff, reduceCtorEq, Nat.reduceEqDiff, Nat.reduceAdd, Int.reduceLT, Int.reduceLE, Int.reduceEq, Nat.reduceLT, Int.reduceToNat, Int.reduceAdd, Int.reduceSub, ↓reduceIte, nthK_tab, nthK_tabL, tabR_len, updR_at, Nat.reduceMul, Int.reduceToNat, szB1, szB2, Int.cast_ofNat_Int, ↓ixB10, ↓ixB34, ↓ixB42]
     refine wk_tabL ht8 ?_
     have g9 := get_put_same s8 s3.next (some (.row (tabR f (.slice (some ⟨st'.next, 0, none⟩) (2 + 1) 3)) 0 false))
     have o9 : ∀ i, s3.next ≠ i → (s8.put s3.next (some (.row (tabR f (.slice (some ⟨st'.next, 0, none⟩) (2 + 1) 3)) 0 false))).get i = s8.get i := fun i hi => get_put_ne _ _ _ _ hi
     have n9 : (s8.put s3.next (some (.row (tabR f (.slice (some ⟨st'.next, 0, none⟩) (2 + 1) 3)) 0 false))).next = s8.next := rfl
     generalize s8.put s3.next (some (.row (tabR f (.slice (some ⟨st'.next, 0, none⟩) (2 + 1) 3)) 0 false)) = s9 at g9 o9 n9 ⊢
     simp (disch := omega) only [↓sxA, sxB, sxP, Nat.reduceLeDiff, reduceCtorEq, Nat.reduceEqDiff, Nat.reduceAdd, Int.reduceLT, Int.reduceLE, Int.reduceEq, Nat.reduceLT, Int.reduceToNat, Int.reduceAdd, Int.reduceSub, ↓reduceIte, nthK_tab, nthK_tabL, tabR_len, updR_at, Nat.reduceMul, Int.reduceToNat, szB1, szB2, Int.cast_ofNat_Int, ↓ixB10, ↓ixB34, ↓ixB42]
     have F10 := Frm.new s9 (.row (List.map (fun c : UInt8 => Value.int .u8 c.toNat) [42, 42]) 1 false)
     have g10 := get_new_same s9 (.row (List.map (fun c : UInt8 => Value.int .u8 c.toNat) [42, 42]) 1 false)
     have n10 : (s9.new (.row (List.map (fun c : UInt8 => Value.int .u8 c.toNat) [42, 42]) 1 false)).next = s9.next + 1 := rfl
     generalize s9.new (.row (List.map (fun c : UInt8 => Value.int .u8 c.toNat) [42, 42]) 1 false) = s10 at F10 g10 n10 ⊢
     have ht10 := (F10.old s3.next (by omega)).trans g9
     refine wk_tabAt (d := 42) (by decide) ht10 ?_
     have g11 := get_put_same s10 s3.next (some (.row (tabR (updR f 42 (.slice (some ⟨s9.next, 0, none⟩) 2 2)) (.slice (some ⟨st'.next, 0, none⟩) (2 + 1) 3)) 0 false))
     have o11 : ∀ i, s3.next ≠ i → (s10.put s3.next (some (.row (tabR (updR f 42 (.slice (some ⟨s9.next, 0, none⟩) 2 2)) (.slice (some ⟨st'.next, 0, none⟩) (2 + 1) 3)) 0 false))).get i = s10.get i := fun i hi => get_put_ne _ _ _ _ hi
     have n11 : (s10.put s3.next (some (.row (tabR (updR f 42 (.slice (some ⟨s9.next, 0, none⟩) 2 2)) (.slice (some ⟨st'.next, 0, none⟩) (2 + 1) 3)) 0 false))).next = s10.next := rfl
     generalize s10.put s3.next (some (.row (tabR (updR f 42 (.slice (some ⟨s9.next, 0, none⟩) 2 2)) (.slice (some ⟨st'.next, 0, none⟩) (2 + 1) 3)) 0 false)) = s11 at g11 o11 n11 ⊢
     simp (disch := omega) only [↓sxA, sxB, sxP, Nat.reduceLeDiff, reduceCtorEq, Nat.reduceEqDiff, Nat.reduceAdd, Int.reduceLT, Int.reduceLE, Int.reduceEq, Nat.reduceLT, Int.reduceToNat, Int.reduceAdd, Int.reduceSub, ↓reduceIte, nthK_tab, nthK_tabL, tabR_len, updR_at, Nat.reduceMul, Int.reduceToNat, szB1, szB2, Int.cast_ofNat_Int, ↓ixB10, ↓ixB34, ↓ixB42]
     have nx := hT.frm.nx
     have keep : ∀ i, i < s5.next → i ≠ st'.next → i ≠ s3.next → s11.get i = s5.get i := fun i h1 h2 h3 => by
      rw [o11 i (by omega), F10.old i (by omega), o9 i (by omega), o8 i (by omega), F7.old i (by omega), F6.old i (by omega)]
     refine ⟨_, rfl, ⟨3, by decide, rfl, ⟨⟨by omega, fun i hi => (keep i (by omega) (by omega) (by omega)).trans (hT.frm.old i hi)⟩, Nat.le_refl _, by omega, by omega, ⟨_, g11, fun j hj => ?_, fun d hd => ?_⟩, ⟨rest.tail, ?_, by rw [List.length_tail, hrest]⟩⟩⟩, ?_⟩
     ·by_cases hj' : j = 2
      ·subst hj'
       exact ⟨s9.next, 1, rfl, by omega, by omega, (o11 _ (by omega)).trans g10⟩
      ·obtain ⟨a, ga, h1, h2, h3, h4⟩ := hfk j (by omega)
       refine ⟨a, ga, ?_, h2, by omega, (keep a h3 (by omega) (by omega)).trans h4⟩
       rw [updR, if_neg ?_]
       ·exact h1
       ·have : j = 0 ∨ j = 1 ∨ j = 2 := by omega
        rcases this with rfl | rfl | rfl
        all_goals first | omega | decide
     ·rw [updR, if_neg (show ¬ d = 42 from hd 2 (by decide))]
      exact hfn d fun j hj => hd j (by omega)
     ·rw [o11 _ (by omega), F10.old _ (by omega), o9 _ (by omega)]
      exact g8
     ·show ((-2 : Int) + 2).toNat < ((0 : Int) + 2).toNat
      decide
    ·show sx _ _ _ _ _ [(3, _), (11, _), (12, .int .i64 (-2))] _ _ _ _
     simp (disch := omega) only [↓sxA, sxB, sxP, Nat.reduceLeDiff, reduceCtorEq, Nat.reduceEqDiff, Nat.reduceAdd, Int.reduceLT, Int.reduceLE, Int.reduceEq, Nat.reduceLT, Int.reduceToNat, Int.reduceAdd, Int.reduceSub, ↓reduceIte, nthK_tab, nthK_tabL, tabR_len, updR_at, Nat.reduceMul, Int.reduceToNat, szB1, szB2, Int.cast_ofNat_Int, ↓ixB10, ↓ixB34, ↓ixB42]
     exact h _ _ _ hT
end

/-! behind the build -/
/-- what a byte becomes -/
def escB (c : UInt8) : List UInt8 := if c = 10 then [42, 110] else if c = 34 then [42, 34] else if c = 42 then [42, 42] else [c]

/-- the replacer's own row, before it is built -/
def repRow (b : Nat) : List Value := [.int .u32 0, .int .i32 0, .int .u32 0, .nilIface, .slice (some ⟨b, 0, none⟩) 6 6]

/-- the row of a replacer that is built -/
structure RepF (lo : Nat) (st : St) (t : Nat) : Prop where
 lt : lo ≤ t
 tn : t < st.next
 row : ∃ f tr, st.get t = some (.row (tabR f (.slice (some ⟨tr, 0, none⟩) 3 3)) 0 false) ∧ lo ≤ tr ∧ tr < st.next ∧ st.get tr = some (.row [.string ⟨#[10]⟩, .string ⟨#[34]⟩, .string ⟨#[42]⟩] 0 false) ∧
  (∀ c : UInt8, (c = 10 ∨ c = 34 ∨ c = 42) → ∃ a g, f c.toNat = .slice (some ⟨a, 0, none⟩) 2 2 ∧ lo ≤ a ∧ a < st.next ∧ st.get a = some (.row ((escB c).map u8v) g false)) ∧
  ∀ c : UInt8, c ≠ 10 → c ≠ 34 → c ≠ 42 → f c.toNat = .slice none 0 0

theorem RepF.keep {lo : Nat} {st st' : St} {t : Nat} (h : RepF lo st t) (hn : st.next ≤ st'.next) (hk : ∀ i, lo ≤ i → i < st.next → st'.get i = st.get i) : RepF lo st' t := by
 obtain ⟨f, tr, h1, h2, h3, h4, h5, h6⟩ := h.row
 have hlt := h.lt
 have htn := h.tn
 refine ⟨hlt, by omega, f, tr, (hk t hlt htn).trans h1, h2, by omega, (hk tr h2 h3).trans h4, fun c hc => ?_, h6⟩
 obtain ⟨a, g, k1, k2, k3, k4⟩ := h5 c hc
 exact ⟨a, g, k1, k2, by omega, (hk a k2 k3).trans k4⟩

theorem TabS.rep {s0 st : St} {tr t : Nat} (h : TabS s0 st tr t 3) : RepF s0.next st t := by
 obtain ⟨f, h1, h2, h3⟩ := h.row
 obtain ⟨rest, h4, h5⟩ := h.strs
 have hr : rest = [] := List.eq_nil_of_length_eq_zero h5
 subst hr
 have a1 := h.trg
 have a2 := h.tt
 have a3 := h.tn
 refine ⟨by omega, a3, f, tr, h1, a1, by omega, h4, fun c hc => ?_, fun c c1 c2 c3 => ?_⟩
 ·rcases hc with rfl | rfl | rfl
  ·obtain ⟨a, g, k1, k2, k3, k4⟩ := h2 0 (by decide)
   exact ⟨a, g, k1, by omega, k3, k4⟩
  ·obtain ⟨a, g, k1, k2, k3, k4⟩ := h2 1 (by decide)
   exact ⟨a, g, k1, by omega, k3, k4⟩
  ·obtain ⟨a, g, k1, k2, k3, k4⟩ := h2 2 (by decide)
   exact ⟨a, g, k1, by omega, k3, k4⟩
 ·refine h3 _ fun j hj => ?_
  have : j = 0 ∨ j = 1 ∨ j = 2 := by omega
  rcases this with rfl | rfl | rfl
  ·exact fun e => c1 (UInt8.toNat.inj e)
  ·exact fun e => c2 (UInt8.toNat.inj e)
  ·exact fun e => c3 (UInt8.toNat.inj e)

section
variable {st : St} {K : Value → St → Prop}

theorem kBuildOnce (n : Nat) {p b : Nat} {x y z u : Value} {g' : Nat} {ro' : Bool} (hp : st.get p = some (.row [x, y, z, u, .slice (some ⟨b, 0, none⟩) 6 6] 0 false)) (hb : st.get b = some (.row six g' ro')) (hpl : p < st.next) (hbl : b < st.next)
  (h : ∀ st' t, RepF st.next st' t → st.next ≤ st'.next → (∀ i, i ≠ p → i < st.next → st'.get i = st.get i) → st'.get p = some (.row [x, y, z, .iface 211 (.pointer (some ⟨t, 0, none⟩)), .slice none 0 0] 0 false) → K (.tuple #[]) st') : callK (callO T0 orc fns 100000 (n + 2)) 117 [.pointer (some ⟨p, 0, none⟩)] st K := by
 refine fn_runs (fn := g117) ?_ ?_ ?_
 ·rfl
 ·rfl
 unfold g117
 simp (disch := omega) only [↓sxA, ↓wk_store, sxB, sxP, Nat.reduceLeDiff, reduceCtorEq, Nat.reduceEqDiff, Nat.reduceAdd, Int.reduceLT, Int.reduceLE, Int.reduceEq, Nat.reduceLT, Int.reduceToNat, Int.reduceAdd, Int.reduceSub, ↓reduceIte]
 refine kBuild n hp hb hpl hbl fun s1 tr t hT => ?_
 have hp1 := (hT.frm.old p hpl).trans hp
 have nx := hT.frm.nx
 simp (disch := omega) only [↓sxA, ↓wk_store, sxB, sxP, Nat.reduceLeDiff, reduceCtorEq, Nat.reduceEqDiff, Nat.reduceAdd, Int.reduceLT, Int.reduceLE, Int.reduceEq, Nat.reduceLT, Int.reduceToNat, Int.reduceAdd, Int.reduceSub, ↓reduceIte, hp1]
 refine h _ t (hT.rep.keep (Nat.le_refl _) fun i h1 h2 => ?_) nx (fun i hi hl => ?_) (get_put_same _ _ _)
 ·rw [get_put_ne _ _ _ _ (by omega), get_put_ne _ _ _ _ (by omega)]
 ·rw [get_put_ne _ _ _ _ (Ne.symm hi), get_put_ne _ _ _ _ (Ne.symm hi)]
  exact hT.frm.old i hl

/-- the flag is read -/
theorem kLoad (n : Nat) {b o g : Nat} {cs : List Value} {x : Int} (hb : st.get b = some (.row cs g false)) (hc : cs[o]? = some (.int .u32 x)) (h : K (.bool (x != 0)) st) : callK (callO T0 orc fns 100000 n) 140 [.pointer (some ⟨b, o, none⟩)] st K := by
 rw [callO_none (by rfl)]
 have e : orc 140 [.pointer (some ⟨b, o, none⟩)] st = .ret (.bool (x != 0), st) := by
  rw [orc_eq (by decide)]
  simp [orc1, lockO, hb, hc]
 exact (propext (callK_ret (K := K) e)).mpr h
theorem swapAt_eq {b o g : Nat} {k : IntKind} {x y : Int} {cs : List Value} (hb : st.get b = some (.row cs g false)) (hc : cs[o]? = some (.int k x)) : swapAt st b o k x y = some (st.put b (some (.row (lputs cs o [.int k y]) g false))) := by
 simp [swapAt, hb, hc]
theorem kLock1 (n : Nat) {b o g : Nat} {cs : List Value} (hb : st.get b = some (.row cs g false)) (hc : cs[o]? = some (.int .i32 0)) (h : K (.tuple #[]) (st.put b (some (.row (lputs cs o [.int .i32 1]) g false)))) : callK (callO T0 orc fns 100000 n) 160 [.pointer (some ⟨b, o, none⟩)] st K := by
 rw [callO_none (by rfl)]
 have e : orc 160 [.pointer (some ⟨b, o, none⟩)] st = .ret (.tuple #[], st.put b (some (.row (lputs cs o [.int .i32 1]) g false))) := by
  rw [orc_eq (by decide)]
  simp [orc1, lockO, swapAt_eq hb hc]
 exact (propext (callK_ret (K := K) e)).mpr h
theorem kUnlock1 (n : Nat) {b o g : Nat} {cs : List Value} (hb : st.get b = some (.row cs g false)) (hc : cs[o]? = some (.int .i32 1)) (h : K (.tuple #[]) (st.put b (some (.row (lputs cs o [.int .i32 0]) g false)))) : callK (callO T0 orc fns 100000 n) 161 [.pointer (some ⟨b, o, none⟩)] st K := by
 rw [callO_none (by rfl)]
 have e : orc 161 [.pointer (some ⟨b, o, none⟩)] st = .ret (.tuple #[], st.put b (some (.row (lputs cs o [.int .i32 0]) g false))) := by
  rw [orc_eq (by decide)]
  simp [orc1, lockO, swapAt_eq hb hc]
 exact (propext (callK_ret (K := K) e)).mpr h
theorem kStoreD {b o g : Nat} {cs : List Value} (hb : st.get b = some (.row cs g false)) (hc : cs[o]? = some (.int .u32 0)) (h : K (.tuple #[]) (st.put b (some (.row (lputs cs o [.int .u32 1]) g false)))) : callK T0.dfr 154 [.pointer (some ⟨b, o, none⟩), .bool true] st K := by
 have e : T0.dfr 154 [.pointer (some ⟨b, o, none⟩), .bool true] st = .ret (.tuple #[], st.put b (some (.row (lputs cs o [.int .u32 1]) g false))) := by
  have e0 : T0.dfr = dfrO := rfl
  rw [e0]
  simp [dfrO, swapAt_eq hb hc]
 exact (propext (callK_ret (K := K) e)).mpr h

theorem kLock (n : Nat) {b o g : Nat} {cs : List Value} (hb : st.get b = some (.row cs g false)) (hc : cs[o]? = some (.int .i32 0)) (h : K (.tuple #[]) (st.put b (some (.row (lputs cs o [.int .i32 1]) g false)))) : callK (callO T0 orc fns 100000 (n + 1)) 152 [.pointer (some ⟨b, o, none⟩)] st K := by
 refine fn_runs (fn := g152) ?_ ?_ ?_
 ·rfl
 ·rfl
 unfold g152
 simp (disch := omega) only [↓sxA, ↓wk_store, sxB, sxP, Nat.reduceLeDiff, reduceCtorEq, Nat.reduceEqDiff, Nat.reduceAdd, Int.reduceLT, Int.reduceLE, Int.reduceEq, Nat.reduceLT, Int.reduceToNat, Int.reduceAdd, Int.reduceSub, ↓reduceIte]
 refine kLock1 n hb hc ?_
 simp (disch := omega) only [↓sxA, ↓wk_store, sxB, sxP, Nat.reduceLeDiff, reduceCtorEq, Nat.reduceEqDiff, Nat.reduceAdd, Int.reduceLT, Int.reduceLE, Int.reduceEq, Nat.reduceLT, Int.reduceToNat, Int.reduceAdd, Int.reduceSub, ↓reduceIte]
 exact h
theorem kUnlock (n : Nat) {b o g : Nat} {cs : List Value} (hb : st.get b = some (.row cs g false)) (hc : cs[o]? = some (.int .i32 1)) (h : K (.tuple #[]) (st.put b (some (.row (lputs cs o [.int .i32 0]) g false)))) : callK (callO T0 orc fns 100000 (n + 1)) 153 [.pointer (some ⟨b, o, none⟩)] st K := by
 refine fn_runs (fn := g153) ?_ ?_ ?_
 ·rfl
 ·rfl
 unfold g153
 simp (disch := omega) only [↓sxA, ↓wk_store, sxB, sxP, Nat.reduceLeDiff, reduceCtorEq, Nat.reduceEqDiff, Nat.reduceAdd, Int.reduceLT, Int.reduceLE, Int.reduceEq, Nat.reduceLT, Int.reduceToNat, Int.reduceAdd, Int.reduceSub, ↓reduceIte]
 refine kUnlock1 n hb hc ?_
 simp (disch := omega) only [↓sxA, ↓wk_store, sxB, sxP, Nat.reduceLeDiff, reduceCtorEq, Nat.reduceEqDiff, Nat.reduceAdd, Int.reduceLT, Int.reduceLE, Int.reduceEq, Nat.reduceLT, Int.reduceToNat, Int.reduceAdd, Int.reduceSub, ↓reduceIte]
 exact h

theorem kDoSlow (n : Nat) {p b : Nat} {g' : Nat} {ro' : Bool} (hp : st.get p = some (.row (repRow b) 0 false)) (hb : st.get b = some (.row six g' ro')) (hpl : p < st.next) (hbl : b < st.next) (hpb : b ≠ p)
  (h : ∀ st' t, RepF st.next st' t → st.next ≤ st'.next → (∀ i, i ≠ p → i < st.next → st'.get i = st.get i) → st'.get p = some (.row [.int .u32 1, .int .i32 0, .int .u32 0, .iface 211 (.pointer (some ⟨t, 0, none⟩)), .slice none 0 0] 0 false) → K (.tuple #[]) st') :
  callK (callO T0 orc fns 100000 (n + 3)) 141 [.pointer (some ⟨p, 0, none⟩), .func (.func 117) #[.pointer (some ⟨p, 0, none⟩)] #[]] st K := by
 refine fnD_runs (fn := g141) ?_ ?_ ?_ ?_
 ·rfl
 ·rfl
 ·rfl
 unfold g141
 have dk := fun args s K => deferK (T := T0) (O := orc) (fns := fns) (n := n + 1) (m := 100000) (f := 153) (fn := g153) rfl rfl args s K
 have dO := fun args s K => deferO (T := T0) (C := callO T0 orc fns 100000 (n + 2)) (fns := fns) (n := n + 2) (f := 154) rfl args s K
 simp (disch := omega) only [↓sxA, ↓wk_store, sxB, sxP, Nat.reduceLeDiff, reduceCtorEq, Nat.reduceEqDiff, Nat.reduceAdd, Int.reduceLT, Int.reduceLE, Int.reduceEq, Nat.reduceLT, Int.reduceToNat, Int.reduceAdd, Int.reduceSub, ↓reduceIte]
 refine kLock (n + 1) hp rfl ?_
 have g1 : (st.put p (some (.row (lputs (repRow b) 1 [.int .i32 1]) 0 false))).get p = some (.row [.int .u32 0, .int .i32 1, .int .u32 0, .nilIface, .slice (some ⟨b, 0, none⟩) 6 6] 0 false) := get_put_same _ _ _
 have o1 : ∀ i, i ≠ p → (st.put p (some (.row (lputs (repRow b) 1 [.int .i32 1]) 0 false))).get i = st.get i := fun i hi => get_put_ne _ _ _ _ (Ne.symm hi)
 have n1 : (st.put p (some (.row (lputs (repRow b) 1 [.int .i32 1]) 0 false))).next = st.next := rfl
 generalize st.put p (some (.row (lputs (repRow b) 1 [.int .i32 1]) 0 false)) = s1 at g1 o1 n1 ⊢
 simp (disch := omega) only [↓sxA, ↓wk_store, sxB, sxP, Nat.reduceLeDiff, reduceCtorEq, Nat.reduceEqDiff, Nat.reduceAdd, Int.reduceLT, Int.reduceLE, Int.reduceEq, Nat.reduceLT, Int.reduceToNat, Int.reduceAdd, Int.reduceSub, ↓reduceIte]
 refine kLoad (n + 2) g1 rfl ?_
 rw [show ((0 : Int) != 0) = false from rfl]
 simp (disch := omega) only [↓sxA, ↓wk_store, sxB, sxP, Nat.reduceLeDiff, reduceCtorEq, Nat.reduceEqDiff, Nat.reduceAdd, Int.reduceLT, Int.reduceLE, Int.reduceEq, Nat.reduceLT, Int.reduceToNat, Int.reduceAdd, Int.reduceSub, ↓reduceIte, List.toList_toArray, List.nil_append, List.append_nil, List.cons_append]
 refine kBuildOnce n g1 ((o1 b hpb).trans hb) (by omega) (by omega) fun s2 t hR nx2 o2 g2 => ?_
 simp (disch := omega) only [↓sxA, ↓wk_store, sxB, sxP, Nat.reduceLeDiff, reduceCtorEq, Nat.reduceEqDiff, Nat.reduceAdd, Int.reduceLT, Int.reduceLE, Int.reduceEq, Nat.reduceLT, Int.reduceToNat, Int.reduceAdd, Int.reduceSub, ↓reduceIte, dO, List.toList_toArray, List.nil_append, List.append_nil, List.cons_append]
 refine kStoreD g2 rfl ?_
 have g3 : (s2.put p (some (.row (lputs [.int .u32 0, .int .i32 1, .int .u32 0, .iface 211 (.pointer (some ⟨t, 0, none⟩)), .slice none 0 0] 0 [.int .u32 1]) 0 false))).get p = some (.row [.int .u32 1, .int .i32 1, .int .u32 0, .iface 211 (.pointer (some ⟨t, 0, none⟩)), .slice none 0 0] 0 false) := get_put_same _ _ _
 have o3 : ∀ i, i ≠ p → (s2.put p (some (.row (lputs [.int .u32 0, .int .i32 1, .int .u32 0, .iface 211 (.pointer (some ⟨t, 0, none⟩)), .slice none 0 0] 0 [.int .u32 1]) 0 false))).get i = s2.get i := fun i hi => get_put_ne _ _ _ _ (Ne.symm hi)
 have n3 : (s2.put p (some (.row (lputs [.int .u32 0, .int .i32 1, .int .u32 0, .iface 211 (.pointer (some ⟨t, 0, none⟩)), .slice none 0 0] 0 [.int .u32 1]) 0 false))).next = s2.next := rfl
 generalize s2.put p _ = s3 at g3 o3 n3 ⊢
 simp (disch := omega) only [↓sxA, ↓wk_store, sxB, sxP, Nat.reduceLeDiff, reduceCtorEq, Nat.reduceEqDiff, Nat.reduceAdd, Int.reduceLT, Int.reduceLE, Int.reduceEq, Nat.reduceLT, Int.reduceToNat, Int.reduceAdd, Int.reduceSub, ↓reduceIte, dk, List.toList_toArray, List.nil_append, List.append_nil, List.cons_append]
 trace_state
 refine kUnlock (n + 1) g3 rfl ?_
 simp (disch := omega) only [↓sxA, ↓wk_store, sxB, sxP, Nat.reduceLeDiff, reduceCtorEq, Nat.reduceEqDiff, Nat.reduceAdd, Int.reduceLT, Int.reduceLE, Int.reduceEq, Nat.reduceLT, Int.reduceToNat, Int.reduceAdd, Int.reduceSub, ↓reduceIte]
 rw [n1] at hR nx2
 refine h _ t (hR.keep (Nat.le_of_eq n3.symm) fun i h1 h2 => ?_) (by show st.next ≤ s3.next; omega) (fun i hi hl => ?_) (get_put_same _ _ _)
 ·rw [get_put_ne _ _ _ _ (by omega), o3 i (by omega)]
 ·rw [get_put_ne _ _ _ _ (Ne.symm hi), o3 i hi, o2 i hi (by omega), o1 i hi]
end
end Go.Proofs.YtdmemibnphcedaaGreatDoor
