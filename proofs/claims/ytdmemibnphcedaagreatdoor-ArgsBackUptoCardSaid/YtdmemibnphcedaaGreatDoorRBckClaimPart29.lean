/-
  The library's replacer of bytes: a text is replaced.
-/
import Derived.Test.YtdmemibnphcedaaGreatDoorRBckClaimPart28
import Derived.Test.YtdmemibnphcedaaGreatDoorRBckClaimPart25
set_option linter.unusedSimpArgs false
set_option linter.unusedVariables false
set_option maxRecDepth 10000
set_option linter.unusedSectionVars false
namespace Go.Proofs.YtdmemibnphcedaaGreatDoor
open Go.Am

/-- bytes that something else stands for -/
def isE (c : UInt8) : Bool := c == 10 || c == 34 || c == 42
def nesc (l : List UInt8) : Nat := l.countP isE
def escL (l : List UInt8) : List UInt8 := l.flatMap escB
theorem isE_iff {c : UInt8} : isE c = true ↔ c = 10 ∨ c = 34 ∨ c = 42 := by simp [isE, or_assoc]
theorem escB_e {c : UInt8} (h : isE c = true) : (escB c).length = 2 := by
 rcases isE_iff.1 h with rfl | rfl | rfl <;> rfl
theorem escB_n {c : UInt8} (h : isE c = false) : escB c = [c] := by
 simp only [isE, Bool.or_eq_false_iff, beq_eq_false_iff_ne] at h
 obtain ⟨⟨h1, h2⟩, h3⟩ := h
 rw [escB, if_neg h1, if_neg h2, if_neg h3]
theorem escL_len (l : List UInt8) : (escL l).length = l.length + nesc l := by
 induction l with
 | nil => rfl
 | cons c l ih =>
  unfold escL nesc at *
  rw [List.flatMap_cons, List.length_append, ih, List.countP_cons, List.length_cons]
  cases h : isE c with
  | true => rw [escB_e h]; simp; omega
  | false => rw [escB_n h]; simp; omega
theorem escL_none (l : List UInt8) (h : nesc l = 0) : escL l = l := by
 induction l with
 | nil => rfl
 | cons c l ih =>
  unfold escL nesc at *
  rw [List.countP_cons] at h
  cases hc : isE c with
  | true => rw [hc] at h; simp at h
  | false =>
   rw [hc] at h
   simp at h
   rw [List.flatMap_cons, escB_n hc, ih (by simpa using h)]
   rfl
theorem escL_append (a b : List UInt8) : escL (a ++ b) = escL a ++ escL b := List.flatMap_append
theorem nesc_append (a b : List UInt8) : nesc (a ++ b) = nesc a + nesc b := List.countP_append
theorem nesc_le (l : List UInt8) : nesc l ≤ l.length := List.countP_le_length
theorem nesc_sum (l : List UInt8) : l.count 10 + l.count 34 + l.count 42 = nesc l := by
 induction l with
 | nil => rfl
 | cons c l ih =>
  unfold nesc at *
  rw [List.countP_cons, List.count_cons, List.count_cons, List.count_cons, ← ih]
  by_cases h1 : c = 10
  ·subst h1; simp [isE]; omega
  by_cases h2 : c = 34
  ·subst h2; simp [isE]; omega
  by_cases h3 : c = 42
  ·subst h3; simp [isE]; omega
  ·simp [isE, h1, h2, h3]

theorem mkU8 (n : Nat) : replicateL n [Value.int .u8 0] = (List.replicate n (0 : UInt8)).map u8v := by
 induction n with
 | zero => rfl
 | succ n ih => rw [replicateL, ih, List.replicate_succ, List.map_cons]; rfl
theorem wk_mkU {s : St} {W : Value → St → Prop} (n : Nat) (hn : n ≤ 1099511627776) : wopK (.mkSlice [.int .u8 0] 1) [.int .i64 (n : Int), .int .i64 (n : Int)] s W = W (.slice (some ⟨s.next, 0, none⟩) n n) (s.new (.row ((List.replicate n (0 : UInt8)).map u8v) 0 false)) := by
 rw [← mkU8]
 simp only [wopK, wop]
 rw [if_pos ⟨by omega, by omega, by omega, by omega⟩]
 rfl
/-- the rest of a row of bytes -/
theorem rk_slLo {st : St} {b N : Nat} {l : List UInt8} {g : Nat} {ro : Bool} (hb : st.get b = some (.row (l.map u8v) g ro)) (hg : g = 0 ∨ g = 1) (hl : l.length = N) (j : Nat) (hj : j < N) (K : Value → Prop) : ropK (.sl 1 true false) [.slice (some ⟨b, 0, none⟩) N N, .int .i64 (j : Int)] st K = K (.slice (some ⟨b, j, none⟩) (N - j) (N - j)) := by
 have hB : Bys st (.slice (some ⟨b, 0, none⟩) N N) l := .inr (.inl ⟨b, 0, N, l.map u8v, g, ro, by rw [hl], by omega, hb, hg, by simp, by rw [List.drop_zero, List.take_of_length_le (by simp)]⟩)
 rw [sllo_bys hB .i64 (j : Int) K (by omega) (by omega), Int.toNat_natCast]
 have e : blo (.slice (some ⟨b, 0, none⟩) N N) j = .slice (some ⟨b, j, none⟩) (N - j) (N - j) := by
  unfold blo
  simp only
  rw [if_neg (by omega)]
  unfold addA
  split
  ·rename_i h0; rw [show j = 0 by omega]
  ·simp
 rw [e]
/-- bytes are copied into a row -/
theorem wk_copyB {st : St} {b a j L C g g' : Nat} {ro' : Bool} {cs : List Value} {x : List UInt8} (hb : st.get b = some (.row cs g false)) (ha : st.get a = some (.row (x.map u8v) g' ro')) (hx : x.length = 2) (hL : 2 ≤ L) (hj : j + 2 ≤ cs.length) {W : Value → St → Prop}
  (h : W (.int .i64 2) (st.put b (some (.row (lputs cs j (x.map u8v)) g false)))) : wopK (.copy 1) [.slice (some ⟨b, j, none⟩) L C, .slice (some ⟨a, 0, none⟩) 2 2] st W := by
 have h1 : st.srcCells 1 (.slice (some ⟨a, 0, none⟩) 2 2) = some (x.map u8v) := by
  simp only [St.srcCells, St.cells, ha]
  rw [if_neg (by decide), if_pos (by simp [hx]), List.drop_zero, List.take_of_length_le (by simp [hx])]
 have hm : Nat.min 2 L = 2 := Nat.min_eq_left hL
 have h2 : st.storeAt ⟨b, j, none⟩ (x.map u8v) = some (st.put b (some (.row (lputs cs j (x.map u8v)) g false))) := by
  simp only [St.storeAt, hb]
  rw [if_pos ⟨by simp [hx]; omega, all_u8 x⟩]
 simp only [wopK, wop, srcLen, h1, hm]
 rw [List.take_of_length_le (by simp [hx]), h2]
 exact h
theorem lputs_u8 {a z x : List UInt8} {j : Nat} (hj : j = a.length) (hx : x.length ≤ z.length) : lputs ((a ++ z).map u8v) j (x.map u8v) = ((a ++ x) ++ z.drop x.length).map u8v := by
 subst hj
 unfold lputs
 simp [List.map_append, List.map_drop, List.drop_append]
theorem escL_take (l : List UInt8) (i : Nat) (c : UInt8) (h : l[i]? = some c) : escL (l.take (i + 1)) = escL (l.take i) ++ escB c := by
 rw [List.take_add_one, h, escL_append]
 simp [escL]
theorem nesc_take (l : List UInt8) (i : Nat) (c : UInt8) (h : l[i]? = some c) : nesc (l.take (i + 1)) = nesc (l.take i) + (if isE c then 1 else 0) := by
 rw [List.take_add_one, h, nesc_append]
 simp [nesc, List.countP_cons]
theorem escL_take_le (l : List UInt8) (i : Nat) : (escL (l.take i)).length ≤ (escL l).length := by
 have := escL_append (l.take i) (l.drop i)
 rw [List.take_append_drop] at this
 rw [this, List.length_append]
 omega

attribute [local irreducible] callO wopK ropK popK opK grpsE listE sx Runs

section
variable {st : St} {K : Value → St → Prop}

theorem kCount (n : Nat) (s : ByteArray) (c : UInt8) (h : K (.int .i64 (s.data.toList.count c : Nat)) st) : callK (callO T0 orc fns 100000 n) 99 [.string s, .string ⟨#[c]⟩] st K := by
 rw [callO_none (by rfl)]
 have e : orc 99 [.string s, .string ⟨#[c]⟩] st = .ret (.int .i64 (s.data.toList.count c : Nat), st) := by
  rw [orc_eq (by decide)]
  simp [orc1, Lib.countByte]
 exact (propext (callK_ret (K := K) e)).mpr h

theorem kRepl (n : Nat) {lo t : Nat} (s : ByteArray) (hs : s.size ≤ 40000) (hR : RepF lo st t) (hl : lo ≤ st.next) (h : ∀ st', Frm st st' → K (.string (bs (escL s.data.toList))) st') : callK (callO T0 orc fns 100000 (n + 1)) 225 [.pointer (some ⟨t, 0, none⟩), .string s] st K := by
 refine fn_runs (fn := g225) ?_ ?_ ?_
 ·rfl
 ·rfl
 unfold g225
 obtain ⟨f, tr, hrow, ht1, ht2, hstr, hE, hN⟩ := hR.row
 have hsz := size_list s
 have hne := nesc_le s.data.toList
 simp (disch := omega) only [↓sxA, ↓wk_store, sxB, sxP, simprocAttr, hrow, nthK_tabL, Nat.zero_add]
 refine iteI (fun _ => ?_) (fun _ => ?_)
 ·refine loop_rule [0, 1, 5, 6, 30, 31, 32] (fun vs st' => st' = st ∧ (vs = [.pointer (some ⟨t, 0, none⟩), .string s, .int .i64 ((s.size + (0) : Nat) : Int), .bool (decide (0 ≠ 0)), .slice (some ⟨tr, 0, none⟩) 3 3, .int .i64 3, .int .i64 0] ∨ vs = [.pointer (some ⟨t, 0, none⟩), .string s, .int .i64 ((s.size + (s.data.toList.count 10) : Nat) : Int), .bool (decide (s.data.toList.count 10 ≠ 0)), .slice (some ⟨tr, 0, none⟩) 3 3, .int .i64 3, .int .i64 1] ∨ vs = [.pointer (some ⟨t, 0, none⟩), .string s, .int .i64 ((s.size + (s.data.toList.count 10 + s.data.toList.count 34) : Nat) : Int), .bool (decide (s.data.toList.count 10 + s.data.toList.count 34 ≠ 0)), .slice (some ⟨tr, 0, none⟩) 3 3, .int .i64 3, .int .i64 2] ∨ vs = [.pointer (some ⟨t, 0, none⟩), .string s, .int .i64 ((s.size + (s.data.toList.count 10 + s.data.toList.count 34 + s.data.toList.count 42) : Nat) : Int), .bool (decide (s.data.toList.count 10 + s.data.toList.count 34 + s.data.toList.count 42 ≠ 0)), .slice (some ⟨tr, 0, none⟩) 3 3, .int .i64 3, .int .i64 3])) (fun vs _ => match lget vs 6 with
   | .int _ k => (3 - k).toNat
   | _ => 0) ?_ ?_ ?_
  ·rfl
  ·refine ⟨_, rfl, ⟨rfl, .inl rfl⟩, ?_⟩
   show ((3 : Int) - 0).toNat < 100000
   decide
  ·rintro vs st' ⟨rfl, hj⟩
   rcases hj with rfl | rfl | rfl | rfl
   ·show sx _ _ _ _ _ [(0, _), (1, _), (5, _), (6, _), (30, _), (31, _), (32, _)] _ _ _ _
    simp (disch := omega) only [↓sxA, ↓wk_store, sxB, sxP, simprocAttr, hstr, nthK_tab, nthK_tabL, tabR_len, Nat.zero_add, Nat.reduceMul, Int.reduceToNat, szB1, szB2, Int.cast_ofNat_Int, ↓ixB10, ↓ixB34, ↓ixB42]
    refine kCount n s 10 ?_
    obtain ⟨a, ga, hf, _, _, hga⟩ := hE 10 (by decide)
    have hf' : f 10 = .slice (some ⟨a, 0, none⟩) 2 2 := hf
    have hsum := nesc_sum s.data.toList
    have hw : wrapF .i64 ((s.data.toList.count 10 : Int) * 1) = s.data.toList.count 10 := by rw [Int.mul_one, wrap64 (by omega) (by omega)]
    simp (disch := omega) only [↓sxA, ↓wk_store, sxB, sxP, simprocAttr, hrow, hf', hw, nthK_tab, nthK_tabL, tabR_len, Nat.zero_add, Nat.reduceMul, Int.reduceToNat, szB1, szB2, Int.cast_ofNat_Int, ↓ixB10, ↓ixB34, ↓ixB42]
    refine iteI (fun c1 => ?_) (fun c1 => ?_)
    ·have z : s.data.toList.count 10 = 0 := by omega
     refine ⟨_, rfl, .inr (.inl (by simp [z])), ?_⟩
     show ((3 : Int) - 1).toNat < ((3 : Int) - 0).toNat
     decide
    ·have z : ¬ s.data.toList.count 10 = 0 := by omega
     refine ⟨_, rfl, .inr (.inl ?_), ?_⟩
     ·rw [decide_eq_true z]
      congr 5
      try (simp; try omega)
     ·show ((3 : Int) - 1).toNat < ((3 : Int) - 0).toNat
      decide
   ·show sx _ _ _ _ _ [(0, _), (1, _), (5, _), (6, _), (30, _), (31, _), (32, _)] _ _ _ _
    simp (disch := omega) only [↓sxA, ↓wk_store, sxB, sxP, simprocAttr, hstr, nthK_tab, nthK_tabL, tabR_len, Nat.zero_add, Nat.reduceMul, Int.reduceToNat, szB1, szB2, Int.cast_ofNat_Int, ↓ixB10, ↓ixB34, ↓ixB42]
    refine kCount n s 34 ?_
    obtain ⟨a, ga, hf, _, _, hga⟩ := hE 34 (by decide)
    have hf' : f 34 = .slice (some ⟨a, 0, none⟩) 2 2 := hf
    have hsum := nesc_sum s.data.toList
    have hw : wrapF .i64 ((s.data.toList.count 34 : Int) * 1) = s.data.toList.count 34 := by rw [Int.mul_one, wrap64 (by omega) (by omega)]
    simp (disch := omega) only [↓sxA, ↓wk_store, sxB, sxP, simprocAttr, hrow, hf', hw, nthK_tab, nthK_tabL, tabR_len, Nat.zero_add, Nat.reduceMul, Int.reduceToNat, szB1, szB2, Int.cast_ofNat_Int, ↓ixB10, ↓ixB34, ↓ixB42]
    refine iteI (fun c1 => ?_) (fun c1 => ?_)
    ·have z : s.data.toList.count 34 = 0 := by omega
     refine ⟨_, rfl, .inr (.inr (.inl (by simp [z]))), ?_⟩
     show ((3 : Int) - 2).toNat < ((3 : Int) - 1).toNat
     decide
    ·have z : ¬ s.data.toList.count 10 + s.data.toList.count 34 = 0 := by omega
     refine ⟨_, rfl, .inr (.inr (.inl ?_)), ?_⟩
     ·rw [decide_eq_true z]
      congr 5
      try (simp; try omega)
     ·show ((3 : Int) - 2).toNat < ((3 : Int) - 1).toNat
      decide
   ·show sx _ _ _ _ _ [(0, _), (1, _), (5, _), (6, _), (30, _), (31, _), (32, _)] _ _ _ _
    simp (disch := omega) only [↓sxA, ↓wk_store, sxB, sxP, simprocAttr, hstr, nthK_tab, nthK_tabL, tabR_len, Nat.zero_add, Nat.reduceMul, Int.reduceToNat, szB1, szB2, Int.cast_ofNat_Int, ↓ixB10, ↓ixB34, ↓ixB42]
    refine kCount n s 42 ?_
    obtain ⟨a, ga, hf, _, _, hga⟩ := hE 42 (by decide)
    have hf' : f 42 = .slice (some ⟨a, 0, none⟩) 2 2 := hf
    have hsum := nesc_sum s.data.toList
    have hw : wrapF .i64 ((s.data.toList.count 42 : Int) * 1) = s.data.toList.count 42 := by rw [Int.mul_one, wrap64 (by omega) (by omega)]
    simp (disch := omega) only [↓sxA, ↓wk_store, sxB, sxP, simprocAttr, hrow, hf', hw, nthK_tab, nthK_tabL, tabR_len, Nat.zero_add, Nat.reduceMul, Int.reduceToNat, szB1, szB2, Int.cast_ofNat_Int, ↓ixB10, ↓ixB34, ↓ixB42]
    refine iteI (fun c1 => ?_) (fun c1 => ?_)
    ·have z : s.data.toList.count 42 = 0 := by omega
     refine ⟨_, rfl, .inr (.inr (.inr (by simp [z]))), ?_⟩
     show ((3 : Int) - 3).toNat < ((3 : Int) - 2).toNat
     decide
    ·have z : ¬ s.data.toList.count 10 + s.data.toList.count 34 + s.data.toList.count 42 = 0 := by omega
     refine ⟨_, rfl, .inr (.inr (.inr (?_))), ?_⟩
     ·rw [decide_eq_true z]
      congr 5
      try (simp; try omega)
     ·show ((3 : Int) - 3).toNat < ((3 : Int) - 2).toNat
      decide
   ·show sx _ _ _ _ _ [(0, _), (1, _), (5, _), (6, _), (30, _), (31, _), (32, _)] _ _ _ _
    rw [show s.data.toList.count 10 + s.data.toList.count 34 + s.data.toList.count 42 = nesc s.data.toList from nesc_sum _]
    by_cases z : nesc s.data.toList = 0
    ·rw [decide_eq_false (Decidable.not_not.2 z)]
     simp (disch := omega) only [↓sxA, ↓wk_store, sxB, sxP, simprocAttr, nthK_tab, nthK_tabL, tabR_len, Nat.zero_add, Nat.reduceMul, Int.reduceToNat, szB1, szB2, Int.cast_ofNat_Int, ↓ixB10, ↓ixB34, ↓ixB42]
     have := h _ (Frm.refl _)
     rw [escL_none _ z, bs_of] at this
     exact this
    rw [decide_eq_true z]
    simp (disch := omega) only [↓sxA, ↓wk_store, sxB, sxP, simprocAttr, nthK_tab, nthK_tabL, tabR_len, Nat.zero_add, Nat.reduceMul, Int.reduceToNat, szB1, szB2, Int.cast_ofNat_Int, ↓ixB10, ↓ixB34, ↓ixB42]
    rw [wk_mkU _ (by omega)]
    have F1 := Frm.new st' (.row ((List.replicate (s.size + nesc s.data.toList) (0 : UInt8)).map u8v) 0 false)
    have g1 := get_new_same st' (.row ((List.replicate (s.size + nesc s.data.toList) (0 : UInt8)).map u8v) 0 false)
    have n1 : (st'.new (.row ((List.replicate (s.size + nesc s.data.toList) (0 : UInt8)).map u8v) 0 false)).next = st'.next + 1 := rfl
    generalize st'.new _ = s1 at F1 g1 n1 ⊢
    simp (disch := omega) only [↓sxA, ↓wk_store, sxB, sxP, simprocAttr, nthK_tab, nthK_tabL, tabR_len, Nat.zero_add, Nat.reduceMul, Int.reduceToNat, szB1, szB2, Int.cast_ofNat_Int, ↓ixB10, ↓ixB34, ↓ixB42]
    have hEL := escL_len s.data.toList
    refine loop_rule [0, 1, 12, 13, 14] (fun vs s2 => ∃ i : Nat, i ≤ s.size ∧ vs = [.pointer (some ⟨t, 0, none⟩), .string s, .slice (some ⟨st'.next, 0, none⟩) (s.size + nesc s.data.toList) (s.size + nesc s.data.toList), .int .i64 ((escL (s.data.toList.take i)).length : Nat), .int .i64 i] ∧ Frm st' s2 ∧ st'.next < s2.next ∧ ∃ z, s2.get st'.next = some (.row ((escL (s.data.toList.take i) ++ z).map u8v) 0 false) ∧ (escL (s.data.toList.take i)).length + z.length = s.size + nesc s.data.toList) (fun vs _ => match lget vs 4 with
      | .int _ k => ((s.size : Int) - k).toNat
      | _ => 0) ?_ ?_ ?_
    ·rfl
    ·refine ⟨_, rfl, ⟨0, Nat.zero_le _, rfl, F1, by omega, _, g1, by simp [escL]⟩, ?_⟩
     show ((s.size : Int) - 0).toNat < 100000
     omega
    ·rintro vs s2 ⟨i, hi, rfl, F2, n2, z, g2, hz⟩
     show sx _ _ _ _ _ [(0, _), (1, _), (12, _), (13, _), (14, _)] _ _ _ _
     by_cases hj : i < s.size
     ·obtain ⟨c, hc, hg, hb'⟩ := byte_at s i hj
      have hrow2 := (F2.old t hR.tn).trans hrow
      have et := escL_take _ _ _ hc
      have el := escL_take_le s.data.toList (i + 1)
      rw [et, List.length_append] at el
      cases hcE : isE c with
      | true =>
       obtain ⟨a, ga, hf, ha1, ha2, hga⟩ := hE c (isE_iff.1 hcE)
       have e2 := escB_e hcE
       have hga2 := (F2.old a ha2).trans hga
       simp (disch := omega) only [q_indexStr, Int.toNat_natCast, hg, ↓sxA, sxB, sxP, simprocAttr, hrow2, nthK_tab, Nat.zero_add, Nat.mul_one, hf]
       rw [rk_slLo g2 (.inl rfl) (by rw [List.length_append, hz]) _ (by omega)]
       simp (disch := omega) only [q_indexStr, Int.toNat_natCast, hg, ↓sxA, sxB, sxP, simprocAttr, hrow2, nthK_tab, Nat.zero_add, Nat.mul_one, hf]
       refine ⟨⟨by omega, by omega⟩, ⟨by omega, by omega⟩, ?_⟩
       refine wk_copyB g2 hga2 e2 ?_ ?_ ?_
       ·omega
       ·rw [List.length_map, List.length_append]; omega
       rw [lputs_u8 rfl (by omega), ← et]
       have g3 := get_put_same s2 st'.next (some (.row ((escL (s.data.toList.take (i + 1)) ++ z.drop (escB c).length).map u8v) 0 false))
       have F3 := F2.put st'.next (Nat.le_refl _) (some (.row ((escL (s.data.toList.take (i + 1)) ++ z.drop (escB c).length).map u8v) 0 false))
       have n3 : (s2.put st'.next (some (.row ((escL (s.data.toList.take (i + 1)) ++ z.drop (escB c).length).map u8v) 0 false))).next = s2.next := rfl
       generalize s2.put _ _ = s3 at g3 F3 n3 ⊢
       simp (disch := omega) only [↓sxA, sxB, sxP, simprocAttr]
       refine ⟨_, rfl, ⟨i + 1, hj, ?_, F3, by omega, _, g3, by rw [et, List.length_append, List.length_drop]; omega⟩, ?_⟩
       ·rw [et, List.length_append, e2]; simp
       ·show ((s.size : Int) - ((i : Int) + 1)).toNat < ((s.size : Int) - i).toNat
        omega
      | false =>
       have e1 := escB_n hcE
       have hnE : ¬ (c = 10 ∨ c = 34 ∨ c = 42) := fun hh => by rw [isE_iff.2 hh] at hcE; cases hcE
       have hf := hN c (fun e => hnE (.inl e)) (fun e => hnE (.inr (.inl e))) (fun e => hnE (.inr (.inr e)))
       simp (disch := omega) only [q_indexStr, Int.toNat_natCast, hg, ↓sxA, sxB, sxP, simprocAttr, hrow2, nthK_tab, Nat.zero_add, Nat.mul_one, hf]
       have l1 : (escB c).length = 1 := by rw [e1]; rfl
       refine ⟨⟨by omega, by omega⟩, ⟨by omega, by omega⟩, ?_⟩
       rw [wk_store, g2]
       simp only [getK, rowK, cells_int]
       refine ⟨rfl, ⟨by first | trivial | rfl, by rw [List.length_map, List.length_append]; omega, rfl⟩, ?_⟩
       have lp := lputs_u8 (a := escL (s.data.toList.take i)) (z := z) (x := [c]) rfl (by simp; omega)
       rw [show [Value.int .u8 (c.toNat : Int)] = [c].map u8v from rfl, lp, ← e1, ← et]
       have g3 := get_put_same s2 st'.next (some (.row ((escL (s.data.toList.take (i + 1)) ++ z.drop (escB c).length).map u8v) 0 false))
       have F3 := F2.put st'.next (Nat.le_refl _) (some (.row ((escL (s.data.toList.take (i + 1)) ++ z.drop (escB c).length).map u8v) 0 false))
       have n3 : (s2.put st'.next (some (.row ((escL (s.data.toList.take (i + 1)) ++ z.drop (escB c).length).map u8v) 0 false))).next = s2.next := rfl
       generalize s2.put _ _ = s3 at g3 F3 n3 ⊢
       simp (disch := omega) only [↓sxA, sxB, sxP, simprocAttr]
       refine ⟨_, rfl, ⟨i + 1, hj, ?_, F3, by omega, _, g3, by rw [et, List.length_append, List.length_drop]; omega⟩, ?_⟩
       ·rw [et, List.length_append, l1]; simp
       ·show ((s.size : Int) - ((i : Int) + 1)).toNat < ((s.size : Int) - i).toNat
        omega
     ·have e : s.data.toList.take i = s.data.toList := List.take_of_length_le (by omega)
      rw [e] at g2 hz
      have z0 : z = [] := List.eq_nil_of_length_eq_zero (by omega)
      subst z0
      rw [List.append_nil] at g2
      simp (disch := omega) only [↓sxA, sxB, sxP, simprocAttr]
      rw [rk_toStr (l := escL s.data.toList) g2 (by rw [List.drop_zero, List.take_of_length_le (by rw [List.length_map]; omega)]) (by rw [List.length_map]; omega)]
      simp (disch := omega) only [↓sxA, sxB, sxP, simprocAttr]
      exact h _ F2
 ·refine loop_rule [0, 1, 5, 6, 10] (fun vs st' => st' = st ∧ ∃ i : Nat, i ≤ s.size ∧ vs = [.pointer (some ⟨t, 0, none⟩), .string s, .int .i64 ((s.size + nesc (s.data.toList.take i) : Nat) : Int), .bool (decide (nesc (s.data.toList.take i) ≠ 0)), .int .i64 i]) (fun vs _ => match lget vs 4 with
   | .int _ k => ((s.size : Int) - k).toNat
   | _ => 0) ?_ ?_ ?_
  ·rfl
  ·refine ⟨_, rfl, ⟨rfl, 0, Nat.zero_le _, rfl⟩, ?_⟩
   show ((s.size : Int) - 0).toNat < 100000
   omega
  ·rintro vs st' ⟨rfl, i, hi, rfl⟩
   show sx _ _ _ _ _ [(0, _), (1, _), (5, _), (6, _), (10, _)] _ _ _ _
   by_cases hj : i < s.size
   ·obtain ⟨c, hc, hg, hb'⟩ := byte_at s i hj
    have nt := nesc_take _ _ _ hc
    have nl := nesc_le (s.data.toList.take i)
    rw [List.length_take] at nl
    cases hcE : isE c with
    | true =>
     obtain ⟨a, ga, hf, ha1, ha2, hga⟩ := hE c (isE_iff.1 hcE)
     rw [hcE, if_pos rfl] at nt
     simp (disch := omega) only [q_indexStr, Int.toNat_natCast, hg, ↓sxA, ↓wk_store, sxB, sxP, simprocAttr, hrow, nthK_tab, Nat.zero_add, Nat.mul_one, hf]
     refine ⟨⟨by omega, by omega⟩, ⟨by omega, by omega⟩, _, rfl, ⟨i + 1, hj, ?_⟩, ?_⟩
     ·rw [nt, decide_eq_true (show nesc (s.data.toList.take i) + 1 ≠ 0 by omega)]
      simp
      omega
     ·show ((s.size : Int) - ((i : Int) + 1)).toNat < ((s.size : Int) - i).toNat
      omega
    | false =>
     have hnE : ¬ (c = 10 ∨ c = 34 ∨ c = 42) := fun hh => by rw [isE_iff.2 hh] at hcE; cases hcE
     have hf := hN c (fun e => hnE (.inl e)) (fun e => hnE (.inr (.inl e))) (fun e => hnE (.inr (.inr e)))
     rw [hcE, if_neg (by decide), Nat.add_zero] at nt
     simp (disch := omega) only [q_indexStr, Int.toNat_natCast, hg, ↓sxA, ↓wk_store, sxB, sxP, simprocAttr, hrow, nthK_tab, Nat.zero_add, Nat.mul_one, hf]
     refine ⟨⟨by omega, by omega⟩, _, rfl, ⟨i + 1, hj, ?_⟩, ?_⟩
     ·rw [nt]
      simp
     ·show ((s.size : Int) - ((i : Int) + 1)).toNat < ((s.size : Int) - i).toNat
      omega
   ·have e : s.data.toList.take i = s.data.toList := List.take_of_length_le (by omega)
    rw [e]
    simp (disch := omega) only [↓sxA, ↓wk_store, sxB, sxP, simprocAttr, nthK_tab, nthK_tabL, tabR_len, Nat.zero_add, Nat.reduceMul, Int.reduceToNat, szB1, szB2, Int.cast_ofNat_Int, ↓ixB10, ↓ixB34, ↓ixB42]
    by_cases z : nesc s.data.toList = 0
    ·rw [decide_eq_false (Decidable.not_not.2 z)]
     simp (disch := omega) only [↓sxA, ↓wk_store, sxB, sxP, simprocAttr, nthK_tab, nthK_tabL, tabR_len, Nat.zero_add, Nat.reduceMul, Int.reduceToNat, szB1, szB2, Int.cast_ofNat_Int, ↓ixB10, ↓ixB34, ↓ixB42]
     have := h _ (Frm.refl _)
     rw [escL_none _ z, bs_of] at this
     exact this
    rw [decide_eq_true z]
    simp (disch := omega) only [↓sxA, ↓wk_store, sxB, sxP, simprocAttr, nthK_tab, nthK_tabL, tabR_len, Nat.zero_add, Nat.reduceMul, Int.reduceToNat, szB1, szB2, Int.cast_ofNat_Int, ↓ixB10, ↓ixB34, ↓ixB42]
    rw [wk_mkU _ (by omega)]
    have F1 := Frm.new st' (.row ((List.replicate (s.size + nesc s.data.toList) (0 : UInt8)).map u8v) 0 false)
    have g1 := get_new_same st' (.row ((List.replicate (s.size + nesc s.data.toList) (0 : UInt8)).map u8v) 0 false)
    have n1 : (st'.new (.row ((List.replicate (s.size + nesc s.data.toList) (0 : UInt8)).map u8v) 0 false)).next = st'.next + 1 := rfl
    generalize st'.new _ = s1 at F1 g1 n1 ⊢
    simp (disch := omega) only [↓sxA, ↓wk_store, sxB, sxP, simprocAttr, nthK_tab, nthK_tabL, tabR_len, Nat.zero_add, Nat.reduceMul, Int.reduceToNat, szB1, szB2, Int.cast_ofNat_Int, ↓ixB10, ↓ixB34, ↓ixB42]
    have hEL := escL_len s.data.toList
    refine loop_rule [0, 1, 12, 13, 14] (fun vs s2 => ∃ i : Nat, i ≤ s.size ∧ vs = [.pointer (some ⟨t, 0, none⟩), .string s, .slice (some ⟨st'.next, 0, none⟩) (s.size + nesc s.data.toList) (s.size + nesc s.data.toList), .int .i64 ((escL (s.data.toList.take i)).length : Nat), .int .i64 i] ∧ Frm st' s2 ∧ st'.next < s2.next ∧ ∃ z, s2.get st'.next = some (.row ((escL (s.data.toList.take i) ++ z).map u8v) 0 false) ∧ (escL (s.data.toList.take i)).length + z.length = s.size + nesc s.data.toList) (fun vs _ => match lget vs 4 with
      | .int _ k => ((s.size : Int) - k).toNat
      | _ => 0) ?_ ?_ ?_
    ·rfl
    ·refine ⟨_, rfl, ⟨0, Nat.zero_le _, rfl, F1, by omega, _, g1, by simp [escL]⟩, ?_⟩
     show ((s.size : Int) - 0).toNat < 100000
     omega
    ·rintro vs s2 ⟨i, hi, rfl, F2, n2, z, g2, hz⟩
     show sx _ _ _ _ _ [(0, _), (1, _), (12, _), (13, _), (14, _)] _ _ _ _
     by_cases hj : i < s.size
     ·obtain ⟨c, hc, hg, hb'⟩ := byte_at s i hj
      have hrow2 := (F2.old t hR.tn).trans hrow
      have et := escL_take _ _ _ hc
      have el := escL_take_le s.data.toList (i + 1)
      rw [et, List.length_append] at el
      cases hcE : isE c with
      | true =>
       obtain ⟨a, ga, hf, ha1, ha2, hga⟩ := hE c (isE_iff.1 hcE)
       have e2 := escB_e hcE
       have hga2 := (F2.old a ha2).trans hga
       simp (disch := omega) only [q_indexStr, Int.toNat_natCast, hg, ↓sxA, sxB, sxP, simprocAttr, hrow2, nthK_tab, Nat.zero_add, Nat.mul_one, hf]
       rw [rk_slLo g2 (.inl rfl) (by rw [List.length_append, hz]) _ (by omega)]
       simp (disch := omega) only [q_indexStr, Int.toNat_natCast, hg, ↓sxA, sxB, sxP, simprocAttr, hrow2, nthK_tab, Nat.zero_add, Nat.mul_one, hf]
       refine ⟨⟨by omega, by omega⟩, ⟨by omega, by omega⟩, ?_⟩
       refine wk_copyB g2 hga2 e2 ?_ ?_ ?_
       ·omega
       ·rw [List.length_map, List.length_append]; omega
       rw [lputs_u8 rfl (by omega), ← et]
       have g3 := get_put_same s2 st'.next (some (.row ((escL (s.data.toList.take (i + 1)) ++ z.drop (escB c).length).map u8v) 0 false))
       have F3 := F2.put st'.next (Nat.le_refl _) (some (.row ((escL (s.data.toList.take (i + 1)) ++ z.drop (escB c).length).map u8v) 0 false))
       have n3 : (s2.put st'.next (some (.row ((escL (s.data.toList.take (i + 1)) ++ z.drop (escB c).length).map u8v) 0 false))).next = s2.next := rfl
       generalize s2.put _ _ = s3 at g3 F3 n3 ⊢
       simp (disch := omega) only [↓sxA, sxB, sxP, simprocAttr]
       refine ⟨_, rfl, ⟨i + 1, hj, ?_, F3, by omega, _, g3, by rw [et, List.length_append, List.length_drop]; omega⟩, ?_⟩
       ·rw [et, List.length_append, e2]; simp
       ·show ((s.size : Int) - ((i : Int) + 1)).toNat < ((s.size : Int) - i).toNat
        omega
      | false =>
       have e1 := escB_n hcE
       have hnE : ¬ (c = 10 ∨ c = 34 ∨ c = 42) := fun hh => by rw [isE_iff.2 hh] at hcE; cases hcE
       have hf := hN c (fun e => hnE (.inl e)) (fun e => hnE (.inr (.inl e))) (fun e => hnE (.inr (.inr e)))
       simp (disch := omega) only [q_indexStr, Int.toNat_natCast, hg, ↓sxA, sxB, sxP, simprocAttr, hrow2, nthK_tab, Nat.zero_add, Nat.mul_one, hf]
       have l1 : (escB c).length = 1 := by rw [e1]; rfl
       refine ⟨⟨by omega, by omega⟩, ⟨by omega, by omega⟩, ?_⟩
       rw [wk_store, g2]
       simp only [getK, rowK, cells_int]
       refine ⟨rfl, ⟨by first | trivial | rfl, by rw [List.length_map, List.length_append]; omega, rfl⟩, ?_⟩
       have lp := lputs_u8 (a := escL (s.data.toList.take i)) (z := z) (x := [c]) rfl (by simp; omega)
       rw [show [Value.int .u8 (c.toNat : Int)] = [c].map u8v from rfl, lp, ← e1, ← et]
       have g3 := get_put_same s2 st'.next (some (.row ((escL (s.data.toList.take (i + 1)) ++ z.drop (escB c).length).map u8v) 0 false))
       have F3 := F2.put st'.next (Nat.le_refl _) (some (.row ((escL (s.data.toList.take (i + 1)) ++ z.drop (escB c).length).map u8v) 0 false))
       have n3 : (s2.put st'.next (some (.row ((escL (s.data.toList.take (i + 1)) ++ z.drop (escB c).length).map u8v) 0 false))).next = s2.next := rfl
       generalize s2.put _ _ = s3 at g3 F3 n3 ⊢
       simp (disch := omega) only [↓sxA, sxB, sxP, simprocAttr]
       refine ⟨_, rfl, ⟨i + 1, hj, ?_, F3, by omega, _, g3, by rw [et, List.length_append, List.length_drop]; omega⟩, ?_⟩
       ·rw [et, List.length_append, l1]; simp
       ·show ((s.size : Int) - ((i : Int) + 1)).toNat < ((s.size : Int) - i).toNat
        omega
     ·have e : s.data.toList.take i = s.data.toList := List.take_of_length_le (by omega)
      rw [e] at g2 hz
      have z0 : z = [] := List.eq_nil_of_length_eq_zero (by omega)
      subst z0
      rw [List.append_nil] at g2
      simp (disch := omega) only [↓sxA, sxB, sxP, simprocAttr]
      rw [rk_toStr (l := escL s.data.toList) g2 (by rw [List.drop_zero, List.take_of_length_le (by rw [List.length_map]; omega)]) (by rw [List.length_map]; omega)]
      simp (disch := omega) only [↓sxA, sxB, sxP, simprocAttr]
      exact h _ F2
end

/-! behind the walk -/
section
variable {st : St} {K : Value → St → Prop}
theorem kDo (n : Nat) {p b : Nat} {g' : Nat} {ro' : Bool} (hp : st.get p = some (.row (repRow b) 0 false)) (hb : st.get b = some (.row six g' ro')) (hpl : p < st.next) (hbl : b < st.next) (hpb : b ≠ p)
  (h : ∀ st' t, RepF st.next st' t → st.next ≤ st'.next → (∀ i, i ≠ p → i < st.next → st'.get i = st.get i) → st'.get p = some (.row [.int .u32 1, .int .i32 0, .int .u32 0, .iface 211 (.pointer (some ⟨t, 0, none⟩)), .slice none 0 0] 0 false) → K (.tuple #[]) st') :
  callK (callO T0 orc fns 100000 (n + 4)) 116 [.pointer (some ⟨p, 0, none⟩), .func (.func 117) #[.pointer (some ⟨p, 0, none⟩)] #[]] st K := by
 refine fn_runs (fn := g116) ?_ ?_ ?_
 ·rfl
 ·rfl
 unfold g116
 simp (disch := omega) only [↓sxA, ↓wk_store, sxB, sxP, simprocAttr]
 refine kLoad (n + 3) hp rfl ?_
 rw [show ((0 : Int) != 0) = false from rfl]
 simp (disch := omega) only [↓sxA, ↓wk_store, sxB, sxP, simprocAttr]
 refine kDoSlow n hp hb hpl hbl hpb fun st' t h1 h2 h3 h4 => ?_
 simp (disch := omega) only [↓sxA, ↓wk_store, sxB, sxP, simprocAttr]
 exact h st' t h1 h2 h3 h4

theorem kReplace (n : Nat) {p b : Nat} (s : ByteArray) (hs : s.size ≤ 40000) {g' : Nat} {ro' : Bool} (hp : st.get p = some (.row (repRow b) 0 false)) (hb : st.get b = some (.row six g' ro')) (hpl : p < st.next) (hbl : b < st.next) (hpb : b ≠ p)
  (h : ∀ st', st.next ≤ st'.next → (∀ i, i ≠ p → i < st.next → st'.get i = st.get i) → K (.string (bs (escL s.data.toList))) st') :
  callK (callO T0 orc fns 100000 (n + 5)) 85 [.pointer (some ⟨p, 0, none⟩), .string s] st K := by
 refine fn_runs (fn := g85) ?_ ?_ ?_
 ·rfl
 ·rfl
 unfold g85
 simp (disch := omega) only [↓sxA, ↓wk_store, sxB, sxP, simprocAttr, List.take_succ_cons, List.take_zero]
 refine kDo n hp hb hpl hbl hpb fun s1 t h1 h2 h3 h4 => ?_
 have iv := fun (vs : List Value) (s : St) (W : Value → St → Prop) => opK_invoke (T := T0) (F := callO T0 orc fns 100000 (n + 4)) (s := s) "Replace" 211 (.pointer (some ⟨t, 0, none⟩)) vs 225 W rfl
 simp (disch := omega) only [↓sxA, ↓wk_store, sxB, sxP, simprocAttr, h4, ↓iv]
 refine kRepl (n + 3) s hs h1 h2 fun s2 F2 => ?_
 simp (disch := omega) only [↓sxA, ↓wk_store, sxB, sxP, simprocAttr]
 exact h s2 (Nat.le_trans h2 F2.nx) fun i hi hl => (F2.old i (by omega)).trans (h3 i hi hl)

theorem kEscaped (n : Nat) (s : ByteArray) (hs : s.size ≤ 40000) (h : ∀ st', Frm st st' → K (.string (bs (34 :: (escL s.data.toList ++ [34])))) st') :
  callK (callO T0 orc fns 100000 (n + 6)) 50 [.string s] st K := by
 refine fn_runs (fn := g50) ?_ ?_ ?_
 ·rfl
 ·rfl
 unfold g50
 simp (disch := omega) only [↓sxA, ↓wk_store, sxB, sxP, simprocAttr]
 have F1 := Frm.new st (.row [.string ⟨#[42]⟩, .string ⟨#[42, 42]⟩, .string ⟨#[34]⟩, .string ⟨#[42, 34]⟩, .string ⟨#[10]⟩, .string ⟨#[42, 110]⟩] 0 false)
 have g1 : (st.new (.row [.string ⟨#[42]⟩, .string ⟨#[42, 42]⟩, .string ⟨#[34]⟩, .string ⟨#[42, 34]⟩, .string ⟨#[10]⟩, .string ⟨#[42, 110]⟩] 0 false)).get st.next = some (.row six 0 false) := get_new_same _ _
 have n1 : (st.new (.row [.string ⟨#[42]⟩, .string ⟨#[42, 42]⟩, .string ⟨#[34]⟩, .string ⟨#[42, 34]⟩, .string ⟨#[10]⟩, .string ⟨#[42, 110]⟩] 0 false)).next = st.next + 1 := rfl
 generalize st.new _ = s1 at F1 g1 n1 ⊢
 refine kNewRep (n + 4) g1 (by omega) fun s2 F2 n2 hp hb => ?_
 simp (disch := omega) only [↓sxA, ↓wk_store, sxB, sxP, simprocAttr]
 refine kReplace n s hs hp hb (by omega) (by omega) (by omega) fun s3 nx o3 => ?_
 simp (disch := omega) only [↓sxA, ↓wk_store, sxB, sxP, simprocAttr]
 have F3 : Frm st s3 := ⟨by have := F1.nx; have := F2.nx; omega, fun i hi => by
  rw [o3 i (by omega) (by omega), F2.old i (by omega), F1.old i hi]⟩
 have e : bs (34 :: (escL s.data.toList ++ [34])) = ((⟨#[34]⟩ : ByteArray) ++ bs (escL s.data.toList)) ++ (⟨#[34]⟩ : ByteArray) := by
  refine ByteArray.ext ?_
  simp [bs, ByteArray.data_append]
 rw [e] at h
 have hl := escL_len s.data.toList
 have hl2 := nesc_le s.data.toList
 have hl3 := size_list s
 have hbs : (bs (escL s.data.toList)).size = (escL s.data.toList).length := by simp [bs, ByteArray.size]
 refine ⟨?_, ?_, h s3 F3⟩
 ·rw [szB1, hbs]; omega
 ·rw [ByteArray.size_append, szB1, hbs]; omega
end
end Go.Proofs.YtdmemibnphcedaaGreatDoor
