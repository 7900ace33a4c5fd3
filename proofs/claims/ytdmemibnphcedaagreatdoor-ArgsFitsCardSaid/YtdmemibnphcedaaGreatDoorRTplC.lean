/-
  The library's functions as they are called; names; pieces; marks; two items held against each other.
-/
import Derived.Test.YtdmemibnphcedaaGreatDoorRTplB
set_option linter.unusedSimpArgs false
set_option linter.unusedVariables false
set_option maxRecDepth 10000
set_option linter.unusedSectionVars false
namespace Go.Proofs.YtdmemibnphcedaaGreatDoor
open Go.Am

/-- a row of cells, laid from its beginning; not empty -/
def Row1 (st : St) (v : Value) (cs : List Value) : Prop := ∃ b cap g ro, v = .slice (some ⟨b, 0, none⟩) cs.length cap ∧ cs.length ≤ cap ∧ 0 < cs.length ∧ st.get b = some (.row cs g ro) ∧ (g = 0 ∨ g = 1)

section
variable {st st' : St} {v : Value} {cs : List Value}
theorem Row1.cel (h : Row1 st v cs) : Cel st v cs := by
  obtain ⟨b, cap, g, ro, h1, h2, h3, h4, h5⟩ := h
  subst h1
  exact cel_row h4 rfl
theorem Row1.keep (h : Row1 st v cs) (hb : ∀ i, i + 1 = ow v → st'.get i = st.get i) : Row1 st' v cs := by
  obtain ⟨b, cap, g, ro, h1, h2, h3, h4, h5⟩ := h
  subst h1
  exact ⟨b, cap, g, ro, rfl, h2, h3, (hb b rfl).trans h4, h5⟩
theorem GroK.row1 {n : Nat} (h : GroK 1 st v cs n) (h0 : cs ≠ []) : Row1 st v cs := by
  rcases h with ⟨h1, h2, h3⟩ | ⟨b, cap, h1, h2, h3, h4⟩
  · exact (h0 h2).elim
  · rw [Nat.mul_one] at h4
    exact ⟨b, cap, 1, false, by rw [h1, h4], by omega, List.length_pos_iff.2 h0, h3, .inr rfl⟩

theorem sllo_row1 (h : Row1 st v cs) (k : IntKind) (n : Int) (K : Value → Prop) (h0 : 0 ≤ n) (h1 : n ≤ (cs.length : Int)) : ropK (.sl 1 true false) [v, .int k n] st K = K (blo v n.toNat) := by
  obtain ⟨b, cap, g, ro, q1, q2, q3, q4, q5⟩ := h
  subst q1
  have hb : bound 0 cs.length (.int k n) = some n.toNat := by simp only [bound]; rw [if_pos ⟨by simpa using h0, by omega⟩]
  have hc : cap ≠ 0 := by omega
  simp only [ropK, rop, q4, bounds, hb, Option.map_some, blo, hc, if_false]
  rw [if_pos q5]
theorem sllo_cel1 (h : Row1 st v cs) (n : Nat) (h1 : n ≤ cs.length) : Cel st (blo v n) (cs.drop n) := by
  obtain ⟨b, cap, g, ro, q1, q2, q3, q4, q5⟩ := h
  subst q1
  by_cases hc : cap = n
  · have e : cs.drop n = [] := List.drop_eq_nil_of_le (by omega)
    rw [e]
    refine .inr (.inl ⟨b, 0, cap - n, cs, g, ro, ?_, q4, by simp, rfl⟩)
    simp only [blo, hc, if_true, List.length_nil]
    congr 1
    omega
  · by_cases hn : n = 0
    · subst hn
      refine .inr (.inl ⟨b, 0, cap, cs, g, ro, ?_, q4, by simp, by simp⟩)
      simp [blo, hc, addA]
    · refine .inr (.inl ⟨b, n, cap - n, cs, g, ro, ?_, q4, by rw [List.length_drop]; omega, by rw [List.take_of_length_le (by rw [List.length_drop]; omega)]⟩)
      simp [blo, hc, addA, hn]

def bmid (v : Value) (i : Nat) : Value :=
  match v with
  | .slice (some a) _ cap => .slice (some (if cap = 1 then a else addA a (1 * 1))) (i - 1) (cap - 1)
  | v => v
theorem slmid_row1 (h : Row1 st v cs) (k k' : IntKind) (n : Int) (K : Value → Prop) (h0 : 1 ≤ n) (h1 : n ≤ (cs.length : Int)) : ropK (.sl 1 true true) [v, .int k 1, .int k' n] st K = K (bmid v n.toNat) := by
  obtain ⟨b, cap, g, ro, q1, q2, q3, q4, q5⟩ := h
  subst q1
  have hc : cap ≠ 0 := by omega
  have m : max n 0 = n := by omega
  have n0 : 0 ≤ n := by omega
  have nc : n ≤ (cap : Int) := by omega
  simp only [ropK, rop, q4, hc, if_false, bmid]
  rw [if_pos q5]
  simp [bounds, bound, n0, nc, m, h0]
theorem slmid_cel1 (h : Row1 st v cs) (n : Nat) (h0 : 1 ≤ n) (h1 : n ≤ cs.length) : Cel st (bmid v n) ((cs.take n).drop 1) := by
  obtain ⟨b, cap, g, ro, q1, q2, q3, q4, q5⟩ := h
  subst q1
  have hl : ((cs.take n).drop 1).length = n - 1 := by rw [List.length_drop, List.length_take]; omega
  by_cases hc : cap = 1
  · have e : (cs.take n).drop 1 = [] := List.drop_eq_nil_of_le (by rw [List.length_take]; omega)
    rw [e] at hl ⊢
    refine .inr (.inl ⟨b, 0, cap - 1, cs, g, ro, ?_, q4, by simp, rfl⟩)
    simp only [List.length_nil] at hl
    simp only [bmid, hc, if_true, List.length_nil]
    congr 1
    omega
  · refine .inr (.inl ⟨b, 1, cap - 1, cs, g, ro, ?_, q4, by rw [hl]; omega, ?_⟩)
    · rw [hl]; simp [bmid, hc, addA]
    · rw [hl, List.drop_take]
end

/-! ### a trim that leaves nothing -/
theorem dropWhile_nil {α : Type} {p : α → Bool} : ∀ {l : List α}, l.dropWhile p = [] ↔ ∀ x ∈ l, p x = true
  | [] => by simp
  | x :: l => by
    rw [List.dropWhile_cons]
    by_cases h : p x = true
    · rw [if_pos h, dropWhile_nil]; simp [h]
    · rw [if_neg h]; simp [h]

theorem dropWhile_head {α : Type} {p : α → Bool} : ∀ {l : List α} {x : α} {r : List α}, l.dropWhile p = x :: r → p x = false
  | [], _, _, h => by simp at h
  | y :: l, x, r, h => by
    rw [List.dropWhile_cons] at h
    by_cases hy : p y = true
    · rw [if_pos hy] at h; exact dropWhile_head h
    · rw [if_neg hy] at h; cases h; simpa using hy

theorem trimS_nil (l cs : List UInt8) : Lib.trimS l cs = [] ↔ ∀ b ∈ l, cs.contains b = true := by
  unfold Lib.trimS Lib.trimLeftS Lib.trimRightS
  rw [dropWhile_nil]
  constructor
  · intro h
    have h0 : l.reverse.dropWhile (cs.contains ·) = [] := by
      cases hd : l.reverse.dropWhile (cs.contains ·) with
      | nil => rfl
      | cons x r =>
        have h1 := dropWhile_head hd
        have h2 := h x (by rw [hd]; simp)
        rw [h1] at h2
        cases h2
    have := dropWhile_nil.1 h0
    exact fun b hb => this b (by simpa using hb)
  · intro h
    have h0 : l.reverse.dropWhile (cs.contains ·) = [] := dropWhile_nil.2 fun b hb => h b (by simpa using hb)
    rw [h0]
    simp

def letters : ByteArray := ⟨#[97, 98, 99, 100, 101, 102, 103, 104, 105, 106, 107, 108, 109, 110, 111, 112, 113, 114, 115, 116, 117, 118, 119, 120, 121, 122]⟩

theorem letters_has (b : UInt8) : letters.data.toList.contains b = (decide (97 ≤ b.toNat) && decide (b.toNat ≤ 122)) := by
  have h : ∀ n : Fin 256, letters.data.toList.contains (UInt8.ofNat n.val) = (decide (97 ≤ n.val) && decide (n.val ≤ 122)) := by decide +kernel
  have := h ⟨b.toNat, b.toNat_lt⟩
  simpa using this

theorem bs_eq_empty {l : List UInt8} : bs l = ByteArray.empty ↔ l = [] := by
  constructor
  · intro h
    exact bs_inj (h.trans (show ByteArray.empty = bs [] from rfl))
  · intro h; subst h; rfl

theorem trim_letters (s : ByteArray) : (trimV s letters = ByteArray.empty) ↔ (s.data.toList.all fun b => decide (97 ≤ b.toNat) && decide (b.toNat ≤ 122)) = true := by
  show bs (Lib.trimS _ _) = _ ↔ _
  rw [bs_eq_empty, trimS_nil, List.all_eq_true]
  simp only [letters_has]

theorem orc_eq {f : FuncId} (h : f ≠ 15) (args : List Value) (st : St) : orc f args st = orc1 f args st := by
  unfold orc; rw [if_neg h]

section
variable {st : St} {K : Value → St → Prop}
theorem kAwake (n : Nat) (hm : hasMax st = true) (h : K (.bool true) st) : callK (callO T0 orc fns 100000 n) 15 [] st K := by
  rw [callO_none (by rfl)]
  have e : orc 15 [] st = .ret (.bool true, st) := by simp [orc, hm]
  exact (propext (callK_ret (K := K) e)).mpr h
theorem kTrim (n : Nat) (s : ByteArray) (hs : s.size ≤ 4294967280) (h : K (.string (trimV s letters)) st) : callK (callO T0 orc fns 100000 n) 47 [.string s, .string letters] st K := by
  rw [callO_none (by rfl)]
  have e : orc 47 [.string s, .string letters] st = .ret (.string (trimV s letters), st) := by
    rw [orc_eq (by decide)]
    have h1 : letters.size < 4294967281 := by decide
    have h2 : asciiB letters = true := by decide +kernel
    simp [orc1, hs, h1, h2]
  exact (propext (callK_ret (K := K) e)).mpr h
theorem kSplit (n : Nat) (s : ByteArray) (c : UInt8) (hs : s.size < 4294967281) (hm : hasMax st = true) (h : ∀ st', Row1 st' (.slice (some ⟨st.next, 0, none⟩) (pieces c s).length (pieces c s).length) ((pieces c s).map Value.string) → st'.next = st.next + 1 → (∀ i, i < st.next → st'.get i = st.get i) → K (.slice (some ⟨st.next, 0, none⟩) (pieces c s).length (pieces c s).length) st') :
    callK (callO T0 orc fns 100000 n) 37 [.string s, .string ⟨#[c]⟩] st K := by
  rw [callO_none (by rfl)]
  have e : orc 37 [.string s, .string ⟨#[c]⟩] st = .ret (.slice (some ⟨st.next, 0, none⟩) (pieces c s).length (pieces c s).length, st.new (.row ((pieces c s).map Value.string) 0 false)) := by
    rw [orc_eq (by decide)]
    have h1 : 1 ≤ (⟨#[c]⟩ : ByteArray).size := Nat.le_refl 1
    simp [orc1, hs, h1, hm, split_pieces]
  refine (propext (callK_ret (K := K) e)).mpr (h _ ⟨st.next, (pieces c s).length, 0, false, by simp, by simp, by simpa using List.length_pos_iff.2 (pieces_ne c s), get_new_same _ _, .inl rfl⟩ rfl fun i hi => get_new_ne _ _ _ (by omega))
theorem kIndex (n : Nat) (s c : ByteArray) (hs : s.size < 4294967281) (hm : hasMax st = true) (h : K (.int .i64 (Lib.index s.data.toList c.data.toList)) st) : callK (callO T0 orc fns 100000 n) 65 [.string s, .string c] st K := by
  rw [callO_none (by rfl)]
  have e : orc 65 [.string s, .string c] st = .ret (.int .i64 (Lib.index s.data.toList c.data.toList), st) := by
    rw [orc_eq (by decide)]
    simp [orc1, hs, hm]
  exact (propext (callK_ret (K := K) e)).mpr h
end
attribute [local irreducible] callO wopK ropK popK opK grpsE listE sx Runs

section
variable {st : St} {v u : Value} {K : Value → St → Prop} {xs : List ByteArray} {x : ByteArray}

theorem kNameBad (n : Nat) (s : ByteArray) (hs : s.size ≤ 4294967280) (h : K (.bool (!isNm s)) st) : callK (callO T0 orc fns 100000 (n + 1)) 67 [.string s] st K := by
  refine fn_runs (fn := g67) ?_ ?_ ?_
  · rfl
  · rfl
  unfold g67
  have hsz := size_list s
  have hse : s = ByteArray.empty ↔ s.size = 0 := by
    constructor
    · rintro rfl; rfl
    · intro e
      rw [← bs_of s, bs_eq_empty]
      exact List.length_eq_zero_iff.1 (by omega)
  by_cases h0 : s.size = 0
  · have e0 : (s = ByteArray.empty) = True := eq_true (hse.2 h0)
    have : isNm s = false := by rw [isNm, decide_eq_false (by omega), Bool.false_and, Bool.false_and]
    rw [this] at h
    simp (disch := omega) only [↓sxA, ↓wk_store, sxB, sxP, Nat.reduceLeDiff, reduceCtorEq, Nat.reduceEqDiff, Nat.reduceAdd, Int.reduceLT, Int.reduceLE, Int.reduceEq, Nat.reduceLT, Int.reduceToNat, Int.reduceAdd, Int.reduceSub, ↓reduceIte, e0]
    exact h
  · have e0 : (s = ByteArray.empty) = False := eq_false (fun e => h0 (hse.1 e))
    by_cases h16 : 16 < s.size
    · have : isNm s = false := by rw [isNm, decide_eq_false (by omega : ¬ s.size ≤ 16), Bool.and_false, Bool.false_and]
      rw [this] at h
      simp (disch := omega) only [↓sxA, ↓wk_store, sxB, sxP, Nat.reduceLeDiff, reduceCtorEq, Nat.reduceEqDiff, Nat.reduceAdd, Int.reduceLT, Int.reduceLE, Int.reduceEq, Nat.reduceLT, Int.reduceToNat, Int.reduceAdd, Int.reduceSub, ↓reduceIte, e0]
      exact h
    · simp (disch := omega) only [↓sxA, ↓wk_store, sxB, sxP, Nat.reduceLeDiff, reduceCtorEq, Nat.reduceEqDiff, Nat.reduceAdd, Int.reduceLT, Int.reduceLE, Int.reduceEq, Nat.reduceLT, Int.reduceToNat, Int.reduceAdd, Int.reduceSub, ↓reduceIte, e0]
      refine kTrim n s hs ?_
      by_cases ht : trimV s letters = ByteArray.empty
      · have hall := (trim_letters s).1 ht
        have : isNm s = true := by rw [isNm, hall, decide_eq_true (by omega), decide_eq_true (by omega)]; rfl
        rw [this] at h
        have e1 : (trimV s letters = ByteArray.empty) = True := eq_true ht
        simp (disch := omega) only [↓sxA, ↓wk_store, sxB, sxP, Nat.reduceLeDiff, reduceCtorEq, Nat.reduceEqDiff, Nat.reduceAdd, Int.reduceLT, Int.reduceLE, Int.reduceEq, Nat.reduceLT, Int.reduceToNat, Int.reduceAdd, Int.reduceSub, ↓reduceIte, e1]
        exact h
      · have hall : (s.data.toList.all fun b => decide (97 ≤ b.toNat) && decide (b.toNat ≤ 122)) = false := by
          cases hh : s.data.toList.all fun b => decide (97 ≤ b.toNat) && decide (b.toNat ≤ 122) with
          | false => rfl
          | true => exact (ht ((trim_letters s).2 hh)).elim
        have : isNm s = false := by rw [isNm, hall, Bool.and_false]
        rw [this] at h
        have e1 : (trimV s letters = ByteArray.empty) = False := eq_false ht
        simp (disch := omega) only [↓sxA, ↓wk_store, sxB, sxP, Nat.reduceLeDiff, reduceCtorEq, Nat.reduceEqDiff, Nat.reduceAdd, Int.reduceLT, Int.reduceLE, Int.reduceEq, Nat.reduceLT, Int.reduceToNat, Int.reduceAdd, Int.reduceSub, ↓reduceIte, e1]
        exact h

theorem kIndexFuncS (n : Nat) (hv : Cel st v (xs.map Value.string)) (hl : xs.length < 90000) (hs : ∀ x ∈ xs, x.size ≤ 4294967280) (h1 : xs.all isNm = false → ∀ r : Int, 0 ≤ r → K (.int .i64 r) st) (h2 : xs.all isNm = true → K (.int .i64 (-1)) st) :
    callK (callO T0 orc fns 100000 (n + 2)) 101 [v, .func (.func 67) #[] #[]] st K := by
  refine fn_runs (fn := g101) ?_ ?_ ?_
  · rfl
  · rfl
  unfold g101
  have hn := len_cel hv
  rw [List.length_map] at hn
  simp (disch := omega) only [↓sxA, ↓wk_store, sxB, sxP, Nat.reduceLeDiff, reduceCtorEq, Nat.reduceEqDiff, Nat.reduceAdd, Int.reduceLT, Int.reduceLE, Int.reduceEq, Nat.reduceLT, Int.reduceToNat, Int.reduceAdd, Int.reduceSub, ↓reduceIte, ↓hn]
  refine loop_rule [0, 1, 7, 8] (fun vs st' => st' = st ∧ ∃ j : Nat, vs = [v, .func (.func 67) #[] #[], .int .i64 (xs.length : Nat), .int .i64 j] ∧ j ≤ xs.length ∧ ∀ i, i < j → isNm (xs.getD i .empty) = true) (fun vs _ => match lget vs 3 with
      | .int _ k => ((xs.length : Int) - k).toNat
      | _ => 0) ?_ ?_ ?_
  · rfl
  · refine ⟨_, rfl, ⟨rfl, 0, rfl, Nat.zero_le _, fun i hi => by omega⟩, ?_⟩
    show ((xs.length : Int) - 0).toNat < 100000
    omega
  · rintro vs st' ⟨rfl, j, rfl, j1, j2⟩
    show sx _ _ _ _ _ [(0, _), (1, _), (7, _), (8, _)] _ _ _ _
    by_cases hj : j < xs.length
    · have i1 := idx_cel hv
      have ld := load_cel hv
      rw [List.length_map] at i1 ld
      have e := getD_str xs j hj
      have hm : xs.getD j .empty ∈ xs := by rw [List.getD_eq_getElem?_getD, List.getElem?_eq_getElem hj, Option.getD_some]; exact List.getElem_mem hj
      simp (disch := omega) only [↓sxA, ↓wk_store, sxB, sxP, Nat.reduceLeDiff, reduceCtorEq, Nat.reduceEqDiff, Nat.reduceAdd, Int.reduceLT, Int.reduceLE, Int.reduceEq, Nat.reduceLT, Int.reduceToNat, Int.reduceAdd, Int.reduceSub, ↓reduceIte, ↓i1, ↓ld, Int.toNat_natCast, e]
      refine kNameBad n _ (hs _ hm) ?_
      cases hc : isNm (xs.getD j .empty) with
      | true =>
        simp (disch := omega) only [↓sxA, ↓wk_store, sxB, sxP, Nat.reduceLeDiff, reduceCtorEq, Nat.reduceEqDiff, Nat.reduceAdd, Int.reduceLT, Int.reduceLE, Int.reduceEq, Nat.reduceLT, Int.reduceToNat, Int.reduceAdd, Int.reduceSub, ↓reduceIte]
        refine ⟨_, rfl, ⟨j + 1, ?_, hj, fun i hi => ?_⟩, ?_⟩
        · simp
        · by_cases e : i = j
          · rw [e]; exact hc
          · exact j2 i (by omega)
        · show ((xs.length : Int) - ((j : Int) + 1)).toNat < ((xs.length : Int) - j).toNat
          omega
      | false =>
        simp (disch := omega) only [↓sxA, ↓wk_store, sxB, sxP, Nat.reduceLeDiff, reduceCtorEq, Nat.reduceEqDiff, Nat.reduceAdd, Int.reduceLT, Int.reduceLE, Int.reduceEq, Nat.reduceLT, Int.reduceToNat, Int.reduceAdd, Int.reduceSub, ↓reduceIte]
        refine h1 ?_ _ (by omega)
        rw [List.all_eq_false]
        exact ⟨_, hm, by rw [hc]; simp⟩
    · simp (disch := omega) only [↓sxA, ↓wk_store, sxB, sxP, Nat.reduceLeDiff, reduceCtorEq, Nat.reduceEqDiff, Nat.reduceAdd, Int.reduceLT, Int.reduceLE, Int.reduceEq, Nat.reduceLT, Int.reduceToNat, Int.reduceAdd, Int.reduceSub, ↓reduceIte]
      refine h2 ?_
      rw [List.all_eq_true]
      intro y hm
      obtain ⟨i, hi, rfl⟩ := List.getElem_of_mem hm
      have := j2 i (by omega)
      rw [List.getD_eq_getElem?_getD, List.getElem?_eq_getElem hi, Option.getD_some] at this
      exact this

theorem kContainsBad (n : Nat) (hv : Cel st v (xs.map Value.string)) (hl : xs.length < 90000) (hs : ∀ x ∈ xs, x.size ≤ 4294967280) (h : K (.bool (!xs.all isNm)) st) :
    callK (callO T0 orc fns 100000 (n + 3)) 66 [v, .func (.func 67) #[] #[]] st K := by
  refine fn_runs (fn := g66) ?_ ?_ ?_
  · rfl
  · rfl
  unfold g66
  simp (disch := omega) only [↓sxA, ↓wk_store, sxB, sxP, Nat.reduceLeDiff, reduceCtorEq, Nat.reduceEqDiff, Nat.reduceAdd, Int.reduceLT, Int.reduceLE, Int.reduceEq, Nat.reduceLT, Int.reduceToNat, Int.reduceAdd, Int.reduceSub, ↓reduceIte]
  refine kIndexFuncS n hv hl hs (fun ha r hr => ?_) (fun ha => ?_)
  · rw [ha] at h
    simp (disch := omega) only [↓sxA, ↓wk_store, sxB, sxP, Nat.reduceLeDiff, reduceCtorEq, Nat.reduceEqDiff, Nat.reduceAdd, Int.reduceLT, Int.reduceLE, Int.reduceEq, Nat.reduceLT, Int.reduceToNat, Int.reduceAdd, Int.reduceSub, ↓reduceIte]
    exact h
  · rw [ha] at h
    simp (disch := omega) only [↓sxA, ↓wk_store, sxB, sxP, Nat.reduceLeDiff, reduceCtorEq, Nat.reduceEqDiff, Nat.reduceAdd, Int.reduceLT, Int.reduceLE, Int.reduceEq, Nat.reduceLT, Int.reduceToNat, Int.reduceAdd, Int.reduceSub, ↓reduceIte]
    exact h

/-- what is carried from byte to byte of a text that is cut -/
def SpL (c : UInt8) (s : ByteArray) (st : St) (vs : List Value) (s' : St) : Prop :=
  ∃ (v : Value) (done : List (List UInt8)) (frm j : Nat), vs = [.string s, .int .u8 c.toNat, v, .int .i64 frm, .int .i64 j] ∧ GroK 1 s' v (done.map fun l => Value.string (bs l)) done.length ∧ (ow v = 0 ∨ st.next + 1 ≤ ow v) ∧ ow v ≤ s'.next ∧ st.next ≤ s'.next ∧ (∀ i, i < st.next → s'.get i = st.get i) ∧ done.length ≤ j ∧
    ((j ≤ s.size ∧ frm ≤ j ∧ spl c s.data.toList = done ++ spl c (s.data.toList.drop frm) ∧ ∀ i, frm ≤ i → i < j → s.data.toList[i]? ≠ some c) ∨ (j = s.size + 1 ∧ spl c s.data.toList = done))

theorem kSplitR (n : Nat) (s : ByteArray) (c : UInt8) (hs : s.size < 90000) (h : ∀ v st', Row1 st' v ((pieces c s).map Value.string) → (ow v = 0 ∨ st.next + 1 ≤ ow v) → ow v ≤ st'.next → st.next ≤ st'.next → (∀ i, i < st.next → st'.get i = st.get i) → K v st') :
    callK (callO T0 orc fns 100000 (n + 1)) 39 [.string s, .int .u8 c.toNat] st K := by
  refine fn_runs (fn := g39) ?_ ?_ ?_
  · rfl
  · rfl
  unfold g39
  have hsz := size_list s
  simp (disch := omega) only [↓sxA, ↓wk_store, sxB, sxP, Nat.reduceLeDiff, reduceCtorEq, Nat.reduceEqDiff, Nat.reduceAdd, Int.reduceLT, Int.reduceLE, Int.reduceEq, Nat.reduceLT, Int.reduceToNat, Int.reduceAdd, Int.reduceSub, ↓reduceIte]
  refine loop_rule [0, 1, 5, 6, 7] (SpL c s st) (fun vs _ => match lget vs 4 with
      | .int _ k => ((s.size : Int) + 1 - k).toNat
      | _ => 0) ?_ ?_ ?_
  · rfl
  · refine ⟨_, rfl, ⟨_, [], 0, 0, rfl, GroK.nil _ _, .inl rfl, Nat.zero_le _, Nat.le_refl _, fun _ _ => rfl, Nat.le_refl _, .inl ⟨Nat.zero_le _, Nat.le_refl _, rfl, fun i h1 h2 => by omega⟩⟩, ?_⟩
    show ((s.size : Int) + 1 - 0).toNat < 100000
    omega
  · rintro vs s1 ⟨v, done, frm, j, rfl, hv, ho, hon, hn, hf, hdj, hj⟩
    show sx _ _ _ _ _ [(0, _), (1, _), (5, _), (6, _), (7, _)] _ _ _ _
    rcases hj with ⟨j1, j2, j3, j4⟩ | ⟨j1, j2⟩
    · -- a piece ends here
      have put : ∀ (r : List (List UInt8)), spl c (s.data.toList.drop frm) = (s.data.toList.drop frm).take (j - frm) :: r → ∀ (W : Value → St → Prop),
          (∀ v' st', GroK 1 st' v' ((done ++ [(s.data.toList.drop frm).take (j - frm)]).map fun l => Value.string (bs l)) (done ++ [(s.data.toList.drop frm).take (j - frm)]).length → (ow v' = 0 ∨ st.next + 1 ≤ ow v') → ow v' ≤ st'.next → st.next ≤ st'.next → (∀ i, i < st.next → st'.get i = st.get i) → W v' st') →
          wopK (.append 1 16) [v, .slice (some ⟨s1.next, 0, none⟩) 1 1] (s1.new (.row [.string (s.extract frm j)] 0 false)) W := fun r _ W hW => by
        refine appendK (hv.keep fun i hi => get_new_ne _ _ _ (by omega)) (get_new_same _ _) rfl (by decide) rfl (by omega) (by omega) fun st' k1 k2 k3 => ?_
        have hnx : (s1.new (.row [.string (s.extract frm j)] 0 false)).next = s1.next + 1 := rfl
        refine hW _ st' ?_ (.inr ?_) ?_ (by omega) fun i hi => ?_
        · rw [List.map_append, List.length_append]
          rw [extract_bs] at k1
          exact k1
        · show st.next + 1 ≤ s1.next + 1 + 1; omega
        · show s1.next + 1 + 1 ≤ st'.next; omega
        · rw [k3 i (by omega) (by omega), get_new_ne _ _ _ (by omega), hf i hi]
      by_cases hje : j = s.size
      · have hnone : c ∉ s.data.toList.drop frm := fun hm => by
          obtain ⟨i, hi, he⟩ := List.getElem_of_mem hm
          rw [List.getElem_drop] at he
          rw [List.length_drop] at hi
          exact j4 (frm + i) (by omega) (by omega) (by rw [List.getElem?_eq_getElem (by omega), he])
        have htake : (s.data.toList.drop frm).take (j - frm) = s.data.toList.drop frm := List.take_of_length_le (by rw [List.length_drop]; omega)
        have e1 : ((j : Int) = (s.size : Int)) = True := eq_true (by omega)
        simp (disch := omega) only [q_slBoth, Int.toNat_natCast, e1, ↓sxA, ↓wk_store, sxB, sxP, Nat.reduceLeDiff, reduceCtorEq, Nat.reduceEqDiff, Nat.reduceAdd, Int.reduceLT, Int.reduceLE, Int.reduceEq, Nat.reduceLT, Int.reduceToNat, Int.reduceAdd, Int.reduceSub, ↓reduceIte]
        refine put [] (by rw [htake, spl_none hnone]) _ fun v' st' k1 k2 k3 k4 k5 => ?_
        simp (disch := omega) only [↓sxA, ↓wk_store, sxB, sxP, Nat.reduceLeDiff, reduceCtorEq, Nat.reduceEqDiff, Nat.reduceAdd, Int.reduceLT, Int.reduceLE, Int.reduceEq, Nat.reduceLT, Int.reduceToNat, Int.reduceAdd, Int.reduceSub, ↓reduceIte]
        refine ⟨_, rfl, ⟨v', _, j + 1, j + 1, by simp, k1, k2, k3, k4, k5, by simp; omega, .inr ⟨by omega, ?_⟩⟩, ?_⟩
        · rw [j3, spl_none hnone, htake]
        · show ((s.size : Int) + 1 - ((j : Int) + 1)).toNat < ((s.size : Int) + 1 - (j : Int)).toNat
          omega
      · have hjl : j < s.data.toList.length := by omega
        have hget : s.data.toList.getD j 0 = s.data.toList[j] := by rw [List.getD_eq_getElem?_getD, List.getElem?_eq_getElem hjl, Option.getD_some]
        have e1 : ((j : Int) = (s.size : Int)) = False := eq_false (by omega)
        by_cases hc : s.data.toList[j] = c
        · have hparts : s.data.toList.drop frm = (s.data.toList.drop frm).take (j - frm) ++ c :: s.data.toList.drop (j + 1) := by
            conv => lhs; rw [← List.take_append_drop (j - frm) (s.data.toList.drop frm)]
            rw [List.drop_drop, show frm + (j - frm) = j by omega, List.drop_eq_getElem_cons hjl, hc]
          have hnone : c ∉ (s.data.toList.drop frm).take (j - frm) := fun hm => by
            obtain ⟨i, hi, he⟩ := List.getElem_of_mem hm
            rw [List.length_take, List.length_drop] at hi
            rw [List.getElem_take, List.getElem_drop] at he
            exact j4 (frm + i) (by omega) (by omega) (by rw [List.getElem?_eq_getElem (by omega), he])
          have hspl : spl c (s.data.toList.drop frm) = (s.data.toList.drop frm).take (j - frm) :: spl c (s.data.toList.drop (j + 1)) := by
            conv => lhs; rw [hparts]
            exact spl_hit _ hnone
          have e2 : (((s.data.toList[j]).toNat : Int) = (c.toNat : Int)) = True := eq_true (by rw [hc])
          simp (disch := omega) only [q_indexStr, q_slBoth, Int.toNat_natCast, hget, e1, e2, ↓sxA, ↓wk_store, sxB, sxP, Nat.reduceLeDiff, reduceCtorEq, Nat.reduceEqDiff, Nat.reduceAdd, Int.reduceLT, Int.reduceLE, Int.reduceEq, Nat.reduceLT, Int.reduceToNat, Int.reduceAdd, Int.reduceSub, ↓reduceIte]
          refine put _ hspl _ fun v' st' k1 k2 k3 k4 k5 => ?_
          simp (disch := omega) only [↓sxA, ↓wk_store, sxB, sxP, Nat.reduceLeDiff, reduceCtorEq, Nat.reduceEqDiff, Nat.reduceAdd, Int.reduceLT, Int.reduceLE, Int.reduceEq, Nat.reduceLT, Int.reduceToNat, Int.reduceAdd, Int.reduceSub, ↓reduceIte]
          refine ⟨_, rfl, ⟨v', _, j + 1, j + 1, by simp, k1, k2, k3, k4, k5, by simp; omega, .inl ⟨by omega, Nat.le_refl _, ?_, fun i h1 h2 => by omega⟩⟩, ?_⟩
          · rw [j3, hspl, List.append_assoc]; rfl
          · show ((s.size : Int) + 1 - ((j : Int) + 1)).toNat < ((s.size : Int) + 1 - (j : Int)).toNat
            omega
        · have e2 : (((s.data.toList[j]).toNat : Int) = (c.toNat : Int)) = False := eq_false (fun e => hc ((u8v_inj _ _).1 e))
          simp (disch := omega) only [q_indexStr, Int.toNat_natCast, hget, e1, e2, ↓sxA, ↓wk_store, sxB, sxP, Nat.reduceLeDiff, reduceCtorEq, Nat.reduceEqDiff, Nat.reduceAdd, Int.reduceLT, Int.reduceLE, Int.reduceEq, Nat.reduceLT, Int.reduceToNat, Int.reduceAdd, Int.reduceSub, ↓reduceIte]
          refine ⟨_, rfl, ⟨v, done, frm, j + 1, by simp, hv, ho, hon, hn, hf, by omega, .inl ⟨by omega, by omega, j3, fun i h1 h2 => ?_⟩⟩, ?_⟩
          · by_cases e : i = j
            · subst e; rw [List.getElem?_eq_getElem hjl]; exact fun e => hc (Option.some.inj e)
            · exact j4 i h1 (by omega)
          · show ((s.size : Int) + 1 - ((j : Int) + 1)).toNat < ((s.size : Int) + 1 - (j : Int)).toNat
            omega
    · simp (disch := omega) only [↓sxA, ↓wk_store, sxB, sxP, Nat.reduceLeDiff, reduceCtorEq, Nat.reduceEqDiff, Nat.reduceAdd, Int.reduceLT, Int.reduceLE, Int.reduceEq, Nat.reduceLT, Int.reduceToNat, Int.reduceAdd, Int.reduceSub, ↓reduceIte]
      refine h v s1 ?_ ho hon hn hf
      have hr := pieces_ne c s
      rw [pieces, j2] at hr ⊢
      rw [List.map_map]
      exact hv.row1 (fun e => hr (by simpa using e))
end
end Go.Proofs.YtdmemibnphcedaaGreatDoor
