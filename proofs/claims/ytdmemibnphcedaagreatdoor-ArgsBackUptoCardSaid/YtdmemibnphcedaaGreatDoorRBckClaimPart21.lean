/-
  Rows that grow, rows of texts; the small functions of the templates.
  The library's functions as they are called; names; pieces; marks; two items held against each other.
  Marks as ints; two items held against each other; an item as the program reads it.
  An item as the program reads it.
-/
import Derived.Test.YtdmemibnphcedaaGreatDoorRBckClaimPart20
section
set_option linter.unusedSimpArgs false
set_option linter.unusedVariables false
set_option maxRecDepth 10000
set_option linter.unusedSectionVars false
namespace Go.Proofs.YtdmemibnphcedaaGreatDoor
open Go.Am

/-- a slice that grows: n elements, each of esz cells -/
def GroK (esz : Nat) (st : St) (v : Value) (cs : List Value) (n : Nat) : Prop :=
 (v = .slice none 0 0 ∧ cs = [] ∧ n = 0) ∨ ∃ b cap, v = .slice (some ⟨b, 0, none⟩) n cap ∧ n ≤ cap ∧ st.get b = some (.row cs esz false) ∧ cs.length = n * esz

section
variable {st st' : St} {v : Value} {cs new : List Value} {esz n : Nat}
theorem GroK.nil (esz : Nat) (st : St) : GroK esz st (.slice none 0 0) [] 0 := .inl ⟨rfl, rfl, rfl⟩
theorem GroK.keep (h : GroK esz st v cs n) (hb : ∀ i, i + 1 = ow v → st'.get i = st.get i) : GroK esz st' v cs n := by
 rcases h with h | ⟨b, cap, h1, h2, h3, h4⟩
 ·exact .inl h
 ·subst h1; exact .inr ⟨b, cap, rfl, h2, (hb b rfl).trans h3, h4⟩
theorem GroK.cel (h : GroK 1 st v cs n) : Cel st v cs ∧ cs.length = n := by
 rcases h with ⟨h1, h2, h3⟩ | ⟨b, cap, h1, h2, h3, h4⟩
 ·subst h1 h2 h3; exact ⟨.inl ⟨rfl, rfl⟩, rfl⟩
 ·rw [Nat.mul_one] at h4
  subst h1
  refine ⟨.inr (.inl ⟨b, 0, cap, cs, 1, false, by rw [h4], h3, by omega, by rw [List.drop_zero, List.take_length]⟩), h4⟩

theorem appendK {bytes sb g : Nat} {ro : Bool} (hv : GroK esz st v cs n) (hs : st.get sb = some (.row new g ro)) (hl : new.length = esz) (he : 0 < esz) (ho : new.all oneCell = true) (hb : (n + 1) * bytes ≤ 1099511627776) (hn : n + 1 ≤ 1099511627776) {W : Value → St → Prop}
  (h : ∀ st', GroK esz st' (.slice (some ⟨st.next, 0, none⟩) (n + 1) (n + 1)) (cs ++ new) (n + 1) → st'.next = st.next + 1 → (∀ i, i + 1 ≠ ow v → i < st.next → st'.get i = st.get i) → W (.slice (some ⟨st.next, 0, none⟩) (n + 1) (n + 1)) st') :
  wopK (.append esz bytes) [v, .slice (some ⟨sb, 0, none⟩) 1 1] st W := by
 have h1 : st.srcCells esz (.slice (some ⟨sb, 0, none⟩) 1 1) = some new := by
  simp only [St.srcCells, St.cells, hs, Nat.one_ne_zero, if_false]
  rw [if_pos (by show 0 + 1 * esz ≤ _; omega), List.drop_zero, List.take_of_length_le (by omega)]
 have e0 : esz ≠ 0 := by omega
 simp only [wopK, wop, appendV, srcLen, h1, Nat.one_ne_zero, if_false, ho, not_true_eq_false, or_false, e0]
 rcases hv with ⟨q1, q2, q3⟩ | ⟨b, cap, q1, q2, q3, q4⟩
 ·subst q1 q2 q3
  simp only
  rw [if_pos ⟨by simpa using hb, by decide⟩]
  refine h _ (.inr ⟨st.next, 1, rfl, Nat.le_refl _, get_new_same _ _, by simpa using hl⟩) rfl fun i _ hi => get_new_ne _ _ _ (by omega)
 ·subst q1
  have h3 : st.cells ⟨b, 0, none⟩ (n * esz) = some cs := by
   simp only [St.cells, q3]
   rw [if_pos (by show 0 + n * esz ≤ _; omega), List.drop_zero, List.take_of_length_le (by omega)]
  simp only [q3, h3, e0, if_false]
  rw [if_pos ⟨hb, hn⟩, if_pos ⟨trivial, trivial, Nat.zero_le _⟩]
  refine h _ (.inr ⟨st.next, n + 1, rfl, Nat.le_refl _, ?_, ?_⟩) rfl fun i hi hlt => ?_
  ·exact get_new_same (st.put b none) _
  ·rw [List.length_append, q4, hl, Nat.add_mul, Nat.one_mul]
  ·show ((st.put b none).new _).get i = _
   rw [get_new_ne _ _ _ (by show st.next ≠ i; omega), get_put_ne _ _ _ _ (fun e => hi (by rw [← e]; rfl))]

/-- a row that is laid -/
theorem cel_row {b cap g : Nat} {ro : Bool} (h : st.get b = some (.row cs g ro)) (hn : cs.length = n) : Cel st (.slice (some ⟨b, 0, none⟩) n cap) cs :=
 .inr (.inl ⟨b, 0, cap, cs, g, ro, by rw [hn], h, by omega, by rw [List.drop_zero, List.take_length]⟩)

/-- the cells of an element -/
theorem rk_loadK {b o k g : Nat} {ro : Bool} {xs : List Value} (hb : st.get b = some (.row cs g ro)) (hx : (cs.drop o).take k = xs) (hk : xs.length = k) (hk0 : 0 < k) (K : Value → Prop) : ropK (.loadN k) [.pointer (some ⟨b, o, none⟩)] st K = K (.agg xs.toArray) := by
 have hle : o + k ≤ cs.length := by
  have := congrArg List.length hx
  rw [List.length_take, List.length_drop, hk] at this
  omega
 simp only [ropK, rop, St.cells, hb]
 rw [if_pos (by show o + k ≤ _; exact hle)]
 show K (.agg ((cs.drop o).take k).toArray) = _
 rw [hx]
theorem wk_storeK {b o k g : Nat} {xs : List Value} (hb : st.get b = some (.row cs g false)) (ho : o + k ≤ cs.length) (hk : xs.length = k) (hx : xs.all oneCell = true) (W : Value → St → Prop) : wopK (.store k) [.pointer (some ⟨b, o, none⟩), .agg xs.toArray] st W = W undef (st.put b (some (.row (lputs cs o xs) g false))) := by
 rw [wk_store, hb]
 simp only [getK, rowK, cells_agg]
 exact propext ⟨fun h => h.2.2, fun h => ⟨hk, ⟨by first | trivial | rfl, ho, hx⟩, h⟩⟩
end

section
variable {K : Value → Prop}
theorem q_indexStr (s : ByteArray) (k : IntKind) (i : Int) (h0 : 0 ≤ i) (h1 : i < (s.size : Int)) : popK .indexStr [.string s, .int k i] K = K (.int .u8 ((s.data.toList.getD i.toNat 0).toNat)) := by
 have hl : i.toNat < s.data.toList.length := by rw [← size_list]; omega
 simp only [popK, pop, if_pos h0, List.getD_eq_getElem?_getD, List.getElem?_eq_getElem hl, Option.map_some, Option.getD_some]
theorem q_slBoth (s : ByteArray) (k k' : IntKind) (a b : Int) (h0 : 0 ≤ a) (h1 : a ≤ b) (h2 : b ≤ (s.size : Int)) : popK (.slStr true true) [.string s, .int k a, .int k' b] K = K (.string (s.extract a.toNat b.toNat)) := by
 have m : max b 0 = b := by omega
 have b0 : 0 ≤ b := by omega
 simp [popK, pop, bounds, bound, b0, h2, m, h0, h1]
end
theorem extract_bs (s : ByteArray) (a b : Nat) : s.extract a b = bs ((s.data.toList.drop a).take (b - a)) := by
 rw [← Lib.extract_data, bs_of]

attribute [local irreducible] callO wopK ropK popK opK grpsE listE sx Runs

section
variable {st : St} {v u : Value} {K : Value → St → Prop} {xs : List ByteArray} {x : ByteArray}

theorem getD_str (xs : List ByteArray) (i : Nat) (h : i < xs.length) : (xs.map Value.string).getD i undef = .string (xs.getD i .empty) := by
 simp [List.getD, h]

theorem kEqStrs (n : Nat) (hu : Cel st u (xs.map Value.string)) (hv : Cel st v (xs.map Value.string)) (hl : xs.length < 90000) (h : K (.bool true) st) :
  callK (callO T0 orc fns 100000 (n + 1)) 23 [u, v] st K := by
 refine fn_runs (fn := g23) ?_ ?_ ?_
 ·rfl
 ·rfl
 unfold g23
 have hn := len_cel hu
 have hn2 := len_cel hv
 rw [List.length_map] at hn hn2
 simp (disch := omega) only [↓sxA, ↓wk_store, sxB, sxP, simprocAttr, ↓hn, ↓hn2]
 refine loop_rule [0, 1, 5] (fun vs st' => st' = st ∧ ∃ j : Nat, vs = [u, v, .int .i64 j] ∧ j ≤ xs.length) (fun vs _ => match lget vs 2 with
   | .int _ k => ((xs.length : Int) - k).toNat
   | _ => 0) ?_ ?_ ?_
 ·rfl
 ·refine ⟨_, rfl, ⟨rfl, 0, rfl, Nat.zero_le _⟩, ?_⟩
  show ((xs.length : Int) - 0).toNat < 100000
  omega
 ·rintro vs st' ⟨rfl, j, rfl, j1⟩
  show sx _ _ _ _ _ [(0, _), (1, _), (5, _)] _ _ _ _
  by_cases hj : j < xs.length
  ·have i1 := idx_cel hu
   have ld := load_cel hu
   have i2 := idx_cel hv
   have ld2 := load_cel hv
   rw [List.length_map] at i1 ld i2 ld2
   have e := getD_str xs j hj
   simp (disch := omega) only [↓sxA, ↓wk_store, sxB, sxP, simprocAttr, ↓hn, ↓i1, ↓ld, ↓i2, ↓ld2, Int.toNat_natCast, e]
   refine ⟨_, rfl, ⟨j + 1, ?_, hj⟩, ?_⟩
   ·simp
   ·show ((xs.length : Int) - ((j : Int) + 1)).toNat < ((xs.length : Int) - j).toNat
    omega
  ·simp (disch := omega) only [↓sxA, ↓wk_store, sxB, sxP, simprocAttr, ↓hn]
   exact h

end
end Go.Proofs.YtdmemibnphcedaaGreatDoor
end
section
set_option linter.unusedSimpArgs false
set_option linter.unusedVariables false
set_option maxRecDepth 10000
set_option linter.unusedSectionVars false
namespace Go.Proofs.YtdmemibnphcedaaGreatDoor
open Go.Am

/-- a row of cells, laid from its beginning; not empty -/
def Row1 (st : St) (v : Value) (cs : List Value) : Prop := ∃ b cap g ro, v = .slice (some ⟨b, 0, none⟩) cs.length cap ∧ cs.length ≤ cap ∧ 0 < cs.length ∧ st.get b = some (.row cs g ro) ∧ (g = 0 ∨ g = 1)

section
variable {st st' : St} {v : Value} {cs : List Value}
theorem Row1.cel (h : Row1 st v cs) : Cel st v cs := by
 obtain ⟨b, cap, g, ro, h1, h2, h3, h4, h5⟩ := h
 subst h1
 exact cel_row h4 rfl
theorem Row1.keep (h : Row1 st v cs) (hb : ∀ i, i + 1 = ow v → st'.get i = st.get i) : Row1 st' v cs := by
 obtain ⟨b, cap, g, ro, h1, h2, h3, h4, h5⟩ := h
 subst h1
 exact ⟨b, cap, g, ro, rfl, h2, h3, (hb b rfl).trans h4, h5⟩
theorem sllo_row1 (h : Row1 st v cs) (k : IntKind) (n : Int) (K : Value → Prop) (h0 : 0 ≤ n) (h1 : n ≤ (cs.length : Int)) : ropK (.sl 1 true false) [v, .int k n] st K = K (blo v n.toNat) := by
 obtain ⟨b, cap, g, ro, q1, q2, q3, q4, q5⟩ := h
 subst q1
 have hb : bound 0 cs.length (.int k n) = some n.toNat := by simp only [bound]; rw [if_pos ⟨by simpa using h0, by omega⟩]
 have hc : cap ≠ 0 := by omega
 simp only [ropK, rop, q4, bounds, hb, Option.map_some, blo, hc, if_false]
 rw [if_pos q5]
theorem sllo_cel1 (h : Row1 st v cs) (n : Nat) (h1 : n ≤ cs.length) : Cel st (blo v n) (cs.drop n) := by
 obtain ⟨b, cap, g, ro, q1, q2, q3, q4, q5⟩ := h
 subst q1
 by_cases hc : cap = n
 ·have e : cs.drop n = [] := List.drop_eq_nil_of_le (by omega)
  rw [e]
  refine .inr (.inl ⟨b, 0, cap - n, cs, g, ro, ?_, q4, by simp, rfl⟩)
  simp only [blo, hc, if_true, List.length_nil]
  congr 1
  omega
 ·by_cases hn : n = 0
  ·subst hn
   refine .inr (.inl ⟨b, 0, cap, cs, g, ro, ?_, q4, by simp, by simp⟩)
   simp [blo, hc, addA]
  ·refine .inr (.inl ⟨b, n, cap - n, cs, g, ro, ?_, q4, by rw [List.length_drop]; omega, by rw [List.take_of_length_le (by rw [List.length_drop]; omega)]⟩)
   simp [blo, hc, addA, hn]

end

/-! ### a trim that leaves nothing -/
theorem dropWhile_nil {α : Type} {p : α → Bool} : ∀ {l : List α}, l.dropWhile p = [] ↔ ∀ x ∈ l, p x = true
 | [] => by simp
 | x :: l => by
  rw [List.dropWhile_cons]
  by_cases h : p x = true
  ·rw [if_pos h, dropWhile_nil]; simp [h]
  ·rw [if_neg h]; simp [h]

theorem dropWhile_head {α : Type} {p : α → Bool} : ∀ {l : List α} {x : α} {r : List α}, l.dropWhile p = x :: r → p x = false
 | [], _, _, h => by simp at h
 | y :: l, x, r, h => by
  rw [List.dropWhile_cons] at h
  by_cases hy : p y = true
  ·rw [if_pos hy] at h; exact dropWhile_head h
  ·rw [if_neg hy] at h; cases h; simpa using hy

theorem trimS_nil (l cs : List UInt8) : Lib.trimS l cs = [] ↔ ∀ b ∈ l, cs.contains b = true := by
 unfold Lib.trimS Lib.trimLeftS Lib.trimRightS
 rw [dropWhile_nil]
 constructor
 ·intro h
  have h0 : l.reverse.dropWhile (cs.contains ·) = [] := by
   cases hd : l.reverse.dropWhile (cs.contains ·) with
   | nil => rfl
   | cons x r =>
    have h1 := dropWhile_head hd
    have h2 := h x (by rw [hd]; simp)
    rw [h1] at h2
    cases h2
  have := dropWhile_nil.1 h0
  exact fun b hb => this b (by simpa using hb)
 ·intro h
  have h0 : l.reverse.dropWhile (cs.contains ·) = [] := dropWhile_nil.2 fun b hb => h b (by simpa using hb)
  rw [h0]
  simp

def letters : ByteArray := ⟨#[97, 98, 99, 100, 101, 102, 103, 104, 105, 106, 107, 108, 109, 110, 111, 112, 113, 114, 115, 116, 117, 118, 119, 120, 121, 122]⟩

theorem letters_has (b : UInt8) : letters.data.toList.contains b = (decide (97 ≤ b.toNat) && decide (b.toNat ≤ 122)) := by
 have h : ∀ n : Fin 256, letters.data.toList.contains (UInt8.ofNat n.val) = (decide (97 ≤ n.val) && decide (n.val ≤ 122)) := by decide +kernel
 have := h ⟨b.toNat, b.toNat_lt⟩
 simpa using this

theorem bs_eq_empty {l : List UInt8} : bs l = ByteArray.empty ↔ l = [] := by
 constructor
 ·intro h
  exact bs_inj (h.trans (show ByteArray.empty = bs [] from rfl))
 ·intro h; subst h; rfl

theorem trim_letters (s : ByteArray) : (trimV s letters = ByteArray.empty) ↔ (s.data.toList.all fun b => decide (97 ≤ b.toNat) && decide (b.toNat ≤ 122)) = true := by
 show bs (Lib.trimS _ _) = _ ↔ _
 rw [bs_eq_empty, trimS_nil, List.all_eq_true]
 simp only [letters_has]

theorem orc_eq {f : FuncId} (h : f ≠ 15) (args : List Value) (st : St) : orc f args st = orc1 f args st := by
 unfold orc; rw [if_neg h]

section
variable {st : St} {K : Value → St → Prop}
theorem kAwake (n : Nat) (hm : hasMax st = true) (h : K (.bool true) st) : callK (callO T0 orc fns 100000 n) 15 [] st K := by
 rw [callO_none (by rfl)]
 have e : orc 15 [] st = .ret (.bool true, st) := by simp [orc, hm]
 exact (propext (callK_ret (K := K) e)).mpr h
theorem kTrim (n : Nat) (s : ByteArray) (hs : s.size ≤ 4294967280) (h : K (.string (trimV s letters)) st) : callK (callO T0 orc fns 100000 n) 47 [.string s, .string letters] st K := by
 rw [callO_none (by rfl)]
 have e : orc 47 [.string s, .string letters] st = .ret (.string (trimV s letters), st) := by
  rw [orc_eq (by decide)]
  have h1 : letters.size < 4294967281 := by decide
  have h2 : asciiB letters = true := by decide +kernel
  simp [orc1, hs, h1, h2]
 exact (propext (callK_ret (K := K) e)).mpr h
theorem kSplit (n : Nat) (s : ByteArray) (c : UInt8) (hs : s.size < 4294967281) (hm : hasMax st = true) (h : ∀ st', Row1 st' (.slice (some ⟨st.next, 0, none⟩) (pieces c s).length (pieces c s).length) ((pieces c s).map Value.string) → st'.next = st.next + 1 → (∀ i, i < st.next → st'.get i = st.get i) → K (.slice (some ⟨st.next, 0, none⟩) (pieces c s).length (pieces c s).length) st') :
  callK (callO T0 orc fns 100000 n) 37 [.string s, .string ⟨#[c]⟩] st K := by
 rw [callO_none (by rfl)]
 have e : orc 37 [.string s, .string ⟨#[c]⟩] st = .ret (.slice (some ⟨st.next, 0, none⟩) (pieces c s).length (pieces c s).length, st.new (.row ((pieces c s).map Value.string) 0 false)) := by
  rw [orc_eq (by decide)]
  have h1 : 1 ≤ (⟨#[c]⟩ : ByteArray).size := Nat.le_refl 1
  simp [orc1, hs, h1, hm, split_pieces]
 refine (propext (callK_ret (K := K) e)).mpr (h _ ⟨st.next, (pieces c s).length, 0, false, by simp, by simp, by simpa using List.length_pos_iff.2 (pieces_ne c s), get_new_same _ _, .inl rfl⟩ rfl fun i hi => get_new_ne _ _ _ (by omega))
theorem kIndex (n : Nat) (s c : ByteArray) (hs : s.size < 4294967281) (hm : hasMax st = true) (h : K (.int .i64 (Lib.index s.data.toList c.data.toList)) st) : callK (callO T0 orc fns 100000 n) 65 [.string s, .string c] st K := by
 rw [callO_none (by rfl)]
 have e : orc 65 [.string s, .string c] st = .ret (.int .i64 (Lib.index s.data.toList c.data.toList), st) := by
  rw [orc_eq (by decide)]
  simp [orc1, hs, hm]
 exact (propext (callK_ret (K := K) e)).mpr h
end
attribute [local irreducible] callO wopK ropK popK opK grpsE listE sx Runs

section
variable {st : St} {v u : Value} {K : Value → St → Prop} {xs : List ByteArray} {x : ByteArray}

theorem kNameBad (n : Nat) (s : ByteArray) (hs : s.size ≤ 4294967280) (h : K (.bool (!isNm s)) st) : callK (callO T0 orc fns 100000 (n + 1)) 67 [.string s] st K := by
 refine fn_runs (fn := g67) ?_ ?_ ?_
 ·rfl
 ·rfl
 unfold g67
 have hsz := size_list s
 have hse : s = ByteArray.empty ↔ s.size = 0 := by
  constructor
  ·rintro rfl; rfl
  ·intro e
   rw [← bs_of s, bs_eq_empty]
   exact List.length_eq_zero_iff.1 (by omega)
 by_cases h0 : s.size = 0
 ·have e0 : (s = ByteArray.empty) = True := eq_true (hse.2 h0)
  have : isNm s = false := by rw [isNm, decide_eq_false (by omega), Bool.false_and, Bool.false_and]
  rw [this] at h
  simp (disch := omega) only [↓sxA, ↓wk_store, sxB, sxP, simprocAttr, e0]
  exact h
 ·have e0 : (s = ByteArray.empty) = False := eq_false (fun e => h0 (hse.1 e))
  by_cases h16 : 16 < s.size
  ·have : isNm s = false := by rw [isNm, decide_eq_false (by omega : ¬ s.size ≤ 16), Bool.and_false, Bool.false_and]
   rw [this] at h
   simp (disch := omega) only [↓sxA, ↓wk_store, sxB, sxP, simprocAttr, e0]
   exact h
  ·simp (disch := omega) only [↓sxA, ↓wk_store, sxB, sxP, simprocAttr, e0]
   refine kTrim n s hs ?_
   by_cases ht : trimV s letters = ByteArray.empty
   ·have hall := (trim_letters s).1 ht
    have : isNm s = true := by rw [isNm, hall, decide_eq_true (by omega), decide_eq_true (by omega)]; rfl
    rw [this] at h
    have e1 : (trimV s letters = ByteArray.empty) = True := eq_true ht
    simp (disch := omega) only [↓sxA, ↓wk_store, sxB, sxP, simprocAttr, e1]
    exact h
   ·have hall : (s.data.toList.all fun b => decide (97 ≤ b.toNat) && decide (b.toNat ≤ 122)) = false := by
     cases hh : s.data.toList.all fun b => decide (97 ≤ b.toNat) && decide (b.toNat ≤ 122) with
     | false => rfl
     | true => exact (ht ((trim_letters s).2 hh)).elim
    have : isNm s = false := by rw [isNm, hall, Bool.and_false]
    rw [this] at h
    have e1 : (trimV s letters = ByteArray.empty) = False := eq_false ht
    simp (disch := omega) only [↓sxA, ↓wk_store, sxB, sxP, simprocAttr, e1]
    exact h

theorem kIndexFuncS (n : Nat) (hv : Cel st v (xs.map Value.string)) (hl : xs.length < 90000) (hs : ∀ x ∈ xs, x.size ≤ 4294967280) (h1 : xs.all isNm = false → ∀ r : Int, 0 ≤ r → K (.int .i64 r) st) (h2 : xs.all isNm = true → K (.int .i64 (-1)) st) :
  callK (callO T0 orc fns 100000 (n + 2)) 101 [v, .func (.func 67) #[] #[]] st K := by
 refine fn_runs (fn := g101) ?_ ?_ ?_
 ·rfl
 ·rfl
 unfold g101
 have hn := len_cel hv
 rw [List.length_map] at hn
 simp (disch := omega) only [↓sxA, ↓wk_store, sxB, sxP, simprocAttr, ↓hn]
 refine loop_rule [0, 1, 7, 8] (fun vs st' => st' = st ∧ ∃ j : Nat, vs = [v, .func (.func 67) #[] #[], .int .i64 (xs.length : Nat), .int .i64 j] ∧ j ≤ xs.length ∧ ∀ i, i < j → isNm (xs.getD i .empty) = true) (fun vs _ => match lget vs 3 with
   | .int _ k => ((xs.length : Int) - k).toNat
   | _ => 0) ?_ ?_ ?_
 ·rfl
 ·refine ⟨_, rfl, ⟨rfl, 0, rfl, Nat.zero_le _, fun i hi => by omega⟩, ?_⟩
  show ((xs.length : Int) - 0).toNat < 100000
  omega
 ·rintro vs st' ⟨rfl, j, rfl, j1, j2⟩
  show sx _ _ _ _ _ [(0, _), (1, _), (7, _), (8, _)] _ _ _ _
  by_cases hj : j < xs.length
  ·have i1 := idx_cel hv
   have ld := load_cel hv
   rw [List.length_map] at i1 ld
   have e := getD_str xs j hj
   have hm : xs.getD j .empty ∈ xs := by rw [List.getD_eq_getElem?_getD, List.getElem?_eq_getElem hj, Option.getD_some]; exact List.getElem_mem hj
   simp (disch := omega) only [↓sxA, ↓wk_store, sxB, sxP, simprocAttr, ↓i1, ↓ld, Int.toNat_natCast, e]
   refine kNameBad n _ (hs _ hm) ?_
   cases hc : isNm (xs.getD j .empty) with
   | true =>
    simp (disch := omega) only [↓sxA, ↓wk_store, sxB, sxP, simprocAttr]
    refine ⟨_, rfl, ⟨j + 1, ?_, hj, fun i hi => ?_⟩, ?_⟩
    ·simp
    ·by_cases e : i = j
     ·rw [e]; exact hc
     ·exact j2 i (by omega)
    ·show ((xs.length : Int) - ((j : Int) + 1)).toNat < ((xs.length : Int) - j).toNat
     omega
   | false =>
    simp (disch := omega) only [↓sxA, ↓wk_store, sxB, sxP, simprocAttr]
    refine h1 ?_ _ (by omega)
    rw [List.all_eq_false]
    exact ⟨_, hm, by rw [hc]; simp⟩
  ·simp (disch := omega) only [↓sxA, ↓wk_store, sxB, sxP, simprocAttr]
   refine h2 ?_
   rw [List.all_eq_true]
   intro y hm
   obtain ⟨i, hi, rfl⟩ := List.getElem_of_mem hm
   have := j2 i (by omega)
   rw [List.getD_eq_getElem?_getD, List.getElem?_eq_getElem hi, Option.getD_some] at this
   exact this

theorem kContainsBad (n : Nat) (hv : Cel st v (xs.map Value.string)) (hl : xs.length < 90000) (hs : ∀ x ∈ xs, x.size ≤ 4294967280) (h : K (.bool (!xs.all isNm)) st) :
  callK (callO T0 orc fns 100000 (n + 3)) 66 [v, .func (.func 67) #[] #[]] st K := by
 refine fn_runs (fn := g66) ?_ ?_ ?_
 ·rfl
 ·rfl
 unfold g66
 simp (disch := omega) only [↓sxA, ↓wk_store, sxB, sxP, simprocAttr]
 refine kIndexFuncS n hv hl hs (fun ha r hr => ?_) (fun ha => ?_)
 ·rw [ha] at h
  simp (disch := omega) only [↓sxA, ↓wk_store, sxB, sxP, simprocAttr]
  exact h
 ·rw [ha] at h
  simp (disch := omega) only [↓sxA, ↓wk_store, sxB, sxP, simprocAttr]
  exact h

end
end Go.Proofs.YtdmemibnphcedaaGreatDoor
end
section
set_option linter.unusedSimpArgs false
set_option linter.unusedVariables false
set_option maxRecDepth 10000
set_option linter.unusedSectionVars false
namespace Go.Proofs.YtdmemibnphcedaaGreatDoor
open Go.Am

/-! ### marks as ints -/
def Mk.bit (x : Mk) : Nat → Bool
 | 0 => x.a
 | 1 => x.k
 | 2 => x.s
 | 3 => x.n
 | 4 => x.m
 | _ => x.f
def Mk.put (x : Mk) : Nat → Mk
 | 0 => { x with a := true }
 | 1 => { x with k := true }
 | 2 => { x with s := true }
 | 3 => { x with n := true }
 | 4 => { x with m := true }
 | _ => { x with f := true }
def p2 : Nat → Int
 | 0 => 1
 | 1 => 2
 | 2 => 4
 | 3 => 8
 | 4 => 16
 | _ => 32
/-- the first marks -/
def Mk.upto (x : Mk) : Nat → Mk
 | 0 => Mk.none
 | 1 => ⟨x.a, false, false, false, false, false⟩
 | 2 => ⟨x.a, x.k, false, false, false, false⟩
 | 3 => ⟨x.a, x.k, x.s, false, false, false⟩
 | 4 => ⟨x.a, x.k, x.s, x.n, false, false⟩
 | 5 => ⟨x.a, x.k, x.s, x.n, x.m, false⟩
 | _ => x
def lt (i : Nat) : ByteArray := ⟨#[match i with | 0 => 97 | 1 => 107 | 2 => 115 | 3 => 110 | 4 => 109 | _ => 102]⟩
def order : ByteArray := ⟨#[97, 107, 115, 110, 109, 102]⟩

def andI (a b : Int) : Int := IntKind.i64.wrap (BitVec.ofInt 64 a &&& BitVec.ofInt 64 b).toNat
def orI (a b : Int) : Int := IntKind.i64.wrap (BitVec.ofInt 64 a ||| BitVec.ofInt 64 b).toNat
def notI (a b : Int) : Int := IntKind.i64.wrap (BitVec.ofInt 64 a &&& ~~~ BitVec.ofInt 64 b).toNat
def shlI (a b : Int) : Int := IntKind.i64.wrap (a * 2 ^ (Nat.min b.toNat 64))

section
variable {K : Value → Prop}
theorem popAnd (a b : Int) : popK (.bin .and) [.int .i64 a, .int .i64 b] K = K (.int .i64 (andI a b)) := of_eq_true (eq_self _)
theorem popOr (a b : Int) : popK (.bin .or) [.int .i64 a, .int .i64 b] K = K (.int .i64 (orI a b)) := of_eq_true (eq_self _)
theorem popNot (a b : Int) : popK (.bin .andNot) [.int .i64 a, .int .i64 b] K = K (.int .i64 (notI a b)) := of_eq_true (eq_self _)
theorem popShl (a b : Int) (h : 0 ≤ b) : popK (.bin .shl) [.int .i64 a, .int .i64 b] K = K (.int .i64 (shlI a b)) := by
 simp only [popK, pop, binV, shiftInt]
 rw [if_neg (by omega)]
 rfl
end

theorem shl_p2 (i : Nat) (h : i < 6) : shlI 1 (i : Int) = p2 i := by
 match i, h with
 | 0, _ | 1, _ | 2, _ | 3, _ | 4, _ | 5, _ => decide +kernel
theorem and_bit (x : Mk) (i : Nat) (h : i < 6) : andI x.int (p2 i) = b2i (x.bit i) (p2 i) := by
 obtain ⟨a, k, s, n, m, f⟩ := x
 match i, h with
 | 0, _ | 1, _ | 2, _ | 3, _ | 4, _ | 5, _ => revert a k s n m f; decide +kernel
theorem or_put (x : Mk) (i : Nat) (h : i < 6) : orI x.int (p2 i) = (x.put i).int := by
 obtain ⟨a, k, s, n, m, f⟩ := x
 match i, h with
 | 0, _ | 1, _ | 2, _ | 3, _ | 4, _ | 5, _ => revert a k s n m f; decide +kernel
theorem index_lt (b : UInt8) : (Lib.index order.data.toList [b] = -1 ∧ ∀ i, i < 6 → [b] ≠ (lt i).data.toList) ∨ ∃ i : Nat, i < 6 ∧ Lib.index order.data.toList [b] = (i : Int) ∧ [b] = (lt i).data.toList := by
 have h : ∀ n : Fin 256, (Lib.index order.data.toList [UInt8.ofNat n.val] = -1 ∧ ∀ i : Fin 6, [UInt8.ofNat n.val] ≠ (lt i.val).data.toList) ∨ ∃ i : Fin 6, Lib.index order.data.toList [UInt8.ofNat n.val] = (i.val : Int) ∧ [UInt8.ofNat n.val] = (lt i.val).data.toList := by decide +kernel
 have := h ⟨b.toNat, b.toNat_lt⟩
 simp only [UInt8.ofNat_toNat] at this
 rcases this with ⟨h1, h2⟩ | ⟨i, h1, h2⟩
 ·exact .inl ⟨h1, fun i hi => h2 ⟨i, hi⟩⟩
 ·exact .inr ⟨i.val, i.isLt, h1, h2⟩

theorem add_lt (x : Mk) (i : Nat) (h : i < 6) : x.add (lt i) = if x.bit i = true then Option.none else some (x.put i) := by
 match i, h with
 | 0, _ | 1, _ | 2, _ | 3, _ | 4, _ | 5, _ => rfl
theorem add_no (x : Mk) (p : ByteArray) (h : ∀ i, i < 6 → p ≠ lt i) : x.add p = Option.none := by
 have hl : ∀ i, i < 6 → p.data.toList ≠ (lt i).data.toList := fun i hi e => h i hi (by rw [← bs_of p, e, bs_of])
 unfold Mk.add
 split <;> rename_i hp
 ·exact (hl 0 (by decide) hp).elim
 ·exact (hl 1 (by decide) hp).elim
 ·exact (hl 2 (by decide) hp).elim
 ·exact (hl 3 (by decide) hp).elim
 ·exact (hl 4 (by decide) hp).elim
 ·exact (hl 5 (by decide) hp).elim
 ·rfl

/-- what a part is, as a mark -/
theorem part_is (p : ByteArray) : (p.size ≠ 1 ∧ ∀ i, i < 6 → p ≠ lt i) ∨ (p.size = 1 ∧ Lib.index order.data.toList p.data.toList = -1 ∧ ∀ i, i < 6 → p ≠ lt i) ∨ ∃ i : Nat, i < 6 ∧ p = lt i ∧ p.size = 1 ∧ Lib.index order.data.toList p.data.toList = (i : Int) := by
 have hs : ∀ i, (lt i).size = 1 := fun i => rfl
 by_cases h1 : p.size = 1
 ·right
  obtain ⟨b, hb⟩ : ∃ b, p.data.toList = [b] := List.length_eq_one_iff.1 (by rw [← size_list]; exact h1)
  rcases index_lt b with ⟨k1, k2⟩ | ⟨i, k1, k2, k3⟩
  ·exact .inl ⟨h1, by rw [hb]; exact k1, fun i hi e => k2 i hi (by rw [← hb, e])⟩
  ·exact .inr ⟨i, k1, by rw [← bs_of p, hb, k3, bs_of], h1, by rw [hb]; exact k2⟩
 ·exact .inl ⟨h1, fun i hi e => h1 (by rw [e]; exact hs i)⟩

/-- the cells of an item -/
def itCells (nv : Value) (x : Mk) : List Value := [nv, .bool x.a, .bool x.k, .bool x.s, .bool x.n, .bool x.m, .bool x.f]

theorem resP_k1 (e : Env) (s : St) (a b n : Nat) (Q : Value → St → Prop) : resP e s [(a, n + 2), (b, 0)] Q = getE e a fun u => ropK (.loadN n) [u] s fun x => getE e b fun v => Q (.tuple #[x, v]) s := by
 unfold resP getE ropK
 simp only [resE, res1E]
 cases e.get? a with
 | none => rfl
 | some u =>
  simp only
  cases rop (.loadN n) [u] s with
  | none => rfl
  | some x =>
   simp only
   cases e.get? b <;> rfl

attribute [local irreducible] callO wopK ropK popK opK grpsE listE sx Runs

section
variable {st : St} {v u nv : Value} {K : Value → St → Prop} {xs : List ByteArray} {x : Mk}

end
end Go.Proofs.YtdmemibnphcedaaGreatDoor
end
section
set_option linter.unusedSimpArgs false
set_option linter.unusedVariables false
set_option maxRecDepth 10000
set_option linter.unusedSectionVars false
namespace Go.Proofs.YtdmemibnphcedaaGreatDoor
open Go.Am
theorem rk_loadAll {st : St} {b k g : Nat} {ro : Bool} {cs : List Value} (hb : st.get b = some (.row cs g ro)) (hl : cs.length = k) (hk0 : 0 < k) (K : Value → Prop) : ropK (.loadN k) [.pointer (some ⟨b, 0, none⟩)] st K = K (.agg cs.toArray) :=
 rk_loadK hb (by rw [List.drop_zero, List.take_of_length_le (by omega)]) hl hk0 K

attribute [local irreducible] callO wopK ropK popK opK grpsE listE sx Runs

/-- nothing that was has turned -/
structure Frm (st st' : St) : Prop where
 nx : st.next ≤ st'.next
 old : ∀ i, i < st.next → st'.get i = st.get i
theorem Frm.refl (st : St) : Frm st st := ⟨Nat.le_refl _, fun _ _ => rfl⟩
theorem Frm.trans {s1 s2 s3 : St} (h : Frm s1 s2) (k : Frm s2 s3) : Frm s1 s3 := ⟨Nat.le_trans h.nx k.nx, fun i hi => (k.old i (Nat.lt_of_lt_of_le hi h.nx)).trans (h.old i hi)⟩
theorem Frm.new (st : St) (o : AObj) : Frm st (st.new o) := ⟨Nat.le_succ _, fun i hi => get_new_ne _ _ _ (by omega)⟩
theorem Frm.put {st s : St} (h : Frm st s) (i : Nat) (hi : st.next ≤ i) (o : Option AObj) : Frm st (s.put i o) := ⟨h.nx, fun j hj => (get_put_ne _ _ _ _ (by omega)).trans (h.old j hj)⟩
theorem Frm.max {st s : St} (h : Frm st s) (h0 : 0 < st.next) (hm : hasMax st = true) : hasMax s = true := by
 have : hasMax s = hasMax st := by unfold hasMax; rw [h.old 0 h0]
 rw [this]; exact hm

/-- the marks so far -/
def ItL (st : St) (s2 : St) (v4 : Value) (t : List ByteArray) (vs : List Value) (s : St) : Prop :=
 s = s2 ∧ ∃ (x : Mk) (j : Nat), j ≤ t.length ∧ vs = [.pointer (some ⟨st.next, 0, none⟩), v4, .int .i64 x.int, blo v4 1, .int .i64 t.length, .int .i64 j] ∧ marksA t Mk.none = marksA (t.drop j) x

abbrev zero7 : List Value := [.slice none 0 0, .bool false, .bool false, .bool false, .bool false, .bool false, .bool false]

theorem len_blo {st : St} {v : Value} {cs : List Value} (h : Row1 st v cs) (n : Nat) (hn : n ≤ cs.length) (K : Value → Prop) : popK .lenSl [blo v n] K = K (.int .i64 ((cs.drop n).length : Nat)) := len_cel (sllo_cel1 h n hn) K

theorem int_only (x : Mk) : x.int = 4 ↔ (x.s && !x.a && !x.k && !x.n && !x.m && !x.f) = true := by
 obtain ⟨a, k, s, n, m, f⟩ := x
 revert a k s n m f
 decide +kernel
theorem int_rest (x : Mk) : notI x.int 1 = 32 ↔ (x.f && !x.k && !x.s && !x.n && !x.m) = true := by
 obtain ⟨a, k, s, n, m, f⟩ := x
 revert a k s n m f
 decide +kernel

section
variable {st : St} {K : Value → St → Prop}

set_option maxHeartbeats 8000000 in
theorem kItem (n : Nat) (s : ByteArray) (hs : s.size < 80000) (h0 : 0 < st.next) (hm : hasMax st = true)
    (hbad : itemA s = Option.none → ∀ l : List Value, l.length = 7 → l.all oneCell = true → ∀ st', Frm st st' → K (.tuple #[.agg l.toArray, .bool false]) st')
    (hok : ∀ x, itemA s = some x → ∀ nv st', Frm st st' → Cel st' nv (x.names.map Value.string) → oneCell nv = true → (ow nv = 0 ∨ st.next + 1 ≤ ow nv) → ow nv ≤ st'.next → K (.tuple #[.agg (itCells nv x.mks).toArray, .bool true]) st') :
    callK (callO T0 orc fns 100000 (n + 5)) 38 [.string s] st K := by
  refine fn_runs (fn := g38) ?_ ?_ ?_
  · rfl
  · rfl
  unfold g38
  obtain ⟨h, t, hp⟩ : ∃ h t, pieces 47 s = h :: t := by
    cases hc : pieces 47 s with
    | nil => exact (pieces_ne 47 s hc).elim
    | cons h t => exact ⟨h, t, rfl⟩
  have hit : itemA s = match marksA t Mk.none with
    | some x => if (pieces 61 h).all isNm && x.fit then some ⟨pieces 61 h, x⟩ else Option.none
    | Option.none => Option.none := by unfold itemA; rw [hp]; rfl
  have hlen : (pieces 47 s).length ≤ s.size + 1 := pieces_length 47 s
  have hhs : h.size ≤ s.size := pieces_size (c := 47) (by rw [hp]; simp)
  have hts : ∀ p ∈ t, p.size ≤ s.size := fun p hpt => pieces_size (c := 47) (by rw [hp]; simp [hpt])
  rw [hp] at hlen
  simp only [List.length_cons] at hlen
  have F1 := Frm.new st (.row zero7 0 false)
  simp (disch := omega) only [↓sxA, ↓wk_store, sxB, sxP, simprocAttr]
  refine kSplit (n + 4) s 47 (by omega) (F1.max h0 hm) fun s2 r2 n2 f2 => ?_
  have n2' : s2.next = st.next + 2 := n2
  have F2 : Frm st s2 := F1.trans ⟨by show st.next + 1 ≤ s2.next; omega, f2⟩
  have hbox : s2.get st.next = some (.row zero7 0 false) := (f2 _ (Nat.lt_succ_self _)).trans (get_new_same _ _)
  have hn1 : (st.new (.row zero7 0 false)).next = st.next + 1 := rfl
  have m2 := F2.max h0 hm
  rw [hp] at r2
  have hown : ow (Value.slice (some ⟨(st.new (.row zero7 0 false)).next, 0, none⟩) (pieces 47 s).length (pieces 47 s).length) = st.next + 2 := rfl
  rw [hp] at hown
  rw [hp]
  generalize Value.slice (some ⟨(st.new (.row zero7 0 false)).next, 0, none⟩) (h :: t).length (h :: t).length = v4 at r2 hown
  have sl := fun K => sllo_row1 r2 .i64 1 K (by decide) (by rw [List.length_map, List.length_cons]; omega)
  have ln := len_blo r2 1 (by rw [List.length_map, List.length_cons]; omega)
  have hc4 := sllo_cel1 r2 1 (by rw [List.length_map, List.length_cons]; omega)
  simp only [List.map_cons, List.drop_succ_cons, List.drop_zero, List.length_map] at ln hc4
  have one7 : zero7.length = 7 := rfl
  simp (disch := omega) only [↓sxA, ↓wk_store, sxB, sxP, simprocAttr, ↓sl, ↓ln]
  refine loop_rule [2, 4, 5, 14, 15, 16] (ItL st s2 v4 t) (fun vs _ => match lget vs 5 with
      | .int _ k => ((t.length : Int) - k).toNat
      | _ => 0) ?_ ?_ ?_
  · rfl
  · refine ⟨_, rfl, ⟨rfl, Mk.none, 0, Nat.zero_le _, rfl, rfl⟩, ?_⟩
    show ((t.length : Int) - 0).toNat < 100000
    omega
  · rintro vs s1 ⟨rfl, x, j, hj, rfl, hmk⟩
    show sx _ _ _ _ _ [(2, _), (4, _), (5, _), (14, _), (15, _), (16, _)] _ _ _ _
    by_cases hjt : j < t.length
    · have ix := idx_cel hc4 .i64 (j : Int)
      have e := getD_str t j hjt
      have ld : ∀ K : Value → Prop, ropK .load1 [bptr (blo v4 1) (j : Int)] s1 K = K (.string (t.getD j .empty)) := fun K => by
        rw [load_cel hc4 (j : Int) K (by omega) (by rw [List.length_map]; omega), Int.toNat_natCast, e]
      rw [List.length_map] at ix
      have hpm : t.getD j .empty ∈ t := by rw [List.getD_eq_getElem?_getD, List.getElem?_eq_getElem hjt, Option.getD_some]; exact List.getElem_mem hjt
      have hdrop : t.drop j = t.getD j .empty :: t.drop (j + 1) := by rw [List.drop_eq_getElem_cons hjt, List.getD_eq_getElem?_getD, List.getElem?_eq_getElem hjt, Option.getD_some]
      have hps := hts _ hpm
      rw [hdrop] at hmk
      generalize t.getD j .empty = p at hmk hps ld
      simp (disch := omega) only [↓sxA, ↓wk_store, sxB, sxP, simprocAttr, ↓ix, ↓ld]
      refine kIndex (n + 4) order _ (by decide) m2 ?_
      have bad : x.add p = Option.none → itemA s = Option.none := fun ha => by
        rw [hit, hmk]; simp only [marksA, ha]
      rcases part_is p with ⟨h1, h2⟩ | ⟨h1, h3, h2⟩ | ⟨i, hi, hpe, h1, h3⟩
      · -- not of one byte
        have q1 : ((p.size : Int) = 1) = False := eq_false (by omega)
        have hb := bad (add_no x p h2)
        simp (disch := omega) only [↓sxA, ↓wk_store, sxB, sxP, simprocAttr, q1, hbox, cells_agg]
        rw [resP_k1]
        simp (disch := omega) only [↓sxA, ↓wk_store, sxB, sxP, simprocAttr]
        refine (rk_loadK (xs := zero7) (get_put_same _ _ _) rfl rfl (by decide) _).mpr ?_
        simp (disch := omega) only [↓sxA, ↓wk_store, sxB, sxP, simprocAttr]
        exact hbad hb zero7 rfl rfl _ (F2.put _ (Nat.le_refl _) _)
      · -- no mark
        have q1 : ((p.size : Int) = 1) = True := eq_true (by omega)
        have hb := bad (add_no x p h2)
        simp (disch := omega) only [↓sxA, ↓wk_store, sxB, sxP, simprocAttr, q1, h3, hbox, cells_agg]
        rw [resP_k1]
        simp (disch := omega) only [↓sxA, ↓wk_store, sxB, sxP, simprocAttr]
        refine (rk_loadK (xs := zero7) (get_put_same _ _ _) rfl rfl (by decide) _).mpr ?_
        simp (disch := omega) only [↓sxA, ↓wk_store, sxB, sxP, simprocAttr]
        exact hbad hb zero7 rfl rfl _ (F2.put _ (Nat.le_refl _) _)
      · have q1 : ((p.size : Int) = 1) = True := eq_true (by omega)
        have ha := add_lt x i hi
        rw [← hpe] at ha
        have q2 : (p2 i = 0) = False := eq_false (by match i, hi with
          | 0, _ | 1, _ | 2, _ | 3, _ | 4, _ | 5, _ => decide)
        cases hbit : x.bit i with
        | true =>
          have hb := bad (by rw [ha, hbit]; rfl)
          simp (disch := omega) only [↓sxA, ↓wk_store, sxB, sxP, simprocAttr, q1, h3, hbox, cells_agg, popShl, shl_p2 i hi, popAnd, and_bit x i hi, hbit, b2i, q2]
          rw [resP_k1]
          simp (disch := omega) only [↓sxA, ↓wk_store, sxB, sxP, simprocAttr]
          refine (rk_loadK (xs := zero7) (get_put_same _ _ _) rfl rfl (by decide) _).mpr ?_
          simp (disch := omega) only [↓sxA, ↓wk_store, sxB, sxP, simprocAttr]
          exact hbad hb zero7 rfl rfl _ (F2.put _ (Nat.le_refl _) _)
        | false =>
          have ha' : x.add p = some (x.put i) := by rw [ha, hbit]; rfl
          simp (disch := omega) only [↓sxA, ↓wk_store, sxB, sxP, simprocAttr, q1, h3, popShl, shl_p2 i hi, popAnd, and_bit x i hi, hbit, b2i, popOr, or_put x i hi]
          refine ⟨_, rfl, ⟨rfl, x.put i, j + 1, by omega, rfl, ?_⟩, ?_⟩
          · rw [hmk]; simp only [marksA, ha']
          · show ((t.length : Int) - ((j : Int) + 1)).toNat < ((t.length : Int) - j).toNat
            omega
    · have hdrop : t.drop j = [] := List.drop_eq_nil_of_le (by omega)
      rw [hdrop] at hmk
      simp only [marksA] at hmk
      rw [hmk] at hit
      simp only at hit
      have ix := idx_cel r2.cel .i64 (0 : Int)
      have ld := load_cel r2.cel (0 : Int)
      simp only [List.map_cons, List.length_cons, List.length_map] at ix ld
      simp (disch := omega) only [↓sxA, ↓wk_store, sxB, sxP, simprocAttr, ↓ix, ↓ld, List.getD_cons_zero]
      refine kSplit (n + 4) h 61 (by omega) m2 fun s3 r3 n3 f3 => ?_
      have F3 : Frm st s3 := F2.trans ⟨by omega, f3⟩
      have hbox3 : s3.get st.next = some (.row zero7 0 false) := (f3 _ (by omega)).trans hbox
      simp (disch := omega) only [↓sxA, ↓wk_store, sxB, sxP, simprocAttr]
      refine kContainsBad (n + 1) r3.cel (by have := pieces_length 61 h; omega) (fun p hpp => by have := pieces_size hpp; omega) ?_
      clear hmk ix ld hc4 sl ln
      cases hall : (pieces 61 h).all isNm with
      | false =>
        have hb : itemA s = Option.none := by rw [hit, hall]; rfl
        simp (disch := omega) only [↓sxA, ↓wk_store, sxB, sxP, simprocAttr, hbox3, cells_agg]
        rw [resP_k1]
        simp (disch := omega) only [↓sxA, ↓wk_store, sxB, sxP, simprocAttr]
        refine (rk_loadK (xs := zero7) (get_put_same _ _ _) rfl rfl (by decide) _).mpr ?_
        simp (disch := omega) only [↓sxA, ↓wk_store, sxB, sxP, simprocAttr]
        exact hbad hb zero7 rfl rfl _ (F3.put _ (Nat.le_refl _) _)
      | true =>
        rw [hall] at hit
        have A1 : andI x.int 1 = b2i x.a 1 := and_bit x 0 (by decide)
        have A2 : andI x.int 2 = b2i x.k 2 := and_bit x 1 (by decide)
        have A4 : andI x.int 4 = b2i x.s 4 := and_bit x 2 (by decide)
        have A8 : andI x.int 8 = b2i x.n 8 := and_bit x 3 (by decide)
        have A16 : andI x.int 16 = b2i x.m 16 := and_bit x 4 (by decide)
        have A32 : andI x.int 32 = b2i x.f 32 := and_bit x 5 (by decide)
        have E4 : (x.int = 4) = ((x.s && !x.a && !x.k && !x.n && !x.m && !x.f) = true) := propext (int_only x)
        have E32 : (notI x.int 1 = 32) = ((x.f && !x.k && !x.s && !x.n && !x.m) = true) := propext (int_rest x)
        have hcel := r3.cel
        have ho1 : ow (Value.slice (some ⟨s1.next, 0, none⟩) (pieces 61 h).length (pieces 61 h).length) = s1.next + 1 := rfl
        have endBad : itemA s = Option.none → K (.tuple #[.agg zero7.toArray, .bool false]) (s3.put st.next (some (.row zero7 0 false))) := fun hb => hbad hb zero7 rfl rfl _ (F3.put _ (Nat.le_refl _) _)
        have endOk : ∀ y : IM, itemA s = some y → y.names = pieces 61 h → K (.tuple #[.agg (itCells (.slice (some ⟨s1.next, 0, none⟩) (pieces 61 h).length (pieces 61 h).length) y.mks).toArray, .bool true]) (s3.put st.next (some (.row (itCells (.slice (some ⟨s1.next, 0, none⟩) (pieces 61 h).length (pieces 61 h).length) y.mks) 0 false))) := fun y hy hn => hok y hy _ _ (F3.put _ (Nat.le_refl _) _) (by rw [hn]; exact hcel.keep fun i hi => get_put_ne _ _ _ _ (by omega)) rfl (.inr (by omega)) (by show _ ≤ s3.next; omega)
        clear hbad hok hm m2 hbox r2 hcel r3 hts hlen hp one7 hown
        obtain ⟨a, k, s', n', m, f⟩ := x
        simp only at A1 A2 A4 A8 A16 A32 E4 E32
        cases a <;> cases k <;> cases s' <;> cases n' <;> cases m <;> cases f <;> (
          simp (disch := omega) only [popAnd, popNot, A1, A2, A4, A8, A16, A32, E4, E32, b2i, Bool.true_and, Bool.false_and, Bool.and_true, Bool.and_false, Bool.true_or, Bool.false_or, Bool.or_true, Bool.or_false, Bool.not_true, Bool.not_false, cond_true, cond_false, Bool.and_self, Bool.or_self, Bool.false_eq_true, if_true, if_false, Int.reduceEq, ↓sxA, ↓wk_store, sxB, sxP, simprocAttr, hbox3, cells_agg]
          rw [resP_k1]
          simp (disch := omega) only [↓sxA, ↓wk_store, sxB, sxP, simprocAttr]
          first
          | (refine (rk_loadK (xs := zero7) (get_put_same _ _ _) rfl rfl (by decide) _).mpr ?_
             simp (disch := omega) only [↓sxA, ↓wk_store, sxB, sxP, simprocAttr]
             exact endBad (hit.trans rfl))
          | (refine (rk_loadAll (k := 7) (get_put_same _ _ _) rfl (by decide) _).mpr ?_
             simp (disch := omega) only [↓sxA, ↓wk_store, sxB, sxP, simprocAttr]
             exact endOk _ (hit.trans rfl) rfl))
end
end Go.Proofs.YtdmemibnphcedaaGreatDoor
end
