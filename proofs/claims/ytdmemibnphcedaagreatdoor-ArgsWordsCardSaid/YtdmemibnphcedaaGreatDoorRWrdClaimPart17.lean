/-
  Templates in plain words: pieces, items, marks. (No program in sight, but for what Split comes to.)
  Rows that grow, rows of texts; the small functions of the templates.
  The library's functions as they are called; names; pieces; marks; two items held against each other.
  Marks as ints; two items held against each other; an item as the program reads it.
  An item as the program reads it.
  An item as the chapter reads it.
  A list of items on the heap; the program's Template.
  The program's Template.
  The chapter's Template.
  Usage, by the program and by the chapter.
  Usage, by the program.
  Usage, by the chapter.
  Which item a word belongs to, in plain words. (No program in sight.)
  How a line fits a template, word by word, in plain words. (No program in sight.)
  Lists of arguments on the heap.
  The program's small functions on lines: readable, blank, next, isSign.
  The program's find and free.
  The program's give and rest.
  The program's name: what stands behind an item's name.
  The program's name, walked.
  The program's step: the next word.
  The program's Fit.
  The chapter's small functions: lower, known, rest, open, Number.
  The chapter's next.
  The words of a line, in plain words; what the program's next and readable come to where nothing else is known.
-/
import Derived.Test.YtdmemibnphcedaaGreatDoorRWrdClaimPart16
import Derived.Lib.SplitLaws
section
set_option linter.unusedSimpArgs false
set_option linter.unusedVariables false
set_option maxRecDepth 10000
namespace Go.Proofs.YtdmemibnphcedaaGreatDoor
open Go.Am

def bs (l : List UInt8) : ByteArray := ⟨l.toArray⟩
theorem bs_of (s : ByteArray) : bs s.data.toList = s := by cases s; simp [bs]
theorem bs_size (l : List UInt8) : (bs l).size = l.length := by simp [bs, ByteArray.size]
theorem size_list (s : ByteArray) : s.size = s.data.toList.length := by cases s; simp [ByteArray.size]

/-- cut at each byte c -/
def spl (c : UInt8) : List UInt8 → List (List UInt8)
  | [] => [[]]
  | x :: l => if x = c then [] :: spl c l else match spl c l with
    | p :: ps => (x :: p) :: ps
    | [] => [[x]]

def pieces (c : UInt8) (s : ByteArray) : List ByteArray := (spl c s.data.toList).map bs

/-! ### marks -/
structure Mk where
  a : Bool
  k : Bool
  s : Bool
  n : Bool
  m : Bool
  f : Bool

def Mk.none : Mk := ⟨false, false, false, false, false, false⟩
def b2i (b : Bool) (i : Int) : Int := bif b then i else 0
def Mk.int (x : Mk) : Int := b2i x.a 1 + b2i x.k 2 + b2i x.s 4 + b2i x.n 8 + b2i x.m 16 + b2i x.f 32

/-- a mark more; none: it is no mark, or is there -/
def Mk.add (x : Mk) (p : ByteArray) : Option Mk :=
  match p.data.toList with
  | [97] => if x.a then Option.none else some { x with a := true }
  | [107] => if x.k then Option.none else some { x with k := true }
  | [115] => if x.s then Option.none else some { x with s := true }
  | [110] => if x.n then Option.none else some { x with n := true }
  | [109] => if x.m then Option.none else some { x with m := true }
  | [102] => if x.f then Option.none else some { x with f := true }
  | _ => Option.none

def marksA : List ByteArray → Mk → Option Mk
  | [], x => some x
  | p :: r, x => match x.add p with
    | some y => marksA r y
    | Option.none => Option.none

/-- the marks go together -/
def Mk.fit (x : Mk) : Bool := !(x.s && (x.a || x.k || x.n || x.m || x.f)) && !(x.m && x.k) && !(x.f && (x.k || x.n || x.m))

def isNm (s : ByteArray) : Bool := decide (1 ≤ s.size) && decide (s.size ≤ 16) && s.data.toList.all fun b => decide (97 ≤ b.toNat) && decide (b.toNat ≤ 122)

structure IM where
  names : List ByteArray
  mks : Mk

def itemA (s : ByteArray) : Option IM :=
  match pieces 47 s with
  | h :: t => match marksA t Mk.none with
    | some x => if (pieces 61 h).all isNm && x.fit then some ⟨pieces 61 h, x⟩ else Option.none
    | Option.none => Option.none
  | [] => Option.none

/-- behind the last item only one may have the rest -/
def restOk : List IM → Bool
  | [] => true
  | [_] => true
  | x :: l => !x.mks.f && restOk l

def namesOf (l : List IM) : List ByteArray := l.flatMap IM.names
def manyOf (l : List IM) : Nat := (l.filter (·.mks.m)).length

def itemsA : List ByteArray → Option (List IM)
  | [] => some []
  | p :: r => match itemA p with
    | some x => (itemsA r).map (x :: ·)
    | Option.none => Option.none

def goodA (l : List IM) : Prop := restOk l = true ∧ (namesOf l).Nodup ∧ manyOf l ≤ 1

/-- a template's items (or what error there is) -/
inductive TmA (t : ByteArray) : List IM → Int → Prop where
  | nil : t = ByteArray.empty → TmA t [] 0
  | ok (l : List IM) : t ≠ ByteArray.empty → itemsA (pieces 44 t) = some l → goodA l → l.length ≤ 20 → TmA t l 0
  | long (l : List IM) : t ≠ ByteArray.empty → itemsA (pieces 44 t) = some l → goodA l → 20 < l.length → TmA t [] 2
  | bad : t ≠ ByteArray.empty → (∀ l, itemsA (pieces 44 t) = some l → ¬ goodA l) → TmA t [] 3

theorem TmA.unique {t : ByteArray} {l l' : List IM} {e e' : Int} (h : TmA t l e) (k : TmA t l' e') : l = l' ∧ e = e' := by
  cases h with
  | nil h0 => cases k with
    | nil => exact ⟨rfl, rfl⟩
    | ok _ k0 => exact (k0 h0).elim
    | long _ k0 => exact (k0 h0).elim
    | bad k0 => exact (k0 h0).elim
  | ok _ h0 h1 h2 h3 => cases k with
    | nil k0 => exact (h0 k0).elim
    | ok _ k0 k1 k2 k3 => rw [h1] at k1; cases k1; exact ⟨rfl, rfl⟩
    | long _ k0 k1 k2 k3 => rw [h1] at k1; cases k1; omega
    | bad k0 k1 => exact (k1 _ h1 h2).elim
  | long _ h0 h1 h2 h3 => cases k with
    | nil k0 => exact (h0 k0).elim
    | ok _ k0 k1 k2 k3 => rw [h1] at k1; cases k1; omega
    | long _ k0 k1 k2 k3 => exact ⟨rfl, rfl⟩
    | bad k0 k1 => exact (k1 _ h1 h2).elim
  | bad h0 h1 => cases k with
    | nil k0 => exact (h0 k0).elim
    | ok _ k0 k1 k2 k3 => exact (h1 _ k1 k2).elim
    | long _ k0 k1 k2 k3 => exact (h1 _ k1 k2).elim
    | bad k0 k1 => exact ⟨rfl, rfl⟩

/-! ### how a template is written -/
end Go.Proofs.YtdmemibnphcedaaGreatDoor
end
section
set_option linter.unusedSimpArgs false
set_option linter.unusedVariables false
set_option maxRecDepth 10000
set_option linter.unusedSectionVars false
namespace Go.Proofs.YtdmemibnphcedaaGreatDoor
open Go.Am

/-- a slice that grows: n elements, each of esz cells -/
def GroK (esz : Nat) (st : St) (v : Value) (cs : List Value) (n : Nat) : Prop :=
  (v = .slice none 0 0 ∧ cs = [] ∧ n = 0) ∨ ∃ b cap, v = .slice (some ⟨b, 0, none⟩) n cap ∧ n ≤ cap ∧ st.get b = some (.row cs esz false) ∧ cs.length = n * esz

section
variable {st st' : St} {v : Value} {cs new : List Value} {esz n : Nat}
theorem GroK.nil (esz : Nat) (st : St) : GroK esz st (.slice none 0 0) [] 0 := .inl ⟨rfl, rfl, rfl⟩
theorem GroK.keep (h : GroK esz st v cs n) (hb : ∀ i, i + 1 = ow v → st'.get i = st.get i) : GroK esz st' v cs n := by
  rcases h with h | ⟨b, cap, h1, h2, h3, h4⟩
  · exact .inl h
  · subst h1; exact .inr ⟨b, cap, rfl, h2, (hb b rfl).trans h3, h4⟩
theorem GroK.cel (h : GroK 1 st v cs n) : Cel st v cs ∧ cs.length = n := by
  rcases h with ⟨h1, h2, h3⟩ | ⟨b, cap, h1, h2, h3, h4⟩
  · subst h1 h2 h3; exact ⟨.inl ⟨rfl, rfl⟩, rfl⟩
  · rw [Nat.mul_one] at h4
    subst h1
    refine ⟨.inr (.inl ⟨b, 0, cap, cs, 1, false, by rw [h4], h3, by omega, by rw [List.drop_zero, List.take_length]⟩), h4⟩

theorem appendK {bytes sb g : Nat} {ro : Bool} (hv : GroK esz st v cs n) (hs : st.get sb = some (.row new g ro)) (hl : new.length = esz) (he : 0 < esz) (ho : new.all oneCell = true) (hb : (n + 1) * bytes ≤ 1099511627776) (hn : n + 1 ≤ 1099511627776) {W : Value → St → Prop}
    (h : ∀ st', GroK esz st' (.slice (some ⟨st.next, 0, none⟩) (n + 1) (n + 1)) (cs ++ new) (n + 1) → st'.next = st.next + 1 → (∀ i, i + 1 ≠ ow v → i < st.next → st'.get i = st.get i) → W (.slice (some ⟨st.next, 0, none⟩) (n + 1) (n + 1)) st') :
    wopK (.append esz bytes) [v, .slice (some ⟨sb, 0, none⟩) 1 1] st W := by
  have h1 : st.srcCells esz (.slice (some ⟨sb, 0, none⟩) 1 1) = some new := by
    simp only [St.srcCells, St.cells, hs, Nat.one_ne_zero, if_false]
    rw [if_pos (by show 0 + 1 * esz ≤ _; omega), List.drop_zero, List.take_of_length_le (by omega)]
  have e0 : esz ≠ 0 := by omega
  simp only [wopK, wop, appendV, srcLen, h1, Nat.one_ne_zero, if_false, ho, not_true_eq_false, or_false, e0]
  rcases hv with ⟨q1, q2, q3⟩ | ⟨b, cap, q1, q2, q3, q4⟩
  · subst q1 q2 q3
    simp only
    rw [if_pos ⟨by simpa using hb, by decide⟩]
    refine h _ (.inr ⟨st.next, 1, rfl, Nat.le_refl _, get_new_same _ _, by simpa using hl⟩) rfl fun i _ hi => get_new_ne _ _ _ (by omega)
  · subst q1
    have h3 : st.cells ⟨b, 0, none⟩ (n * esz) = some cs := by
      simp only [St.cells, q3]
      rw [if_pos (by show 0 + n * esz ≤ _; omega), List.drop_zero, List.take_of_length_le (by omega)]
    simp only [q3, h3, e0, if_false]
    rw [if_pos ⟨hb, hn⟩, if_pos ⟨trivial, trivial, Nat.zero_le _⟩]
    refine h _ (.inr ⟨st.next, n + 1, rfl, Nat.le_refl _, ?_, ?_⟩) rfl fun i hi hlt => ?_
    · exact get_new_same (st.put b none) _
    · rw [List.length_append, q4, hl, Nat.add_mul, Nat.one_mul]
    · show ((st.put b none).new _).get i = _
      rw [get_new_ne _ _ _ (by show st.next ≠ i; omega), get_put_ne _ _ _ _ (fun e => hi (by rw [← e]; rfl))]

/-- a row that is laid -/
theorem cel_row {b cap g : Nat} {ro : Bool} (h : st.get b = some (.row cs g ro)) (hn : cs.length = n) : Cel st (.slice (some ⟨b, 0, none⟩) n cap) cs :=
  .inr (.inl ⟨b, 0, cap, cs, g, ro, by rw [hn], h, by omega, by rw [List.drop_zero, List.take_length]⟩)

/-- the cells of an element -/
theorem rk_loadK {b o k g : Nat} {ro : Bool} {xs : List Value} (hb : st.get b = some (.row cs g ro)) (hx : (cs.drop o).take k = xs) (hk : xs.length = k) (hk0 : 0 < k) (K : Value → Prop) : ropK (.loadN k) [.pointer (some ⟨b, o, none⟩)] st K = K (.agg xs.toArray) := by
  have hle : o + k ≤ cs.length := by
    have := congrArg List.length hx
    rw [List.length_take, List.length_drop, hk] at this
    omega
  simp only [ropK, rop, St.cells, hb]
  rw [if_pos (by show o + k ≤ _; exact hle)]
  show K (.agg ((cs.drop o).take k).toArray) = _
  rw [hx]
theorem wk_storeK {b o k g : Nat} {xs : List Value} (hb : st.get b = some (.row cs g false)) (ho : o + k ≤ cs.length) (hk : xs.length = k) (hx : xs.all oneCell = true) (W : Value → St → Prop) : wopK (.store k) [.pointer (some ⟨b, o, none⟩), .agg xs.toArray] st W = W undef (st.put b (some (.row (lputs cs o xs) g false))) := by
  rw [wk_store, hb]
  simp only [getK, rowK, cells_agg]
  exact propext ⟨fun h => h.2.2, fun h => ⟨hk, ⟨by first | trivial | rfl, ho, hx⟩, h⟩⟩
end

section
variable {K : Value → Prop}
theorem q_indexStr (s : ByteArray) (k : IntKind) (i : Int) (h0 : 0 ≤ i) (h1 : i < (s.size : Int)) : popK .indexStr [.string s, .int k i] K = K (.int .u8 ((s.data.toList.getD i.toNat 0).toNat)) := by
  have hl : i.toNat < s.data.toList.length := by rw [← size_list]; omega
  simp only [popK, pop, if_pos h0, List.getD_eq_getElem?_getD, List.getElem?_eq_getElem hl, Option.map_some, Option.getD_some]
theorem q_slBoth (s : ByteArray) (k k' : IntKind) (a b : Int) (h0 : 0 ≤ a) (h1 : a ≤ b) (h2 : b ≤ (s.size : Int)) : popK (.slStr true true) [.string s, .int k a, .int k' b] K = K (.string (s.extract a.toNat b.toNat)) := by
  have m : max b 0 = b := by omega
  have b0 : 0 ≤ b := by omega
  simp [popK, pop, bounds, bound, b0, h2, m, h0, h1]
end
theorem extract_bs (s : ByteArray) (a b : Nat) : s.extract a b = bs ((s.data.toList.drop a).take (b - a)) := by
  rw [← Lib.extract_data, bs_of]

attribute [local irreducible] callO wopK ropK popK opK grpsE listE sx Runs

section
variable {st : St} {v u : Value} {K : Value → St → Prop} {xs : List ByteArray} {x : ByteArray}

theorem getD_str (xs : List ByteArray) (i : Nat) (h : i < xs.length) : (xs.map Value.string).getD i undef = .string (xs.getD i .empty) := by
  simp [List.getD, h]

theorem kEqStrs (n : Nat) (hu : Cel st u (xs.map Value.string)) (hv : Cel st v (xs.map Value.string)) (hl : xs.length < 90000) (h : K (.bool true) st) :
    callK (callO T0 orc fns 100000 (n + 1)) 23 [u, v] st K := by
  refine fn_runs (fn := g23) ?_ ?_ ?_
  · rfl
  · rfl
  unfold g23
  have hn := len_cel hu
  have hn2 := len_cel hv
  rw [List.length_map] at hn hn2
  simp (disch := omega) only [↓sxA, ↓wk_store, sxB, sxP, Nat.reduceLeDiff, reduceCtorEq, Nat.reduceEqDiff, Nat.reduceAdd, Int.reduceLT, Int.reduceLE, Int.reduceEq, Nat.reduceLT, Int.reduceToNat, Int.reduceAdd, Int.reduceSub, ↓reduceIte, ↓hn, ↓hn2]
  refine loop_rule [0, 1, 5] (fun vs st' => st' = st ∧ ∃ j : Nat, vs = [u, v, .int .i64 j] ∧ j ≤ xs.length) (fun vs _ => match lget vs 2 with
      | .int _ k => ((xs.length : Int) - k).toNat
      | _ => 0) ?_ ?_ ?_
  · rfl
  · refine ⟨_, rfl, ⟨rfl, 0, rfl, Nat.zero_le _⟩, ?_⟩
    show ((xs.length : Int) - 0).toNat < 100000
    omega
  · rintro vs st' ⟨rfl, j, rfl, j1⟩
    show sx _ _ _ _ _ [(0, _), (1, _), (5, _)] _ _ _ _
    by_cases hj : j < xs.length
    · have i1 := idx_cel hu
      have ld := load_cel hu
      have i2 := idx_cel hv
      have ld2 := load_cel hv
      rw [List.length_map] at i1 ld i2 ld2
      have e := getD_str xs j hj
      simp (disch := omega) only [↓sxA, ↓wk_store, sxB, sxP, Nat.reduceLeDiff, reduceCtorEq, Nat.reduceEqDiff, Nat.reduceAdd, Int.reduceLT, Int.reduceLE, Int.reduceEq, Nat.reduceLT, Int.reduceToNat, Int.reduceAdd, Int.reduceSub, ↓reduceIte, ↓hn, ↓i1, ↓ld, ↓i2, ↓ld2, Int.toNat_natCast, e]
      refine ⟨_, rfl, ⟨j + 1, ?_, hj⟩, ?_⟩
      · simp
      · show ((xs.length : Int) - ((j : Int) + 1)).toNat < ((xs.length : Int) - j).toNat
        omega
    · simp (disch := omega) only [↓sxA, ↓wk_store, sxB, sxP, Nat.reduceLeDiff, reduceCtorEq, Nat.reduceEqDiff, Nat.reduceAdd, Int.reduceLT, Int.reduceLE, Int.reduceEq, Nat.reduceLT, Int.reduceToNat, Int.reduceAdd, Int.reduceSub, ↓reduceIte, ↓hn]
      exact h

theorem kHeavy (n : Nat) (hv : Cel st v (xs.map Value.string)) (hl : xs.length < 90000) (h1 : K (.bool true) st) (h2 : (∀ x ∈ xs, x.size ≤ 1200) → K (.bool false) st) :
    callK (callO T0 orc fns 100000 (n + 1)) 9 [v] st K := by
  refine fn_runs (fn := g9) ?_ ?_ ?_
  · rfl
  · rfl
  unfold g9
  have hn := len_cel hv
  rw [List.length_map] at hn
  simp (disch := omega) only [↓sxA, ↓wk_store, sxB, sxP, Nat.reduceLeDiff, reduceCtorEq, Nat.reduceEqDiff, Nat.reduceAdd, Int.reduceLT, Int.reduceLE, Int.reduceEq, Nat.reduceLT, Int.reduceToNat, Int.reduceAdd, Int.reduceSub, ↓reduceIte]
  refine loop_rule [0, 3] (fun vs st' => st' = st ∧ ∃ j : Nat, vs = [v, .int .i64 j] ∧ j ≤ xs.length ∧ ∀ i, i < j → (xs.getD i .empty).size ≤ 1200) (fun vs _ => match lget vs 1 with
      | .int _ k => ((xs.length : Int) - k).toNat
      | _ => 0) ?_ ?_ ?_
  · rfl
  · refine ⟨_, rfl, ⟨rfl, 0, rfl, Nat.zero_le _, fun i hi => by omega⟩, ?_⟩
    show ((xs.length : Int) - 0).toNat < 100000
    omega
  · rintro vs st' ⟨rfl, j, rfl, j1, j2⟩
    show sx _ _ _ _ _ [(0, _), (3, _)] _ _ _ _
    by_cases hj : j < xs.length
    · have i1 := idx_cel hv
      have ld := load_cel hv
      rw [List.length_map] at i1 ld
      have e := getD_str xs j hj
      simp (disch := omega) only [↓sxA, ↓wk_store, sxB, sxP, Nat.reduceLeDiff, reduceCtorEq, Nat.reduceEqDiff, Nat.reduceAdd, Int.reduceLT, Int.reduceLE, Int.reduceEq, Nat.reduceLT, Int.reduceToNat, Int.reduceAdd, Int.reduceSub, ↓reduceIte, ↓hn, ↓i1, ↓ld, Int.toNat_natCast, e]
      refine iteI (fun hq => ?_) (fun hq => ?_)
      · exact h1
      · refine ⟨_, rfl, ⟨j + 1, ?_, hj, fun i hi => ?_⟩, ?_⟩
        · simp
        · by_cases e : i = j
          · rw [e]; omega
          · exact j2 i (by omega)
        · show ((xs.length : Int) - ((j : Int) + 1)).toNat < ((xs.length : Int) - j).toNat
          omega
    · simp (disch := omega) only [↓sxA, ↓wk_store, sxB, sxP, Nat.reduceLeDiff, reduceCtorEq, Nat.reduceEqDiff, Nat.reduceAdd, Int.reduceLT, Int.reduceLE, Int.reduceEq, Nat.reduceLT, Int.reduceToNat, Int.reduceAdd, Int.reduceSub, ↓reduceIte, ↓hn]
      refine h2 fun y hm => ?_
      obtain ⟨i, hi, rfl⟩ := List.getElem_of_mem hm
      have := j2 i (by omega)
      rw [List.getD_eq_getElem?_getD, List.getElem?_eq_getElem hi, Option.getD_some] at this
      exact this

end
end Go.Proofs.YtdmemibnphcedaaGreatDoor
end
section
set_option linter.unusedSimpArgs false
set_option linter.unusedVariables false
set_option maxRecDepth 10000
set_option linter.unusedSectionVars false
namespace Go.Proofs.YtdmemibnphcedaaGreatDoor
open Go.Am

/-- a row of cells, laid from its beginning; not empty -/
def Row1 (st : St) (v : Value) (cs : List Value) : Prop := ∃ b cap g ro, v = .slice (some ⟨b, 0, none⟩) cs.length cap ∧ cs.length ≤ cap ∧ 0 < cs.length ∧ st.get b = some (.row cs g ro) ∧ (g = 0 ∨ g = 1)

section
variable {st st' : St} {v : Value} {cs : List Value}
theorem Row1.cel (h : Row1 st v cs) : Cel st v cs := by
  obtain ⟨b, cap, g, ro, h1, h2, h3, h4, h5⟩ := h
  subst h1
  exact cel_row h4 rfl
theorem Row1.keep (h : Row1 st v cs) (hb : ∀ i, i + 1 = ow v → st'.get i = st.get i) : Row1 st' v cs := by
  obtain ⟨b, cap, g, ro, h1, h2, h3, h4, h5⟩ := h
  subst h1
  exact ⟨b, cap, g, ro, rfl, h2, h3, (hb b rfl).trans h4, h5⟩
end

/-! ### a trim that leaves nothing -/
def letters : ByteArray := ⟨#[97, 98, 99, 100, 101, 102, 103, 104, 105, 106, 107, 108, 109, 110, 111, 112, 113, 114, 115, 116, 117, 118, 119, 120, 121, 122]⟩

theorem orc_eq {f : FuncId} (h : f ≠ 15) (args : List Value) (st : St) : orc f args st = orc1 f args st := by
  unfold orc; rw [if_neg h]

section
variable {st : St} {K : Value → St → Prop}
theorem kAwake (n : Nat) (hm : hasMax st = true) (h : K (.bool true) st) : callK (callO T0 orc fns 100000 n) 15 [] st K := by
  rw [callO_none (by rfl)]
  have e : orc 15 [] st = .ret (.bool true, st) := by simp [orc, hm]
  exact (propext (callK_ret (K := K) e)).mpr h
end
attribute [local irreducible] callO wopK ropK popK opK grpsE listE sx Runs

section
variable {st : St} {v u : Value} {K : Value → St → Prop} {xs : List ByteArray} {x : ByteArray}

end
end Go.Proofs.YtdmemibnphcedaaGreatDoor
end
section
set_option linter.unusedSimpArgs false
set_option linter.unusedVariables false
set_option maxRecDepth 10000
set_option linter.unusedSectionVars false
namespace Go.Proofs.YtdmemibnphcedaaGreatDoor
open Go.Am

/-! ### marks as ints -/
def Mk.bit (x : Mk) : Nat → Bool
  | 0 => x.a
  | 1 => x.k
  | 2 => x.s
  | 3 => x.n
  | 4 => x.m
  | _ => x.f
def Mk.put (x : Mk) : Nat → Mk
  | 0 => { x with a := true }
  | 1 => { x with k := true }
  | 2 => { x with s := true }
  | 3 => { x with n := true }
  | 4 => { x with m := true }
  | _ => { x with f := true }
def p2 : Nat → Int
  | 0 => 1
  | 1 => 2
  | 2 => 4
  | 3 => 8
  | 4 => 16
  | _ => 32
def lt (i : Nat) : ByteArray := ⟨#[match i with | 0 => 97 | 1 => 107 | 2 => 115 | 3 => 110 | 4 => 109 | _ => 102]⟩
def order : ByteArray := ⟨#[97, 107, 115, 110, 109, 102]⟩

section
variable {K : Value → Prop}
end

/-- the cells of an item -/
def itCells (nv : Value) (x : Mk) : List Value := [nv, .bool x.a, .bool x.k, .bool x.s, .bool x.n, .bool x.m, .bool x.f]

theorem resP_k1 (e : Env) (s : St) (a b n : Nat) (Q : Value → St → Prop) : resP e s [(a, n + 2), (b, 0)] Q = getE e a fun u => ropK (.loadN n) [u] s fun x => getE e b fun v => Q (.tuple #[x, v]) s := by
  unfold resP getE ropK
  simp only [resE, res1E]
  cases e.get? a with
  | none => rfl
  | some u =>
    simp only
    cases rop (.loadN n) [u] s with
    | none => rfl
    | some x =>
      simp only
      cases e.get? b <;> rfl

attribute [local irreducible] callO wopK ropK popK opK grpsE listE sx Runs

section
variable {st : St} {v u nv : Value} {K : Value → St → Prop} {xs : List ByteArray} {x : Mk}

end
end Go.Proofs.YtdmemibnphcedaaGreatDoor
end
section
set_option linter.unusedSimpArgs false
set_option linter.unusedVariables false
set_option maxRecDepth 10000
set_option linter.unusedSectionVars false
namespace Go.Proofs.YtdmemibnphcedaaGreatDoor
open Go.Am
theorem rk_loadAll {st : St} {b k g : Nat} {ro : Bool} {cs : List Value} (hb : st.get b = some (.row cs g ro)) (hl : cs.length = k) (hk0 : 0 < k) (K : Value → Prop) : ropK (.loadN k) [.pointer (some ⟨b, 0, none⟩)] st K = K (.agg cs.toArray) :=
  rk_loadK hb (by rw [List.drop_zero, List.take_of_length_le (by omega)]) hl hk0 K

attribute [local irreducible] callO wopK ropK popK opK grpsE listE sx Runs

/-- nothing that was has turned -/
structure Frm (st st' : St) : Prop where
  nx : st.next ≤ st'.next
  old : ∀ i, i < st.next → st'.get i = st.get i
theorem Frm.refl (st : St) : Frm st st := ⟨Nat.le_refl _, fun _ _ => rfl⟩
theorem Frm.trans {s1 s2 s3 : St} (h : Frm s1 s2) (k : Frm s2 s3) : Frm s1 s3 := ⟨Nat.le_trans h.nx k.nx, fun i hi => (k.old i (Nat.lt_of_lt_of_le hi h.nx)).trans (h.old i hi)⟩
theorem Frm.new (st : St) (o : AObj) : Frm st (st.new o) := ⟨Nat.le_succ _, fun i hi => get_new_ne _ _ _ (by omega)⟩
theorem Frm.put {st s : St} (h : Frm st s) (i : Nat) (hi : st.next ≤ i) (o : Option AObj) : Frm st (s.put i o) := ⟨h.nx, fun j hj => (get_put_ne _ _ _ _ (by omega)).trans (h.old j hj)⟩
theorem Frm.max {st s : St} (h : Frm st s) (h0 : 0 < st.next) (hm : hasMax st = true) : hasMax s = true := by
  have : hasMax s = hasMax st := by unfold hasMax; rw [h.old 0 h0]
  rw [this]; exact hm

section
variable {st : St} {K : Value → St → Prop}

end
end Go.Proofs.YtdmemibnphcedaaGreatDoor
end
section
set_option linter.unusedSimpArgs false
set_option linter.unusedVariables false
set_option maxRecDepth 10000
set_option linter.unusedSectionVars false
namespace Go.Proofs.YtdmemibnphcedaaGreatDoor
open Go.Am
attribute [local irreducible] callO wopK ropK popK opK grpsE listE sx Runs

section
variable {st : St} {K : Value → St → Prop}

end
end Go.Proofs.YtdmemibnphcedaaGreatDoor
end
section
set_option linter.unusedSimpArgs false
set_option linter.unusedVariables false
set_option maxRecDepth 10000
set_option linter.unusedSectionVars false
namespace Go.Proofs.YtdmemibnphcedaaGreatDoor
open Go.Am

/-! ### lists of items, in plain words -/
/-! ### on the heap -/
def itRow : List Value → List IM → List Value
  | nv :: nvs, x :: l => itCells nv x.mks ++ itRow nvs l
  | _, _ => []
theorem itRow_snoc : ∀ (nvs : List Value) (l : List IM) (nv : Value) (x : IM), nvs.length = l.length → itRow (nvs ++ [nv]) (l ++ [x]) = itRow nvs l ++ itCells nv x.mks
  | [], [], nv, x, _ => by simp [itRow]
  | a :: nvs, y :: l, nv, x, h => by
    simp only [List.cons_append, itRow, List.append_assoc]
    rw [itRow_snoc nvs l nv x (by simpa using h)]
theorem itRow_at : ∀ (nvs : List Value) (l : List IM) (j : Nat) (nv : Value) (x : IM), nvs[j]? = some nv → l[j]? = some x → ((itRow nvs l).drop (j * 7)).take 7 = itCells nv x.mks
  | a :: nvs, y :: l, 0, nv, x, h1, h2 => by
    simp at h1 h2
    subst h1 h2
    rfl
  | a :: nvs, y :: l, j + 1, nv, x, h1, h2 => by
    simp only [itRow]
    rw [show (j + 1) * 7 = 7 + j * 7 by omega, ← List.drop_drop]
    have : List.drop 7 (itCells a y.mks ++ itRow nvs l) = itRow nvs l := rfl
    rw [this]
    exact itRow_at nvs l j nv x (by simpa using h1) (by simpa using h2)
  | [], _, j, nv, x, h1, _ => by simp at h1
  | _ :: _, [], j, nv, x, _, h2 => by simp at h2

/-- a heap holds a list of items; all of it lies from the block lo - 1 on -/
def ItR (lo : Nat) (st : St) (v : Value) (l : List IM) : Prop :=
  ∃ nvs : List Value, nvs.length = l.length ∧ GroK 7 st v (itRow nvs l) l.length ∧ (ow v = 0 ∨ lo ≤ ow v) ∧ ow v ≤ st.next ∧
    ∀ (j : Nat) (nv : Value) (x : IM), nvs[j]? = some nv → l[j]? = some x → Cel st nv (x.names.map Value.string) ∧ oneCell nv = true ∧ (ow nv = 0 ∨ (lo ≤ ow nv ∧ ow nv ≠ ow v)) ∧ ow nv ≤ st.next

theorem ItR.nil (lo : Nat) (st : St) : ItR lo st (.slice none 0 0) [] := ⟨[], rfl, GroK.nil _ _, .inl rfl, Nat.zero_le _, fun j nv x h => by simp at h⟩
theorem ItR.keep {lo : Nat} {st st' : St} {v : Value} {l : List IM} (h : ItR lo st v l) (hn : st.next ≤ st'.next) (hf : ∀ i, lo ≤ i + 1 → i < st.next → st'.get i = st.get i) : ItR lo st' v l := by
  obtain ⟨nvs, h1, h2, h3, h4, h5⟩ := h
  refine ⟨nvs, h1, h2.keep fun i hi => hf i (by omega) (by omega), h3, by omega, fun j nv x hj hx => ?_⟩
  obtain ⟨k1, k2, k3, k4⟩ := h5 j nv x hj hx
  exact ⟨k1.keep fun i hi => hf i (by omega) (by omega), k2, k3, by omega⟩
theorem ItR.len {lo : Nat} {st : St} {v : Value} {l : List IM} (h : ItR lo st v l) (K : Value → Prop) : popK .lenSl [v] K = K (.int .i64 (l.length : Nat)) := by
  obtain ⟨nvs, h1, h2, _⟩ := h
  rcases h2 with ⟨q1, q2, q3⟩ | ⟨b, cap, q1, _⟩
  · rw [q1, q3]; rfl
  · rw [q1, pk_lenSl]
theorem ItR.at {lo : Nat} {st : St} {v : Value} {l : List IM} (h : ItR lo st v l) {j : Nat} (hj : j < l.length) : ∃ (b : Nat) (nv : Value), (∀ K : Value → Prop, popK (.indexAddr 7) [v, .int .i64 (j : Int)] K = K (.pointer (some ⟨b, j * 7, none⟩))) ∧ (∀ K : Value → Prop, ropK (.loadN 7) [.pointer (some ⟨b, j * 7, none⟩)] st K = K (.agg (itCells nv l[j].mks).toArray)) ∧
    (∀ (k : Nat) (c : Value), (itCells nv l[j].mks)[k]? = some c → ∀ K : Value → Prop, ropK .load1 [.pointer (some ⟨b, j * 7 + k, none⟩)] st K = K c) ∧ Cel st nv (l[j].names.map Value.string) ∧ oneCell nv = true ∧ (ow nv = 0 ∨ lo ≤ ow nv) ∧ ow nv ≤ st.next := by
  obtain ⟨nvs, h1, h2, h3, h4, h5⟩ := h
  rcases h2 with ⟨q1, q2, q3⟩ | ⟨b, cap, q1, q2, q3, q4⟩
  · omega
  have hnv : nvs[j]? = some (nvs[j]'(by omega)) := List.getElem?_eq_getElem _
  have hx : l[j]? = some l[j] := List.getElem?_eq_getElem _
  obtain ⟨k1, k2, k3, k4⟩ := h5 j _ _ hnv hx
  have hat := itRow_at nvs l j _ _ hnv hx
  refine ⟨b, nvs[j]'(by omega), fun K => ?_, fun K => rk_loadK q3 hat rfl (by decide) K, fun k c hc K => ?_, k1, k2, by omega, k4⟩
  · rw [q1, pk_indexAddr]
    have e : (0 : Nat) + (j : Int).toNat * 7 = j * 7 := by omega
    rw [e]
    exact propext ⟨fun h => h.2, fun h => ⟨⟨by omega, by omega⟩, h⟩⟩
  · rw [rk_load1, q3]
    simp only [getK, rowK]
    refine nthK_at ?_ K
    rw [← hat] at hc
    have hk : k < 7 := by
      have := (List.getElem?_eq_some_iff.1 hc).1
      rw [List.length_take] at this
      omega
    rw [List.getElem?_take_of_lt hk, List.getElem?_drop] at hc
    exact hc
theorem ItR.snoc {lo : Nat} {st st' : St} {v v' nv : Value} {l : List IM} {x : IM} {nvs : List Value} (h1 : nvs.length = l.length) (h5 : ∀ (j : Nat) (nv : Value) (x : IM), nvs[j]? = some nv → l[j]? = some x → Cel st nv (x.names.map Value.string) ∧ oneCell nv = true ∧ (ow nv = 0 ∨ (lo ≤ ow nv ∧ ow nv ≠ ow v)) ∧ ow nv ≤ st.next)
    (hg : GroK 7 st' v' (itRow nvs l ++ itCells nv x.mks) (l.length + 1)) (hn : st.next ≤ st'.next) (hf : ∀ i, i + 1 ≠ ow v → i < st.next → st'.get i = st.get i) (hv' : lo ≤ ow v' ∧ st.next < ow v' ∧ ow v' ≤ st'.next)
    (hc : Cel st nv (x.names.map Value.string)) (ho : oneCell nv = true) (hw : ow nv = 0 ∨ (lo ≤ ow nv ∧ ow nv ≠ ow v)) (hwn : ow nv ≤ st.next) : ItR lo st' v' (l ++ [x]) := by
  refine ⟨nvs ++ [nv], by simp [h1], by rw [itRow_snoc _ _ _ _ h1, List.length_append]; exact hg, .inr hv'.1, hv'.2.2, fun j nv' x' hj hx => ?_⟩
  by_cases hjl : j < l.length
  · rw [List.getElem?_append_left (by omega)] at hj hx
    obtain ⟨k1, k2, k3, k4⟩ := h5 j nv' x' hj hx
    refine ⟨k1.keep fun i hi => hf i (by omega) (by omega), k2, by omega, by omega⟩
  · rw [List.getElem?_append_right (by omega)] at hj hx
    have e1 : j - nvs.length = 0 := by
      have := (List.getElem?_eq_some_iff.1 hj).1
      simp at this
      omega
    rw [e1] at hj
    rw [show j - l.length = 0 by omega] at hx
    simp at hj hx
    subst hj hx
    exact ⟨hc.keep fun i hi => hf i (by omega) (by omega), ho, by omega, by omega⟩

/-- the names that were seen -/
def Seen (es : List (Value × Value × Nat)) (ns : List ByteArray) : Prop := es.map (fun e => (e.1, e.2.1)) = ns.map fun n => (Value.string n, Value.bool true)

theorem Seen.snoc {es : List (Value × Value × Nat)} {ns : List ByteArray} (h : Seen es ns) (q : ByteArray) (c : Nat) : Seen (es ++ [(.string q, .bool true, c)]) (ns ++ [q]) := by
  unfold Seen at *
  rw [List.map_append, h, List.map_append]
  rfl
end Go.Proofs.YtdmemibnphcedaaGreatDoor
end
section
set_option linter.unusedSimpArgs false
set_option linter.unusedVariables false
set_option maxRecDepth 10000
set_option linter.unusedSectionVars false
namespace Go.Proofs.YtdmemibnphcedaaGreatDoor
open Go.Am
attribute [local irreducible] callO wopK ropK popK opK grpsE listE sx Runs

section
variable {st : St} {K : Value → St → Prop}

end
end Go.Proofs.YtdmemibnphcedaaGreatDoor
end
section
set_option linter.unusedSimpArgs false
set_option linter.unusedVariables false
set_option maxRecDepth 10000
set_option linter.unusedSectionVars false
namespace Go.Proofs.YtdmemibnphcedaaGreatDoor
open Go.Am
attribute [local irreducible] callO wopK ropK popK opK grpsE listE sx Runs

/-- a list of items; no part of it lies in the block a - 1 -/
def ItV (lo a : Nat) (st : St) (v : Value) (l : List IM) (nvs : List Value) : Prop :=
  nvs.length = l.length ∧ GroK 7 st v (itRow nvs l) l.length ∧ (ow v = 0 ∨ (lo ≤ ow v ∧ ow v ≠ a)) ∧ ow v ≤ st.next ∧
    ∀ (j : Nat) (nv : Value) (x : IM), nvs[j]? = some nv → l[j]? = some x → Cel st nv (x.names.map Value.string) ∧ oneCell nv = true ∧ (ow nv = 0 ∨ (lo ≤ ow nv ∧ ow nv ≠ ow v ∧ ow nv ≠ a)) ∧ ow nv ≤ st.next

theorem ItV.keep {lo a a' : Nat} {st st' : St} {v : Value} {l : List IM} {nvs : List Value} (h : ItV lo a st v l nvs) (hn : st.next ≤ st'.next) (hf : ∀ i, i + 1 ≠ a → lo ≤ i + 1 → i < st.next → st'.get i = st.get i) (ha : a' = a ∨ a' = 0 ∨ st.next < a') : ItV lo a' st' v l nvs := by
  obtain ⟨h1, h2, h3, h4, h5⟩ := h
  refine ⟨h1, h2.keep fun i hi => hf i (by omega) (by omega) (by omega), by omega, by omega, fun j nv x hj hx => ?_⟩
  obtain ⟨k1, k2, k3, k4⟩ := h5 j nv x hj hx
  exact ⟨k1.keep fun i hi => hf i (by omega) (by omega) (by omega), k2, by omega, by omega⟩

/-! ### how many names there are at most -/
section
variable {st : St} {K : Value → St → Prop}

end
end Go.Proofs.YtdmemibnphcedaaGreatDoor
end
section
set_option linter.unusedSimpArgs false
set_option linter.unusedVariables false
set_option maxRecDepth 10000
set_option linter.unusedSectionVars false
namespace Go.Proofs.YtdmemibnphcedaaGreatDoor
open Go.Am

section
variable {st : St} {v : Value} {K : Value → St → Prop} {xs : List ByteArray}
end
end Go.Proofs.YtdmemibnphcedaaGreatDoor
end
section
set_option linter.unusedSimpArgs false
set_option linter.unusedVariables false
set_option maxRecDepth 10000
set_option linter.unusedSectionVars false
namespace Go.Proofs.YtdmemibnphcedaaGreatDoor
open Go.Am

section
variable {K : Value → Prop}
end
attribute [local irreducible] callO wopK ropK popK opK grpsE listE sx Runs

section
variable {st : St} {K : Value → St → Prop}

end
end Go.Proofs.YtdmemibnphcedaaGreatDoor
end
section
set_option linter.unusedSimpArgs false
set_option linter.unusedVariables false
set_option maxRecDepth 10000
set_option linter.unusedSectionVars false
namespace Go.Proofs.YtdmemibnphcedaaGreatDoor
open Go.Am

section
variable {st st' : St} {v u : Value} {l m : List UInt8} {K : Value → Prop}
theorem append_src (hd : Gro st v l) (s1 : srcLen u = some m.length) (s2 : st.srcCells 1 u = some (m.map u8v)) (hsz : l.length + m.length ≤ 1099511627776) {W : Value → St → Prop}
    (h : ∀ v' st', Gro st' v' (l ++ m) → (ow v' = ow v ∨ (ow v' = st.next + 1 ∧ st.next + 1 ≤ st'.next)) → st.next ≤ st'.next → (∀ i, i + 1 ≠ ow v → i < st.next → st'.get i = st.get i) → W v' st') :
    wopK (.append 1 1) [v, u] st W := by
  simp only [wopK, wop, appendV, s1, s2]
  by_cases hm : m = []
  · subst hm
    simp only [List.length_nil, if_true]
    obtain ⟨a, cap, rfl⟩ := hd.bys.cap
    simp only
    refine h _ st ?_ (.inl rfl) (Nat.le_refl _) (fun _ _ _ => rfl)
    simpa using hd
  · have hm0 : m.length ≠ 0 := fun e => hm (List.eq_nil_of_length_eq_zero e)
    simp only [hm0, if_false, all_u8, Nat.one_ne_zero, not_true_eq_false, or_self]
    have fin : ∀ (st0 : St), st0.next = st.next → (∀ i, i + 1 ≠ ow v → st0.get i = st.get i) → W (.slice (some ⟨st.next, 0, none⟩) (l.length + m.length) (l.length + m.length)) (st0.new (.row (l.map u8v ++ m.map u8v) 1 false)) := by
      intro st0 e1 e2
      refine h _ _ ?_ (.inr ⟨rfl, ?_⟩) ?_ (fun i hi hlt => ?_)
      · refine .inr (.inl ⟨st.next, 0, l.length + m.length, l.map u8v ++ m.map u8v, ?_, ?_, ?_, ?_, ?_⟩)
        · simp
        · simp
        · rw [← e1, St.get_new, if_pos rfl]
        · simp
        · rw [List.map_append, List.drop_zero, List.take_of_length_le (by simp)]
      · show st.next + 1 ≤ st0.next + 1; omega
      · show st.next ≤ st0.next + 1; omega
      · rw [St.get_new, if_neg (by omega), e2 i hi]
    rcases hd with ⟨q, q'⟩ | ⟨b, o, cap, cs, q1, q2, q3, q5, q6⟩ | ⟨b, o, cs, ro, q1, q2, q3, q4⟩
    · subst q q'
      simp only
      rw [if_pos (by simp at hsz; omega)]
      have := fin st rfl (fun _ _ => rfl)
      simpa [St.grow] using this
    · subst q1
      simp only
      rw [if_pos (by omega)]
      have hc : st.cells ⟨b, o, none⟩ (l.length * 1) = some (l.map u8v) := by
        simp only [St.cells, q3, Nat.mul_one]
        rw [if_pos q5, q6]
      simp only [q3, hc, Nat.one_ne_zero, if_false, true_and]
      rw [if_pos (by omega)]
      have := fin (st.put b none) rfl (fun i hi => by rw [St.get_put, if_neg (fun e => hi (by show i + 1 = b + 1; omega))])
      simpa [St.grow] using this
    · subst q1 q2
      simp only
      rw [if_pos (by simp at hsz; omega)]
      have hc : st.cells ⟨b, o, none⟩ (0 * 1) = some [] := by
        simp only [St.cells, q3, Nat.zero_mul, Nat.add_zero, List.take_zero]
        rw [if_pos q4]
      simp only [q3, hc, if_true]
      rw [if_neg (by omega)]
      have := fin st rfl (fun _ _ => rfl)
      simpa [St.grow] using this


theorem append_str (hd : Gro st v l) (b : ByteArray) (hsz : l.length + b.size ≤ 1099511627776) {W : Value → St → Prop}
    (h : ∀ v' st', Gro st' v' (l ++ b.data.toList) → (ow v' = ow v ∨ (ow v' = st.next + 1 ∧ st.next + 1 ≤ st'.next)) → st.next ≤ st'.next → (∀ i, i + 1 ≠ ow v → i < st.next → st'.get i = st.get i) → W v' st') :
    wopK (.append 1 1) [v, .string b] st W :=
  append_src hd (by simp only [srcLen]; rw [size_list]) (by simp [St.srcCells, u8v]) (by rw [← size_list]; exact hsz) h
theorem append_row {b g n : Nat} {ro : Bool} (hd : Gro st v l) (hb : st.get b = some (.row (m.map u8v) g ro)) (hn : m.length = n) (h0 : 0 < n) (hsz : l.length + m.length ≤ 1099511627776) {W : Value → St → Prop}
    (h : ∀ v' st', Gro st' v' (l ++ m) → (ow v' = ow v ∨ (ow v' = st.next + 1 ∧ st.next + 1 ≤ st'.next)) → st.next ≤ st'.next → (∀ i, i + 1 ≠ ow v → i < st.next → st'.get i = st.get i) → W v' st') :
    wopK (.append 1 1) [v, .slice (some ⟨b, 0, none⟩) n n] st W := by
  subst hn
  refine append_src hd rfl ?_ hsz h
  simp only [St.srcCells, St.cells, hb]
  rw [if_neg (by omega), if_pos (by rw [List.length_map]; show 0 + m.length * 1 ≤ _; omega), List.drop_zero, List.take_of_length_le (by rw [List.length_map]; omega)]
theorem rk_str (h : Gro st v l) : ropK .bytesToStr [v] st K = K (.string (bs l)) := by
  rcases h with ⟨h, h'⟩ | ⟨b, o, cap, cs, q1, q2, q3, q5, q6⟩ | ⟨b, o, cs, ro, q1, q2, q3, q4⟩
  · subst h h'; rfl
  · subst q1
    simp only [ropK, rop, St.cells, q3]
    rw [if_pos q5, q6]
    simp only [Option.bind_some, u8s_map, Option.map_some]
    rfl
  · subst q1 q2
    simp only [ropK, rop, St.cells, q3]
    rw [if_pos (by show o + 0 ≤ _; omega)]
    rfl
end
attribute [local irreducible] callO wopK ropK popK opK grpsE listE sx Runs

/-- what was written so far -/
def Wr (s0 s : St) (out : Value) (L : List UInt8) : Prop := Gro s out L ∧ (ow out = 0 ∨ s0.next + 1 ≤ ow out) ∧ ow out ≤ s.next ∧ Frm s0 s

theorem Wr.row {s0 s : St} {out : Value} {L m : List UInt8} {g n : Nat} {ro : Bool} (h : Wr s0 s out L) (hn : m.length = n) (h0 : 0 < n) (hsz : L.length + m.length ≤ 1099511627776) {W : Value → St → Prop}
    (hW : ∀ out1 s1, Wr s0 s1 out1 (L ++ m) → s.next ≤ s1.next → (∀ i, i + 1 ≠ ow out → i < s.next → s1.get i = s.get i) → (ow out1 = ow out ∨ s.next < ow out1) → W out1 s1) : wopK (.append 1 1) [out, .slice (some ⟨s.next, 0, none⟩) n n] (s.new (.row (m.map u8v) g ro)) W := by
  obtain ⟨h1, h2, h3, h4⟩ := h
  have hfn := h4.nx
  refine append_row (h1.keep fun i hi => get_new_ne _ _ _ (by omega)) (get_new_same _ _) hn h0 hsz fun out1 s1 g1 g2 g3 g4 => ?_
  have g3' : s.next + 1 ≤ s1.next := g3
  have g2' : ow out1 = ow out ∨ (ow out1 = s.next + 1 + 1 ∧ s.next + 1 + 1 ≤ s1.next) := g2
  have fr : ∀ i, i + 1 ≠ ow out → i < s.next → s1.get i = s.get i := fun i hi hlt => (g4 i hi (by show i < s.next + 1; omega)).trans (get_new_ne _ _ _ (by omega))
  exact hW out1 s1 ⟨g1, by omega, by omega, ⟨by omega, fun i hi => (fr i (by omega) (by omega)).trans (h4.old i hi)⟩⟩ (by omega) fr (by omega)
theorem Wr.str {s0 s : St} {out : Value} {L : List UInt8} (h : Wr s0 s out L) (b : ByteArray) (hsz : L.length + b.size ≤ 1099511627776) {W : Value → St → Prop}
    (hW : ∀ out1 s1, Wr s0 s1 out1 (L ++ b.data.toList) → s.next ≤ s1.next → (∀ i, i + 1 ≠ ow out → i < s.next → s1.get i = s.get i) → (ow out1 = ow out ∨ s.next < ow out1) → W out1 s1) : wopK (.append 1 1) [out, .string b] s W := by
  obtain ⟨h1, h2, h3, h4⟩ := h
  have hfn := h4.nx
  refine append_str h1 b hsz fun out1 s1 g1 g2 g3 g4 => ?_
  exact hW out1 s1 ⟨g1, by omega, by omega, ⟨by omega, fun i hi => (g4 i (by omega) (by omega)).trans (h4.old i hi)⟩⟩ g3 g4 (by omega)

section
variable {st : St} {K : Value → St → Prop}

end
end Go.Proofs.YtdmemibnphcedaaGreatDoor
end
section
set_option linter.unusedSimpArgs false
set_option linter.unusedVariables false
set_option maxRecDepth 10000
namespace Go.Proofs.YtdmemibnphcedaaGreatDoor
open Go.Am

/-! ### which item -/
structure Cl where
  vals : List ByteArray
  set : Bool
  nm : Bool
def Cl.zero : Cl := ⟨[], false, false⟩
open Classical in
noncomputable def knownL (s : ByteArray) : List IM → Nat → Int
  | [], _ => -1
  | x :: r, i => if s ∈ x.names then i else knownL s r (i + 1)
def openL : List IM → List Cl → Nat → Int → Int
  | x :: l, c :: cs, i, m => if (x.mks.s || x.mks.k) = true then openL l cs (i + 1) m else if x.mks.m = true then openL l cs (i + 1) i else if c.set = true then openL l cs (i + 1) m else i
  | _, _, _, m => m

def mkAt (l : List IM) (k : Nat) : Mk := (l.getD k ⟨[], Mk.none⟩).mks
def clAt (cs : List Cl) (k : Nat) : Cl := cs.getD k Cl.zero

/-- what the search for an open item gives -/
theorem openL_spec : ∀ (l : List IM) (cs : List Cl) (i : Nat) (m : Int), l.length = cs.length → (openL l cs i m = m ∨ ∃ k, k < l.length ∧ openL l cs i m = ((i + k : Nat) : Int) ∧ ((mkAt l k).m = true ∨ (clAt cs k).set = false))
  | [], [], i, m, _ => .inl rfl
  | [], _ :: _, i, m, h => by simp at h
  | _ :: _, [], i, m, h => by simp at h
  | x :: l, c :: cs, i, m, h => by
    have hl : l.length = cs.length := by simpa using h
    have shift : ∀ m', (openL l cs (i + 1) m' = m' ∨ ∃ k, k < l.length ∧ openL l cs (i + 1) m' = ((i + 1 + k : Nat) : Int) ∧ ((mkAt l k).m = true ∨ (clAt cs k).set = false)) → (openL l cs (i + 1) m' = m' ∨ ∃ k, k < (x :: l).length ∧ openL l cs (i + 1) m' = ((i + k : Nat) : Int) ∧ ((mkAt (x :: l) k).m = true ∨ (clAt (c :: cs) k).set = false)) := fun m' hh => by
      rcases hh with hh | ⟨k, k1, k2, k3⟩
      · exact .inl hh
      · refine .inr ⟨k + 1, by simp; omega, by rw [k2]; congr 1; omega, ?_⟩
        simpa [mkAt, clAt] using k3
    simp only [openL]
    split
    · exact shift m (openL_spec l cs (i + 1) m hl)
    · split
      · rename_i hm
        rcases shift i (openL_spec l cs (i + 1) i hl) with hh | hh
        · exact .inr ⟨0, by simp, by rw [hh]; simp, .inl (by simpa [mkAt] using hm)⟩
        · exact .inr hh
      · split
        · exact shift m (openL_spec l cs (i + 1) m hl)
        · rename_i hs
          exact .inr ⟨0, by simp, by simp, .inr (by simpa [clAt] using hs)⟩
end Go.Proofs.YtdmemibnphcedaaGreatDoor
end
section
set_option linter.unusedSimpArgs false
set_option linter.unusedVariables false
set_option maxRecDepth 10000
namespace Go.Proofs.YtdmemibnphcedaaGreatDoor
open Go.Am

def upd' (cs : List Cl) (k : Nat) (f : Cl → Cl) : List Cl := cs.set k (f (clAt cs k))
def Cl.push (s : ByteArray) (c : Cl) : Cl := ⟨c.vals ++ [s], true, c.nm⟩
def Cl.one (s : ByteArray) (c : Cl) : Cl := ⟨[s], true, c.nm⟩
def Cl.on (c : Cl) : Cl := ⟨c.vals, true, true⟩

theorem upd_len (cs : List Cl) (k : Nat) (f : Cl → Cl) : (upd' cs k f).length = cs.length := List.length_set
theorem upd_same (cs : List Cl) (k : Nat) (f : Cl → Cl) (h : k < cs.length) : clAt (upd' cs k f) k = f (clAt cs k) := by
  simp [clAt, upd', List.getD_eq_getElem?_getD, h]
theorem upd_ne (cs : List Cl) (k j : Nat) (f : Cl → Cl) (h : k ≠ j) : clAt (upd' cs k f) j = clAt cs j := by
  simp [clAt, upd', List.getD_eq_getElem?_getD, List.getElem?_set_ne h]
theorem upd_upd (cs : List Cl) (k : Nat) (f g : Cl → Cl) (h : k < cs.length) : upd' (upd' cs k f) k g = upd' cs k (fun c => g (f c)) := by
  unfold upd'
  have := upd_same cs k f h
  unfold upd' at this
  rw [this, List.set_set]

inductive Stp where
  | done (r : Option (List Cl))
  | go (at' : Nat) (cs : List Cl)

def restA (L : List UInt8) (p k : Nat) (cs : List Cl) : Stp :=
  if (L.drop p).all prn = true ∧ trimE (L.drop p) ≠ [] then .done (some (upd' cs k (Cl.one (bs (trimE (L.drop p)))))) else .done none
def valA (L : List UInt8) (l : List IM) (p : Nat) (w : Option (List UInt8 × Bool × Nat)) (cs : List Cl) : Stp :=
  if openL l cs 0 (-1) < 0 then .done none
  else if (mkAt l (openL l cs 0 (-1)).toNat).f = true then restA L p (openL l cs 0 (-1)).toNat cs
  else match w with
    | none => .done none
    | some (s, q, to) => if q = false ∧ s = [61] then .done none else .go to (upd' cs (openL l cs 0 (-1)).toNat (Cl.push (bs s)))
def namA (L : List UInt8) (l : List IM) (k p : Nat) (cs : List Cl) : Stp :=
  if (clAt cs k).nm = true ∨ ((clAt cs k).set = true ∧ (mkAt l k).m = false) then .done none
  else if (mkAt l k).s = true then .go p (upd' cs k Cl.on)
  else match nxt L (eqA L p) with
    | .fin => .done none
    | .bad fr => if (mkAt l k).f = true then restA L fr k (upd' cs k Cl.on) else .done none
    | .wd s q fr to => if (mkAt l k).f = true then restA L fr k (upd' cs k Cl.on) else if q = false ∧ s = [61] then .done none else .go to (upd' (upd' cs k Cl.on) k (Cl.push (bs s)))
noncomputable def kn (l : List IM) (s : List UInt8) : Int := knownL (lowerV (bs s)) l 0
noncomputable def stepA (L : List UInt8) (l : List IM) (p : Nat) (cs : List Cl) : Stp :=
  match nxt L p with
  | .fin => .done (some cs)
  | .bad fr => valA L l fr none cs
  | .wd s q fr to => if q = false ∧ 0 ≤ kn l s then namA L l (kn l s).toNat to cs else valA L l fr (some (s, q, to)) cs

inductive Fits (L : List UInt8) (l : List IM) : Nat → List Cl → Option (List Cl) → Prop where
  | done {p : Nat} {cs : List Cl} {r : Option (List Cl)} : stepA L l p cs = .done r → Fits L l p cs r
  | go {p p' : Nat} {cs cs' : List Cl} {r : Option (List Cl)} : stepA L l p cs = .go p' cs' → Fits L l p' cs' r → Fits L l p cs r

theorem Fits.step {L : List UInt8} {l : List IM} {p p' : Nat} {cs cs' : List Cl} {r : Option (List Cl)} (h : Fits L l p cs r) (hs : stepA L l p cs = .go p' cs') : Fits L l p' cs' r := by
  cases h with
  | done h => rw [hs] at h; cases h
  | go h k => rw [hs] at h; cases h; exact k
theorem Fits.stop {L : List UInt8} {l : List IM} {p : Nat} {cs : List Cl} {r r' : Option (List Cl)} (h : Fits L l p cs r) (hs : stepA L l p cs = .done r') : r = r' := by
  cases h with
  | done h => rw [hs] at h; cases h; rfl
  | go h k => rw [hs] at h; cases h

/-- what a step may be -/
theorem stepA_go {L : List UInt8} {l : List IM} {p p' : Nat} {cs cs' : List Cl} (hp : p ≤ L.length) (h : stepA L l p cs = .go p' cs') : p < p' ∧ p' ≤ L.length ∧ Pr L p p' ∧ cs'.length = cs.length ∧ ∃ k f, cs' = upd' cs k f ∧ ((∀ v, v ∈ (clAt cs k).vals → v ∈ (f (clAt cs k)).vals) ∧ (f (clAt cs k)).set = true ∧ (f (clAt cs k)).vals.length ≤ (clAt cs k).vals.length + 1) := by
  unfold stepA at h
  split at h
  · cases h
  · rename_i fr hn
    unfold valA restA at h
    (split at h)
    · cases h
    · split at h
      · split at h <;> cases h
      · cases h
  · rename_i s q fr to hn
    obtain ⟨n1, n2, n3, n4, n5⟩ := nxt_wd hp hn
    split at h
    · unfold namA at h
      split at h
      · cases h
      · split at h
        · cases h
          exact ⟨by omega, n4, n5, upd_len _ _ _, _, _, rfl, fun v hv => hv, rfl, Nat.le_succ _⟩
        · obtain ⟨e1, e2, e3⟩ := eqA_le (L := L) (p := to) n4
          split at h
          · cases h
          · unfold restA at h
            split at h
            · split at h <;> cases h
            · cases h
          · rename_i s' q' fr' to' hn'
            obtain ⟨m1, m2, m3, m4, m5⟩ := nxt_wd e2 hn'
            split at h
            · unfold restA at h
              split at h <;> cases h
            · split at h
              · cases h
              · injection h with h1 h2
                subst h1 h2
                refine ⟨by omega, m4, n5.split (e3.split m5), by rw [upd_len, upd_len], ?_⟩
                by_cases hk : (kn l s).toNat < cs.length
                · rw [upd_upd _ _ _ _ hk]
                  exact ⟨_, _, rfl, fun v hv => by simp [Cl.push, Cl.on, hv], rfl, by simp [Cl.push, Cl.on]⟩
                · have e : ∀ f, upd' cs (kn l s).toNat f = cs := fun f => List.set_eq_of_length_le (by omega)
                  rw [e, e]
                  exact ⟨(kn l s).toNat, Cl.on, (e _).symm, fun v hv => hv, rfl, Nat.le_succ _⟩
    · unfold valA at h
      split at h
      · cases h
      · split at h
        · unfold restA at h
          split at h <;> cases h
        · split at h
          · cases h
          · rename_i s' q' to' he
            cases he
            split at h
            · cases h
            · injection h with h1 h2
              subst h1 h2
              exact ⟨by omega, n4, n5, upd_len _ _ _, _, _, rfl, fun v hv => by simp [Cl.push, hv], rfl, by simp [Cl.push]⟩

theorem mono_upd {cs : List Cl} {k : Nat} {f : Cl → Cl} (hf : ∀ v, v ∈ (clAt cs k).vals → v ∈ (f (clAt cs k)).vals) (i : Nat) (v : ByteArray) (hv : v ∈ (clAt cs i).vals) : v ∈ (clAt (upd' cs k f) i).vals := by
  by_cases e : k = i
  · subst e
    by_cases hk : k < cs.length
    · rw [upd_same _ _ _ hk]; exact hf v hv
    · have : upd' cs k f = cs := List.set_eq_of_length_le (by omega)
      rw [this]; exact hv
  · rw [upd_ne _ _ _ _ e]; exact hv

/-- between two words: what is not set has no values; as many as items -/
def Iv (l : List IM) (cs : List Cl) : Prop := cs.length = l.length ∧ ∀ k, (clAt cs k).set = false → (clAt cs k).vals = []
theorem Iv.upd {l : List IM} {cs : List Cl} {k : Nat} {f : Cl → Cl} (h : Iv l cs) (hf : (f (clAt cs k)).set = true) : Iv l (upd' cs k f) := by
  refine ⟨by rw [upd_len]; exact h.1, fun i hi => ?_⟩
  by_cases e : k = i
  · subst e
    by_cases hk : k < cs.length
    · rw [upd_same _ _ _ hk, hf] at hi; cases hi
    · have : upd' cs k f = cs := List.set_eq_of_length_le (by omega)
      rw [this] at hi ⊢; exact h.2 k hi
  · rw [upd_ne _ _ _ _ e] at hi ⊢; exact h.2 i hi
theorem Iv.go {L : List UInt8} {l : List IM} {p p' : Nat} {cs cs' : List Cl} (h : Iv l cs) (hp : p ≤ L.length) (hs : stepA L l p cs = .go p' cs') : Iv l cs' := by
  obtain ⟨_, _, _, _, k, f, rfl, _, h2, _⟩ := stepA_go hp hs
  exact h.upd h2

/-- a step that is the last, and fits -/
theorem stepA_done {L : List UInt8} {l : List IM} {p : Nat} {cs cs' : List Cl} (hp : p ≤ L.length) (hi : Iv l cs) (hfit : ∀ k, (mkAt l k).f = true → (mkAt l k).m = false) (h : stepA L l p cs = .done (some cs')) : Pr L p L.length ∧ ∀ i v, v ∈ (clAt cs i).vals → v ∈ (clAt cs' i).vals := by
  have rst : ∀ {fr k : Nat} {f : Cl → Cl}, p ≤ fr → Pr L p fr → (clAt cs k).set = false → (∀ c, (f c).vals = c.vals) → restA L fr k (upd' cs k f) = .done (some cs') → Pr L p L.length ∧ ∀ i v, v ∈ (clAt cs i).vals → v ∈ (clAt cs' i).vals := fun {fr k f} h1 h2 h3 h4 hr => by
    unfold restA at hr
    split at hr
    · rename_i hh
      cases hr
      refine ⟨h2.split fun i hi1 hi2 x hx => ?_, fun i v hv => ?_⟩
      · have := hh.1
        rw [List.all_eq_true] at this
        refine this x ?_
        have : (L.drop fr)[i - fr]? = some x := by rw [List.getElem?_drop, show fr + (i - fr) = i by omega]; exact hx
        exact List.mem_of_getElem? this
      · refine mono_upd (fun v hv => ?_) i v (mono_upd (fun v hv => by rw [h4]; exact hv) i v hv)
        have e : (clAt (upd' cs k f) k).vals = [] := by
          by_cases hk : k < cs.length
          · rw [upd_same _ _ _ hk, h4]; exact hi.2 k h3
          · have : upd' cs k f = cs := List.set_eq_of_length_le (by omega)
            rw [this]; exact hi.2 k h3
        rw [e] at hv
        cases hv
    · cases hr
  have idd : ∀ k, upd' cs k (fun c => c) = cs := fun k => by
    unfold upd' clAt
    by_cases hk : k < cs.length
    · rw [List.getD_eq_getElem?_getD, List.getElem?_eq_getElem hk, Option.getD_some, List.set_getElem_self]
    · exact List.set_eq_of_length_le (by omega)
  have val : ∀ {fr : Nat} {w : Option (List UInt8 × Bool × Nat)}, p ≤ fr → Pr L p fr → valA L l fr w cs = .done (some cs') → Pr L p L.length ∧ ∀ i v, v ∈ (clAt cs i).vals → v ∈ (clAt cs' i).vals := fun {fr w} h1 h2 hv => by
    unfold valA at hv
    split at hv
    · cases hv
    · rename_i ho
      split at hv
      · rename_i hf
        refine rst (f := fun c => c) h1 h2 ?_ (fun _ => rfl) (by rw [idd]; exact hv)
        rcases openL_spec l cs 0 (-1) hi.1.symm with hh | ⟨k, k1, k2, k3⟩
        · rw [hh] at ho; exact absurd (by decide) ho
        · have e : (openL l cs 0 (-1)).toNat = k := by rw [k2]; simp
          rw [e] at hf ⊢
          rcases k3 with k3 | k3
          · rw [hfit k hf] at k3; cases k3
          · exact k3
      · split at hv
        · cases hv
        · split at hv <;> cases hv
  unfold stepA at h
  split at h
  · rename_i hn
    cases h
    refine ⟨?_, fun _ _ hv => hv⟩
    have := (nxt_fin hp).1 hn
    have hb := blk_pr hp
    rw [this] at hb
    exact hb
  · rename_i fr hn
    obtain ⟨b1, b2, b3, b4⟩ := nxt_bad hp hn
    exact val b2 b4 h
  · rename_i s q fr to hn
    obtain ⟨n1, n2, n3, n4, n5⟩ := nxt_wd hp hn
    split at h
    · unfold namA at h
      split at h
      · cases h
      · rename_i hns
        split at h
        · cases h
        · obtain ⟨e1, e2, e3⟩ := eqA_le (L := L) (p := to) n4
          have hset : (mkAt l (kn l s).toNat).f = true → (clAt cs (kn l s).toNat).set = false := fun hf => by
            cases hh : (clAt cs (kn l s).toNat).set with
            | false => rfl
            | true => exact (hns (.inr ⟨hh, hfit _ hf⟩)).elim
          split at h
          · cases h
          · rename_i fr' hn'
            obtain ⟨b1, b2, b3, b4⟩ := nxt_bad e2 hn'
            split at h
            · rename_i hf
              exact rst (f := Cl.on) (by omega) (n5.split (e3.split b4)) (hset hf) (fun _ => rfl) h
            · cases h
          · rename_i s' q' fr' to' hn'
            obtain ⟨m1, m2, m3, m4, m5⟩ := nxt_wd e2 hn'
            split at h
            · rename_i hf
              refine rst (f := Cl.on) (by omega) (n5.split (e3.split fun i h1 h2 => m5 i h1 (by omega))) (hset hf) (fun _ => rfl) h
            · split at h <;> cases h
    · exact val (by omega) (fun i h1 h2 => n5 i h1 (by omega)) h

/-- what fits has bytes that a line has; values stay -/
theorem Fits.good {L : List UInt8} {l : List IM} (hfit : ∀ k, (mkAt l k).f = true → (mkAt l k).m = false) {p : Nat} {cs : List Cl} {r : Option (List Cl)} (h : Fits L l p cs r) : p ≤ L.length → Iv l cs → ∀ cs', r = some cs' → Pr L p L.length ∧ ∀ i v, v ∈ (clAt cs i).vals → v ∈ (clAt cs' i).vals := by
  induction h with
  | done h => intro hp hi cs' hr; subst hr; exact stepA_done hp hi hfit h
  | go h k ih =>
    intro hp hi cs' hr
    obtain ⟨g1, g2, g3, g4, k', f, rfl, g5, g6, g7⟩ := stepA_go hp h
    obtain ⟨i1, i2⟩ := ih g2 (hi.upd g6) cs' hr
    exact ⟨g3.split i1, fun i v hv => i2 i v (mono_upd g5 i v hv)⟩

def cls0 (l : List IM) : List Cl := l.map fun _ => Cl.zero
theorem Fits.len {L : List UInt8} {l : List IM} (hfit : ∀ k, (mkAt l k).f = true → (mkAt l k).m = false) {p : Nat} {cs : List Cl} {r : Option (List Cl)} (h : Fits L l p cs r) : p ≤ L.length → Iv l cs → ∀ cs', r = some cs' → cs'.length = l.length := by
  induction h with
  | done h =>
    intro hp hi cs' hr
    subst hr
    unfold stepA at h
    have val : ∀ {fr : Nat} {w : Option (List UInt8 × Bool × Nat)} {cs1 : List Cl}, cs1.length = l.length → valA L l fr w cs1 = .done (some cs') → cs'.length = l.length := fun {fr w cs1} hc hv => by
      unfold valA restA at hv
      split at hv
      · cases hv
      · split at hv
        · split at hv
          · cases hv; rw [upd_len]; exact hc
          · cases hv
        · split at hv
          · cases hv
          · split at hv <;> cases hv
    split at h
    · cases h; exact hi.1
    · exact val hi.1 h
    · split at h
      · unfold namA restA at h
        split at h
        · cases h
        · split at h
          · cases h
          · split at h
            · cases h
            · split at h
              · split at h
                · cases h; rw [upd_len, upd_len]; exact hi.1
                · cases h
              · cases h
            · split at h
              · split at h
                · cases h; rw [upd_len, upd_len]; exact hi.1
                · cases h
              · split at h <;> cases h
      · exact val hi.1 h
  | go h k ih =>
    intro hp hi cs' hr
    obtain ⟨g1, g2, g3, g4, k', f, rfl, g5, g6, g7⟩ := stepA_go hp h
    exact ih g2 (hi.upd g6) cs' hr
end Go.Proofs.YtdmemibnphcedaaGreatDoor
end
section
set_option linter.unusedSimpArgs false
set_option linter.unusedVariables false
set_option maxRecDepth 10000
set_option linter.unusedSectionVars false
namespace Go.Proofs.YtdmemibnphcedaaGreatDoor
open Go.Am

/-- the values of an argument -/
def VlR (g : Bool) (st : St) (v : Value) (l : List ByteArray) : Prop := Cel st v (l.map Value.string) ∧ oneCell v = true ∧ (g = true → GroK 1 st v (l.map Value.string) l.length)
theorem VlR.keep {g : Bool} {st st' : St} {v : Value} {l : List ByteArray} (h : VlR g st v l) (hb : ∀ i, i + 1 = ow v → st'.get i = st.get i) : VlR g st' v l := ⟨h.1.keep hb, h.2.1, fun e => (h.2.2 e).keep hb⟩
theorem GroK.one {esz n : Nat} {st : St} {v : Value} {cs : List Value} (h : GroK esz st v cs n) : oneCell v = true := by
  rcases h with ⟨h1, _⟩ | ⟨b, cap, h1, _⟩ <;> subst h1 <;> rfl
theorem GroK.vl {g : Bool} {st : St} {v : Value} {l : List ByteArray} (h : GroK 1 st v (l.map Value.string) l.length) : VlR g st v l := ⟨h.cel.1, h.one, fun _ => h⟩
/-- a list of arguments: its cells, and where each one's values are -/
def AgR (ok : Nat → Prop) (g : Bool) (st : St) (v : Value) (ns : List ByteArray) (cs : List Cl) : Prop :=
  ∃ (es : List Value) (vf : Nat → Value), GroK 3 st v es cs.length ∧ (ow v = 0 ∨ ok (ow v)) ∧ ow v ≤ st.next ∧
    (∀ j, j < cs.length → es[j * 3]? = some (.string (ns.getD j .empty)) ∧ es[j * 3 + 1]? = some (vf j) ∧ es[j * 3 + 2]? = some (.bool (clAt cs j).set)) ∧
    ∀ j, j < cs.length → VlR g st (vf j) (clAt cs j).vals ∧ (ow (vf j) = 0 ∨ (ok (ow (vf j)) ∧ ow (vf j) ≠ ow v)) ∧ ow (vf j) ≤ st.next ∧ ∀ k, k < cs.length → k ≠ j → ow (vf j) = 0 ∨ ow (vf j) ≠ ow (vf k)

section
variable {ok ok' : Nat → Prop} {g : Bool} {st st' : St} {v : Value} {ns : List ByteArray} {cs : List Cl}

theorem AgR.nil : AgR ok g st (.slice none 0 0) ns [] := ⟨[], fun _ => undef, GroK.nil _ _, .inl rfl, Nat.zero_le _, fun j h => by simp at h, fun j h => by simp at h⟩
theorem AgR.keep (h : AgR ok g st v ns cs) (hn : st.next ≤ st'.next) (hf : ∀ i, ok (i + 1) → i < st.next → st'.get i = st.get i) : AgR ok g st' v ns cs := by
  obtain ⟨es, vf, h1, h2, h3, h4, h5⟩ := h
  refine ⟨es, vf, h1.keep fun i hi => ?_, h2, by omega, h4, fun j hj => ?_⟩
  · rcases h2 with h2 | h2
    · omega
    · exact hf i (by rw [hi]; exact h2) (by omega)
  · obtain ⟨k1, k2, k3, k4⟩ := h5 j hj
    refine ⟨k1.keep fun i hi => ?_, k2, by omega, k4⟩
    rcases k2 with k2 | k2
    · omega
    · exact hf i (by rw [hi]; exact k2.1) (by omega)
theorem AgR.len (h : AgR ok g st v ns cs) (K : Value → Prop) : popK .lenSl [v] K = K (.int .i64 (cs.length : Nat)) := by
  obtain ⟨es, vf, h1, _⟩ := h
  rcases h1 with ⟨q1, q2, q3⟩ | ⟨b, cap, q1, _⟩
  · rw [q1, q3]; rfl
  · rw [q1, pk_lenSl]

theorem lput1_get (es : List Value) (o : Nat) (x : Value) (h : o < es.length) (i : Nat) : (lputs es o [x])[i]? = if i = o then some x else es[i]? := by
  rw [lputs_get es [x] o i (by simp; omega)]
  by_cases e : i = o
  · subst e; simp
  · rw [if_neg e]
    by_cases h1 : i < o
    · rw [if_pos h1]
    · rw [if_neg h1, if_neg (by simp; omega)]
theorem lput1_len (es : List Value) (o : Nat) (x : Value) (h : o < es.length) : (lputs es o [x]).length = es.length := lputs_length es [x] o (by simp; omega)

/-- an argument of the list -/
theorem AgR.at (h : AgR ok g st v ns cs) {j : Nat} (hj : j < cs.length) : ∃ (b : Nat) (vv : Value), ow v = b + 1 ∧ (∀ K : Value → Prop, popK (.indexAddr 3) [v, .int .i64 (j : Int)] K = K (.pointer (some ⟨b, j * 3, none⟩))) ∧
    (∀ K : Value → Prop, ropK (.loadN 3) [.pointer (some ⟨b, j * 3, none⟩)] st K = K (.agg #[.string (ns.getD j .empty), vv, .bool (clAt cs j).set])) ∧
    (∀ K : Value → Prop, ropK .load1 [.pointer (some ⟨b, j * 3, none⟩)] st K = K (.string (ns.getD j .empty))) ∧ (∀ K : Value → Prop, ropK .load1 [.pointer (some ⟨b, j * 3 + 1, none⟩)] st K = K vv) ∧ (∀ K : Value → Prop, ropK .load1 [.pointer (some ⟨b, j * 3 + 2, none⟩)] st K = K (.bool (clAt cs j).set)) ∧
    VlR g st vv (clAt cs j).vals ∧ (ow vv = 0 ∨ (ok (ow vv) ∧ ow vv ≠ ow v)) ∧ ow vv ≤ st.next := by
  obtain ⟨es, vf, h1, h2, h3, h4, h5⟩ := h
  obtain ⟨a1, a2, a3⟩ := h4 j hj
  obtain ⟨k1, k2, k3, k4⟩ := h5 j hj
  rcases h1 with ⟨q1, q2, q3⟩ | ⟨b, cap, q1, q2, q3, q4⟩
  · omega
  have ld : ∀ (o : Nat) (x : Value), es[o]? = some x → ∀ K : Value → Prop, ropK .load1 [.pointer (some ⟨b, o, none⟩)] st K = K x := fun o x hx K => by
    rw [rk_load1, q3]
    simp only [getK, rowK]
    exact nthK_at hx K
  refine ⟨b, vf j, by rw [q1]; rfl, fun K => ?_, fun K => ?_, ld _ _ a1, ld _ _ a2, ld _ _ a3, k1, k2, k3⟩
  · rw [q1, pk_indexAddr]
    have e : (0 : Nat) + (j : Int).toNat * 3 = j * 3 := by omega
    rw [e]
    exact propext ⟨fun h => h.2, fun h => ⟨⟨by omega, by omega⟩, h⟩⟩
  · refine rk_loadK q3 (k := 3) (xs := [.string (ns.getD j .empty), vf j, .bool (clAt cs j).set]) ?_ rfl (by decide) K
    have hl : ((es.drop (j * 3)).take 3).length = 3 := by rw [List.length_take, List.length_drop]; omega
    refine List.ext_getElem? fun i => ?_
    by_cases hi : i < 3
    · rw [List.getElem?_take_of_lt hi, List.getElem?_drop]
      match i, hi with
      | 0, _ => exact a1
      | 1, _ => exact a2
      | 2, _ => exact a3
    · rw [List.getElem?_eq_none (by omega), List.getElem?_eq_none (by simp; omega)]

/-- an argument is set -/
theorem AgR.put_set (h : AgR ok g st v ns cs) {j : Nat} (hj : j < cs.length) (f : Cl → Cl) (hf : ∀ c, (f c).vals = c.vals ∧ (f c).set = true) {b : Nat} (hb : ow v = b + 1) : ∃ s', (∀ W : Value → St → Prop, wopK (.store 1) [.pointer (some ⟨b, j * 3 + 2, none⟩), .bool true] st W = W undef s') ∧ AgR ok g s' v ns (upd' cs j f) ∧ s'.next = st.next ∧ ∀ i, i ≠ b → s'.get i = st.get i := by
  obtain ⟨es, vf, h1, h2, h3, h4, h5⟩ := h
  rcases h1 with ⟨q1, q2, q3⟩ | ⟨b', cap, q1, q2, q3, q4⟩
  · omega
  obtain rfl : b' = b := by subst q1; simpa [ow] using hb
  have hl : j * 3 + 2 < es.length := by omega
  refine ⟨st.put b' (some (.row (lputs es (j * 3 + 2) [.bool true]) 3 false)), fun W => ?_, ?_, rfl, fun i hi => get_put_ne _ _ _ _ (Ne.symm hi)⟩
  · rw [wk_store, q3]
    simp only [getK, rowK]
    exact propext ⟨fun h => h.2.2, fun h => ⟨rfl, ⟨by first | trivial | rfl, by omega, by rfl⟩, h⟩⟩
  · refine ⟨_, vf, .inr ⟨b', cap, by rw [upd_len]; exact q1, by rw [upd_len]; exact q2, get_put_same _ _ _, by rw [lput1_len _ _ _ hl, upd_len]; exact q4⟩, h2, h3, fun i hi => ?_, fun i hi => ?_⟩
    · rw [upd_len] at hi
      obtain ⟨a1, a2, a3⟩ := h4 i hi
      rw [lput1_get _ _ _ hl, lput1_get _ _ _ hl, lput1_get _ _ _ hl, if_neg (by omega), if_neg (by omega)]
      refine ⟨a1, a2, ?_⟩
      by_cases e : i = j
      · subst e; rw [if_pos rfl, upd_same _ _ _ hi, (hf _).2]
      · rw [if_neg (by omega), upd_ne _ _ _ _ (Ne.symm e)]; exact a3
    · rw [upd_len] at hi ⊢
      obtain ⟨k1, k2, k3, k4⟩ := h5 i hi
      have e : (clAt (upd' cs j f) i).vals = (clAt cs i).vals := by
        by_cases e : i = j
        · subst e; rw [upd_same _ _ _ hi, (hf _).1]
        · rw [upd_ne _ _ _ _ (Ne.symm e)]
      rw [e]
      refine ⟨k1.keep fun x hx => get_put_ne _ _ _ _ fun e => ?_, k2, k3, k4⟩
      subst e
      omega

/-- an argument gets other values, which lie in a new row -/
theorem AgR.put_vals {g' : Bool} {s1 : St} {vv vv0 : Value} {l : List ByteArray} (h : AgR ok g st v ns cs) {j : Nat} (hj : j < cs.length) (f : Cl → Cl) (hf : ∀ c, (f c).vals = l ∧ (f c).set = c.set) {b : Nat} (hb : ow v = b + 1) (hg : g' = true → g = true)
    (hn : st.next ≤ s1.next) (hold : ∀ K : Value → Prop, ropK .load1 [.pointer (some ⟨b, j * 3 + 1, none⟩)] st K = K vv0) (hfr : ∀ i, i + 1 ≠ ow vv0 → i < st.next → s1.get i = st.get i) (hv : VlR g' s1 vv l) (hok : ok (ow vv)) (h0 : st.next < ow vv) (h1 : ow vv ≤ s1.next) :
    ∃ s', (∀ W : Value → St → Prop, wopK (.store 1) [.pointer (some ⟨b, j * 3 + 1, none⟩), vv] s1 W = W undef s') ∧ AgR ok g' s' v ns (upd' cs j f) ∧ s'.next = s1.next ∧ ∀ i, i ≠ b → s'.get i = s1.get i := by
  obtain ⟨es, vf, h1', h2, h3, h4, h5⟩ := h
  rcases h1' with ⟨q1, q2, q3⟩ | ⟨b', cap, q1, q2, q3, q4⟩
  · omega
  obtain rfl : b' = b := by subst q1; simpa [ow] using hb
  obtain ⟨a1, a2, a3⟩ := h4 j hj
  obtain ⟨k1, k2, k3, k4⟩ := h5 j hj
  have hokv : ok (b' + 1) := by
    rcases h2 with h2 | h2
    · omega
    · rw [← hb]; exact h2
  have hvv : vf j = vv0 := by
    have := hold (· = vv0)
    rw [rk_load1, q3] at this
    simp only [getK, rowK] at this
    rw [nthK_at a2] at this
    exact this.mpr trivial
  have keepIt : ∀ i, ok (i + 1) → i < st.next → i + 1 ≠ ow (vf j) → s1.get i = st.get i := fun i hi hl hne => hfr i (by rw [← hvv]; exact hne) hl
  have hb1 : s1.get b' = some (.row es 3 false) := by
    rw [keepIt b' hokv (by omega) (by omega)]; exact q3
  have hl : j * 3 + 1 < es.length := by omega
  have hone : cellsOf vv = [vv] := by
    have := hv.2.1
    cases vv <;> first | rfl | (simp [oneCell] at this)
  refine ⟨s1.put b' (some (.row (lputs es (j * 3 + 1) [vv]) 3 false)), fun W => ?_, ?_, rfl, fun i hi => get_put_ne _ _ _ _ (Ne.symm hi)⟩
  · rw [wk_store, hb1, hone]
    simp only [getK, rowK]
    exact propext ⟨fun h => h.2.2, fun h => ⟨rfl, ⟨trivial, by omega, by simp [hv.2.1]⟩, h⟩⟩
  · refine ⟨_, fun i => if i = j then vv else vf i, .inr ⟨b', cap, by rw [upd_len]; exact q1, by rw [upd_len]; exact q2, get_put_same _ _ _, by rw [lput1_len _ _ _ hl, upd_len]; exact q4⟩, h2, by show ow v ≤ s1.next; omega, fun i hi => ?_, fun i hi => ?_⟩
    · rw [upd_len] at hi
      obtain ⟨a1, a2, a3⟩ := h4 i hi
      rw [lput1_get _ _ _ hl, lput1_get _ _ _ hl, lput1_get _ _ _ hl, if_neg (by omega), if_neg (by omega : ¬ i * 3 + 2 = j * 3 + 1)]
      refine ⟨a1, ?_, ?_⟩
      · by_cases e : i = j
        · subst e; simp
        · rw [if_neg (by omega)]; show _ = some (if i = j then vv else vf i); rw [if_neg e]; exact a2
      · by_cases e : i = j
        · subst e; rw [upd_same _ _ _ hi, (hf _).2]; exact a3
        · rw [upd_ne _ _ _ _ (Ne.symm e)]; exact a3
    · rw [upd_len] at hi ⊢
      by_cases e : i = j
      · subst e
        simp only [if_true]
        rw [upd_same _ _ _ hi, (hf _).1]
        refine ⟨hv.keep fun x hx => get_put_ne _ _ _ _ fun e => by omega, .inr ⟨hok, by omega⟩, h1, fun k hk hne => .inr ?_⟩
        simp only [if_neg hne]
        have := (h5 k hk).2.2.1
        omega
      · obtain ⟨m1, m2, m3, m4⟩ := h5 i hi
        simp only [if_neg e]
        rw [upd_ne _ _ _ _ (Ne.symm e)]
        refine ⟨?_, m2, by show _ ≤ s1.next; omega, fun k hk hne => ?_⟩
        · have hk : VlR g s1 (vf i) (clAt cs i).vals := m1.keep fun x hx => by
            rcases m2 with m2 | m2
            · omega
            · refine keepIt x (by rw [hx]; exact m2.1) (by omega) fun e' => ?_
              rcases m4 j hj (Ne.symm e) with m4 | m4
              · omega
              · exact m4 (by omega)
          have hk2 : VlR g' s1 (vf i) (clAt cs i).vals := ⟨hk.1, hk.2.1, fun e => hk.2.2 (hg e)⟩
          refine hk2.keep fun x hx => get_put_ne _ _ _ _ fun e => ?_
          subst e
          omega
        · by_cases ek : k = j
          · subst ek
            simp only [if_true]
            by_cases h0' : ow (vf i) = 0
            · exact .inl h0'
            · exact .inr (by omega)
          · simp only [if_neg ek]
            exact m4 k hk hne

/-- one argument more -/
theorem AgR.snoc {s1 : St} {nm : ByteArray} (h : AgR ok g st v ns cs) (hns : ns.getD cs.length .empty = nm) (hok : ∀ n, st.next < n → ok n) {bytes sb gg : Nat} {ro : Bool} (hs1 : s1.next = st.next + 1) (hfr : ∀ i, i < st.next → s1.get i = st.get i) (hsb : st.next ≤ sb) (hs : s1.get sb = some (.row [.string nm, .slice none 0 0, .bool false] gg ro)) (hb : (cs.length + 1) * bytes ≤ 1099511627776) (hn : cs.length + 1 ≤ 1099511627776) {W : Value → St → Prop}
    (hW : ∀ v' s2, AgR ok g s2 v' ns (cs ++ [Cl.zero]) → s2.next = s1.next + 1 → (∀ i, i + 1 ≠ ow v → i < st.next → s2.get i = st.get i) → ow v' = s1.next + 1 → W v' s2) :
    wopK (.append 3 bytes) [v, .slice (some ⟨sb, 0, none⟩) 1 1] s1 W := by
  obtain ⟨es, vf, h1, h2, h3, h4, h5⟩ := h
  have hlen : es.length = cs.length * 3 := by
    rcases h1 with ⟨q1, q2, q3⟩ | ⟨b, cap, q1, q2, q3, q4⟩
    · rw [q2, q3]; rfl
    · exact q4
  refine appendK (h1.keep fun i hi => hfr i (by omega)) hs rfl (by decide) rfl hb hn fun s2 k1 k2 k3 => ?_
  refine hW _ s2 ⟨es ++ [.string nm, .slice none 0 0, .bool false], fun i => if i < cs.length then vf i else .slice none 0 0, by rw [List.length_append]; exact k1, .inr (hok _ ?_), ?_, fun j hj => ?_, fun j hj => ?_⟩ k2 (fun i hi hl => (k3 i hi (by omega)).trans (hfr i hl)) rfl
  · show st.next < s1.next + 1; omega
  · show s1.next + 1 ≤ s2.next; omega
  · rw [List.length_append, List.length_singleton] at hj
    by_cases e : j < cs.length
    · obtain ⟨a1, a2, a3⟩ := h4 j e
      rw [List.getElem?_append_left (by omega), List.getElem?_append_left (by omega), List.getElem?_append_left (by omega)]
      show _ ∧ _ = some (if j < cs.length then vf j else .slice none 0 0) ∧ _
      rw [if_pos e]
      have : clAt (cs ++ [Cl.zero]) j = clAt cs j := by simp [clAt, List.getD_eq_getElem?_getD, List.getElem?_append_left e]
      rw [this]
      exact ⟨a1, a2, a3⟩
    · obtain rfl : j = cs.length := by omega
      rw [List.getElem?_append_right (by omega), List.getElem?_append_right (by omega), List.getElem?_append_right (by omega), hlen]
      show _ ∧ _ = some (if cs.length < cs.length then vf cs.length else .slice none 0 0) ∧ _
      rw [if_neg e, hns]
      have : clAt (cs ++ [Cl.zero]) cs.length = Cl.zero := by simp [clAt, List.getD_eq_getElem?_getD]
      rw [this, show cs.length * 3 - cs.length * 3 = 0 by omega, show cs.length * 3 + 1 - cs.length * 3 = 1 by omega, show cs.length * 3 + 2 - cs.length * 3 = 2 by omega]
      exact ⟨rfl, rfl, rfl⟩
  · rw [List.length_append, List.length_singleton] at hj
    by_cases e : j < cs.length
    · obtain ⟨m1, m2, m3, m4⟩ := h5 j e
      have : clAt (cs ++ [Cl.zero]) j = clAt cs j := by simp [clAt, List.getD_eq_getElem?_getD, List.getElem?_append_left e]
      rw [this]
      simp only [if_pos e]
      refine ⟨m1.keep fun i hi => (k3 i (by omega) (by omega)).trans (hfr i (by omega)), ?_, by omega, fun k hk hne => ?_⟩
      · rcases m2 with m2 | m2
        · exact .inl m2
        · exact .inr ⟨m2.1, by show _ ≠ s1.next + 1; omega⟩
      · by_cases ek : k < cs.length
        · simp only [if_pos ek]; exact m4 k ek hne
        · simp only [if_neg ek]
          by_cases h0 : ow (vf j) = 0
          · exact .inl h0
          · exact .inr (by show _ ≠ 0; exact h0)
    · simp only [if_neg e]
      obtain rfl : j = cs.length := by omega
      have : clAt (cs ++ [Cl.zero]) cs.length = Cl.zero := by simp [clAt, List.getD_eq_getElem?_getD]
      rw [this]
      exact ⟨(GroK.nil 1 s2).vl (l := []), .inl rfl, Nat.zero_le _, fun _ _ _ => .inl rfl⟩
end
end Go.Proofs.YtdmemibnphcedaaGreatDoor
end
section
set_option linter.unusedSimpArgs false
set_option linter.unusedVariables false
set_option maxRecDepth 10000
set_option linter.unusedSectionVars false
namespace Go.Proofs.YtdmemibnphcedaaGreatDoor
open Go.Am
attribute [local irreducible] callO wopK ropK popK opK grpsE listE sx Runs

theorem byte_at (s : ByteArray) (j : Nat) (h : j < s.size) : ∃ c, s.data.toList[j]? = some c ∧ s.data.toList.getD j 0 = c ∧ c.toNat < 256 := by
  have hl : j < s.data.toList.length := by rw [← size_list]; exact h
  exact ⟨s.data.toList[j], List.getElem?_eq_getElem hl, by rw [List.getD_eq_getElem?_getD, List.getElem?_eq_getElem hl, Option.getD_some], (s.data.toList[j]).toNat_lt⟩
theorem byte_no (s : ByteArray) (j : Nat) (h : s.size ≤ j) : s.data.toList[j]? = none := List.getElem?_eq_none (by rw [← size_list]; exact h)
theorem u8_eq {c : UInt8} {n : Nat} (h : (c.toNat : Int) = (n : Int)) : c = UInt8.ofNat n := by
  have : c.toNat = n := by omega
  rw [← this]; simp

def readA (s : ByteArray) : Int := if 1000 < s.size then 2 else if s.data.toList.all prn = true then 0 else 250

section
variable {st : St} {K : Value → St → Prop}

theorem kReadable (n : Nat) (s : ByteArray) (h : K (.int .i64 (readA s)) st) : callK (callO T0 orc fns 100000 (n + 1)) 31 [.string s] st K := by
  refine fn_runs (fn := g31) ?_ ?_ ?_
  · rfl
  · rfl
  unfold g31
  unfold readA at h
  by_cases hbig : 1000 < s.size
  · rw [if_pos hbig] at h
    simp (disch := omega) only [↓sxA, ↓wk_store, sxB, sxP, Nat.reduceLeDiff, reduceCtorEq, Nat.reduceEqDiff, Nat.reduceAdd, Int.reduceLT, Int.reduceLE, Int.reduceEq, Nat.reduceLT, Int.reduceToNat, Int.reduceAdd, Int.reduceSub, ↓reduceIte]
    exact h
  rw [if_neg hbig] at h
  simp (disch := omega) only [↓sxA, ↓wk_store, sxB, sxP, Nat.reduceLeDiff, reduceCtorEq, Nat.reduceEqDiff, Nat.reduceAdd, Int.reduceLT, Int.reduceLE, Int.reduceEq, Nat.reduceLT, Int.reduceToNat, Int.reduceAdd, Int.reduceSub, ↓reduceIte]
  refine loop_rule [0, 8, 9] (fun vs st' => st' = st ∧ ∃ j : Nat, vs = [.string s, .int .i64 (s.size : Nat), .int .i64 j] ∧ j ≤ s.size ∧ (s.data.toList.take j).all prn = true) (fun vs _ => match lget vs 2 with
      | .int _ k => ((s.size : Int) - k).toNat
      | _ => 0) ?_ ?_ ?_
  · rfl
  · refine ⟨_, rfl, ⟨rfl, 0, rfl, Nat.zero_le _, rfl⟩, ?_⟩
    show ((s.size : Int) - 0).toNat < 100000
    omega
  · rintro vs st' ⟨rfl, j, rfl, j1, j2⟩
    show sx _ _ _ _ _ [(0, _), (8, _), (9, _)] _ _ _ _
    by_cases hj : j < s.size
    · obtain ⟨c, hc, hg, hb⟩ := byte_at s j hj
      have bad : prn c = false → s.data.toList.all prn = false := fun hp => by
        rw [List.all_eq_false]
        exact ⟨c, List.mem_of_getElem? hc, by rw [hp]; decide⟩
      have good : prn c = true → (s.data.toList.take (j + 1)).all prn = true := fun hp => by
        rw [List.take_add_one, hc]
        simp [List.all_append, j2, hp]
      simp (disch := omega) only [q_indexStr, Int.toNat_natCast, hg, ↓sxA, ↓wk_store, sxB, sxP, Nat.reduceLeDiff, reduceCtorEq, Nat.reduceEqDiff, Nat.reduceAdd, Int.reduceLT, Int.reduceLE, Int.reduceEq, Nat.reduceLT, Int.reduceToNat, Int.reduceAdd, Int.reduceSub, ↓reduceIte]
      refine iteI (fun c1 => ?_) (fun c1 => iteI (fun c2 => ?_) (fun c2 => ?_))
      · rw [bad (by simp [prn]; omega)] at h; exact h
      · rw [bad (by simp [prn]; omega)] at h; exact h
      · refine ⟨_, rfl, ⟨j + 1, ?_, hj, good (by simp [prn]; omega)⟩, ?_⟩
        · simp
        · show ((s.size : Int) - ((j : Int) + 1)).toNat < ((s.size : Int) - j).toNat
          omega
    · have e : s.data.toList.take j = s.data.toList := List.take_of_length_le (by rw [← size_list]; omega)
      rw [e] at j2
      rw [j2] at h
      simp (disch := omega) only [↓sxA, ↓wk_store, sxB, sxP, Nat.reduceLeDiff, reduceCtorEq, Nat.reduceEqDiff, Nat.reduceAdd, Int.reduceLT, Int.reduceLE, Int.reduceEq, Nat.reduceLT, Int.reduceToNat, Int.reduceAdd, Int.reduceSub, ↓reduceIte]
      exact h

/-- what the program's next gives -/
def wdVal (L : List UInt8) (p : Nat) (v : Value) (e : Int) : Prop := match nxt L p with
  | .fin => v = .agg #[.string .empty, .int .i64 0, .bool false] ∧ e = 0
  | .bad fr => (∃ s a, v = .agg #[.string s, .int .i64 a, .bool true]) ∧ e = -1
  | .wd s q fr to => v = .agg #[.string (bs s), .int .i64 (fr : Nat), .bool q] ∧ e = (to : Nat)

theorem kQuoted (n : Nat) (s : ByteArray) (p : Nat) (hp : p < s.size) (hs : s.size ≤ 1000000) (hr : s.data.toList.all prn = true) (h : K (quoVal (p + 1) (quoR s.data.toList (p + 1))) st) : callK (callO T0 orc fns 100000 n) 96 [.string s, .int .i64 (p : Nat)] st K := by
  rw [callO_none (by rfl)]
  have e : orc 96 [.string s, .int .i64 (p : Nat)] st = .ret (quoVal (p + 1) (quoR s.data.toList (p + 1)), st) := by
    rw [orc_eq (by decide)]
    simp [orc1, hp, hs, hr]
  exact (propext (callK_ret (K := K) e)).mpr h

theorem wdVal_fin {L : List UInt8} {p : Nat} (h : L[blk L p]? = none) : wdVal L p (.agg #[.string .empty, .int .i64 0, .bool false]) 0 := by
  have : nxt L p = .fin := by unfold nxt; rw [h]
  unfold wdVal
  rw [this]
  exact ⟨rfl, rfl⟩
theorem wdVal_eq {L : List UInt8} {p : Nat} (h : L[blk L p]? = some 61) : wdVal L p (.agg #[.string ⟨#[61]⟩, .int .i64 (blk L p : Nat), .bool false]) ((blk L p : Nat) + 1 : Int) := by
  have : nxt L p = .wd [61] false (blk L p) (blk L p + 1) := by unfold nxt; rw [h]; rfl
  unfold wdVal
  rw [this]
  exact ⟨rfl, by simp⟩
theorem wdVal_word {L : List UInt8} {p : Nat} {c : UInt8} (h : L[blk L p]? = some c) (h1 : c ≠ 61) (h2 : c ≠ 34) (hr : L.all prn = true) : wdVal L p (.agg #[.string (bs ((L.drop (blk L p)).take (pwE L (blk L p) - blk L p))), .int .i64 (blk L p : Nat), .bool false]) (pwE L (blk L p) : Nat) := by
  have hall : ((L.drop (blk L p)).take (pw (L.drop (blk L p)))).all prn = true := by
    rw [List.all_eq_true] at hr ⊢
    exact fun x hx => hr x (List.mem_of_mem_drop (List.mem_of_mem_take hx))
  have : nxt L p = .wd ((L.drop (blk L p)).take (pw (L.drop (blk L p)))) false (blk L p) (pwE L (blk L p)) := by
    unfold nxt
    rw [h]
    simp only
    rw [if_neg h1, if_neg h2, if_pos hall]
  unfold wdVal
  rw [this]
  refine ⟨?_, rfl⟩
  have e : pwE L (blk L p) - blk L p = pw (L.drop (blk L p)) := by unfold pwE; omega
  rw [e]
theorem wdVal_quo {L : List UInt8} {p : Nat} (h : L[blk L p]? = some 34) : (∀ x, quoR L (blk L p + 1) = some x → wdVal L p (.agg #[.string (bs x.1), .int .i64 (blk L p : Nat), .bool true]) ((blk L p + 1 + x.2 : Nat) : Int)) ∧ (quoR L (blk L p + 1) = none → ∀ s a, wdVal L p (.agg #[.string s, .int .i64 a, .bool true]) (-1)) := by
  refine ⟨fun x hx => ?_, fun hx s a => ?_⟩
  · have : nxt L p = .wd x.1 true (blk L p) (blk L p + 1 + x.2) := by
      unfold nxt
      rw [h]
      simp only
      rw [if_neg (by decide), if_pos trivial]
      unfold quoR at hx
      rw [hx]
    unfold wdVal
    rw [this]
    exact ⟨rfl, rfl⟩
  · have : nxt L p = .bad (blk L p) := by
      unfold nxt
      rw [h]
      simp only
      rw [if_neg (by decide), if_pos trivial]
      unfold quoR at hx
      rw [hx]
    unfold wdVal
    rw [this]
    exact ⟨⟨s, a, rfl⟩, rfl⟩

set_option maxHeartbeats 1000000 in
theorem kNext (n : Nat) (s : ByteArray) (hs : s.size ≤ 90000) (p : Nat) (hp : p ≤ s.size) (hr : s.data.toList.all prn = true) (h : ∀ v e st', wdVal s.data.toList p v e → Frm st st' → K (.tuple #[v, .int .i64 e]) st') : callK (callO T0 orc fns 100000 (n + 1)) 56 [.string s, .int .i64 (p : Nat)] st K := by
  refine fn_runs (fn := g56) ?_ ?_ ?_
  · rfl
  · rfl
  unfold g56
  have hsz := size_list s
  have F0 : Frm st (st.new (.row [.string .empty, .int .i64 0, .bool false] 0 false)) := Frm.new st _
  have hbx : (st.new (.row [.string .empty, .int .i64 0, .bool false] 0 false)).get st.next = some (.row [.string .empty, .int .i64 0, .bool false] 0 false) := get_new_same _ _
  simp (disch := omega) only [↓sxA, ↓wk_store, sxB, sxP, Nat.reduceLeDiff, reduceCtorEq, Nat.reduceEqDiff, Nat.reduceAdd, Int.reduceLT, Int.reduceLE, Int.reduceEq, Nat.reduceLT, Int.reduceToNat, Int.reduceAdd, Int.reduceSub, ↓reduceIte]
  generalize st.new (.row [.string .empty, .int .i64 0, .bool false] 0 false) = s1 at F0 hbx
  refine loop_rule [0, 1, 4] (fun vs st' => st' = s1 ∧ ∃ j : Nat, vs = [.string s, .int .i64 (j : Nat), .pointer (some ⟨st.next, 0, none⟩)] ∧ j ≤ s.size ∧ blk s.data.toList j = blk s.data.toList p) (fun vs _ => match lget vs 1 with
      | .int _ k => ((s.size : Int) - k).toNat
      | _ => 0) ?_ ?_ ?_
  · rfl
  · refine ⟨_, rfl, ⟨rfl, p, rfl, hp, rfl⟩, ?_⟩
    show ((s.size : Int) - (p : Int)).toNat < 100000
    omega
  · rintro vs st' ⟨rfl, j, rfl, j1, j2⟩
    show sx _ _ _ _ _ [(0, _), (1, _), (4, _)] _ _ _ _
    by_cases hj : j < s.size
    · obtain ⟨c, hc, hg, hb'⟩ := byte_at s j hj
      simp (disch := omega) only [q_indexStr, Int.toNat_natCast, hg, ↓sxA, ↓wk_store, sxB, sxP, Nat.reduceLeDiff, reduceCtorEq, Nat.reduceEqDiff, Nat.reduceAdd, Int.reduceLT, Int.reduceLE, Int.reduceEq, Nat.reduceLT, Int.reduceToNat, Int.reduceAdd, Int.reduceSub, ↓reduceIte]
      refine iteI (fun c1 => ?_) (fun c1 => ?_)
      · refine ⟨_, rfl, ⟨j + 1, ?_, hj, ?_⟩, ?_⟩
        · simp
        · rw [← blk_hit (by rw [hc, u8_eq c1]; rfl), j2]
        · show ((s.size : Int) - ((j : Int) + 1)).toNat < ((s.size : Int) - j).toNat
          omega
      · have hbj : blk s.data.toList p = j := by rw [← j2, blk_stop (by rw [hc]; intro e; cases e; exact c1 rfl)]
        have hcb : s.data.toList[blk s.data.toList p]? = some c := by rw [hbj]; exact hc
        have hF : ∀ o, Frm st (st'.put st.next o) := fun o => F0.put _ (Nat.le_refl _) _
        refine iteI (fun c2 => ?_) (fun c2 => ?_)
        · have e61 : c = 61 := u8_eq c2
          have := wdVal_eq (by rw [hcb, e61])
          rw [hbj] at this
          simp (disch := omega) only [hbx, ↓sxA, ↓wk_store, sxB, sxP, Nat.reduceLeDiff, reduceCtorEq, Nat.reduceEqDiff, Nat.reduceAdd, Int.reduceLT, Int.reduceLE, Int.reduceEq, Nat.reduceLT, Int.reduceToNat, Int.reduceAdd, Int.reduceSub, ↓reduceIte]
          rw [resP_k1]
          simp (disch := omega) only [↓rk_put3, ↓sxA, ↓wk_store, sxB, sxP, Nat.reduceLeDiff, reduceCtorEq, Nat.reduceEqDiff, Nat.reduceAdd, Int.reduceLT, Int.reduceLE, Int.reduceEq, Nat.reduceLT, Int.reduceToNat, Int.reduceAdd, Int.reduceSub, ↓reduceIte]
          exact h _ _ _ this (hF _)
        · have n61 : c ≠ 61 := fun e => c2 (by rw [e]; rfl)
          refine iteI (fun c3 => ?_) (fun c3 => ?_)
          · have e34 : c = 34 := u8_eq c3
            obtain ⟨w1, w2⟩ := wdVal_quo (p := p) (by rw [hcb, e34])
            rw [hbj] at w1 w2
            refine kQuoted n s j hj (by omega) hr ?_
            cases hq : quoR s.data.toList (j + 1) with
            | none =>
              unfold quoVal
              simp (disch := omega) only [hbx, ↓sxA, ↓wk_store, sxB, sxP, Nat.reduceLeDiff, reduceCtorEq, Nat.reduceEqDiff, Nat.reduceAdd, Int.reduceLT, Int.reduceLE, Int.reduceEq, Nat.reduceLT, Int.reduceToNat, Int.reduceAdd, Int.reduceSub, ↓reduceIte]
              rw [resP_k1]
              simp (disch := omega) only [↓rk_put3, ↓sxA, ↓wk_store, sxB, sxP, Nat.reduceLeDiff, reduceCtorEq, Nat.reduceEqDiff, Nat.reduceAdd, Int.reduceLT, Int.reduceLE, Int.reduceEq, Nat.reduceLT, Int.reduceToNat, Int.reduceAdd, Int.reduceSub, ↓reduceIte]
              exact h _ _ _ (w2 hq _ _) (hF _)
            | some x =>
              unfold quoVal
              simp (disch := omega) only [hbx, ↓sxA, ↓wk_store, sxB, sxP, Nat.reduceLeDiff, reduceCtorEq, Nat.reduceEqDiff, Nat.reduceAdd, Int.reduceLT, Int.reduceLE, Int.reduceEq, Nat.reduceLT, Int.reduceToNat, Int.reduceAdd, Int.reduceSub, ↓reduceIte]
              rw [resP_k1]
              simp (disch := omega) only [↓rk_put3, ↓sxA, ↓wk_store, sxB, sxP, Nat.reduceLeDiff, reduceCtorEq, Nat.reduceEqDiff, Nat.reduceAdd, Int.reduceLT, Int.reduceLE, Int.reduceEq, Nat.reduceLT, Int.reduceToNat, Int.reduceAdd, Int.reduceSub, ↓reduceIte]
              exact h _ _ _ (w1 x hq) (hF _)
          · have n34 : c ≠ 34 := fun e => c3 (by rw [e]; rfl)
            have hw := wdVal_word (p := p) hcb n61 n34 hr
            rw [hbj] at hw
            simp (disch := omega) only [↓sxA, ↓wk_store, sxB, sxP, Nat.reduceLeDiff, reduceCtorEq, Nat.reduceEqDiff, Nat.reduceAdd, Int.reduceLT, Int.reduceLE, Int.reduceEq, Nat.reduceLT, Int.reduceToNat, Int.reduceAdd, Int.reduceSub, ↓reduceIte]
            refine loop_rule [0, 1, 4, 8] (fun vs s2 => s2 = st' ∧ ∃ i : Nat, vs = [.string s, .int .i64 (j : Nat), .pointer (some ⟨st.next, 0, none⟩), .int .i64 (i : Nat)] ∧ j ≤ i ∧ i ≤ s.size ∧ pwE s.data.toList i = pwE s.data.toList j) (fun vs _ => match lget vs 3 with
                | .int _ k => ((s.size : Int) - k).toNat
                | _ => 0) ?_ ?_ ?_
            · rfl
            · refine ⟨_, rfl, ⟨rfl, j, rfl, Nat.le_refl _, by omega, rfl⟩, ?_⟩
              show ((s.size : Int) - (j : Int)).toNat < 100000
              omega
            · rintro vs s2 ⟨rfl, i, rfl, i1, i2, i3⟩
              show sx _ _ _ _ _ [(0, _), (1, _), (4, _), (8, _)] _ _ _ _
              have fin : pwE s.data.toList j = i → K (.tuple #[.agg #[.string (s.extract j i), .int .i64 (j : Nat), .bool false], .int .i64 (i : Nat)]) (s2.put st.next (some (.row [.string (s.extract j i), .int .i64 (j : Nat), .bool false] 0 false))) := fun e => by
                rw [e] at hw
                rw [extract_bs]
                exact h _ _ _ hw (hF _)
              by_cases hi : i < s.size
              · obtain ⟨d, hd, hgd, hbd⟩ := byte_at s i hi
                simp (disch := omega) only [q_indexStr, Int.toNat_natCast, hgd, ↓sxA, ↓wk_store, sxB, sxP, Nat.reduceLeDiff, reduceCtorEq, Nat.reduceEqDiff, Nat.reduceAdd, Int.reduceLT, Int.reduceLE, Int.reduceEq, Nat.reduceLT, Int.reduceToNat, Int.reduceAdd, Int.reduceSub, ↓reduceIte]
                refine iteI (fun c4 => ?_) (fun c4 => ?_)
                · have e32 : d = 32 := u8_eq c4
                  simp (disch := omega) only [hbx, q_slBoth, Int.toNat_natCast, ↓sxA, ↓wk_store, sxB, sxP, Nat.reduceLeDiff, reduceCtorEq, Nat.reduceEqDiff, Nat.reduceAdd, Int.reduceLT, Int.reduceLE, Int.reduceEq, Nat.reduceLT, Int.reduceToNat, Int.reduceAdd, Int.reduceSub, ↓reduceIte]
                  rw [resP_k1]
                  simp (disch := omega) only [↓rk_put3, ↓sxA, ↓wk_store, sxB, sxP, Nat.reduceLeDiff, reduceCtorEq, Nat.reduceEqDiff, Nat.reduceAdd, Int.reduceLT, Int.reduceLE, Int.reduceEq, Nat.reduceLT, Int.reduceToNat, Int.reduceAdd, Int.reduceSub, ↓reduceIte]
                  exact fin (by rw [← i3, pwE_stop (fun x hx => by rw [hd] at hx; cases hx; exact .inl e32)])
                · have n32 : d ≠ 32 := fun e => c4 (by rw [e]; rfl)
                  refine iteI (fun c5 => ?_) (fun c5 => ?_)
                  · have e61 : d = 61 := u8_eq c5
                    simp (disch := omega) only [hbx, q_slBoth, Int.toNat_natCast, ↓sxA, ↓wk_store, sxB, sxP, Nat.reduceLeDiff, reduceCtorEq, Nat.reduceEqDiff, Nat.reduceAdd, Int.reduceLT, Int.reduceLE, Int.reduceEq, Nat.reduceLT, Int.reduceToNat, Int.reduceAdd, Int.reduceSub, ↓reduceIte]
                    rw [resP_k1]
                    simp (disch := omega) only [↓rk_put3, ↓sxA, ↓wk_store, sxB, sxP, Nat.reduceLeDiff, reduceCtorEq, Nat.reduceEqDiff, Nat.reduceAdd, Int.reduceLT, Int.reduceLE, Int.reduceEq, Nat.reduceLT, Int.reduceToNat, Int.reduceAdd, Int.reduceSub, ↓reduceIte]
                    exact fin (by rw [← i3, pwE_stop (fun x hx => by rw [hd] at hx; cases hx; exact .inr e61)])
                  · have m61 : d ≠ 61 := fun e => c5 (by rw [e]; rfl)
                    refine ⟨_, rfl, ⟨i + 1, ?_, by omega, hi, ?_⟩, ?_⟩
                    · simp
                    · rw [← pwE_hit hd n32 m61, i3]
                    · show ((s.size : Int) - ((i : Int) + 1)).toNat < ((s.size : Int) - i).toNat
                      omega
              · simp (disch := omega) only [hbx, q_slBoth, Int.toNat_natCast, ↓sxA, ↓wk_store, sxB, sxP, Nat.reduceLeDiff, reduceCtorEq, Nat.reduceEqDiff, Nat.reduceAdd, Int.reduceLT, Int.reduceLE, Int.reduceEq, Nat.reduceLT, Int.reduceToNat, Int.reduceAdd, Int.reduceSub, ↓reduceIte]
                rw [resP_k1]
                simp (disch := omega) only [↓rk_put3, ↓sxA, ↓wk_store, sxB, sxP, Nat.reduceLeDiff, reduceCtorEq, Nat.reduceEqDiff, Nat.reduceAdd, Int.reduceLT, Int.reduceLE, Int.reduceEq, Nat.reduceLT, Int.reduceToNat, Int.reduceAdd, Int.reduceSub, ↓reduceIte]
                exact fin (by rw [← i3, pwE_stop (fun x hx => by rw [byte_no s i (by omega)] at hx; cases hx)])
    · have hbj : blk s.data.toList p = j := by rw [← j2, blk_stop (by rw [byte_no s j (by omega)]; decide)]
      have := wdVal_fin (L := s.data.toList) (p := p) (by rw [hbj]; exact byte_no s j (by omega))
      have hF : ∀ o, Frm st (st'.put st.next o) := fun o => F0.put _ (Nat.le_refl _) _
      simp (disch := omega) only [hbx, ↓sxA, ↓wk_store, sxB, sxP, Nat.reduceLeDiff, reduceCtorEq, Nat.reduceEqDiff, Nat.reduceAdd, Int.reduceLT, Int.reduceLE, Int.reduceEq, Nat.reduceLT, Int.reduceToNat, Int.reduceAdd, Int.reduceSub, ↓reduceIte]
      rw [resP_k1]
      simp (disch := omega) only [↓rk_put3, ↓sxA, ↓wk_store, sxB, sxP, Nat.reduceLeDiff, reduceCtorEq, Nat.reduceEqDiff, Nat.reduceAdd, Int.reduceLT, Int.reduceLE, Int.reduceEq, Nat.reduceLT, Int.reduceToNat, Int.reduceAdd, Int.reduceSub, ↓reduceIte]
      exact h _ _ _ this (hF _)
end
end Go.Proofs.YtdmemibnphcedaaGreatDoor
end
section
set_option linter.unusedSimpArgs false
set_option linter.unusedVariables false
set_option maxRecDepth 10000
set_option linter.unusedSectionVars false
namespace Go.Proofs.YtdmemibnphcedaaGreatDoor
open Go.Am
attribute [local irreducible] callO wopK ropK popK opK grpsE listE sx Runs

def nm0 (x : IM) : ByteArray := x.names.headD .empty

/-- the fitter: where its parts are -/
structure FtR (s0 st : St) (bf : Nat) (lv : Value) (s : ByteArray) (l : List IM) (p : Nat) (cs : List Cl) : Prop where
  frm : Frm s0 st
  bf1 : s0.next ≤ bf
  bf2 : bf < st.next
  items : ItR 1 s0 lv l
  len : cs.length = l.length
  body : ∃ ov bn g, st.get bf = some (.row [lv, .string s, .int .i64 (p : Nat), ov, .slice (some ⟨bn, 0, none⟩) l.length l.length] 0 false) ∧ AgR (fun n => s0.next + 1 ≤ n ∧ n ≠ bf + 1 ∧ n ≠ bn + 1) true st ov (l.map nm0) cs ∧
    st.get bn = some (.row (cs.map fun c => .bool c.nm) g false) ∧ s0.next ≤ bn ∧ bn < st.next ∧ bn ≠ bf

section
variable {s0 st st' : St} {bf p : Nat} {lv : Value} {s : ByteArray} {l : List IM} {cs : List Cl}
theorem FtR.keep (h : FtR s0 st bf lv s l p cs) (k : Frm st st') : FtR s0 st' bf lv s l p cs := by
  obtain ⟨ov, bn, g, b1, b2, b3, b4, b5, b6⟩ := h.body
  refine ⟨h.frm.trans k, h.bf1, Nat.lt_of_lt_of_le h.bf2 k.nx, h.items, h.len, ov, bn, g, (k.old _ h.bf2).trans b1, b2.keep k.nx fun i _ hi => k.old i hi, (k.old _ b5).trans b3, b4, Nat.lt_of_lt_of_le b5 k.nx, b6⟩
theorem FtR.its (h : FtR s0 st bf lv s l p cs) : ItR 1 st lv l := h.items.keep h.frm.nx fun i _ hi => h.frm.old i hi
theorem FtR.box (h : FtR s0 st bf lv s l p cs) : ∃ ov nv, st.get bf = some (.row [lv, .string s, .int .i64 (p : Nat), ov, nv] 0 false) := by
  obtain ⟨ov, bn, g, b1, _⟩ := h.body
  exact ⟨_, _, b1⟩
end

section
variable {st : St} {v : Value} {K : Value → St → Prop} {xs : List ByteArray} {x : ByteArray}

end
end Go.Proofs.YtdmemibnphcedaaGreatDoor
end
section
set_option linter.unusedSimpArgs false
set_option linter.unusedVariables false
set_option maxRecDepth 10000
set_option linter.unusedSectionVars false
namespace Go.Proofs.YtdmemibnphcedaaGreatDoor
open Go.Am
attribute [local irreducible] callO wopK ropK popK opK grpsE listE sx Runs

theorem Frm.err {st s : St} (h : Frm st s) (h0 : 2 < st.next) (hm : hasErr st = true) : hasErr s = true := by
  unfold hasErr at hm ⊢
  rw [h.old _ h0]
  exact hm

theorem AgR.okv {ok : Nat → Prop} {g : Bool} {st : St} {v : Value} {ns : List ByteArray} {cs : List Cl} (h : AgR ok g st v ns cs) : (ow v = 0 ∨ ok (ow v)) ∧ ow v ≤ st.next := by
  obtain ⟨es, vf, h1, h2, h3, _⟩ := h
  exact ⟨h2, h3⟩

theorem GroK.ceq {esz n : Nat} {st : St} {v : Value} {cs : List Value} (h : GroK esz st v cs n) : cellEq v v = true := by
  rcases h with ⟨h1, _⟩ | ⟨b, cap, h1, _⟩ <;> subst h1 <;> exact one_eqSlice _ _ _
theorem AgR.ceq {ok : Nat → Prop} {g : Bool} {st : St} {v : Value} {ns : List ByteArray} {cs : List Cl} (h : AgR ok g st v ns cs) : cellEq v v = true := by
  obtain ⟨es, vf, h1, _⟩ := h
  exact h1.ceq
/-- a cell is read again, and is as it was -/
theorem again {st : St} {b o : Nat} {v : Value} (hl : ∀ K : Value → Prop, ropK .load1 [.pointer (some ⟨b, o, none⟩)] st K = K v) (hc : cellEq v v = true) (W : Prop) : (getK (st.get b) fun ob => rowK ob fun cs _ _ => nthK cs o fun u => cellEq u v = true ∧ W) = W := by
  have := hl fun u => cellEq u v = true ∧ W
  rw [rk_load1] at this
  rw [this, hc]
  simp

section
variable {st : St} {K : Value → St → Prop}
theorem kNumber (n : Nat) (s : ByteArray) (hs : s.size ≤ 1000000) (he : hasErr st = true) (h : K (numVal (numA s.data.toList)) st) : callK (callO T0 orc fns 100000 n) 24 [.string s] st K := by
  rw [callO_none (by rfl)]
  have e : orc 24 [.string s] st = .ret (numVal (numA s.data.toList), st) := by
    rw [orc_eq (by decide)]
    simp [orc1, hs, numK, he]
  exact (propext (callK_ret (K := K) e)).mpr h
theorem numVal_some (v : Int) : numVal (some v) = .tuple #[.int .i64 v, .int .i64 0] := rfl
theorem numVal_none : numVal none = .tuple #[.int .i64 0, .int .i64 250] := rfl

theorem FtR.move {s0 s1 : St} {bf p p' : Nat} {lv ov nv : Value} {s : ByteArray} {l : List IM} {cs : List Cl} (hF : FtR s0 s1 bf lv s l p cs) (hb : s1.get bf = some (.row [lv, .string s, .int .i64 (p : Nat), ov, nv] 0 false)) : FtR s0 (s1.put bf (some (.row [lv, .string s, .int .i64 (p' : Nat), ov, nv] 0 false))) bf lv s l p' cs := by
  obtain ⟨ov', bn, g, b1, b2, b3, b4, b5, b6⟩ := hF.body
  rw [b1] at hb
  cases hb
  refine ⟨hF.frm.put _ hF.bf1 _, hF.bf1, hF.bf2, hF.items, hF.len, ov, bn, g, get_put_same _ _ _, b2.keep (Nat.le_refl _) fun i hi _ => get_put_ne _ _ _ _ (by omega), (get_put_ne _ _ _ _ (Ne.symm b6)).trans b3, b4, b5, b6⟩

theorem trimE_le (l : List UInt8) : (trimE l).length ≤ l.length := by
  unfold trimE
  rw [List.length_reverse]
  have := (List.dropWhile_sublist (· == (32 : UInt8)) (l := l.reverse)).length_le
  rw [List.length_reverse] at this
  exact this

end
end Go.Proofs.YtdmemibnphcedaaGreatDoor
end
section
set_option linter.unusedSimpArgs false
set_option linter.unusedVariables false
set_option maxRecDepth 10000
set_option linter.unusedSectionVars false
namespace Go.Proofs.YtdmemibnphcedaaGreatDoor
open Go.Am
attribute [local irreducible] callO wopK ropK popK opK grpsE listE sx Runs

def Cl.nam (c : Cl) : Cl := ⟨c.vals, c.set, true⟩
def Cl.put (c : Cl) : Cl := ⟨c.vals, true, c.nm⟩

theorem map_upd (cs : List Cl) (k : Nat) (f : Cl → Cl) (hk : k < cs.length) : (upd' cs k f).map (fun c => Value.bool c.nm) = (cs.map fun c => Value.bool c.nm).set k (.bool (f (clAt cs k)).nm) := by
  unfold upd'
  rw [List.map_set]
theorem map_at (cs : List Cl) (k : Nat) (hk : k < cs.length) : (cs.map fun c => Value.bool c.nm)[k]? = some (.bool (clAt cs k).nm) := by
  rw [List.getElem?_map, List.getElem?_eq_getElem hk]
  simp [clAt, List.getD_eq_getElem?_getD, List.getElem?_eq_getElem hk]

section
variable {s0 st : St} {bf p k : Nat} {lv : Value} {s : ByteArray} {l : List IM} {cs : List Cl}
/-- what may be read of the fitter, and how an item is named, and set -/
theorem FtR.open (hF : FtR s0 st bf lv s l p cs) (hk : k < l.length) : ∃ ov bn b s1 s2, st.get bf = some (.row [lv, .string s, .int .i64 (p : Nat), ov, .slice (some ⟨bn, 0, none⟩) l.length l.length] 0 false) ∧
    (∀ K : Value → Prop, popK (.indexAddr 1) [.slice (some ⟨bn, 0, none⟩) l.length l.length, .int .i64 (k : Int)] K = K (.pointer (some ⟨bn, k, none⟩))) ∧ (∀ K : Value → Prop, ropK .load1 [.pointer (some ⟨bn, k, none⟩)] st K = K (.bool (clAt cs k).nm)) ∧
    (∀ K : Value → Prop, popK (.indexAddr 3) [ov, .int .i64 (k : Int)] K = K (.pointer (some ⟨b, k * 3, none⟩))) ∧ (∀ K : Value → Prop, ropK .load1 [.pointer (some ⟨b, k * 3 + 2, none⟩)] st K = K (.bool (clAt cs k).set)) ∧
    (∀ W : Value → St → Prop, wopK (.store 1) [.pointer (some ⟨bn, k, none⟩), .bool true] st W = W undef s1) ∧ FtR s0 s1 bf lv s l p (upd' cs k Cl.nam) ∧ s1.next = st.next ∧ (∀ i, i ≠ bn → s1.get i = st.get i) ∧ s0.next ≤ bn ∧ bn < st.next ∧ bn ≠ bf ∧
    (∀ W : Value → St → Prop, wopK (.store 1) [.pointer (some ⟨b, k * 3 + 2, none⟩), .bool true] st W = W undef s2) ∧ FtR s0 s2 bf lv s l p (upd' cs k Cl.put) := by
  obtain ⟨ov, bn, g, q1, q2, q3, q4, q5, q6⟩ := hF.body
  have hcl := hF.len
  obtain ⟨b, vv, o1, o2, o3, o4, o5, o6, o7, o8, o9⟩ := q2.at (j := k) (by omega)
  obtain ⟨s2, z1, z2, z3, z4⟩ := q2.put_set (j := k) (by omega) Cl.put (fun c => ⟨rfl, rfl⟩) o1
  obtain ⟨okv, onx⟩ := q2.okv
  have okb : s0.next + 1 ≤ b + 1 ∧ b + 1 ≠ bf + 1 ∧ b + 1 ≠ bn + 1 := by
    rcases okv with e | e
    · omega
    · rw [o1] at e; exact e
  have hl : k < (cs.map fun c => Value.bool c.nm).length := by rw [List.length_map]; omega
  have hF2 := hF.bf2
  have hF1 := hF.bf1
  have hfx := hF.frm.nx
  refine ⟨ov, bn, b, st.put bn (some (.row (lputs (cs.map fun c => Value.bool c.nm) k [.bool true]) g false)), s2, q1, fun K => ?_, fun K => ?_, o2, o6, fun W => ?_, ?_, rfl, fun i hi => get_put_ne _ _ _ _ (Ne.symm hi), q4, q5, q6, z1, ?_⟩
  · rw [pk_indexAddr]
    have e : (0 : Nat) + (k : Int).toNat * 1 = k := by omega
    rw [e]
    exact propext ⟨fun h => h.2, fun h => ⟨⟨by omega, by omega⟩, h⟩⟩
  · rw [rk_load1, q3]
    simp only [getK, rowK]
    exact nthK_at (map_at cs k (by omega)) K
  · rw [wk_store, q3]
    simp only [getK, rowK]
    exact propext ⟨fun h => h.2.2, fun h => ⟨rfl, ⟨by first | trivial | rfl, by omega, by rfl⟩, h⟩⟩
  · refine ⟨hF.frm.put _ q4 _, hF1, hF2, hF.items, by rw [upd_len]; exact hcl, ov, bn, g, (get_put_ne _ _ _ _ q6).trans q1, ?_, ?_, q4, q5, q6⟩
    · have h := q2.keep (st' := st.put bn (some (.row (lputs (cs.map fun c => Value.bool c.nm) k [.bool true]) g false))) (Nat.le_refl _) fun i hi _ => get_put_ne _ _ _ _ (by omega)
      obtain ⟨es, vf, h1, h2, h3, h4, h5⟩ := h
      refine ⟨es, vf, by rw [upd_len]; exact h1, h2, h3, fun j hj => ?_, fun j hj => ?_⟩
      · rw [upd_len] at hj
        obtain ⟨a1, a2, a3⟩ := h4 j hj
        refine ⟨a1, a2, ?_⟩
        by_cases e : k = j
        · subst e; rw [upd_same _ _ _ hj]; exact a3
        · rw [upd_ne _ _ _ _ e]; exact a3
      · rw [upd_len] at hj ⊢
        have e : (clAt (upd' cs k Cl.nam) j).vals = (clAt cs j).vals := by
          by_cases e : k = j
          · subst e; rw [upd_same _ _ _ hj]; rfl
          · rw [upd_ne _ _ _ _ e]
        rw [e]
        exact h5 j hj
    · rw [map_upd _ _ _ (by omega), get_put_same]
      congr 2
      refine List.ext_getElem? fun i => ?_
      rw [lput1_get _ _ _ hl]
      by_cases e : i = k
      · subst e; rw [if_pos rfl, List.getElem?_set_self hl]; rfl
      · rw [if_neg e, List.getElem?_set_ne (Ne.symm e)]
  · have hov : ∀ i, i ≠ b → s2.get i = st.get i := z4
    refine ⟨⟨by omega, fun i hi => (hov i (by omega)).trans (hF.frm.old i hi)⟩, hF1, by omega, hF.items, by rw [upd_len]; exact hcl, ov, bn, g, (hov _ (by omega)).trans q1, z2, ?_, q4, by omega, q6⟩
    rw [hov _ (by omega), q3, map_upd _ _ _ (by omega)]
    congr 2
    refine List.ext_getElem? fun i => ?_
    by_cases e : k = i
    · subst e; rw [List.getElem?_set_self hl, map_at cs k (by omega)]; rfl
    · rw [List.getElem?_set_ne e]
end

end Go.Proofs.YtdmemibnphcedaaGreatDoor
end
section
set_option linter.unusedSimpArgs false
set_option linter.unusedVariables false
set_option maxRecDepth 10000
set_option linter.unusedSectionVars false
namespace Go.Proofs.YtdmemibnphcedaaGreatDoor
open Go.Am
attribute [local irreducible] callO wopK ropK popK opK grpsE listE sx Runs

section
variable {st : St} {K : Value → St → Prop}

theorem quo_len : ∀ (l : List UInt8) (s : List UInt8) (k : Nat), quo l = some (s, k) → s.length ≤ l.length
  | [], s, k, h => by simp [quo] at h
  | [c], s, k, h => by
    simp only [quo] at h
    split at h
    · cases h; simp
    · cases h
  | c :: d :: r, s, k, h => by
    simp only [quo] at h
    split at h
    · split at h
      · cases h; simp
      · cases h
    · split at h
      · cases h
      · split at h
        · simp only [Option.map_eq_some_iff] at h
          obtain ⟨⟨s', k'⟩, h1, h2⟩ := h
          cases h2
          have := quo_len r s' k' h1
          simp; omega
        · split at h
          · simp only [Option.map_eq_some_iff] at h
            obtain ⟨⟨s', k'⟩, h1, h2⟩ := h
            cases h2
            have := quo_len r s' k' h1
            simp; omega
          · simp only [Option.map_eq_some_iff] at h
            obtain ⟨⟨s', k'⟩, h1, h2⟩ := h
            cases h2
            have := quo_len (d :: r) s' k' h1
            simp at this ⊢; omega
theorem nxt_len {L : List UInt8} {p : Nat} {w : List UInt8} {q : Bool} {fr to : Nat} (h : nxt L p = .wd w q fr to) : w.length ≤ L.length + 1 := by
  unfold nxt at h
  split at h
  · cases h
  · split at h
    · cases h; simp
    · split at h
      · split at h
        · rename_i x hx
          cases h
          have := quo_len _ x.1 x.2 hx
          rw [List.length_drop] at this
          omega
        · cases h
      · split at h
        · cases h
          rw [List.length_take, List.length_drop]
          omega
        · cases h
end
end Go.Proofs.YtdmemibnphcedaaGreatDoor
end
section
set_option linter.unusedSimpArgs false
set_option linter.unusedVariables false
set_option maxRecDepth 10000
set_option linter.unusedSectionVars false
namespace Go.Proofs.YtdmemibnphcedaaGreatDoor
open Go.Am
attribute [local irreducible] callO wopK ropK popK opK grpsE listE sx Runs

section
variable {st : St} {K : Value → St → Prop}

end
end Go.Proofs.YtdmemibnphcedaaGreatDoor
end
section
set_option linter.unusedSimpArgs false
set_option linter.unusedVariables false
set_option maxRecDepth 10000
set_option linter.unusedSectionVars false
namespace Go.Proofs.YtdmemibnphcedaaGreatDoor
open Go.Am
attribute [local irreducible] callO wopK ropK popK opK grpsE listE sx Runs

theorem AgR.one {ok : Nat → Prop} {g : Bool} {st : St} {v : Value} {ns : List ByteArray} {cs : List Cl} (h : AgR ok g st v ns cs) : oneCell v = true := by
  obtain ⟨es, vf, h1, _⟩ := h
  exact h1.one
theorem ItR.one {lo : Nat} {st : St} {v : Value} {l : List IM} (h : ItR lo st v l) : oneCell v = true := by
  obtain ⟨nvs, h1, h2, _⟩ := h
  exact h2.one
section
variable {st : St} {K : Value → St → Prop}

end
end Go.Proofs.YtdmemibnphcedaaGreatDoor
end
section
set_option linter.unusedSimpArgs false
set_option linter.unusedVariables false
set_option maxRecDepth 10000
set_option linter.unusedSectionVars false
namespace Go.Proofs.YtdmemibnphcedaaGreatDoor
open Go.Am
attribute [local irreducible] callO wopK ropK popK opK grpsE listE sx Runs

section
variable {st : St} {K : Value → St → Prop}

theorem q_subU8 (a b : Int) (h0 : 0 ≤ a - b) (h1 : a - b ≤ 255) {K : Value → Prop} : popK (.bin .sub) [.int .u8 a, .int .u8 b] K = K (.int .u8 (a - b)) := by
  rw [pk_subI]
  simp only [wrapF]
  rw [if_pos ⟨h0, h1⟩]
theorem wrap64 (a : Int) (h0 : -9223372036854775808 ≤ a) (h1 : a ≤ 9223372036854775807) : wrapF .i64 a = a := by
  simp only [wrapF]
  rw [if_pos ⟨h0, h1⟩]
theorem Cel.ceq {v : Value} {cs : List Value} (h : Cel st v cs) : cellEq v v = true := by
  rcases h with ⟨h1, _⟩ | ⟨b, o, cap, xs, g, ro, h1, _⟩ | ⟨n, h1, _⟩ <;> subst h1 <;> exact one_eqSlice _ _ _

/-- a number that stops growing -/
def sat (x : Nat) : Int := if x ≤ 2147483648 then (x : Int) else 2147483649
theorem dval_app (c : UInt8) (l : List UInt8) : ∀ a : Nat, dval a (l ++ [c]) = dval a l * 10 + (c.toNat - 48) := by
  induction l with
  | nil => intro a; rfl
  | cons x l ih => intro a; exact ih (a * 10 + (x.toNat - 48))

set_option maxHeartbeats 1000000 in
theorem kNumberR (n : Nat) (s : ByteArray) (hs : s.size ≤ 90000) (h : K (numVal (numA s.data.toList)) st) :
    callK (callO T0 orc fns 100000 (n + 1)) 25 [.string s] st K := by
  refine fn_runs (fn := g25) ?_ ?_ ?_
  · rfl
  · rfl
  unfold g25
  have hsz := size_list s
  have hcase : ∃ a : Nat, a ≤ 1 ∧ a ≤ s.size ∧ digits s.data.toList = s.data.toList.drop a ∧ ((a = 1 ∧ neg s.data.toList = true ∧ 0 < s.size ∧ s.data.toList.getD 0 0 = 45) ∨ (a = 0 ∧ neg s.data.toList = false ∧ (s.size = 0 ∨ (0 < s.size ∧ ¬ ((s.data.toList.getD 0 0).toNat : Int) = 45)))) := by
    cases hl : s.data.toList with
    | nil =>
      rw [hl] at hsz
      exact ⟨0, by decide, by omega, rfl, .inr ⟨rfl, rfl, .inl hsz⟩⟩
    | cons c r =>
      rw [hl] at hsz
      simp only [List.length_cons] at hsz
      by_cases hc : c = 45
      · subst hc
        exact ⟨1, by decide, by omega, rfl, .inl ⟨rfl, rfl, by omega, rfl⟩⟩
      · refine ⟨0, by decide, by omega, by simp [digits, hc], .inr ⟨rfl, by simp [neg, hc], .inr ⟨by omega, fun e => hc ?_⟩⟩⟩
        exact u8_eq e
  obtain ⟨a, ha1, has, hdg, hneg⟩ := hcase
  obtain ⟨b, hb⟩ : ∃ b, b = neg s.data.toList := ⟨_, rfl⟩
  have tail : ∀ (e : Int), True := fun _ => trivial
  have hnum : numA s.data.toList = if s.data.toList.drop a ≠ [] ∧ (s.data.toList.drop a).all dig = true then (if b = true then (if dval 0 (s.data.toList.drop a) ≤ 2147483648 then some (-(dval 0 (s.data.toList.drop a) : Int)) else none) else if dval 0 (s.data.toList.drop a) ≤ 2147483647 then some (dval 0 (s.data.toList.drop a) : Int) else none) else none := by
    unfold numA; rw [hdg, hb]
  rw [hnum] at h
  have hdl : (s.data.toList.drop a).length = s.size - a := by rw [List.length_drop]; omega
  have hD : ∀ i, (s.data.toList.drop a)[i]? = s.data.toList[a + i]? := fun i => List.getElem?_drop
  clear hdg
  generalize s.data.toList.drop a = D at h hnum hdl hD
  have empty : a = s.size → K (numVal none) st := fun e => by
    rw [if_neg (fun hh => hh.1 (List.eq_nil_of_length_eq_zero (by omega)))] at h
    exact h
  rcases hneg with ⟨rfl, hn, h0, hg0⟩ | ⟨rfl, hn, h0⟩
  case' inl =>
    rw [hn] at hb
    subst hb
    have hq : ((45 : UInt8).toNat : Int) = 45 := rfl
    have hi0 : ∀ K' : Value → Prop, popK .indexStr [.string s, .int .i64 0] K' = K' (.int .u8 45) := fun K' => by
      rw [q_indexStr s .i64 0 (by omega) (by omega)]
      rw [show (0 : Int).toNat = 0 from rfl, hg0]; rfl
  case' inr =>
    rw [hn] at hb
    subst hb
  case inl =>
    by_cases he : (1 : Nat) = s.size
    · have hen := empty he
      simp (disch := omega) only [↓sxA, ↓wk_store, sxB, sxP, Nat.reduceLeDiff, reduceCtorEq, Nat.reduceEqDiff, Nat.reduceAdd, Int.reduceLT, Int.reduceLE, Int.reduceEq, Nat.reduceLT, Int.reduceToNat, Int.reduceAdd, Int.reduceSub, ↓reduceIte, ↓hi0]
      exact hen
    simp (disch := omega) only [↓sxA, ↓wk_store, sxB, sxP, Nat.reduceLeDiff, reduceCtorEq, Nat.reduceEqDiff, Nat.reduceAdd, Int.reduceLT, Int.reduceLE, Int.reduceEq, Nat.reduceLT, Int.reduceToNat, Int.reduceAdd, Int.reduceSub, ↓reduceIte, ↓hi0]
    refine loop_rule [0, 5, 6, 7] (fun vs s' => s' = st ∧ ∃ j : Nat, vs = [.string s, .bool true, .int .i64 (sat (dval 0 (D.take (j - 1)))), .int .i64 (j : Nat)] ∧ 1 ≤ j ∧ j ≤ s.size ∧ (D.take (j - 1)).all dig = true) (fun vs _ => match lget vs 3 with
        | .int _ k => ((s.size : Int) - k).toNat
        | _ => 0) ?_ ?_ ?_
    · rfl
    · refine ⟨_, rfl, ⟨rfl, 1, by rw [Nat.sub_self, List.take_zero]; rfl, Nat.le_refl _, by omega, by rw [Nat.sub_self, List.take_zero]; rfl⟩, ?_⟩
      show ((s.size : Int) - (1 : Int)).toNat < 100000
      omega
    · rintro vs s' ⟨rfl, j, rfl, j0, j1, j2⟩
      show sx _ _ _ _ _ [(0, _), (5, _), (6, _), (7, _)] _ _ _ _
      obtain ⟨x, hx⟩ : ∃ x, x = dval 0 (D.take (j - 1)) := ⟨_, rfl⟩
      rw [← hx]
      have sat0 : 0 ≤ sat x := by unfold sat; split <;> omega
      have sat1 : sat x ≤ 2147483649 := by unfold sat; split <;> omega
      by_cases hj : j < s.size
      · obtain ⟨c, hc, hg, hb'⟩ := byte_at s j hj
        have hcd : D[j - 1]? = some c := by rw [hD, show 1 + (j - 1) = j by omega]; exact hc
        have htk : D.take (j + 1 - 1) = D.take (j - 1) ++ [c] := by rw [show j + 1 - 1 = (j - 1) + 1 by omega, List.take_add_one, hcd]; rfl
        have bad : dig c = false → K (numVal none) s' := fun hp => by
          rw [if_neg] at h
          · exact h
          · rintro ⟨_, hh⟩
            have := List.all_eq_true.1 hh c (List.mem_of_getElem? hcd)
            rw [hp] at this
            cases this
        have good : dig c = true → (D.take (j + 1 - 1)).all dig = true := fun hp => by
          rw [htk, List.all_append, j2]; simp [hp]
        have hdv : dval 0 (D.take (j + 1 - 1)) = x * 10 + (c.toNat - 48) := by rw [htk, dval_app, ← hx]
        have hmeas : ((s.size : Int) - ((j : Int) + 1)).toNat < ((s.size : Int) - j).toNat := by omega
        simp (disch := omega) only [q_indexStr, Int.toNat_natCast, hg, ↓sxA, ↓wk_store, sxB, sxP, Nat.reduceLeDiff, reduceCtorEq, Nat.reduceEqDiff, Nat.reduceAdd, Int.reduceLT, Int.reduceLE, Int.reduceEq, Nat.reduceLT, Int.reduceToNat, Int.reduceAdd, Int.reduceSub, ↓reduceIte]
        refine iteI (fun c1 => ?_) (fun c1 => iteI (fun c2 => ?_) (fun c2 => ?_))
        · exact bad (by simp [dig]; omega)
        · exact bad (by simp [dig]; omega)
        · have hd : dig c = true := by simp [dig]; omega
          have hcast : (c.toNat : Int) - 48 = ((c.toNat - 48 : Nat) : Int) := by omega
          simp (disch := omega) only [q_indexStr, q_subU8, wrap64, Int.toNat_natCast, hg, ↓sxA, ↓wk_store, sxB, sxP, Nat.reduceLeDiff, reduceCtorEq, Nat.reduceEqDiff, Nat.reduceAdd, Int.reduceLT, Int.reduceLE, Int.reduceEq, Nat.reduceLT, Int.reduceToNat, Int.reduceAdd, Int.reduceSub, ↓reduceIte]
          refine iteI (fun c3 => ?_) (fun c3 => ?_)
          · refine ⟨_, rfl, ⟨j + 1, ?_, by omega, hj, good hd⟩, hmeas⟩
            rw [hdv]
            have : sat (x * 10 + (c.toNat - 48)) = 2147483649 := by
              unfold sat at c3 ⊢
              rw [if_neg]
              split at c3 <;> omega
            rw [this]
            simp
          · refine ⟨_, rfl, ⟨j + 1, ?_, by omega, hj, good hd⟩, hmeas⟩
            rw [hdv]
            have : sat (x * 10 + (c.toNat - 48)) = sat x * 10 + ((c.toNat : Int) - 48) := by
              unfold sat at c3 ⊢
              split at c3
              · rw [if_pos (by omega)]; rw [if_pos (by assumption)]; omega
              · omega
            rw [this]
            simp
      · have e : D.take (j - 1) = D := List.take_of_length_le (by omega)
        rw [e] at hx j2
        have hne : D ≠ [] := fun hh => by
          have := congrArg List.length hh
          rw [hdl, List.length_nil] at this
          omega
        rw [if_pos ⟨hne, j2⟩, ← hx] at h
        simp only [if_true] at h
        by_cases hxv : x ≤ 2147483648
        · rw [if_pos hxv, numVal_some] at h
          have hs' : sat x = (x : Int) := by unfold sat; rw [if_pos hxv]
          rw [hs']
          simp (disch := omega) only [wrap64, Int.zero_sub, ↓sxA, ↓wk_store, sxB, sxP, Nat.reduceLeDiff, reduceCtorEq, Nat.reduceEqDiff, Nat.reduceAdd, Int.reduceLT, Int.reduceLE, Int.reduceEq, Nat.reduceLT, Int.reduceToNat, Int.reduceAdd, Int.reduceSub, ↓reduceIte]
          rw [if_neg (by omega), if_neg (by omega)]
          exact h
        · rw [if_neg hxv, numVal_none] at h
          have hs' : sat x = 2147483649 := by unfold sat; rw [if_neg hxv]
          rw [hs']
          simp (disch := omega) only [wrap64, Int.zero_sub, ↓sxA, ↓wk_store, sxB, sxP, Nat.reduceLeDiff, reduceCtorEq, Nat.reduceEqDiff, Nat.reduceAdd, Int.reduceLT, Int.reduceLE, Int.reduceEq, Nat.reduceLT, Int.reduceToNat, Int.reduceAdd, Int.reduceSub, ↓reduceIte]
          exact h
  case inr =>
    by_cases he : (0 : Nat) = s.size
    · have hen := empty he
      simp (disch := omega) only [↓sxA, ↓wk_store, sxB, sxP, Nat.reduceLeDiff, reduceCtorEq, Nat.reduceEqDiff, Nat.reduceAdd, Int.reduceLT, Int.reduceLE, Int.reduceEq, Nat.reduceLT, Int.reduceToNat, Int.reduceAdd, Int.reduceSub, ↓reduceIte]
      exact hen
    have hi0 : ∀ K' : Value → Prop, popK .indexStr [.string s, .int .i64 0] K' = K' (.int .u8 ((s.data.toList.getD 0 0).toNat : Int)) := fun K' => by
      rw [q_indexStr s .i64 0 (by omega) (by omega)]
      rfl
    have hq1 : (((s.data.toList.getD 0 0).toNat : Int) = 45) = False := eq_false fun e => by
      rcases h0 with h0 | h0
      · omega
      · exact h0.2 e
    simp (disch := omega) only [↓sxA, ↓wk_store, sxB, sxP, Nat.reduceLeDiff, reduceCtorEq, Nat.reduceEqDiff, Nat.reduceAdd, Int.reduceLT, Int.reduceLE, Int.reduceEq, Nat.reduceLT, Int.reduceToNat, Int.reduceAdd, Int.reduceSub, ↓reduceIte, ↓hi0, hq1]
    refine loop_rule [0, 5, 6, 7] (fun vs s' => s' = st ∧ ∃ j : Nat, vs = [.string s, .bool false, .int .i64 (sat (dval 0 (D.take (j - 0)))), .int .i64 (j : Nat)] ∧ 0 ≤ j ∧ j ≤ s.size ∧ (D.take (j - 0)).all dig = true) (fun vs _ => match lget vs 3 with
        | .int _ k => ((s.size : Int) - k).toNat
        | _ => 0) ?_ ?_ ?_
    · rfl
    · refine ⟨_, rfl, ⟨rfl, 0, by rw [Nat.sub_self, List.take_zero]; rfl, Nat.le_refl _, by omega, by rw [Nat.sub_self, List.take_zero]; rfl⟩, ?_⟩
      show ((s.size : Int) - (0 : Int)).toNat < 100000
      omega
    · rintro vs s' ⟨rfl, j, rfl, j0, j1, j2⟩
      show sx _ _ _ _ _ [(0, _), (5, _), (6, _), (7, _)] _ _ _ _
      obtain ⟨x, hx⟩ : ∃ x, x = dval 0 (D.take (j - 0)) := ⟨_, rfl⟩
      rw [← hx]
      have sat0 : 0 ≤ sat x := by unfold sat; split <;> omega
      have sat1 : sat x ≤ 2147483649 := by unfold sat; split <;> omega
      by_cases hj : j < s.size
      · obtain ⟨c, hc, hg, hb'⟩ := byte_at s j hj
        have hcd : D[j - 0]? = some c := by rw [hD, show 0 + (j - 0) = j by omega]; exact hc
        have htk : D.take (j + 1 - 0) = D.take (j - 0) ++ [c] := by rw [show j + 1 - 0 = (j - 0) + 1 by omega, List.take_add_one, hcd]; rfl
        have bad : dig c = false → K (numVal none) s' := fun hp => by
          rw [if_neg] at h
          · exact h
          · rintro ⟨_, hh⟩
            have := List.all_eq_true.1 hh c (List.mem_of_getElem? hcd)
            rw [hp] at this
            cases this
        have good : dig c = true → (D.take (j + 1 - 0)).all dig = true := fun hp => by
          rw [htk, List.all_append, j2]; simp [hp]
        have hdv : dval 0 (D.take (j + 1 - 0)) = x * 10 + (c.toNat - 48) := by rw [htk, dval_app, ← hx]
        have hmeas : ((s.size : Int) - ((j : Int) + 1)).toNat < ((s.size : Int) - j).toNat := by omega
        simp (disch := omega) only [q_indexStr, Int.toNat_natCast, hg, ↓sxA, ↓wk_store, sxB, sxP, Nat.reduceLeDiff, reduceCtorEq, Nat.reduceEqDiff, Nat.reduceAdd, Int.reduceLT, Int.reduceLE, Int.reduceEq, Nat.reduceLT, Int.reduceToNat, Int.reduceAdd, Int.reduceSub, ↓reduceIte]
        refine iteI (fun c1 => ?_) (fun c1 => iteI (fun c2 => ?_) (fun c2 => ?_))
        · exact bad (by simp [dig]; omega)
        · exact bad (by simp [dig]; omega)
        · have hd : dig c = true := by simp [dig]; omega
          have hcast : (c.toNat : Int) - 48 = ((c.toNat - 48 : Nat) : Int) := by omega
          simp (disch := omega) only [q_indexStr, q_subU8, wrap64, Int.toNat_natCast, hg, ↓sxA, ↓wk_store, sxB, sxP, Nat.reduceLeDiff, reduceCtorEq, Nat.reduceEqDiff, Nat.reduceAdd, Int.reduceLT, Int.reduceLE, Int.reduceEq, Nat.reduceLT, Int.reduceToNat, Int.reduceAdd, Int.reduceSub, ↓reduceIte]
          refine iteI (fun c3 => ?_) (fun c3 => ?_)
          · refine ⟨_, rfl, ⟨j + 1, ?_, by omega, hj, good hd⟩, hmeas⟩
            rw [hdv]
            have : sat (x * 10 + (c.toNat - 48)) = 2147483649 := by
              unfold sat at c3 ⊢
              rw [if_neg]
              split at c3 <;> omega
            rw [this]
            simp
          · refine ⟨_, rfl, ⟨j + 1, ?_, by omega, hj, good hd⟩, hmeas⟩
            rw [hdv]
            have : sat (x * 10 + (c.toNat - 48)) = sat x * 10 + ((c.toNat : Int) - 48) := by
              unfold sat at c3 ⊢
              split at c3
              · rw [if_pos (by omega)]; rw [if_pos (by assumption)]; omega
              · omega
            rw [this]
            simp
      · have e : D.take (j - 0) = D := List.take_of_length_le (by omega)
        rw [e] at hx j2
        have hne : D ≠ [] := fun hh => by
          have := congrArg List.length hh
          rw [hdl, List.length_nil] at this
          omega
        rw [if_pos ⟨hne, j2⟩, ← hx] at h
        simp only [Bool.false_eq_true, if_false] at h
        by_cases hxv : x ≤ 2147483647
        · rw [if_pos hxv, numVal_some] at h
          have hs' : sat x = (x : Int) := by unfold sat; rw [if_pos (by omega)]
          rw [hs']
          simp (disch := omega) only [↓sxA, ↓wk_store, sxB, sxP, Nat.reduceLeDiff, reduceCtorEq, Nat.reduceEqDiff, Nat.reduceAdd, Int.reduceLT, Int.reduceLE, Int.reduceEq, Nat.reduceLT, Int.reduceToNat, Int.reduceAdd, Int.reduceSub, ↓reduceIte]
          exact h
        · rw [if_neg hxv, numVal_none] at h
          have hs' : 2147483647 < sat x := by unfold sat; split <;> omega
          have hs2 : ¬ sat x < -2147483648 := by omega
          simp (disch := omega) only [↓sxA, ↓wk_store, sxB, sxP, Nat.reduceLeDiff, reduceCtorEq, Nat.reduceEqDiff, Nat.reduceAdd, Int.reduceLT, Int.reduceLE, Int.reduceEq, Nat.reduceLT, Int.reduceToNat, Int.reduceAdd, Int.reduceSub, ↓reduceIte]
          exact h
end
end Go.Proofs.YtdmemibnphcedaaGreatDoor
end
section
set_option linter.unusedSimpArgs false
set_option linter.unusedVariables false
set_option maxRecDepth 10000
set_option linter.unusedSectionVars false
namespace Go.Proofs.YtdmemibnphcedaaGreatDoor
open Go.Am

section
variable {L : List UInt8} {i : Nat} {c d : UInt8}
theorem ql_drop (h : L[i]? = some c) : L.drop i = c :: L.drop (i + 1) := by
  obtain ⟨h1, h2⟩ := List.getElem?_eq_some_iff.1 h
  rw [List.drop_eq_getElem_cons h1, h2]
theorem ql_end (h : L[i]? = none) : quoR L i = none := by
  rw [List.getElem?_eq_none_iff] at h
  rw [quoR, List.drop_eq_nil_of_le h]; rfl
theorem ql_nil (h : L[i]? = none) : L.drop i = [] := List.drop_eq_nil_of_le (List.getElem?_eq_none_iff.1 h)
theorem ql_bad (h : L[i]? = some c) (h1 : c ≠ 34) (h2 : prn c = false) : quoR L i = none := by
  rw [quoR, ql_drop h]
  cases hd : L.drop (i + 1) with
  | nil => simp only [quo]; rw [if_neg h1]
  | cons d r => simp only [quo]; rw [if_neg h1, if_pos h2]
theorem ql_stop (h : L[i]? = some 34) (h1 : ∀ d, L[i + 1]? = some d → d = 32 ∨ d = 61) : quoR L i = some ([], 1) := by
  rw [quoR, ql_drop h]
  cases hd : L[i + 1]? with
  | none => rw [ql_nil hd]; rfl
  | some d =>
    rw [ql_drop hd]
    simp only [quo, if_true]
    rw [if_pos (h1 d hd)]
theorem ql_no (h : L[i]? = some 34) (hd : L[i + 1]? = some d) (h1 : d ≠ 32) (h2 : d ≠ 61) : quoR L i = none := by
  rw [quoR, ql_drop h, ql_drop hd]
  simp only [quo, if_true]
  rw [if_neg (by rintro (e | e); exact h1 e; exact h2 e)]
theorem ql_esc (h : L[i]? = some 42) (hd : L[i + 1]? = some d) (h1 : d = 34 ∨ d = 42) : quoR L i = (quoR L (i + 2)).map fun x => (d :: x.1, x.2 + 2) := by
  rw [quoR, ql_drop h, ql_drop hd]
  simp only [quo]
  rw [if_neg (by decide), if_neg (by decide), if_pos (by simp [h1])]
  rfl
theorem ql_n (h : L[i]? = some 42) (hd : L[i + 1]? = some 110) : quoR L i = (quoR L (i + 2)).map fun x => (10 :: x.1, x.2 + 2) := by
  rw [quoR, ql_drop h, ql_drop hd]
  simp only [quo]
  rw [if_neg (by decide), if_neg (by decide), if_neg (by decide), if_pos (by simp)]
  rfl
theorem ql_oth (h : L[i]? = some c) (hp : prn c = true) (hc : c ≠ 34) (h1 : ∀ d, L[i + 1]? = some d → c = 42 → d ≠ 34 ∧ d ≠ 42 ∧ d ≠ 110) : quoR L i = (quoR L (i + 1)).map fun x => (c :: x.1, x.2 + 1) := by
  unfold quoR
  rw [ql_drop h]
  cases hd : L[i + 1]? with
  | none =>
    rw [ql_nil hd]
    simp only [quo]
    rw [if_neg hc]
    rfl
  | some d =>
    rw [ql_drop hd]
    simp only [quo]
    rw [if_neg hc, if_neg (by rw [hp]; decide), if_neg, if_neg]
    · rintro ⟨e1, e2⟩; exact (h1 d hd e1).2.2 e2
    · rintro ⟨e1, e2 | e2⟩
      · exact (h1 d hd e1).1 e2
      · exact (h1 d hd e1).2.1 e2
end

theorem resP_k2 (e : Env) (s : St) (a b c n : Nat) (Q : Value → St → Prop) : resP e s [(a, n + 2), (b, 0), (c, 0)] Q = getE e a fun u => ropK (.loadN n) [u] s fun x => getE e b fun v => getE e c fun w => Q (.tuple #[x, v, w]) s := by
  unfold resP getE ropK
  simp only [resE, res1E]
  cases e.get? a with
  | none => rfl
  | some u =>
    simp only
    cases rop (.loadN n) [u] s with
    | none => rfl
    | some x =>
      simp only
      cases e.get? b with
      | none => rfl
      | some v =>
        simp only
        cases e.get? c with
        | none => rfl
        | some w => rfl
attribute [local irreducible] callO wopK ropK popK opK grpsE listE sx Runs

/-- what the chapter's next gives -/
def WdR (L : List UInt8) (p : Nat) (v : Value) (more good : Bool) : Prop := match nxt L p with
  | .fin => more = false ∧ good = true ∧ v = .agg #[.string .empty, .bool false, .int .i64 0, .int .i64 0]
  | .bad fr => more = true ∧ good = false ∧ ∃ s q to, v = .agg #[.string s, .bool q, .int .i64 (fr : Nat), .int .i64 to]
  | .wd w q fr to => more = true ∧ good = true ∧ v = .agg #[.string (bs w), .bool q, .int .i64 (fr : Nat), .int .i64 (to : Nat)]

section
variable {st : St} {K : Value → St → Prop}

set_option maxHeartbeats 4000000 in
theorem kNextR (n : Nat) (s : ByteArray) (hs : s.size ≤ 80000) (p : Nat) (hp : p ≤ s.size) (h : ∀ v more good st', WdR s.data.toList p v more good → Frm st st' → K (.tuple #[v, .bool more, .bool good]) st') :
    callK (callO T0 orc fns 100000 (n + 1)) 45 [.string s, .int .i64 (p : Nat)] st K := by
  refine fn_runs (fn := g45) ?_ ?_ ?_
  · rfl
  · rfl
  unfold g45
  have hsz := size_list s
  have F0 : Frm st (st.new (.row [.string .empty, .bool false, .int .i64 0, .int .i64 0] 0 false)) := Frm.new st _
  have hbx : (st.new (.row [.string .empty, .bool false, .int .i64 0, .int .i64 0] 0 false)).get st.next = some (.row [.string .empty, .bool false, .int .i64 0, .int .i64 0] 0 false) := get_new_same _ _
  have hn1 : (st.new (.row [.string .empty, .bool false, .int .i64 0, .int .i64 0] 0 false)).next = st.next + 1 := rfl
  simp (disch := omega) only [↓sxA, ↓wk_store, sxB, sxP, Nat.reduceLeDiff, reduceCtorEq, Nat.reduceEqDiff, Nat.reduceAdd, Int.reduceLT, Int.reduceLE, Int.reduceEq, Nat.reduceLT, Int.reduceToNat, Int.reduceAdd, Int.reduceSub, ↓reduceIte]
  generalize st.new (.row [.string .empty, .bool false, .int .i64 0, .int .i64 0] 0 false) = s1 at F0 hbx hn1
  refine loop_rule [0, 1, 4] (fun vs st' => st' = s1 ∧ ∃ j : Nat, vs = [.string s, .int .i64 (j : Nat), .pointer (some ⟨st.next, 0, none⟩)] ∧ j ≤ s.size ∧ blk s.data.toList j = blk s.data.toList p) (fun vs _ => match lget vs 1 with
      | .int _ k => ((s.size : Int) - k).toNat
      | _ => 0) ?_ ?_ ?_
  · rfl
  · refine ⟨_, rfl, ⟨rfl, p, rfl, hp, rfl⟩, ?_⟩
    show ((s.size : Int) - (p : Int)).toNat < 100000
    omega
  · rintro vs st' ⟨rfl, j, rfl, j1, j2⟩
    show sx _ _ _ _ _ [(0, _), (1, _), (4, _)] _ _ _ _
    have hF : ∀ o, Frm st (st'.put st.next o) := fun o => F0.put _ (Nat.le_refl _) _
    by_cases hj : j < s.size
    · obtain ⟨c, hc, hg, hb'⟩ := byte_at s j hj
      by_cases c1 : (c.toNat : Int) = 32
      · have hq1 : ((c.toNat : Int) = 32) = True := eq_true c1
        simp (disch := omega) only [q_indexStr, Int.toNat_natCast, hg, hq1, ↓sxA, ↓wk_store, sxB, sxP, Nat.reduceLeDiff, reduceCtorEq, Nat.reduceEqDiff, Nat.reduceAdd, Int.reduceLT, Int.reduceLE, Int.reduceEq, Nat.reduceLT, Int.reduceToNat, Int.reduceAdd, Int.reduceSub, ↓reduceIte]
        refine ⟨_, rfl, ⟨j + 1, ?_, hj, ?_⟩, ?_⟩
        · simp
        · rw [← blk_hit (by rw [hc, u8_eq c1]; rfl), j2]
        · show ((s.size : Int) - ((j : Int) + 1)).toNat < ((s.size : Int) - j).toNat
          omega
      have hq1 : ((c.toNat : Int) = 32) = False := eq_false c1
      have hbj : blk s.data.toList p = j := by rw [← j2, blk_stop (by rw [hc]; intro e; cases e; exact c1 rfl)]
      have hcb : s.data.toList[blk s.data.toList p]? = some c := by rw [hbj]; exact hc
      by_cases c2 : (c.toNat : Int) = 61
      · have hq2 : ((c.toNat : Int) = 61) = True := eq_true c2
        have e61 : c = 61 := u8_eq c2
        have hW : WdR s.data.toList p (.agg #[.string ⟨#[61]⟩, .bool false, .int .i64 (j : Nat), .int .i64 ((j : Int) + 1)]) true true := by
          have hn : nxt s.data.toList p = .wd [61] false j (j + 1) := by unfold nxt; rw [hcb, hbj]; simp only; rw [if_pos e61]
          unfold WdR
          rw [hn]
          exact ⟨rfl, rfl, by simp; rfl⟩
        simp (disch := omega) only [q_indexStr, Int.toNat_natCast, hg, hq1, hq2, hbx, ↓rk_put4, ↓sxA, ↓wk_store, sxB, sxP, Nat.reduceLeDiff, reduceCtorEq, Nat.reduceEqDiff, Nat.reduceAdd, Int.reduceLT, Int.reduceLE, Int.reduceEq, Nat.reduceLT, Int.reduceToNat, Int.reduceAdd, Int.reduceSub, ↓reduceIte]
        rw [resP_k2]
        simp (disch := omega) only [↓rk_put4, ↓sxA, ↓wk_store, sxB, sxP, Nat.reduceLeDiff, reduceCtorEq, Nat.reduceEqDiff, Nat.reduceAdd, Int.reduceLT, Int.reduceLE, Int.reduceEq, Nat.reduceLT, Int.reduceToNat, Int.reduceAdd, Int.reduceSub, ↓reduceIte]
        exact h _ _ _ _ hW (((hF _).put _ (Nat.le_refl _) _).put _ (Nat.le_refl _) _ |>.put _ (Nat.le_refl _) _)
      have hq2 : ((c.toNat : Int) = 61) = False := eq_false c2
      have n61 : c ≠ 61 := fun e => c2 (by rw [e]; rfl)
      by_cases c3 : (c.toNat : Int) = 34
      · have hq3 : ((c.toNat : Int) = 34) = True := eq_true c3
        have e34 : c = 34 := u8_eq c3
        have hnQ : ∀ x, quoR s.data.toList (j + 1) = some x → nxt s.data.toList p = .wd x.1 true j (j + 1 + x.2) := fun x hx => by
          unfold nxt; rw [hcb, hbj]; simp only
          rw [if_neg n61, if_pos e34]
          unfold quoR at hx; rw [hx]
        have hnQ0 : quoR s.data.toList (j + 1) = none → nxt s.data.toList p = .bad j := fun hx => by
          unfold nxt; rw [hcb, hbj]; simp only
          rw [if_neg n61, if_pos e34]
          unfold quoR at hx; rw [hx]
        simp (disch := omega) only [q_indexStr, Int.toNat_natCast, hg, hq1, hq2, hq3, hbx, ↓sxA, ↓wk_store, sxB, sxP, Nat.reduceLeDiff, reduceCtorEq, Nat.reduceEqDiff, Nat.reduceAdd, Int.reduceLT, Int.reduceLE, Int.reduceEq, Nat.reduceLT, Int.reduceToNat, Int.reduceAdd, Int.reduceSub, ↓reduceIte]
        obtain ⟨s2, hs2⟩ : ∃ s2, s2 = (st'.put st.next (some (.row [.string .empty, .bool false, .int .i64 (j : Nat), .int .i64 0] 0 false))).put st.next (some (.row [.string .empty, .bool true, .int .i64 (j : Nat), .int .i64 0] 0 false)) := ⟨_, rfl⟩
        have hb2 : s2.get st.next = some (.row [.string .empty, .bool true, .int .i64 (j : Nat), .int .i64 0] 0 false) := by rw [hs2]; exact get_put_same _ _ _
        have F2 : Frm st s2 := by rw [hs2]; exact (hF _).put _ (Nat.le_refl _) _
        have n2 : s2.next = st.next + 1 := by rw [hs2]; exact hn1
        rw [← hs2]
        clear hs2
        refine loop_rule [0, 1, 4, 7] (fun vs s3 => ∃ (i : Nat) (acc : List UInt8) (out : Value), vs = [.string s, .int .i64 (i : Nat), .pointer (some ⟨st.next, 0, none⟩), out] ∧ j + 1 ≤ i ∧ i ≤ s.size ∧ acc.length ≤ i ∧ Wr s2 s3 out acc ∧ quoR s.data.toList (j + 1) = (quoR s.data.toList i).map fun x => (acc ++ x.1, x.2 + (i - (j + 1)))) (fun vs _ => match lget vs 1 with
            | .int _ k => ((s.size : Int) - k).toNat
            | _ => 0) ?_ ?_ ?_
        · rfl
        · refine ⟨_, rfl, ⟨j + 1, [], _, by simp, Nat.le_refl _, hj, Nat.zero_le _, ⟨Gro.nil _, .inl rfl, Nat.zero_le _, Frm.refl _⟩, by simp⟩, ?_⟩
          show ((s.size : Int) - ((j : Int) + 1)).toNat < 100000
          omega
        · rintro vs s3 ⟨i, acc, out, rfl, i1, i2, hac, hW, hQ⟩
          show sx _ _ _ _ _ [(0, _), (1, _), (4, _), (7, _)] _ _ _ _
          have hb3 := (hW.2.2.2.old st.next (by omega)).trans hb2
          have n3 := hW.2.2.2.nx
          have F3 : Frm st s3 := F2.trans hW.2.2.2
          have bad : quoR s.data.toList (j + 1) = none → ∀ w to st5, Frm st st5 → K (.tuple #[.agg #[.string w, .bool true, .int .i64 (j : Nat), .int .i64 to], .bool true, .bool false]) st5 := fun hq w to st5 hf => by
            refine h _ _ _ _ ?_ hf
            unfold WdR
            rw [hnQ0 hq]
            exact ⟨rfl, rfl, _, _, _, rfl⟩
          have all3 := rk_loadAll (k := 4) hb3 rfl (by decide)
          have F3p : ∀ o, Frm st (s3.put st.next o) := fun o => F3.put _ (Nat.le_refl _) _
          by_cases hi : i < s.size
          · obtain ⟨d, hd, hgd, hbd⟩ := byte_at s i hi
            by_cases d1 : prn d = true
            · have hp1 : ¬ (d.toNat : Int) < 32 := by simp [prn] at d1; omega
              have hp2 : ¬ (126 : Int) < (d.toNat : Int) := by simp [prn] at d1; omega
              have app : ∀ (e : UInt8) (m : Nat) (W : Value → St → Prop), quoR s.data.toList i = ((quoR s.data.toList (i + m)).map fun x => (e :: x.1, x.2 + m)) → (∀ out1 s4, Wr s2 s4 out1 (acc ++ [e]) → quoR s.data.toList (j + 1) = ((quoR s.data.toList (i + m)).map fun x => (acc ++ [e] ++ x.1, x.2 + (i + m - (j + 1)))) → W out1 s4) →
                  wopK (.append 1 1) [out, .slice (some ⟨s3.next, 0, none⟩) 1 1] (s3.new (.row [.int .u8 (e.toNat : Int)] 0 false)) W := fun e m W hq hW' => by
                refine Wr.row (m := [e]) hW rfl Nat.zero_lt_one (by simp; omega) fun out1 s4 g1 g2 g3 g4 => hW' out1 s4 g1 ?_
                exact quo_pre (by omega) hQ hq
              have hmeas1 : ((s.size : Int) - ((i : Int) + 1)).toNat < ((s.size : Int) - (i : Int)).toNat := by omega
              have hmeas2 : ((s.size : Int) - ((i : Int) + 1 + 1)).toNat < ((s.size : Int) - (i : Int)).toNat := by omega
              by_cases d2 : (d.toNat : Int) = 34
              · have hd2 : ((d.toNat : Int) = 34) = True := eq_true d2
                have e2 : d = 34 := u8_eq d2
                subst e2
                have rs := fun K => rk_str (K := K) hW.1
                have good : quoR s.data.toList i = some ([], 1) → ∀ st5, Frm st st5 → K (.tuple #[.agg #[.string (bs acc), .bool true, .int .i64 (j : Nat), .int .i64 ((i : Int) + 1)], .bool true, .bool true]) st5 := fun hq st5 hf => by
                  refine h _ _ _ _ ?_ hf
                  unfold WdR
                  rw [hnQ _ (by rw [hQ, hq]; rfl)]
                  refine ⟨rfl, rfl, ?_⟩
                  have hsum : ((j + 1 + (1 + (i - (j + 1))) : Nat) : Int) = (i : Int) + 1 := by omega
                  simp only [List.append_nil, hsum]
                have bad' : quoR s.data.toList i = none → ∀ st5, Frm st st5 → K (.tuple #[.agg #[.string (bs acc), .bool true, .int .i64 (j : Nat), .int .i64 ((i : Int) + 1)], .bool true, .bool false]) st5 := fun hq st5 hf => bad (by rw [hQ, hq]; rfl) _ _ _ hf
                by_cases hi1 : i + 1 < s.size
                · obtain ⟨e, he, hge, hbe⟩ := byte_at s (i + 1) hi1
                  have hcast : (i : Int) + 1 = ((i + 1 : Nat) : Int) := by omega
                  have hix : ∀ K' : Value → Prop, popK .indexStr [.string s, .int .i64 ((i : Int) + 1)] K' = K' (.int .u8 (e.toNat : Int)) := fun K' => by
                    rw [hcast, q_indexStr s .i64 _ (by omega) (by omega), Int.toNat_natCast, hge]
                  by_cases x1 : (e.toNat : Int) = 32
                  · have hx1 : ((e.toNat : Int) = 32) = True := eq_true x1
                    simp (disch := omega) only [q_indexStr, Int.toNat_natCast, hgd, hd2, hb3, ↓rs, ↓rk_put4, ↓hix, hx1, ↓sxA, ↓wk_store, sxB, sxP, Nat.reduceLeDiff, reduceCtorEq, Nat.reduceEqDiff, Nat.reduceAdd, Int.reduceLT, Int.reduceLE, Int.reduceEq, Nat.reduceLT, Int.reduceToNat, Int.reduceAdd, Int.reduceSub, ↓reduceIte]
                    rw [resP_k2]
                    simp (disch := omega) only [↓rk_put4, ↓sxA, ↓wk_store, sxB, sxP, Nat.reduceLeDiff, reduceCtorEq, Nat.reduceEqDiff, Nat.reduceAdd, Int.reduceLT, Int.reduceLE, Int.reduceEq, Nat.reduceLT, Int.reduceToNat, Int.reduceAdd, Int.reduceSub, ↓reduceIte]
                    exact good (ql_stop hd fun y hy => by rw [he] at hy; cases hy; exact .inl (u8_eq x1)) _ (((F3p _).put _ (Nat.le_refl _) _).put _ (Nat.le_refl _) _)
                  · have hx1 : ((e.toNat : Int) = 32) = False := eq_false x1
                    by_cases x2 : (e.toNat : Int) = 61
                    · have hx2 : ((e.toNat : Int) = 61) = True := eq_true x2
                      simp (disch := omega) only [q_indexStr, Int.toNat_natCast, hgd, hd2, hb3, ↓rs, ↓rk_put4, ↓hix, hx1, hx2, ↓sxA, ↓wk_store, sxB, sxP, Nat.reduceLeDiff, reduceCtorEq, Nat.reduceEqDiff, Nat.reduceAdd, Int.reduceLT, Int.reduceLE, Int.reduceEq, Nat.reduceLT, Int.reduceToNat, Int.reduceAdd, Int.reduceSub, ↓reduceIte]
                      rw [resP_k2]
                      simp (disch := omega) only [↓rk_put4, ↓sxA, ↓wk_store, sxB, sxP, Nat.reduceLeDiff, reduceCtorEq, Nat.reduceEqDiff, Nat.reduceAdd, Int.reduceLT, Int.reduceLE, Int.reduceEq, Nat.reduceLT, Int.reduceToNat, Int.reduceAdd, Int.reduceSub, ↓reduceIte]
                      exact good (ql_stop hd fun y hy => by rw [he] at hy; cases hy; exact .inr (u8_eq x2)) _ (((F3p _).put _ (Nat.le_refl _) _).put _ (Nat.le_refl _) _)
                    · have hx2 : ((e.toNat : Int) = 61) = False := eq_false x2
                      simp (disch := omega) only [q_indexStr, Int.toNat_natCast, hgd, hd2, hb3, ↓rs, ↓rk_put4, ↓hix, hx1, hx2, ↓sxA, ↓wk_store, sxB, sxP, Nat.reduceLeDiff, reduceCtorEq, Nat.reduceEqDiff, Nat.reduceAdd, Int.reduceLT, Int.reduceLE, Int.reduceEq, Nat.reduceLT, Int.reduceToNat, Int.reduceAdd, Int.reduceSub, ↓reduceIte]
                      rw [resP_k2]
                      simp (disch := omega) only [↓rk_put4, ↓sxA, ↓wk_store, sxB, sxP, Nat.reduceLeDiff, reduceCtorEq, Nat.reduceEqDiff, Nat.reduceAdd, Int.reduceLT, Int.reduceLE, Int.reduceEq, Nat.reduceLT, Int.reduceToNat, Int.reduceAdd, Int.reduceSub, ↓reduceIte]
                      exact bad' (ql_no hd he (fun e => x1 (by rw [e]; rfl)) (fun e => x2 (by rw [e]; rfl))) _ (((F3p _).put _ (Nat.le_refl _) _).put _ (Nat.le_refl _) _)
                · simp (disch := omega) only [q_indexStr, Int.toNat_natCast, hgd, hd2, hb3, ↓rs, ↓rk_put4, ↓sxA, ↓wk_store, sxB, sxP, Nat.reduceLeDiff, reduceCtorEq, Nat.reduceEqDiff, Nat.reduceAdd, Int.reduceLT, Int.reduceLE, Int.reduceEq, Nat.reduceLT, Int.reduceToNat, Int.reduceAdd, Int.reduceSub, ↓reduceIte]
                  rw [resP_k2]
                  simp (disch := omega) only [↓rk_put4, ↓sxA, ↓wk_store, sxB, sxP, Nat.reduceLeDiff, reduceCtorEq, Nat.reduceEqDiff, Nat.reduceAdd, Int.reduceLT, Int.reduceLE, Int.reduceEq, Nat.reduceLT, Int.reduceToNat, Int.reduceAdd, Int.reduceSub, ↓reduceIte]
                  exact good (ql_stop hd fun y hy => by rw [byte_no s (i + 1) (by omega)] at hy; cases hy) _ (((F3p _).put _ (Nat.le_refl _) _).put _ (Nat.le_refl _) _)
              · have hd2 : ((d.toNat : Int) = 34) = False := eq_false d2
                have n34 : d ≠ 34 := fun e => d2 (by rw [e]; rfl)
                by_cases d3 : (d.toNat : Int) = 42
                · have hd3 : ((d.toNat : Int) = 42) = True := eq_true d3
                  have e42 : d = 42 := u8_eq d3
                  subst e42
                  by_cases hi1 : i + 1 < s.size
                  · obtain ⟨e, he, hge, hbe⟩ := byte_at s (i + 1) hi1
                    have hcast : (i : Int) + 1 = ((i + 1 : Nat) : Int) := by omega
                    have hix : ∀ K' : Value → Prop, popK .indexStr [.string s, .int .i64 ((i : Int) + 1)] K' = K' (.int .u8 (e.toNat : Int)) := fun K' => by
                      rw [hcast, q_indexStr s .i64 _ (by omega) (by omega), Int.toNat_natCast, hge]
                    by_cases x1 : (e.toNat : Int) = 34
                    · have hx1 : ((e.toNat : Int) = 34) = True := eq_true x1
                      have hx3 : ((e.toNat : Int) = 110) = False := eq_false (by omega)
                      simp (disch := omega) only [q_indexStr, Int.toNat_natCast, hgd, hd2, hd3, ↓hix, hx1, hx3, ↓sxA, ↓wk_store, sxB, sxP, Nat.reduceLeDiff, reduceCtorEq, Nat.reduceEqDiff, Nat.reduceAdd, Int.reduceLT, Int.reduceLE, Int.reduceEq, Nat.reduceLT, Int.reduceToNat, Int.reduceAdd, Int.reduceSub, ↓reduceIte]
                      refine app e 2 _ (ql_esc hd he (.inl (u8_eq x1))) fun out1 s4 g1 g2 => ?_
                      simp (disch := omega) only [↓sxA, ↓wk_store, sxB, sxP, Nat.reduceLeDiff, reduceCtorEq, Nat.reduceEqDiff, Nat.reduceAdd, Int.reduceLT, Int.reduceLE, Int.reduceEq, Nat.reduceLT, Int.reduceToNat, Int.reduceAdd, Int.reduceSub, ↓reduceIte]
                      exact ⟨_, rfl, ⟨i + 2, acc ++ [e], out1, by simp; omega, by omega, by omega, by simp; omega, g1, g2⟩, hmeas2⟩
                    · have hx1 : ((e.toNat : Int) = 34) = False := eq_false x1
                      by_cases x2 : (e.toNat : Int) = 42
                      · have hx2 : ((e.toNat : Int) = 42) = True := eq_true x2
                        have hx3 : ((e.toNat : Int) = 110) = False := eq_false (by omega)
                        simp (disch := omega) only [q_indexStr, Int.toNat_natCast, hgd, hd2, hd3, ↓hix, hx1, hx2, hx3, ↓sxA, ↓wk_store, sxB, sxP, Nat.reduceLeDiff, reduceCtorEq, Nat.reduceEqDiff, Nat.reduceAdd, Int.reduceLT, Int.reduceLE, Int.reduceEq, Nat.reduceLT, Int.reduceToNat, Int.reduceAdd, Int.reduceSub, ↓reduceIte]
                        refine app e 2 _ (ql_esc hd he (.inr (u8_eq x2))) fun out1 s4 g1 g2 => ?_
                        simp (disch := omega) only [↓sxA, ↓wk_store, sxB, sxP, Nat.reduceLeDiff, reduceCtorEq, Nat.reduceEqDiff, Nat.reduceAdd, Int.reduceLT, Int.reduceLE, Int.reduceEq, Nat.reduceLT, Int.reduceToNat, Int.reduceAdd, Int.reduceSub, ↓reduceIte]
                        exact ⟨_, rfl, ⟨i + 2, acc ++ [e], out1, by simp; omega, by omega, by omega, by simp; omega, g1, g2⟩, hmeas2⟩
                      · have hx2 : ((e.toNat : Int) = 42) = False := eq_false x2
                        by_cases x3 : (e.toNat : Int) = 110
                        · have hx3 : ((e.toNat : Int) = 110) = True := eq_true x3
                          simp (disch := omega) only [q_indexStr, Int.toNat_natCast, hgd, hd2, hd3, ↓hix, hx1, hx2, hx3, ↓sxA, ↓wk_store, sxB, sxP, Nat.reduceLeDiff, reduceCtorEq, Nat.reduceEqDiff, Nat.reduceAdd, Int.reduceLT, Int.reduceLE, Int.reduceEq, Nat.reduceLT, Int.reduceToNat, Int.reduceAdd, Int.reduceSub, ↓reduceIte]
                          refine app 10 2 _ (ql_n hd (by rw [he, u8_eq x3]; rfl)) fun out1 s4 g1 g2 => ?_
                          simp (disch := omega) only [↓sxA, ↓wk_store, sxB, sxP, Nat.reduceLeDiff, reduceCtorEq, Nat.reduceEqDiff, Nat.reduceAdd, Int.reduceLT, Int.reduceLE, Int.reduceEq, Nat.reduceLT, Int.reduceToNat, Int.reduceAdd, Int.reduceSub, ↓reduceIte]
                          exact ⟨_, rfl, ⟨i + 2, acc ++ [10], out1, by simp; omega, by omega, by omega, by simp; omega, g1, g2⟩, hmeas2⟩
                        · have hx3 : ((e.toNat : Int) = 110) = False := eq_false x3
                          simp (disch := omega) only [q_indexStr, Int.toNat_natCast, hgd, hd2, hd3, ↓hix, hx1, hx2, hx3, ↓sxA, ↓wk_store, sxB, sxP, Nat.reduceLeDiff, reduceCtorEq, Nat.reduceEqDiff, Nat.reduceAdd, Int.reduceLT, Int.reduceLE, Int.reduceEq, Nat.reduceLT, Int.reduceToNat, Int.reduceAdd, Int.reduceSub, ↓reduceIte]
                          refine app 42 1 _ (ql_oth hd d1 n34 fun y hy _ => ?_) fun out1 s4 g1 g2 => ?_
                          · rw [he] at hy; cases hy
                            exact ⟨fun e => x1 (by rw [e]; rfl), fun e => x2 (by rw [e]; rfl), fun e => x3 (by rw [e]; rfl)⟩
                          simp (disch := omega) only [↓sxA, ↓wk_store, sxB, sxP, Nat.reduceLeDiff, reduceCtorEq, Nat.reduceEqDiff, Nat.reduceAdd, Int.reduceLT, Int.reduceLE, Int.reduceEq, Nat.reduceLT, Int.reduceToNat, Int.reduceAdd, Int.reduceSub, ↓reduceIte]
                          exact ⟨_, rfl, ⟨i + 1, acc ++ [42], out1, by simp, by omega, by omega, by simp; omega, g1, g2⟩, hmeas1⟩
                  · simp (disch := omega) only [q_indexStr, Int.toNat_natCast, hgd, hd2, hd3, ↓sxA, ↓wk_store, sxB, sxP, Nat.reduceLeDiff, reduceCtorEq, Nat.reduceEqDiff, Nat.reduceAdd, Int.reduceLT, Int.reduceLE, Int.reduceEq, Nat.reduceLT, Int.reduceToNat, Int.reduceAdd, Int.reduceSub, ↓reduceIte]
                    refine app 42 1 _ (ql_oth hd d1 n34 fun y hy _ => ?_) fun out1 s4 g1 g2 => ?_
                    · rw [byte_no s (i + 1) (by omega)] at hy; cases hy
                    simp (disch := omega) only [↓sxA, ↓wk_store, sxB, sxP, Nat.reduceLeDiff, reduceCtorEq, Nat.reduceEqDiff, Nat.reduceAdd, Int.reduceLT, Int.reduceLE, Int.reduceEq, Nat.reduceLT, Int.reduceToNat, Int.reduceAdd, Int.reduceSub, ↓reduceIte]
                    exact ⟨_, rfl, ⟨i + 1, acc ++ [42], out1, by simp, by omega, by omega, by simp; omega, g1, g2⟩, hmeas1⟩
                · have hd3 : ((d.toNat : Int) = 42) = False := eq_false d3
                  have hpe1 : ((d.toNat : Int) < 32) = False := eq_false hp1
                  have hpe2 : ((126 : Int) < (d.toNat : Int)) = False := eq_false hp2
                  simp (disch := omega) only [q_indexStr, Int.toNat_natCast, hgd, hd2, hd3, hpe1, hpe2, ↓sxA, ↓wk_store, sxB, sxP, Nat.reduceLeDiff, reduceCtorEq, Nat.reduceEqDiff, Nat.reduceAdd, Int.reduceLT, Int.reduceLE, Int.reduceEq, Nat.reduceLT, Int.reduceToNat, Int.reduceAdd, Int.reduceSub, ↓reduceIte]
                  refine app d 1 _ (ql_oth hd d1 n34 fun y hy e => absurd e fun e => d3 (by rw [e]; rfl)) fun out1 s4 g1 g2 => ?_
                  simp (disch := omega) only [↓sxA, ↓wk_store, sxB, sxP, Nat.reduceLeDiff, reduceCtorEq, Nat.reduceEqDiff, Nat.reduceAdd, Int.reduceLT, Int.reduceLE, Int.reduceEq, Nat.reduceLT, Int.reduceToNat, Int.reduceAdd, Int.reduceSub, ↓reduceIte]
                  exact ⟨_, rfl, ⟨i + 1, acc ++ [d], out1, by simp, by omega, by omega, by simp; omega, g1, g2⟩, hmeas1⟩
            · have d1' : prn d = false := by simpa using d1
              have hq : quoR s.data.toList i = none := ql_bad hd (fun e => d1 (by rw [e]; rfl)) d1'
              have hbq := bad (by rw [hQ, hq]; rfl)
              simp (disch := omega) only [q_indexStr, Int.toNat_natCast, hgd, hb3, ↓all3, ↓sxA, ↓wk_store, sxB, sxP, Nat.reduceLeDiff, reduceCtorEq, Nat.reduceEqDiff, Nat.reduceAdd, Int.reduceLT, Int.reduceLE, Int.reduceEq, Nat.reduceLT, Int.reduceToNat, Int.reduceAdd, Int.reduceSub, ↓reduceIte]
              refine iteI (fun x1 => ?_) (fun x1 => iteI (fun x2 => ?_) (fun x2 => ?_))
              · simp (disch := omega) only [hb3, ↓all3, ↓sxA, ↓wk_store, sxB, sxP, Nat.reduceLeDiff, reduceCtorEq, Nat.reduceEqDiff, Nat.reduceAdd, Int.reduceLT, Int.reduceLE, Int.reduceEq, Nat.reduceLT, Int.reduceToNat, Int.reduceAdd, Int.reduceSub, ↓reduceIte]
                rw [resP_k2]
                simp (disch := omega) only [↓rk_put4, ↓sxA, ↓wk_store, sxB, sxP, Nat.reduceLeDiff, reduceCtorEq, Nat.reduceEqDiff, Nat.reduceAdd, Int.reduceLT, Int.reduceLE, Int.reduceEq, Nat.reduceLT, Int.reduceToNat, Int.reduceAdd, Int.reduceSub, ↓reduceIte]
                exact hbq _ _ _ (F3p _)
              · simp (disch := omega) only [hb3, ↓all3, ↓sxA, ↓wk_store, sxB, sxP, Nat.reduceLeDiff, reduceCtorEq, Nat.reduceEqDiff, Nat.reduceAdd, Int.reduceLT, Int.reduceLE, Int.reduceEq, Nat.reduceLT, Int.reduceToNat, Int.reduceAdd, Int.reduceSub, ↓reduceIte]
                rw [resP_k2]
                simp (disch := omega) only [↓rk_put4, ↓sxA, ↓wk_store, sxB, sxP, Nat.reduceLeDiff, reduceCtorEq, Nat.reduceEqDiff, Nat.reduceAdd, Int.reduceLT, Int.reduceLE, Int.reduceEq, Nat.reduceLT, Int.reduceToNat, Int.reduceAdd, Int.reduceSub, ↓reduceIte]
                exact hbq _ _ _ (F3p _)
              · exfalso
                refine d1 ?_
                simp [prn]; omega
          · have hbq := bad (by rw [hQ, ql_end (byte_no s i (by omega))]; rfl)
            simp (disch := omega) only [hb3, ↓all3, ↓sxA, ↓wk_store, sxB, sxP, Nat.reduceLeDiff, reduceCtorEq, Nat.reduceEqDiff, Nat.reduceAdd, Int.reduceLT, Int.reduceLE, Int.reduceEq, Nat.reduceLT, Int.reduceToNat, Int.reduceAdd, Int.reduceSub, ↓reduceIte]
            rw [resP_k2]
            simp (disch := omega) only [↓rk_put4, ↓sxA, ↓wk_store, sxB, sxP, Nat.reduceLeDiff, reduceCtorEq, Nat.reduceEqDiff, Nat.reduceAdd, Int.reduceLT, Int.reduceLE, Int.reduceEq, Nat.reduceLT, Int.reduceToNat, Int.reduceAdd, Int.reduceSub, ↓reduceIte]
            exact hbq _ _ _ (F3p _)
      have hq3 : ((c.toNat : Int) = 34) = False := eq_false c3
      have n34 : c ≠ 34 := fun e => c3 (by rw [e]; rfl)
      simp (disch := omega) only [q_indexStr, Int.toNat_natCast, hg, hq1, hq2, hq3, hbx, ↓sxA, ↓wk_store, sxB, sxP, Nat.reduceLeDiff, reduceCtorEq, Nat.reduceEqDiff, Nat.reduceAdd, Int.reduceLT, Int.reduceLE, Int.reduceEq, Nat.reduceLT, Int.reduceToNat, Int.reduceAdd, Int.reduceSub, ↓reduceIte]
      obtain ⟨s2, hs2⟩ : ∃ s2, s2 = st'.put st.next (some (.row [.string .empty, .bool false, .int .i64 (j : Nat), .int .i64 0] 0 false)) := ⟨_, rfl⟩
      have hb2 : s2.get st.next = some (.row [.string .empty, .bool false, .int .i64 (j : Nat), .int .i64 0] 0 false) := by rw [hs2]; exact get_put_same _ _ _
      have F2 : Frm st s2 := by rw [hs2]; exact hF _
      rw [← hs2]
      clear hs2
      refine loop_rule [0, 1, 4] (fun vs s3 => s3 = s2 ∧ ∃ i : Nat, vs = [.string s, .int .i64 (i : Nat), .pointer (some ⟨st.next, 0, none⟩)] ∧ j ≤ i ∧ i ≤ s.size ∧ pwE s.data.toList i = pwE s.data.toList j ∧ ((s.data.toList.drop j).take (i - j)).all prn = true) (fun vs _ => match lget vs 1 with
          | .int _ k => ((s.size : Int) - k).toNat
          | _ => 0) ?_ ?_ ?_
      · rfl
      · refine ⟨_, rfl, ⟨rfl, j, rfl, Nat.le_refl _, j1, rfl, by rw [Nat.sub_self]; rfl⟩, ?_⟩
        show ((s.size : Int) - (j : Int)).toNat < 100000
        omega
      · rintro vs s3 ⟨rfl, i, rfl, i1, i2, i3, i4⟩
        show sx _ _ _ _ _ [(0, _), (1, _), (4, _)] _ _ _ _
        have F2p : ∀ o, Frm st (s3.put st.next o) := fun o => F2.put _ (Nat.le_refl _) _
        have hpw : pwE s.data.toList j = j + pw (s.data.toList.drop j) := rfl
        have fin : pwE s.data.toList j = i → ∀ st5, Frm st st5 → K (.tuple #[.agg #[.string (s.extract j i), .bool false, .int .i64 (j : Nat), .int .i64 (i : Nat)], .bool true, .bool true]) st5 := fun e st5 hf => by
          refine h _ _ _ _ ?_ hf
          have e' : pw (s.data.toList.drop j) = i - j := by omega
          have hn : nxt s.data.toList p = .wd ((s.data.toList.drop j).take (i - j)) false j i := by
            unfold nxt; rw [hcb, hbj]; simp only
            rw [if_neg n61, if_neg n34, e', if_pos i4, e]
          unfold WdR
          rw [hn]
          refine ⟨rfl, rfl, ?_⟩
          rw [extract_bs]
        by_cases hi : i < s.size
        · obtain ⟨d, hd, hgd, hbd⟩ := byte_at s i hi
          by_cases x1 : (d.toNat : Int) = 32
          · have hx1 : ((d.toNat : Int) = 32) = True := eq_true x1
            have hend : pwE s.data.toList j = i := by rw [← i3, pwE_stop (fun y hy => by rw [hd] at hy; cases hy; exact .inl (u8_eq x1))]
            simp (disch := omega) only [q_indexStr, q_slBoth, Int.toNat_natCast, hgd, hx1, hb2, ↓rk_put4, ↓sxA, ↓wk_store, sxB, sxP, Nat.reduceLeDiff, reduceCtorEq, Nat.reduceEqDiff, Nat.reduceAdd, Int.reduceLT, Int.reduceLE, Int.reduceEq, Nat.reduceLT, Int.reduceToNat, Int.reduceAdd, Int.reduceSub, ↓reduceIte]
            rw [resP_k2]
            simp (disch := omega) only [↓rk_put4, ↓sxA, ↓wk_store, sxB, sxP, Nat.reduceLeDiff, reduceCtorEq, Nat.reduceEqDiff, Nat.reduceAdd, Int.reduceLT, Int.reduceLE, Int.reduceEq, Nat.reduceLT, Int.reduceToNat, Int.reduceAdd, Int.reduceSub, ↓reduceIte]
            exact fin hend _ (((F2p _).put _ (Nat.le_refl _) _).put _ (Nat.le_refl _) _)
          have hx1 : ((d.toNat : Int) = 32) = False := eq_false x1
          by_cases x2 : (d.toNat : Int) = 61
          · have hx2 : ((d.toNat : Int) = 61) = True := eq_true x2
            have hend : pwE s.data.toList j = i := by rw [← i3, pwE_stop (fun y hy => by rw [hd] at hy; cases hy; exact .inr (u8_eq x2))]
            simp (disch := omega) only [q_indexStr, q_slBoth, Int.toNat_natCast, hgd, hx1, hx2, hb2, ↓rk_put4, ↓sxA, ↓wk_store, sxB, sxP, Nat.reduceLeDiff, reduceCtorEq, Nat.reduceEqDiff, Nat.reduceAdd, Int.reduceLT, Int.reduceLE, Int.reduceEq, Nat.reduceLT, Int.reduceToNat, Int.reduceAdd, Int.reduceSub, ↓reduceIte]
            rw [resP_k2]
            simp (disch := omega) only [↓rk_put4, ↓sxA, ↓wk_store, sxB, sxP, Nat.reduceLeDiff, reduceCtorEq, Nat.reduceEqDiff, Nat.reduceAdd, Int.reduceLT, Int.reduceLE, Int.reduceEq, Nat.reduceLT, Int.reduceToNat, Int.reduceAdd, Int.reduceSub, ↓reduceIte]
            exact fin hend _ (((F2p _).put _ (Nat.le_refl _) _).put _ (Nat.le_refl _) _)
          have hx2 : ((d.toNat : Int) = 61) = False := eq_false x2
          have m32 : d ≠ 32 := fun e => x1 (by rw [e]; rfl)
          have m61 : d ≠ 61 := fun e => x2 (by rw [e]; rfl)
          have hdd : (s.data.toList.drop j)[i - j]? = some d := by rw [List.getElem?_drop, show j + (i - j) = i by omega]; exact hd
          have all3 := rk_loadAll (k := 4) hb2 rfl (by decide)
          have bad : prn d = false → ∀ w q to st5, Frm st st5 → K (.tuple #[.agg #[.string w, .bool q, .int .i64 (j : Nat), .int .i64 to], .bool true, .bool false]) st5 := fun hpd w q to st5 hf => by
            refine h _ _ _ _ ?_ hf
            have hlt : i < pwE s.data.toList j := by
              have := (pwE_lt hd m32 m61).1
              rw [i3] at this
              exact this
            have hn : nxt s.data.toList p = .bad j := by
              unfold nxt; rw [hcb, hbj]; simp only
              rw [if_neg n61, if_neg n34, if_neg]
              intro hall
              rw [List.all_eq_true] at hall
              have := hall d (List.mem_of_getElem? (i := i - j) (by rw [List.getElem?_take_of_lt (by omega)]; exact hdd))
              rw [hpd] at this
              cases this
            unfold WdR
            rw [hn]
            exact ⟨rfl, rfl, _, _, _, rfl⟩
          simp (disch := omega) only [q_indexStr, Int.toNat_natCast, hgd, hx1, hx2, ↓sxA, ↓wk_store, sxB, sxP, Nat.reduceLeDiff, reduceCtorEq, Nat.reduceEqDiff, Nat.reduceAdd, Int.reduceLT, Int.reduceLE, Int.reduceEq, Nat.reduceLT, Int.reduceToNat, Int.reduceAdd, Int.reduceSub, ↓reduceIte]
          refine iteI (fun y1 => ?_) (fun y1 => iteI (fun y2 => ?_) (fun y2 => ?_))
          · simp (disch := omega) only [hb2, ↓all3, ↓sxA, ↓wk_store, sxB, sxP, Nat.reduceLeDiff, reduceCtorEq, Nat.reduceEqDiff, Nat.reduceAdd, Int.reduceLT, Int.reduceLE, Int.reduceEq, Nat.reduceLT, Int.reduceToNat, Int.reduceAdd, Int.reduceSub, ↓reduceIte]
            rw [resP_k2]
            simp (disch := omega) only [↓rk_put4, ↓sxA, ↓wk_store, sxB, sxP, Nat.reduceLeDiff, reduceCtorEq, Nat.reduceEqDiff, Nat.reduceAdd, Int.reduceLT, Int.reduceLE, Int.reduceEq, Nat.reduceLT, Int.reduceToNat, Int.reduceAdd, Int.reduceSub, ↓reduceIte]
            exact bad (by simp [prn]; omega) _ _ _ _ (F2p _)
          · simp (disch := omega) only [hb2, ↓all3, ↓sxA, ↓wk_store, sxB, sxP, Nat.reduceLeDiff, reduceCtorEq, Nat.reduceEqDiff, Nat.reduceAdd, Int.reduceLT, Int.reduceLE, Int.reduceEq, Nat.reduceLT, Int.reduceToNat, Int.reduceAdd, Int.reduceSub, ↓reduceIte]
            rw [resP_k2]
            simp (disch := omega) only [↓rk_put4, ↓sxA, ↓wk_store, sxB, sxP, Nat.reduceLeDiff, reduceCtorEq, Nat.reduceEqDiff, Nat.reduceAdd, Int.reduceLT, Int.reduceLE, Int.reduceEq, Nat.reduceLT, Int.reduceToNat, Int.reduceAdd, Int.reduceSub, ↓reduceIte]
            exact bad (by simp [prn]; omega) _ _ _ _ (F2p _)
          · have hpd : prn d = true := by simp [prn]; omega
            refine ⟨_, rfl, ⟨i + 1, by simp, by omega, hi, by rw [← pwE_hit hd m32 m61, i3], ?_⟩, ?_⟩
            · rw [show i + 1 - j = (i - j) + 1 by omega, List.take_add_one, hdd, List.all_append, i4]; simp [hpd]
            · show ((s.size : Int) - ((i : Int) + 1)).toNat < ((s.size : Int) - i).toNat
              omega
        · have hend : pwE s.data.toList j = i := by rw [← i3, pwE_stop (fun y hy => by rw [byte_no s i (by omega)] at hy; cases hy)]
          simp (disch := omega) only [q_slBoth, Int.toNat_natCast, hb2, ↓rk_put4, ↓sxA, ↓wk_store, sxB, sxP, Nat.reduceLeDiff, reduceCtorEq, Nat.reduceEqDiff, Nat.reduceAdd, Int.reduceLT, Int.reduceLE, Int.reduceEq, Nat.reduceLT, Int.reduceToNat, Int.reduceAdd, Int.reduceSub, ↓reduceIte]
          rw [resP_k2]
          simp (disch := omega) only [↓rk_put4, ↓sxA, ↓wk_store, sxB, sxP, Nat.reduceLeDiff, reduceCtorEq, Nat.reduceEqDiff, Nat.reduceAdd, Int.reduceLT, Int.reduceLE, Int.reduceEq, Nat.reduceLT, Int.reduceToNat, Int.reduceAdd, Int.reduceSub, ↓reduceIte]
          exact fin hend _ (((F2p _).put _ (Nat.le_refl _) _).put _ (Nat.le_refl _) _)
    · have hbj : blk s.data.toList p = j := by rw [← j2, blk_stop (by rw [byte_no s j (by omega)]; decide)]
      have hW : WdR s.data.toList p (.agg #[.string .empty, .bool false, .int .i64 0, .int .i64 0]) false true := by
        have hn : nxt s.data.toList p = .fin := by unfold nxt; rw [hbj, byte_no s j (by omega)]
        unfold WdR
        rw [hn]
        exact ⟨rfl, rfl, rfl⟩
      simp (disch := omega) only [hbx, ↓sxA, ↓wk_store, sxB, sxP, Nat.reduceLeDiff, reduceCtorEq, Nat.reduceEqDiff, Nat.reduceAdd, Int.reduceLT, Int.reduceLE, Int.reduceEq, Nat.reduceLT, Int.reduceToNat, Int.reduceAdd, Int.reduceSub, ↓reduceIte]
      rw [resP_k2]
      simp (disch := omega) only [↓rk_put4, ↓sxA, ↓wk_store, sxB, sxP, Nat.reduceLeDiff, reduceCtorEq, Nat.reduceEqDiff, Nat.reduceAdd, Int.reduceLT, Int.reduceLE, Int.reduceEq, Nat.reduceLT, Int.reduceToNat, Int.reduceAdd, Int.reduceSub, ↓reduceIte]
      exact h _ _ _ _ hW (hF _)
end
end Go.Proofs.YtdmemibnphcedaaGreatDoor
end
section
set_option linter.unusedSimpArgs false
set_option linter.unusedVariables false
set_option maxRecDepth 10000
set_option linter.unusedSectionVars false
namespace Go.Proofs.YtdmemibnphcedaaGreatDoor
open Go.Am
open Go.RowKit (Below)

/-- the words from a place on, or the error -/
inductive WsR (L : List UInt8) : Nat → Option (List (List UInt8 × Bool)) → Prop
  | fin {p : Nat} : nxt L p = .fin → WsR L p (some [])
  | bad {p fr : Nat} : nxt L p = .bad fr → WsR L p none
  | wd {p : Nat} {s : List UInt8} {q : Bool} {fr to : Nat} {r : Option (List (List UInt8 × Bool))} : nxt L p = .wd s q fr to → WsR L to r → WsR L p (r.map ((s, q) :: ·))
theorem WsR.unique {L : List UInt8} : ∀ {p : Nat} {r r' : Option (List (List UInt8 × Bool))}, WsR L p r → WsR L p r' → r = r' := by
  intro p r r' h
  induction h generalizing r' with
  | fin h =>
    intro k
    cases k with
    | fin _ => rfl
    | bad k => rw [h] at k; cases k
    | wd k _ => rw [h] at k; cases k
  | bad h =>
    intro k
    cases k with
    | fin k => rw [h] at k; cases k
    | bad _ => rfl
    | wd k _ => rw [h] at k; cases k
  | wd h _ ih =>
    intro k
    cases k with
    | fin k => rw [h] at k; cases k
    | bad k => rw [h] at k; cases k
    | wd k k2 => rw [h] at k; cases k; rw [ih k2]

/-- a word as the program's iterator gives it: text, place, quoted -/
abbrev WV := ByteArray × Int × Bool
/-- the words between two places -/
inductive Path (L : List UInt8) : List WV → Nat → Prop
  | nil : Path L [] 0
  | snoc {pre : List WV} {p : Nat} {s : List UInt8} {q : Bool} {fr to : Nat} : Path L pre p → nxt L p = .wd s q fr to → Path L (pre ++ [(bs s, (fr : Int), q)]) to
theorem Path.le {L : List UInt8} {pre : List WV} {p : Nat} (h : Path L pre p) : p ≤ L.length ∧ pre.length ≤ p ∧ ∀ x ∈ pre, 0 ≤ x.2.1 := by
  induction h with
  | nil => exact ⟨Nat.zero_le _, Nat.le_refl _, fun x hx => by cases hx⟩
  | snoc h hn ih =>
    obtain ⟨i1, i2, i3⟩ := ih
    obtain ⟨k1, k2, k3, k4, _⟩ := nxt_wd i1 hn
    refine ⟨k4, by simp; omega, fun x hx => ?_⟩
    rcases List.mem_append.1 hx with hx | hx
    · exact i3 x hx
    · simp at hx; subst hx; exact Int.natCast_nonneg _
/-- the words that a list of words shows -/
def shows (pre : List WV) : List (List UInt8 × Bool) := pre.map fun x => (x.1.data.toList, x.2.2)
theorem Path.ws {L : List UInt8} {pre : List WV} {p : Nat} (h : Path L pre p) : ∀ {r}, WsR L p r → WsR L 0 (r.map (shows pre ++ ·)) := by
  induction h with
  | nil => intro r hr; cases r <;> simpa [shows] using hr
  | snoc h hn ih =>
    intro r hr
    have := ih (.wd hn hr)
    cases r with
    | none => simpa using this
    | some r => simpa [shows, bs] using this

/-- all words have come -/
def AllW (L : List UInt8) (xs : List WV) : Prop := (∃ p, Path L xs p ∧ nxt L p = .fin) ∨ ∃ pre p fr t, xs = pre ++ [(t, -1, true)] ∧ Path L pre p ∧ nxt L p = .bad fr
def PartW (L : List UInt8) (xs : List WV) : Prop := (∃ p, Path L xs p) ∨ ∃ pre p fr t, xs = pre ++ [(t, -1, true)] ∧ Path L pre p ∧ nxt L p = .bad fr

theorem calls_plainQ {P : Program} {F : CallF} (hF : FSound P F) {f : FuncId} {m : Int} (hG : 0 < P.globals.size) {args : List Value} (ha : ∀ (μ : Nat → Spot) (n : Nat), VRs μ n args args) {Q : Value → Prop} (hrun : callK F f args (St.begin m P.globals.size) fun v _ => Q v)
    (w : World) (hm : w.cell? ⟨0, 0, none⟩ = some (.int .i64 m)) (h0 : 0 < w.heap.size) :
    Calls P f args.toArray w fun e w' => (∃ v v' μ n, Q v ∧ VR μ n v v' ∧ e = .returned v') ∧ Below w.heap.size w w' := by
  have hr : Rel w.heap.size w (fun i => ⟨i, 0, 1, 0⟩) (St.begin m P.globals.size) w := by
    refine Rel.start _ (fun i o hi => ?_) (fun i o hi => ?_)
    · rw [begin_get] at hi
      split at hi
      · rename_i h
        subst h
        cases hi
        refine ⟨hG, h0, rfl, by simp, fun j v hj => ?_, fun _ => .inl h0, fun h => by cases h⟩
        cases j with
        | zero => simp at hj; subst hj; exact ⟨_, hm, .int _ _⟩
        | succ j => simp at hj
      · cases hi
    · rw [begin_get] at hi
      split at hi
      · cases hi; rfl
      · cases hi
  have hg : Glob P (fun i => ⟨i, 0, 1, 0⟩) (St.begin m P.globals.size).next := fun g hg => ⟨hg, rfl, rfl⟩
  refine (calls_of_run hF hrun hr hg (ha _ _)).mono fun e w' h => ?_
  obtain ⟨v, s', v', h1, h2, μ', _, h3, h4⟩ := h
  exact ⟨⟨v, v', μ', _, h1, h4, h2⟩, h3.below⟩

attribute [local irreducible] callO

theorem sound0 : FSound Tryz.prog (callO T0 orc fns 100000 2) := callO_sound (by kernel_rfl) T0_ok orc_sound (lookFn_ok fns_ok) 100000 2 T0_dfr

theorem next_calls (s : ByteArray) (hs : s.size ≤ 90000) (hr : s.data.toList.all prn = true) (p : Nat) (hp : p ≤ s.size) (w : World) (m : Int) (hm : w.cell? ⟨0, 0, none⟩ = some (.int .i64 m)) (h0 : 0 < w.heap.size) :
    Calls Tryz.prog 56 #[.string s, .int .i64 (p : Nat)] w fun e w' => (∃ t a q e1, wdVal s.data.toList p (.agg #[.string t, .int .i64 a, .bool q]) e1 ∧ e = .returned (.tuple #[.agg #[.string t, .int .i64 a, .bool q], .int .i64 e1])) ∧ Below w.heap.size w w' := by
  refine (calls_plainQ sound0 (m := m) (by decide +kernel) (args := [.string s, .int .i64 (p : Nat)]) (fun μ n => .cons _ _ _ _ (.string _) (.cons _ _ _ _ (.int _ _) .nil)) (Q := fun v => ∃ t a q e1, wdVal s.data.toList p (.agg #[.string t, .int .i64 a, .bool q]) e1 ∧ v = .tuple #[.agg #[.string t, .int .i64 a, .bool q], .int .i64 e1]) ?_ w hm h0).mono fun e w' hh => ⟨?_, hh.2⟩
  · refine kNext 1 s hs p hp hr fun v e st' hw _ => ?_
    have : ∃ t a q, v = .agg #[.string t, .int .i64 a, .bool q] := by
      unfold wdVal at hw
      split at hw
      · exact ⟨_, _, _, hw.1⟩
      · obtain ⟨⟨t, a, h⟩, _⟩ := hw; exact ⟨t, a, true, h⟩
      · exact ⟨_, _, _, hw.1⟩
    obtain ⟨t, a, q, rfl⟩ := this
    exact ⟨t, a, q, e, hw, rfl⟩
  · obtain ⟨⟨v, v', μ, n, ⟨t, a, q, e1, h1, rfl⟩, h2, rfl⟩, _⟩ := hh
    refine ⟨t, a, q, e1, h1, ?_⟩
    cases h2 with
    | tuple u u' h =>
      have hu : u' = #[.agg #[.string t, .int .i64 a, .bool q], .int .i64 e1] := by
        obtain ⟨u'⟩ := u'
        cases h with
        | cons _ _ _ _ k1 k2 =>
          cases k2 with
          | cons _ _ _ _ k3 k4 =>
            cases k4
            cases k3
            cases k1 with
            | agg x x' k =>
              obtain ⟨x'⟩ := x'
              cases k with
              | cons _ _ _ _ j1 j2 =>
                cases j2 with
                | cons _ _ _ _ j3 j4 =>
                  cases j4 with
                  | cons _ _ _ _ j5 j6 =>
                    cases j6
                    cases j1
                    cases j3
                    cases j5
                    rfl
      rw [hu]

theorem readable_calls (s : ByteArray) (w : World) (m : Int) (hm : w.cell? ⟨0, 0, none⟩ = some (.int .i64 m)) (h0 : 0 < w.heap.size) :
    Calls Tryz.prog 31 #[.string s] w fun e w' => e = .returned (.int .i64 (readA s)) ∧ Below w.heap.size w w' := by
  refine (calls_plainQ sound0 (m := m) (by decide +kernel) (args := [.string s]) (fun μ n => .cons _ _ _ _ (.string _) .nil) (Q := fun v => v = .int .i64 (readA s)) ?_ w hm h0).mono fun e w' hh => ⟨?_, hh.2⟩
  · exact kReadable 1 s rfl
  · obtain ⟨⟨v, v', μ, n, rfl, h2, rfl⟩, _⟩ := hh
    cases h2
    rfl
end Go.Proofs.YtdmemibnphcedaaGreatDoor
end
