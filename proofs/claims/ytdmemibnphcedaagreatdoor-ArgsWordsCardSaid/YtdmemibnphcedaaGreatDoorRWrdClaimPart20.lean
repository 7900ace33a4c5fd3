/-
  Templates in plain words: pieces, items, marks. (No program in sight, but for what Split comes to.)
  Rows that grow, rows of texts; the small functions of the templates.
  The library's functions as they are called; names; pieces; marks; two items held against each other.
  Marks as ints; two items held against each other; an item as the program reads it.
  An item as the program reads it.
  An item as the chapter reads it.
  A list of items on the heap; the program's Template.
  The program's Template.
  The chapter's Template.
  Usage, by the program and by the chapter.
  Usage, by the program.
  Usage, by the chapter.
-/
import Derived.Test.YtdmemibnphcedaaGreatDoorRWrdClaimPart19
import Derived.Lib.SplitLaws
section
set_option linter.unusedSimpArgs false
set_option linter.unusedVariables false
set_option maxRecDepth 10000
namespace Go.Proofs.YtdmemibnphcedaaGreatDoor
open Go.Am

def bs (l : List UInt8) : ByteArray := ⟨l.toArray⟩
theorem bs_of (s : ByteArray) : bs s.data.toList = s := by cases s; simp [bs]
theorem bs_size (l : List UInt8) : (bs l).size = l.length := by simp [bs, ByteArray.size]
theorem size_list (s : ByteArray) : s.size = s.data.toList.length := by cases s; simp [ByteArray.size]

/-- cut at each byte c -/
def spl (c : UInt8) : List UInt8 → List (List UInt8)
  | [] => [[]]
  | x :: l => if x = c then [] :: spl c l else match spl c l with
    | p :: ps => (x :: p) :: ps
    | [] => [[x]]

def pieces (c : UInt8) (s : ByteArray) : List ByteArray := (spl c s.data.toList).map bs

/-! ### marks -/
structure Mk where
  a : Bool
  k : Bool
  s : Bool
  n : Bool
  m : Bool
  f : Bool

def Mk.none : Mk := ⟨false, false, false, false, false, false⟩
def b2i (b : Bool) (i : Int) : Int := bif b then i else 0
def Mk.int (x : Mk) : Int := b2i x.a 1 + b2i x.k 2 + b2i x.s 4 + b2i x.n 8 + b2i x.m 16 + b2i x.f 32

/-- a mark more; none: it is no mark, or is there -/
def Mk.add (x : Mk) (p : ByteArray) : Option Mk :=
  match p.data.toList with
  | [97] => if x.a then Option.none else some { x with a := true }
  | [107] => if x.k then Option.none else some { x with k := true }
  | [115] => if x.s then Option.none else some { x with s := true }
  | [110] => if x.n then Option.none else some { x with n := true }
  | [109] => if x.m then Option.none else some { x with m := true }
  | [102] => if x.f then Option.none else some { x with f := true }
  | _ => Option.none

def marksA : List ByteArray → Mk → Option Mk
  | [], x => some x
  | p :: r, x => match x.add p with
    | some y => marksA r y
    | Option.none => Option.none

/-- the marks go together -/
def Mk.fit (x : Mk) : Bool := !(x.s && (x.a || x.k || x.n || x.m || x.f)) && !(x.m && x.k) && !(x.f && (x.k || x.n || x.m))

def isNm (s : ByteArray) : Bool := decide (1 ≤ s.size) && decide (s.size ≤ 16) && s.data.toList.all fun b => decide (97 ≤ b.toNat) && decide (b.toNat ≤ 122)

structure IM where
  names : List ByteArray
  mks : Mk

def itemA (s : ByteArray) : Option IM :=
  match pieces 47 s with
  | h :: t => match marksA t Mk.none with
    | some x => if (pieces 61 h).all isNm && x.fit then some ⟨pieces 61 h, x⟩ else Option.none
    | Option.none => Option.none
  | [] => Option.none

/-- behind the last item only one may have the rest -/
def restOk : List IM → Bool
  | [] => true
  | [_] => true
  | x :: l => !x.mks.f && restOk l

def namesOf (l : List IM) : List ByteArray := l.flatMap IM.names
def manyOf (l : List IM) : Nat := (l.filter (·.mks.m)).length

def itemsA : List ByteArray → Option (List IM)
  | [] => some []
  | p :: r => match itemA p with
    | some x => (itemsA r).map (x :: ·)
    | Option.none => Option.none

def goodA (l : List IM) : Prop := restOk l = true ∧ (namesOf l).Nodup ∧ manyOf l ≤ 1

/-- a template's items (or what error there is) -/
inductive TmA (t : ByteArray) : List IM → Int → Prop where
  | nil : t = ByteArray.empty → TmA t [] 0
  | ok (l : List IM) : t ≠ ByteArray.empty → itemsA (pieces 44 t) = some l → goodA l → l.length ≤ 20 → TmA t l 0
  | long (l : List IM) : t ≠ ByteArray.empty → itemsA (pieces 44 t) = some l → goodA l → 20 < l.length → TmA t [] 2
  | bad : t ≠ ByteArray.empty → (∀ l, itemsA (pieces 44 t) = some l → ¬ goodA l) → TmA t [] 3

theorem TmA.unique {t : ByteArray} {l l' : List IM} {e e' : Int} (h : TmA t l e) (k : TmA t l' e') : l = l' ∧ e = e' := by
  cases h with
  | nil h0 => cases k with
    | nil => exact ⟨rfl, rfl⟩
    | ok _ k0 => exact (k0 h0).elim
    | long _ k0 => exact (k0 h0).elim
    | bad k0 => exact (k0 h0).elim
  | ok _ h0 h1 h2 h3 => cases k with
    | nil k0 => exact (h0 k0).elim
    | ok _ k0 k1 k2 k3 => rw [h1] at k1; cases k1; exact ⟨rfl, rfl⟩
    | long _ k0 k1 k2 k3 => rw [h1] at k1; cases k1; omega
    | bad k0 k1 => exact (k1 _ h1 h2).elim
  | long _ h0 h1 h2 h3 => cases k with
    | nil k0 => exact (h0 k0).elim
    | ok _ k0 k1 k2 k3 => rw [h1] at k1; cases k1; omega
    | long _ k0 k1 k2 k3 => exact ⟨rfl, rfl⟩
    | bad k0 k1 => exact (k1 _ h1 h2).elim
  | bad h0 h1 => cases k with
    | nil k0 => exact (h0 k0).elim
    | ok _ k0 k1 k2 k3 => exact (h1 _ k1 k2).elim
    | long _ k0 k1 k2 k3 => exact (h1 _ k1 k2).elim
    | bad k0 k1 => exact ⟨rfl, rfl⟩

/-! ### how a template is written -/
end Go.Proofs.YtdmemibnphcedaaGreatDoor
end
section
set_option linter.unusedSimpArgs false
set_option linter.unusedVariables false
set_option maxRecDepth 10000
set_option linter.unusedSectionVars false
namespace Go.Proofs.YtdmemibnphcedaaGreatDoor
open Go.Am

/-- a slice that grows: n elements, each of esz cells -/
def GroK (esz : Nat) (st : St) (v : Value) (cs : List Value) (n : Nat) : Prop :=
  (v = .slice none 0 0 ∧ cs = [] ∧ n = 0) ∨ ∃ b cap, v = .slice (some ⟨b, 0, none⟩) n cap ∧ n ≤ cap ∧ st.get b = some (.row cs esz false) ∧ cs.length = n * esz

section
variable {st st' : St} {v : Value} {cs new : List Value} {esz n : Nat}
theorem GroK.nil (esz : Nat) (st : St) : GroK esz st (.slice none 0 0) [] 0 := .inl ⟨rfl, rfl, rfl⟩
theorem GroK.keep (h : GroK esz st v cs n) (hb : ∀ i, i + 1 = ow v → st'.get i = st.get i) : GroK esz st' v cs n := by
  rcases h with h | ⟨b, cap, h1, h2, h3, h4⟩
  · exact .inl h
  · subst h1; exact .inr ⟨b, cap, rfl, h2, (hb b rfl).trans h3, h4⟩
theorem GroK.cel (h : GroK 1 st v cs n) : Cel st v cs ∧ cs.length = n := by
  rcases h with ⟨h1, h2, h3⟩ | ⟨b, cap, h1, h2, h3, h4⟩
  · subst h1 h2 h3; exact ⟨.inl ⟨rfl, rfl⟩, rfl⟩
  · rw [Nat.mul_one] at h4
    subst h1
    refine ⟨.inr (.inl ⟨b, 0, cap, cs, 1, false, by rw [h4], h3, by omega, by rw [List.drop_zero, List.take_length]⟩), h4⟩

theorem appendK {bytes sb g : Nat} {ro : Bool} (hv : GroK esz st v cs n) (hs : st.get sb = some (.row new g ro)) (hl : new.length = esz) (he : 0 < esz) (ho : new.all oneCell = true) (hb : (n + 1) * bytes ≤ 1099511627776) (hn : n + 1 ≤ 1099511627776) {W : Value → St → Prop}
    (h : ∀ st', GroK esz st' (.slice (some ⟨st.next, 0, none⟩) (n + 1) (n + 1)) (cs ++ new) (n + 1) → st'.next = st.next + 1 → (∀ i, i + 1 ≠ ow v → i < st.next → st'.get i = st.get i) → W (.slice (some ⟨st.next, 0, none⟩) (n + 1) (n + 1)) st') :
    wopK (.append esz bytes) [v, .slice (some ⟨sb, 0, none⟩) 1 1] st W := by
  have h1 : st.srcCells esz (.slice (some ⟨sb, 0, none⟩) 1 1) = some new := by
    simp only [St.srcCells, St.cells, hs, Nat.one_ne_zero, if_false]
    rw [if_pos (by show 0 + 1 * esz ≤ _; omega), List.drop_zero, List.take_of_length_le (by omega)]
  have e0 : esz ≠ 0 := by omega
  simp only [wopK, wop, appendV, srcLen, h1, Nat.one_ne_zero, if_false, ho, not_true_eq_false, or_false, e0]
  rcases hv with ⟨q1, q2, q3⟩ | ⟨b, cap, q1, q2, q3, q4⟩
  · subst q1 q2 q3
    simp only
    rw [if_pos ⟨by simpa using hb, by decide⟩]
    refine h _ (.inr ⟨st.next, 1, rfl, Nat.le_refl _, get_new_same _ _, by simpa using hl⟩) rfl fun i _ hi => get_new_ne _ _ _ (by omega)
  · subst q1
    have h3 : st.cells ⟨b, 0, none⟩ (n * esz) = some cs := by
      simp only [St.cells, q3]
      rw [if_pos (by show 0 + n * esz ≤ _; omega), List.drop_zero, List.take_of_length_le (by omega)]
    simp only [q3, h3, e0, if_false]
    rw [if_pos ⟨hb, hn⟩, if_pos ⟨trivial, trivial, Nat.zero_le _⟩]
    refine h _ (.inr ⟨st.next, n + 1, rfl, Nat.le_refl _, ?_, ?_⟩) rfl fun i hi hlt => ?_
    · exact get_new_same (st.put b none) _
    · rw [List.length_append, q4, hl, Nat.add_mul, Nat.one_mul]
    · show ((st.put b none).new _).get i = _
      rw [get_new_ne _ _ _ (by show st.next ≠ i; omega), get_put_ne _ _ _ _ (fun e => hi (by rw [← e]; rfl))]

/-- a row that is laid -/
theorem cel_row {b cap g : Nat} {ro : Bool} (h : st.get b = some (.row cs g ro)) (hn : cs.length = n) : Cel st (.slice (some ⟨b, 0, none⟩) n cap) cs :=
  .inr (.inl ⟨b, 0, cap, cs, g, ro, by rw [hn], h, by omega, by rw [List.drop_zero, List.take_length]⟩)

/-- the cells of an element -/
theorem rk_loadK {b o k g : Nat} {ro : Bool} {xs : List Value} (hb : st.get b = some (.row cs g ro)) (hx : (cs.drop o).take k = xs) (hk : xs.length = k) (hk0 : 0 < k) (K : Value → Prop) : ropK (.loadN k) [.pointer (some ⟨b, o, none⟩)] st K = K (.agg xs.toArray) := by
  have hle : o + k ≤ cs.length := by
    have := congrArg List.length hx
    rw [List.length_take, List.length_drop, hk] at this
    omega
  simp only [ropK, rop, St.cells, hb]
  rw [if_pos (by show o + k ≤ _; exact hle)]
  show K (.agg ((cs.drop o).take k).toArray) = _
  rw [hx]
theorem wk_storeK {b o k g : Nat} {xs : List Value} (hb : st.get b = some (.row cs g false)) (ho : o + k ≤ cs.length) (hk : xs.length = k) (hx : xs.all oneCell = true) (W : Value → St → Prop) : wopK (.store k) [.pointer (some ⟨b, o, none⟩), .agg xs.toArray] st W = W undef (st.put b (some (.row (lputs cs o xs) g false))) := by
  rw [wk_store, hb]
  simp only [getK, rowK, cells_agg]
  exact propext ⟨fun h => h.2.2, fun h => ⟨hk, ⟨by first | trivial | rfl, ho, hx⟩, h⟩⟩
end

section
variable {K : Value → Prop}
theorem q_indexStr (s : ByteArray) (k : IntKind) (i : Int) (h0 : 0 ≤ i) (h1 : i < (s.size : Int)) : popK .indexStr [.string s, .int k i] K = K (.int .u8 ((s.data.toList.getD i.toNat 0).toNat)) := by
  have hl : i.toNat < s.data.toList.length := by rw [← size_list]; omega
  simp only [popK, pop, if_pos h0, List.getD_eq_getElem?_getD, List.getElem?_eq_getElem hl, Option.map_some, Option.getD_some]
theorem q_slBoth (s : ByteArray) (k k' : IntKind) (a b : Int) (h0 : 0 ≤ a) (h1 : a ≤ b) (h2 : b ≤ (s.size : Int)) : popK (.slStr true true) [.string s, .int k a, .int k' b] K = K (.string (s.extract a.toNat b.toNat)) := by
  have m : max b 0 = b := by omega
  have b0 : 0 ≤ b := by omega
  simp [popK, pop, bounds, bound, b0, h2, m, h0, h1]
end
theorem extract_bs (s : ByteArray) (a b : Nat) : s.extract a b = bs ((s.data.toList.drop a).take (b - a)) := by
  rw [← Lib.extract_data, bs_of]

attribute [local irreducible] callO wopK ropK popK opK grpsE listE sx Runs

section
variable {st : St} {v u : Value} {K : Value → St → Prop} {xs : List ByteArray} {x : ByteArray}

theorem getD_str (xs : List ByteArray) (i : Nat) (h : i < xs.length) : (xs.map Value.string).getD i undef = .string (xs.getD i .empty) := by
  simp [List.getD, h]

theorem kEqStrs (n : Nat) (hu : Cel st u (xs.map Value.string)) (hv : Cel st v (xs.map Value.string)) (hl : xs.length < 90000) (h : K (.bool true) st) :
    callK (callO T0 orc fns 100000 (n + 1)) 23 [u, v] st K := by
  refine fn_runs (fn := g23) ?_ ?_ ?_
  · rfl
  · rfl
  unfold g23
  have hn := len_cel hu
  have hn2 := len_cel hv
  rw [List.length_map] at hn hn2
  simp (disch := omega) only [↓sxA, ↓wk_store, sxB, sxP, Nat.reduceLeDiff, reduceCtorEq, Nat.reduceEqDiff, Nat.reduceAdd, Int.reduceLT, Int.reduceLE, Int.reduceEq, Nat.reduceLT, Int.reduceToNat, Int.reduceAdd, Int.reduceSub, ↓reduceIte, ↓hn, ↓hn2]
  refine loop_rule [0, 1, 5] (fun vs st' => st' = st ∧ ∃ j : Nat, vs = [u, v, .int .i64 j] ∧ j ≤ xs.length) (fun vs _ => match lget vs 2 with
      | .int _ k => ((xs.length : Int) - k).toNat
      | _ => 0) ?_ ?_ ?_
  · rfl
  · refine ⟨_, rfl, ⟨rfl, 0, rfl, Nat.zero_le _⟩, ?_⟩
    show ((xs.length : Int) - 0).toNat < 100000
    omega
  · rintro vs st' ⟨rfl, j, rfl, j1⟩
    show sx _ _ _ _ _ [(0, _), (1, _), (5, _)] _ _ _ _
    by_cases hj : j < xs.length
    · have i1 := idx_cel hu
      have ld := load_cel hu
      have i2 := idx_cel hv
      have ld2 := load_cel hv
      rw [List.length_map] at i1 ld i2 ld2
      have e := getD_str xs j hj
      simp (disch := omega) only [↓sxA, ↓wk_store, sxB, sxP, Nat.reduceLeDiff, reduceCtorEq, Nat.reduceEqDiff, Nat.reduceAdd, Int.reduceLT, Int.reduceLE, Int.reduceEq, Nat.reduceLT, Int.reduceToNat, Int.reduceAdd, Int.reduceSub, ↓reduceIte, ↓hn, ↓i1, ↓ld, ↓i2, ↓ld2, Int.toNat_natCast, e]
      refine ⟨_, rfl, ⟨j + 1, ?_, hj⟩, ?_⟩
      · simp
      · show ((xs.length : Int) - ((j : Int) + 1)).toNat < ((xs.length : Int) - j).toNat
        omega
    · simp (disch := omega) only [↓sxA, ↓wk_store, sxB, sxP, Nat.reduceLeDiff, reduceCtorEq, Nat.reduceEqDiff, Nat.reduceAdd, Int.reduceLT, Int.reduceLE, Int.reduceEq, Nat.reduceLT, Int.reduceToNat, Int.reduceAdd, Int.reduceSub, ↓reduceIte, ↓hn]
      exact h

theorem kHeavy (n : Nat) (hv : Cel st v (xs.map Value.string)) (hl : xs.length < 90000) (h1 : K (.bool true) st) (h2 : (∀ x ∈ xs, x.size ≤ 1200) → K (.bool false) st) :
    callK (callO T0 orc fns 100000 (n + 1)) 9 [v] st K := by
  refine fn_runs (fn := g9) ?_ ?_ ?_
  · rfl
  · rfl
  unfold g9
  have hn := len_cel hv
  rw [List.length_map] at hn
  simp (disch := omega) only [↓sxA, ↓wk_store, sxB, sxP, Nat.reduceLeDiff, reduceCtorEq, Nat.reduceEqDiff, Nat.reduceAdd, Int.reduceLT, Int.reduceLE, Int.reduceEq, Nat.reduceLT, Int.reduceToNat, Int.reduceAdd, Int.reduceSub, ↓reduceIte]
  refine loop_rule [0, 3] (fun vs st' => st' = st ∧ ∃ j : Nat, vs = [v, .int .i64 j] ∧ j ≤ xs.length ∧ ∀ i, i < j → (xs.getD i .empty).size ≤ 1200) (fun vs _ => match lget vs 1 with
      | .int _ k => ((xs.length : Int) - k).toNat
      | _ => 0) ?_ ?_ ?_
  · rfl
  · refine ⟨_, rfl, ⟨rfl, 0, rfl, Nat.zero_le _, fun i hi => by omega⟩, ?_⟩
    show ((xs.length : Int) - 0).toNat < 100000
    omega
  · rintro vs st' ⟨rfl, j, rfl, j1, j2⟩
    show sx _ _ _ _ _ [(0, _), (3, _)] _ _ _ _
    by_cases hj : j < xs.length
    · have i1 := idx_cel hv
      have ld := load_cel hv
      rw [List.length_map] at i1 ld
      have e := getD_str xs j hj
      simp (disch := omega) only [↓sxA, ↓wk_store, sxB, sxP, Nat.reduceLeDiff, reduceCtorEq, Nat.reduceEqDiff, Nat.reduceAdd, Int.reduceLT, Int.reduceLE, Int.reduceEq, Nat.reduceLT, Int.reduceToNat, Int.reduceAdd, Int.reduceSub, ↓reduceIte, ↓hn, ↓i1, ↓ld, Int.toNat_natCast, e]
      refine iteI (fun hq => ?_) (fun hq => ?_)
      · exact h1
      · refine ⟨_, rfl, ⟨j + 1, ?_, hj, fun i hi => ?_⟩, ?_⟩
        · simp
        · by_cases e : i = j
          · rw [e]; omega
          · exact j2 i (by omega)
        · show ((xs.length : Int) - ((j : Int) + 1)).toNat < ((xs.length : Int) - j).toNat
          omega
    · simp (disch := omega) only [↓sxA, ↓wk_store, sxB, sxP, Nat.reduceLeDiff, reduceCtorEq, Nat.reduceEqDiff, Nat.reduceAdd, Int.reduceLT, Int.reduceLE, Int.reduceEq, Nat.reduceLT, Int.reduceToNat, Int.reduceAdd, Int.reduceSub, ↓reduceIte, ↓hn]
      refine h2 fun y hm => ?_
      obtain ⟨i, hi, rfl⟩ := List.getElem_of_mem hm
      have := j2 i (by omega)
      rw [List.getD_eq_getElem?_getD, List.getElem?_eq_getElem hi, Option.getD_some] at this
      exact this

end
end Go.Proofs.YtdmemibnphcedaaGreatDoor
end
section
set_option linter.unusedSimpArgs false
set_option linter.unusedVariables false
set_option maxRecDepth 10000
set_option linter.unusedSectionVars false
namespace Go.Proofs.YtdmemibnphcedaaGreatDoor
open Go.Am

/-- a row of cells, laid from its beginning; not empty -/
def Row1 (st : St) (v : Value) (cs : List Value) : Prop := ∃ b cap g ro, v = .slice (some ⟨b, 0, none⟩) cs.length cap ∧ cs.length ≤ cap ∧ 0 < cs.length ∧ st.get b = some (.row cs g ro) ∧ (g = 0 ∨ g = 1)

section
variable {st st' : St} {v : Value} {cs : List Value}
theorem Row1.cel (h : Row1 st v cs) : Cel st v cs := by
  obtain ⟨b, cap, g, ro, h1, h2, h3, h4, h5⟩ := h
  subst h1
  exact cel_row h4 rfl
theorem Row1.keep (h : Row1 st v cs) (hb : ∀ i, i + 1 = ow v → st'.get i = st.get i) : Row1 st' v cs := by
  obtain ⟨b, cap, g, ro, h1, h2, h3, h4, h5⟩ := h
  subst h1
  exact ⟨b, cap, g, ro, rfl, h2, h3, (hb b rfl).trans h4, h5⟩
end

/-! ### a trim that leaves nothing -/
def letters : ByteArray := ⟨#[97, 98, 99, 100, 101, 102, 103, 104, 105, 106, 107, 108, 109, 110, 111, 112, 113, 114, 115, 116, 117, 118, 119, 120, 121, 122]⟩

theorem orc_eq {f : FuncId} (h : f ≠ 15) (args : List Value) (st : St) : orc f args st = orc1 f args st := by
  unfold orc; rw [if_neg h]

section
variable {st : St} {K : Value → St → Prop}
theorem kAwake (n : Nat) (hm : hasMax st = true) (h : K (.bool true) st) : callK (callO T0 orc fns 100000 n) 15 [] st K := by
  rw [callO_none (by rfl)]
  have e : orc 15 [] st = .ret (.bool true, st) := by simp [orc, hm]
  exact (propext (callK_ret (K := K) e)).mpr h
end
attribute [local irreducible] callO wopK ropK popK opK grpsE listE sx Runs

section
variable {st : St} {v u : Value} {K : Value → St → Prop} {xs : List ByteArray} {x : ByteArray}

end
end Go.Proofs.YtdmemibnphcedaaGreatDoor
end
section
set_option linter.unusedSimpArgs false
set_option linter.unusedVariables false
set_option maxRecDepth 10000
set_option linter.unusedSectionVars false
namespace Go.Proofs.YtdmemibnphcedaaGreatDoor
open Go.Am

/-! ### marks as ints -/
def Mk.bit (x : Mk) : Nat → Bool
  | 0 => x.a
  | 1 => x.k
  | 2 => x.s
  | 3 => x.n
  | 4 => x.m
  | _ => x.f
def Mk.put (x : Mk) : Nat → Mk
  | 0 => { x with a := true }
  | 1 => { x with k := true }
  | 2 => { x with s := true }
  | 3 => { x with n := true }
  | 4 => { x with m := true }
  | _ => { x with f := true }
def p2 : Nat → Int
  | 0 => 1
  | 1 => 2
  | 2 => 4
  | 3 => 8
  | 4 => 16
  | _ => 32
def lt (i : Nat) : ByteArray := ⟨#[match i with | 0 => 97 | 1 => 107 | 2 => 115 | 3 => 110 | 4 => 109 | _ => 102]⟩
def order : ByteArray := ⟨#[97, 107, 115, 110, 109, 102]⟩

section
variable {K : Value → Prop}
end

/-- the cells of an item -/
def itCells (nv : Value) (x : Mk) : List Value := [nv, .bool x.a, .bool x.k, .bool x.s, .bool x.n, .bool x.m, .bool x.f]

theorem resP_k1 (e : Env) (s : St) (a b n : Nat) (Q : Value → St → Prop) : resP e s [(a, n + 2), (b, 0)] Q = getE e a fun u => ropK (.loadN n) [u] s fun x => getE e b fun v => Q (.tuple #[x, v]) s := by
  unfold resP getE ropK
  simp only [resE, res1E]
  cases e.get? a with
  | none => rfl
  | some u =>
    simp only
    cases rop (.loadN n) [u] s with
    | none => rfl
    | some x =>
      simp only
      cases e.get? b <;> rfl

attribute [local irreducible] callO wopK ropK popK opK grpsE listE sx Runs

section
variable {st : St} {v u nv : Value} {K : Value → St → Prop} {xs : List ByteArray} {x : Mk}

end
end Go.Proofs.YtdmemibnphcedaaGreatDoor
end
section
set_option linter.unusedSimpArgs false
set_option linter.unusedVariables false
set_option maxRecDepth 10000
set_option linter.unusedSectionVars false
namespace Go.Proofs.YtdmemibnphcedaaGreatDoor
open Go.Am
theorem rk_loadAll {st : St} {b k g : Nat} {ro : Bool} {cs : List Value} (hb : st.get b = some (.row cs g ro)) (hl : cs.length = k) (hk0 : 0 < k) (K : Value → Prop) : ropK (.loadN k) [.pointer (some ⟨b, 0, none⟩)] st K = K (.agg cs.toArray) :=
  rk_loadK hb (by rw [List.drop_zero, List.take_of_length_le (by omega)]) hl hk0 K

attribute [local irreducible] callO wopK ropK popK opK grpsE listE sx Runs

/-- nothing that was has turned -/
structure Frm (st st' : St) : Prop where
  nx : st.next ≤ st'.next
  old : ∀ i, i < st.next → st'.get i = st.get i
theorem Frm.refl (st : St) : Frm st st := ⟨Nat.le_refl _, fun _ _ => rfl⟩
theorem Frm.trans {s1 s2 s3 : St} (h : Frm s1 s2) (k : Frm s2 s3) : Frm s1 s3 := ⟨Nat.le_trans h.nx k.nx, fun i hi => (k.old i (Nat.lt_of_lt_of_le hi h.nx)).trans (h.old i hi)⟩
theorem Frm.new (st : St) (o : AObj) : Frm st (st.new o) := ⟨Nat.le_succ _, fun i hi => get_new_ne _ _ _ (by omega)⟩
theorem Frm.put {st s : St} (h : Frm st s) (i : Nat) (hi : st.next ≤ i) (o : Option AObj) : Frm st (s.put i o) := ⟨h.nx, fun j hj => (get_put_ne _ _ _ _ (by omega)).trans (h.old j hj)⟩
theorem Frm.max {st s : St} (h : Frm st s) (h0 : 0 < st.next) (hm : hasMax st = true) : hasMax s = true := by
  have : hasMax s = hasMax st := by unfold hasMax; rw [h.old 0 h0]
  rw [this]; exact hm

section
variable {st : St} {K : Value → St → Prop}

end
end Go.Proofs.YtdmemibnphcedaaGreatDoor
end
section
set_option linter.unusedSimpArgs false
set_option linter.unusedVariables false
set_option maxRecDepth 10000
set_option linter.unusedSectionVars false
namespace Go.Proofs.YtdmemibnphcedaaGreatDoor
open Go.Am
attribute [local irreducible] callO wopK ropK popK opK grpsE listE sx Runs

section
variable {st : St} {K : Value → St → Prop}

end
end Go.Proofs.YtdmemibnphcedaaGreatDoor
end
section
set_option linter.unusedSimpArgs false
set_option linter.unusedVariables false
set_option maxRecDepth 10000
set_option linter.unusedSectionVars false
namespace Go.Proofs.YtdmemibnphcedaaGreatDoor
open Go.Am

/-! ### lists of items, in plain words -/
/-! ### on the heap -/
def itRow : List Value → List IM → List Value
  | nv :: nvs, x :: l => itCells nv x.mks ++ itRow nvs l
  | _, _ => []
theorem itRow_snoc : ∀ (nvs : List Value) (l : List IM) (nv : Value) (x : IM), nvs.length = l.length → itRow (nvs ++ [nv]) (l ++ [x]) = itRow nvs l ++ itCells nv x.mks
  | [], [], nv, x, _ => by simp [itRow]
  | a :: nvs, y :: l, nv, x, h => by
    simp only [List.cons_append, itRow, List.append_assoc]
    rw [itRow_snoc nvs l nv x (by simpa using h)]
theorem itRow_at : ∀ (nvs : List Value) (l : List IM) (j : Nat) (nv : Value) (x : IM), nvs[j]? = some nv → l[j]? = some x → ((itRow nvs l).drop (j * 7)).take 7 = itCells nv x.mks
  | a :: nvs, y :: l, 0, nv, x, h1, h2 => by
    simp at h1 h2
    subst h1 h2
    rfl
  | a :: nvs, y :: l, j + 1, nv, x, h1, h2 => by
    simp only [itRow]
    rw [show (j + 1) * 7 = 7 + j * 7 by omega, ← List.drop_drop]
    have : List.drop 7 (itCells a y.mks ++ itRow nvs l) = itRow nvs l := rfl
    rw [this]
    exact itRow_at nvs l j nv x (by simpa using h1) (by simpa using h2)
  | [], _, j, nv, x, h1, _ => by simp at h1
  | _ :: _, [], j, nv, x, _, h2 => by simp at h2

/-- a heap holds a list of items; all of it lies from the block lo - 1 on -/
def ItR (lo : Nat) (st : St) (v : Value) (l : List IM) : Prop :=
  ∃ nvs : List Value, nvs.length = l.length ∧ GroK 7 st v (itRow nvs l) l.length ∧ (ow v = 0 ∨ lo ≤ ow v) ∧ ow v ≤ st.next ∧
    ∀ (j : Nat) (nv : Value) (x : IM), nvs[j]? = some nv → l[j]? = some x → Cel st nv (x.names.map Value.string) ∧ oneCell nv = true ∧ (ow nv = 0 ∨ (lo ≤ ow nv ∧ ow nv ≠ ow v)) ∧ ow nv ≤ st.next

theorem ItR.nil (lo : Nat) (st : St) : ItR lo st (.slice none 0 0) [] := ⟨[], rfl, GroK.nil _ _, .inl rfl, Nat.zero_le _, fun j nv x h => by simp at h⟩
theorem ItR.keep {lo : Nat} {st st' : St} {v : Value} {l : List IM} (h : ItR lo st v l) (hn : st.next ≤ st'.next) (hf : ∀ i, lo ≤ i + 1 → i < st.next → st'.get i = st.get i) : ItR lo st' v l := by
  obtain ⟨nvs, h1, h2, h3, h4, h5⟩ := h
  refine ⟨nvs, h1, h2.keep fun i hi => hf i (by omega) (by omega), h3, by omega, fun j nv x hj hx => ?_⟩
  obtain ⟨k1, k2, k3, k4⟩ := h5 j nv x hj hx
  exact ⟨k1.keep fun i hi => hf i (by omega) (by omega), k2, k3, by omega⟩
theorem ItR.len {lo : Nat} {st : St} {v : Value} {l : List IM} (h : ItR lo st v l) (K : Value → Prop) : popK .lenSl [v] K = K (.int .i64 (l.length : Nat)) := by
  obtain ⟨nvs, h1, h2, _⟩ := h
  rcases h2 with ⟨q1, q2, q3⟩ | ⟨b, cap, q1, _⟩
  · rw [q1, q3]; rfl
  · rw [q1, pk_lenSl]
theorem ItR.at {lo : Nat} {st : St} {v : Value} {l : List IM} (h : ItR lo st v l) {j : Nat} (hj : j < l.length) : ∃ (b : Nat) (nv : Value), (∀ K : Value → Prop, popK (.indexAddr 7) [v, .int .i64 (j : Int)] K = K (.pointer (some ⟨b, j * 7, none⟩))) ∧ (∀ K : Value → Prop, ropK (.loadN 7) [.pointer (some ⟨b, j * 7, none⟩)] st K = K (.agg (itCells nv l[j].mks).toArray)) ∧
    (∀ (k : Nat) (c : Value), (itCells nv l[j].mks)[k]? = some c → ∀ K : Value → Prop, ropK .load1 [.pointer (some ⟨b, j * 7 + k, none⟩)] st K = K c) ∧ Cel st nv (l[j].names.map Value.string) ∧ oneCell nv = true ∧ (ow nv = 0 ∨ lo ≤ ow nv) ∧ ow nv ≤ st.next := by
  obtain ⟨nvs, h1, h2, h3, h4, h5⟩ := h
  rcases h2 with ⟨q1, q2, q3⟩ | ⟨b, cap, q1, q2, q3, q4⟩
  · omega
  have hnv : nvs[j]? = some (nvs[j]'(by omega)) := List.getElem?_eq_getElem _
  have hx : l[j]? = some l[j] := List.getElem?_eq_getElem _
  obtain ⟨k1, k2, k3, k4⟩ := h5 j _ _ hnv hx
  have hat := itRow_at nvs l j _ _ hnv hx
  refine ⟨b, nvs[j]'(by omega), fun K => ?_, fun K => rk_loadK q3 hat rfl (by decide) K, fun k c hc K => ?_, k1, k2, by omega, k4⟩
  · rw [q1, pk_indexAddr]
    have e : (0 : Nat) + (j : Int).toNat * 7 = j * 7 := by omega
    rw [e]
    exact propext ⟨fun h => h.2, fun h => ⟨⟨by omega, by omega⟩, h⟩⟩
  · rw [rk_load1, q3]
    simp only [getK, rowK]
    refine nthK_at ?_ K
    rw [← hat] at hc
    have hk : k < 7 := by
      have := (List.getElem?_eq_some_iff.1 hc).1
      rw [List.length_take] at this
      omega
    rw [List.getElem?_take_of_lt hk, List.getElem?_drop] at hc
    exact hc
theorem ItR.snoc {lo : Nat} {st st' : St} {v v' nv : Value} {l : List IM} {x : IM} {nvs : List Value} (h1 : nvs.length = l.length) (h5 : ∀ (j : Nat) (nv : Value) (x : IM), nvs[j]? = some nv → l[j]? = some x → Cel st nv (x.names.map Value.string) ∧ oneCell nv = true ∧ (ow nv = 0 ∨ (lo ≤ ow nv ∧ ow nv ≠ ow v)) ∧ ow nv ≤ st.next)
    (hg : GroK 7 st' v' (itRow nvs l ++ itCells nv x.mks) (l.length + 1)) (hn : st.next ≤ st'.next) (hf : ∀ i, i + 1 ≠ ow v → i < st.next → st'.get i = st.get i) (hv' : lo ≤ ow v' ∧ st.next < ow v' ∧ ow v' ≤ st'.next)
    (hc : Cel st nv (x.names.map Value.string)) (ho : oneCell nv = true) (hw : ow nv = 0 ∨ (lo ≤ ow nv ∧ ow nv ≠ ow v)) (hwn : ow nv ≤ st.next) : ItR lo st' v' (l ++ [x]) := by
  refine ⟨nvs ++ [nv], by simp [h1], by rw [itRow_snoc _ _ _ _ h1, List.length_append]; exact hg, .inr hv'.1, hv'.2.2, fun j nv' x' hj hx => ?_⟩
  by_cases hjl : j < l.length
  · rw [List.getElem?_append_left (by omega)] at hj hx
    obtain ⟨k1, k2, k3, k4⟩ := h5 j nv' x' hj hx
    refine ⟨k1.keep fun i hi => hf i (by omega) (by omega), k2, by omega, by omega⟩
  · rw [List.getElem?_append_right (by omega)] at hj hx
    have e1 : j - nvs.length = 0 := by
      have := (List.getElem?_eq_some_iff.1 hj).1
      simp at this
      omega
    rw [e1] at hj
    rw [show j - l.length = 0 by omega] at hx
    simp at hj hx
    subst hj hx
    exact ⟨hc.keep fun i hi => hf i (by omega) (by omega), ho, by omega, by omega⟩

/-- the names that were seen -/
def Seen (es : List (Value × Value × Nat)) (ns : List ByteArray) : Prop := es.map (fun e => (e.1, e.2.1)) = ns.map fun n => (Value.string n, Value.bool true)

theorem Seen.snoc {es : List (Value × Value × Nat)} {ns : List ByteArray} (h : Seen es ns) (q : ByteArray) (c : Nat) : Seen (es ++ [(.string q, .bool true, c)]) (ns ++ [q]) := by
  unfold Seen at *
  rw [List.map_append, h, List.map_append]
  rfl
end Go.Proofs.YtdmemibnphcedaaGreatDoor
end
section
set_option linter.unusedSimpArgs false
set_option linter.unusedVariables false
set_option maxRecDepth 10000
set_option linter.unusedSectionVars false
namespace Go.Proofs.YtdmemibnphcedaaGreatDoor
open Go.Am
attribute [local irreducible] callO wopK ropK popK opK grpsE listE sx Runs

section
variable {st : St} {K : Value → St → Prop}

end
end Go.Proofs.YtdmemibnphcedaaGreatDoor
end
section
set_option linter.unusedSimpArgs false
set_option linter.unusedVariables false
set_option maxRecDepth 10000
set_option linter.unusedSectionVars false
namespace Go.Proofs.YtdmemibnphcedaaGreatDoor
open Go.Am
attribute [local irreducible] callO wopK ropK popK opK grpsE listE sx Runs

/-- a list of items; no part of it lies in the block a - 1 -/
def ItV (lo a : Nat) (st : St) (v : Value) (l : List IM) (nvs : List Value) : Prop :=
  nvs.length = l.length ∧ GroK 7 st v (itRow nvs l) l.length ∧ (ow v = 0 ∨ (lo ≤ ow v ∧ ow v ≠ a)) ∧ ow v ≤ st.next ∧
    ∀ (j : Nat) (nv : Value) (x : IM), nvs[j]? = some nv → l[j]? = some x → Cel st nv (x.names.map Value.string) ∧ oneCell nv = true ∧ (ow nv = 0 ∨ (lo ≤ ow nv ∧ ow nv ≠ ow v ∧ ow nv ≠ a)) ∧ ow nv ≤ st.next

theorem ItV.keep {lo a a' : Nat} {st st' : St} {v : Value} {l : List IM} {nvs : List Value} (h : ItV lo a st v l nvs) (hn : st.next ≤ st'.next) (hf : ∀ i, i + 1 ≠ a → lo ≤ i + 1 → i < st.next → st'.get i = st.get i) (ha : a' = a ∨ a' = 0 ∨ st.next < a') : ItV lo a' st' v l nvs := by
  obtain ⟨h1, h2, h3, h4, h5⟩ := h
  refine ⟨h1, h2.keep fun i hi => hf i (by omega) (by omega) (by omega), by omega, by omega, fun j nv x hj hx => ?_⟩
  obtain ⟨k1, k2, k3, k4⟩ := h5 j nv x hj hx
  exact ⟨k1.keep fun i hi => hf i (by omega) (by omega) (by omega), k2, by omega, by omega⟩

/-! ### how many names there are at most -/
section
variable {st : St} {K : Value → St → Prop}

end
end Go.Proofs.YtdmemibnphcedaaGreatDoor
end
section
set_option linter.unusedSimpArgs false
set_option linter.unusedVariables false
set_option maxRecDepth 10000
set_option linter.unusedSectionVars false
namespace Go.Proofs.YtdmemibnphcedaaGreatDoor
open Go.Am

section
variable {st : St} {v : Value} {K : Value → St → Prop} {xs : List ByteArray}
end
end Go.Proofs.YtdmemibnphcedaaGreatDoor
end
section
set_option linter.unusedSimpArgs false
set_option linter.unusedVariables false
set_option maxRecDepth 10000
set_option linter.unusedSectionVars false
namespace Go.Proofs.YtdmemibnphcedaaGreatDoor
open Go.Am

section
variable {K : Value → Prop}
end
attribute [local irreducible] callO wopK ropK popK opK grpsE listE sx Runs

section
variable {st : St} {K : Value → St → Prop}

end
end Go.Proofs.YtdmemibnphcedaaGreatDoor
end
section
set_option linter.unusedSimpArgs false
set_option linter.unusedVariables false
set_option maxRecDepth 10000
set_option linter.unusedSectionVars false
namespace Go.Proofs.YtdmemibnphcedaaGreatDoor
open Go.Am

section
variable {st st' : St} {v u : Value} {l m : List UInt8} {K : Value → Prop}
theorem append_src (hd : Gro st v l) (s1 : srcLen u = some m.length) (s2 : st.srcCells 1 u = some (m.map u8v)) (hsz : l.length + m.length ≤ 1099511627776) {W : Value → St → Prop}
    (h : ∀ v' st', Gro st' v' (l ++ m) → (ow v' = ow v ∨ (ow v' = st.next + 1 ∧ st.next + 1 ≤ st'.next)) → st.next ≤ st'.next → (∀ i, i + 1 ≠ ow v → i < st.next → st'.get i = st.get i) → W v' st') :
    wopK (.append 1 1) [v, u] st W := by
  simp only [wopK, wop, appendV, s1, s2]
  by_cases hm : m = []
  · subst hm
    simp only [List.length_nil, if_true]
    obtain ⟨a, cap, rfl⟩ := hd.bys.cap
    simp only
    refine h _ st ?_ (.inl rfl) (Nat.le_refl _) (fun _ _ _ => rfl)
    simpa using hd
  · have hm0 : m.length ≠ 0 := fun e => hm (List.eq_nil_of_length_eq_zero e)
    simp only [hm0, if_false, all_u8, Nat.one_ne_zero, not_true_eq_false, or_self]
    have fin : ∀ (st0 : St), st0.next = st.next → (∀ i, i + 1 ≠ ow v → st0.get i = st.get i) → W (.slice (some ⟨st.next, 0, none⟩) (l.length + m.length) (l.length + m.length)) (st0.new (.row (l.map u8v ++ m.map u8v) 1 false)) := by
      intro st0 e1 e2
      refine h _ _ ?_ (.inr ⟨rfl, ?_⟩) ?_ (fun i hi hlt => ?_)
      · refine .inr (.inl ⟨st.next, 0, l.length + m.length, l.map u8v ++ m.map u8v, ?_, ?_, ?_, ?_, ?_⟩)
        · simp
        · simp
        · rw [← e1, St.get_new, if_pos rfl]
        · simp
        · rw [List.map_append, List.drop_zero, List.take_of_length_le (by simp)]
      · show st.next + 1 ≤ st0.next + 1; omega
      · show st.next ≤ st0.next + 1; omega
      · rw [St.get_new, if_neg (by omega), e2 i hi]
    rcases hd with ⟨q, q'⟩ | ⟨b, o, cap, cs, q1, q2, q3, q5, q6⟩ | ⟨b, o, cs, ro, q1, q2, q3, q4⟩
    · subst q q'
      simp only
      rw [if_pos (by simp at hsz; omega)]
      have := fin st rfl (fun _ _ => rfl)
      simpa [St.grow] using this
    · subst q1
      simp only
      rw [if_pos (by omega)]
      have hc : st.cells ⟨b, o, none⟩ (l.length * 1) = some (l.map u8v) := by
        simp only [St.cells, q3, Nat.mul_one]
        rw [if_pos q5, q6]
      simp only [q3, hc, Nat.one_ne_zero, if_false, true_and]
      rw [if_pos (by omega)]
      have := fin (st.put b none) rfl (fun i hi => by rw [St.get_put, if_neg (fun e => hi (by show i + 1 = b + 1; omega))])
      simpa [St.grow] using this
    · subst q1 q2
      simp only
      rw [if_pos (by simp at hsz; omega)]
      have hc : st.cells ⟨b, o, none⟩ (0 * 1) = some [] := by
        simp only [St.cells, q3, Nat.zero_mul, Nat.add_zero, List.take_zero]
        rw [if_pos q4]
      simp only [q3, hc, if_true]
      rw [if_neg (by omega)]
      have := fin st rfl (fun _ _ => rfl)
      simpa [St.grow] using this


theorem append_str (hd : Gro st v l) (b : ByteArray) (hsz : l.length + b.size ≤ 1099511627776) {W : Value → St → Prop}
    (h : ∀ v' st', Gro st' v' (l ++ b.data.toList) → (ow v' = ow v ∨ (ow v' = st.next + 1 ∧ st.next + 1 ≤ st'.next)) → st.next ≤ st'.next → (∀ i, i + 1 ≠ ow v → i < st.next → st'.get i = st.get i) → W v' st') :
    wopK (.append 1 1) [v, .string b] st W :=
  append_src hd (by simp only [srcLen]; rw [size_list]) (by simp [St.srcCells, u8v]) (by rw [← size_list]; exact hsz) h
theorem append_row {b g n : Nat} {ro : Bool} (hd : Gro st v l) (hb : st.get b = some (.row (m.map u8v) g ro)) (hn : m.length = n) (h0 : 0 < n) (hsz : l.length + m.length ≤ 1099511627776) {W : Value → St → Prop}
    (h : ∀ v' st', Gro st' v' (l ++ m) → (ow v' = ow v ∨ (ow v' = st.next + 1 ∧ st.next + 1 ≤ st'.next)) → st.next ≤ st'.next → (∀ i, i + 1 ≠ ow v → i < st.next → st'.get i = st.get i) → W v' st') :
    wopK (.append 1 1) [v, .slice (some ⟨b, 0, none⟩) n n] st W := by
  subst hn
  refine append_src hd rfl ?_ hsz h
  simp only [St.srcCells, St.cells, hb]
  rw [if_neg (by omega), if_pos (by rw [List.length_map]; show 0 + m.length * 1 ≤ _; omega), List.drop_zero, List.take_of_length_le (by rw [List.length_map]; omega)]
theorem rk_str (h : Gro st v l) : ropK .bytesToStr [v] st K = K (.string (bs l)) := by
  rcases h with ⟨h, h'⟩ | ⟨b, o, cap, cs, q1, q2, q3, q5, q6⟩ | ⟨b, o, cs, ro, q1, q2, q3, q4⟩
  · subst h h'; rfl
  · subst q1
    simp only [ropK, rop, St.cells, q3]
    rw [if_pos q5, q6]
    simp only [Option.bind_some, u8s_map, Option.map_some]
    rfl
  · subst q1 q2
    simp only [ropK, rop, St.cells, q3]
    rw [if_pos (by show o + 0 ≤ _; omega)]
    rfl
end
attribute [local irreducible] callO wopK ropK popK opK grpsE listE sx Runs

/-- what was written so far -/
def Wr (s0 s : St) (out : Value) (L : List UInt8) : Prop := Gro s out L ∧ (ow out = 0 ∨ s0.next + 1 ≤ ow out) ∧ ow out ≤ s.next ∧ Frm s0 s

theorem Wr.row {s0 s : St} {out : Value} {L m : List UInt8} {g n : Nat} {ro : Bool} (h : Wr s0 s out L) (hn : m.length = n) (h0 : 0 < n) (hsz : L.length + m.length ≤ 1099511627776) {W : Value → St → Prop}
    (hW : ∀ out1 s1, Wr s0 s1 out1 (L ++ m) → s.next ≤ s1.next → (∀ i, i + 1 ≠ ow out → i < s.next → s1.get i = s.get i) → (ow out1 = ow out ∨ s.next < ow out1) → W out1 s1) : wopK (.append 1 1) [out, .slice (some ⟨s.next, 0, none⟩) n n] (s.new (.row (m.map u8v) g ro)) W := by
  obtain ⟨h1, h2, h3, h4⟩ := h
  have hfn := h4.nx
  refine append_row (h1.keep fun i hi => get_new_ne _ _ _ (by omega)) (get_new_same _ _) hn h0 hsz fun out1 s1 g1 g2 g3 g4 => ?_
  have g3' : s.next + 1 ≤ s1.next := g3
  have g2' : ow out1 = ow out ∨ (ow out1 = s.next + 1 + 1 ∧ s.next + 1 + 1 ≤ s1.next) := g2
  have fr : ∀ i, i + 1 ≠ ow out → i < s.next → s1.get i = s.get i := fun i hi hlt => (g4 i hi (by show i < s.next + 1; omega)).trans (get_new_ne _ _ _ (by omega))
  exact hW out1 s1 ⟨g1, by omega, by omega, ⟨by omega, fun i hi => (fr i (by omega) (by omega)).trans (h4.old i hi)⟩⟩ (by omega) fr (by omega)
theorem Wr.str {s0 s : St} {out : Value} {L : List UInt8} (h : Wr s0 s out L) (b : ByteArray) (hsz : L.length + b.size ≤ 1099511627776) {W : Value → St → Prop}
    (hW : ∀ out1 s1, Wr s0 s1 out1 (L ++ b.data.toList) → s.next ≤ s1.next → (∀ i, i + 1 ≠ ow out → i < s.next → s1.get i = s.get i) → (ow out1 = ow out ∨ s.next < ow out1) → W out1 s1) : wopK (.append 1 1) [out, .string b] s W := by
  obtain ⟨h1, h2, h3, h4⟩ := h
  have hfn := h4.nx
  refine append_str h1 b hsz fun out1 s1 g1 g2 g3 g4 => ?_
  exact hW out1 s1 ⟨g1, by omega, by omega, ⟨by omega, fun i hi => (g4 i (by omega) (by omega)).trans (h4.old i hi)⟩⟩ g3 g4 (by omega)

section
variable {st : St} {K : Value → St → Prop}

end
end Go.Proofs.YtdmemibnphcedaaGreatDoor
end
