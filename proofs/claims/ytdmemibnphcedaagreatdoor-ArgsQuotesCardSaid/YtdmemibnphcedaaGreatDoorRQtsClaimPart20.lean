/-
  Templates in plain words: pieces, items, marks. (No program in sight, but for what Split comes to.)
  Rows that grow, rows of texts; the small functions of the templates.
  The library's functions as they are called; names; pieces; marks; two items held against each other.
  Marks as ints; two items held against each other; an item as the program reads it.
  An item as the program reads it.
  An item as the chapter reads it.
  A list of items on the heap; the program's Template.
  The program's Template.
  The chapter's Template.
  Usage, by the program and by the chapter.
  Usage, by the program.
  Usage, by the chapter.
-/
import Derived.Test.YtdmemibnphcedaaGreatDoorRQtsClaimPart19
import Derived.Lib.SplitLaws
section
set_option linter.unusedSimpArgs false
set_option linter.unusedVariables false
set_option maxRecDepth 10000
namespace Go.Proofs.YtdmemibnphcedaaGreatDoor
open Go.Am

def bs (l : List UInt8) : ByteArray := ⟨l.toArray⟩
theorem bs_list (l : List UInt8) : (bs l).data.toList = l := by simp [bs]
theorem bs_of (s : ByteArray) : bs s.data.toList = s := by cases s; simp [bs]
theorem bs_size (l : List UInt8) : (bs l).size = l.length := by simp [bs, ByteArray.size]
theorem bs_inj {l m : List UInt8} (h : bs l = bs m) : l = m := by rw [← bs_list l, h, bs_list]
theorem size_list (s : ByteArray) : s.size = s.data.toList.length := by cases s; simp [ByteArray.size]

/-- cut at each byte c -/
def spl (c : UInt8) : List UInt8 → List (List UInt8)
  | [] => [[]]
  | x :: l => if x = c then [] :: spl c l else match spl c l with
    | p :: ps => (x :: p) :: ps
    | [] => [[x]]

theorem spl_ne (c : UInt8) : ∀ l, spl c l ≠ []
  | [] => by simp [spl]
  | x :: l => by
    simp only [spl]
    split
    · simp
    · split <;> simp
theorem spl_none {c : UInt8} : ∀ {l : List UInt8}, c ∉ l → spl c l = [l]
  | [], _ => rfl
  | x :: l, h => by
    simp only [List.mem_cons, not_or] at h
    simp only [spl]
    rw [if_neg (fun e => h.1 e.symm), spl_none h.2]
theorem spl_hit {c : UInt8} (r : List UInt8) : ∀ {p : List UInt8}, c ∉ p → spl c (p ++ c :: r) = p :: spl c r
  | [], _ => by simp [spl]
  | x :: p, h => by
    simp only [List.mem_cons, not_or] at h
    simp only [List.cons_append, spl]
    rw [if_neg (fun e => h.1 e.symm), spl_hit r h.2]
theorem spl_length (c : UInt8) : ∀ l, (spl c l).length = l.count c + 1
  | [] => rfl
  | x :: l => by
    have ih := spl_length c l
    have hne := spl_ne c l
    simp only [spl]
    split
    · rename_i h; subst h; simp [ih]
    · rename_i h
      rw [List.count_cons_of_ne h]
      split
      · rename_i p ps hp; rw [hp] at ih; simpa using ih
      · rename_i hp; exact (hne hp).elim
theorem spl_le (c : UInt8) : ∀ (l : List UInt8) p, p ∈ spl c l → p.length ≤ l.length
  | [], p, h => by simp [spl] at h; subst h; simp
  | x :: l, p, h => by
    have ih := spl_le c l
    simp only [spl] at h
    split at h
    · rcases List.mem_cons.1 h with rfl | h
      · simp
      · have := ih p h; simp; omega
    · split at h
      · rename_i q qs hq
        rw [hq] at ih
        rcases List.mem_cons.1 h with rfl | h
        · have := ih q (by simp); simpa using this
        · have := ih p (by simp [h]); simp; omega
      · rename_i hq; exact (spl_ne c l hq).elim

theorem cut_at {c : UInt8} : ∀ {l : List UInt8}, c ∈ l → ∃ p r, l = p ++ c :: r ∧ c ∉ p
  | x :: l, h => by
    by_cases hx : x = c
    · subst hx; exact ⟨[], l, rfl, by simp⟩
    · rcases List.mem_cons.1 h with h | h
      · exact (hx h.symm).elim
      · obtain ⟨p, r, e, hp⟩ := cut_at h
        exact ⟨x :: p, r, by rw [e]; rfl, by simp only [List.mem_cons, not_or]; exact ⟨fun e => hx e.symm, hp⟩⟩

theorem indexByte_hit (c : UInt8) (r : List UInt8) : ∀ p : List UInt8, c ∉ p → Lib.indexByte (p ++ c :: r) c = (p.length : Int)
  | [], _ => by simp [Lib.indexByte]
  | x :: p, h => by
    simp only [List.mem_cons, not_or] at h
    have e : (x == c) = false := beq_eq_false_iff_ne.2 fun e => h.1 e.symm
    simp only [List.cons_append, Lib.indexByte, e, Bool.false_eq_true, if_false, indexByte_hit c r p h.2, List.length_cons]
    rw [if_neg (by rw [beq_iff_eq]; omega)]
    omega
theorem splitK_spl (c : UInt8) : ∀ (k : Nat) (l : List UInt8), l.count c = k → Lib.splitK [c] 0 k l = spl c l
  | 0, l, h => (spl_none (List.count_eq_zero.1 h)).symm
  | k + 1, l, h => by
    have hm : c ∈ l := List.count_pos_iff.1 (by omega)
    obtain ⟨p, r, rfl, hp⟩ := cut_at hm
    have hr : r.count c = k := by
      rw [List.count_append, List.count_cons_self, List.count_eq_zero.2 hp] at h
      omega
    have hd : List.drop (p.length + [c].length) (p ++ c :: r) = r := by
      rw [← List.drop_drop, List.drop_left' rfl]; rfl
    have ht : List.take (p.length + 0) (p ++ c :: r) = p := by simp
    simp only [Lib.splitK, Lib.index_one, indexByte_hit c r p hp]
    rw [if_neg (by rw [beq_iff_eq]; omega), spl_hit r hp, Int.toNat_natCast, hd, ht, splitK_spl c k r hr]

def pieces (c : UInt8) (s : ByteArray) : List ByteArray := (spl c s.data.toList).map bs

theorem split_pieces (c : UInt8) (s : ByteArray) : splitV s ⟨#[c]⟩ = (pieces c s).map Value.string := by
  have h : (Lib.splitB ⟨#[c]⟩ 0 (Lib.countB s ⟨#[c]⟩) s).map (·.data.toList) = spl c s.data.toList := by
    rw [Lib.splitB_data]
    exact splitK_spl c _ _ (Lib.count_one c s.data.toList).symm
  unfold splitV pieces
  rw [← h, List.map_map, List.map_map]
  refine List.map_congr_left fun x _ => ?_
  simp [bs_of]

theorem pieces_ne (c : UInt8) (s : ByteArray) : pieces c s ≠ [] := by simp [pieces, spl_ne]
theorem pieces_length (c : UInt8) (s : ByteArray) : (pieces c s).length ≤ s.size + 1 := by
  rw [pieces, List.length_map, spl_length, size_list]
  have := List.count_le_length (a := c) (l := s.data.toList)
  omega
theorem pieces_size {c : UInt8} {s p : ByteArray} (h : p ∈ pieces c s) : p.size ≤ s.size := by
  obtain ⟨l, hl, rfl⟩ := List.mem_map.1 h
  rw [bs_size, size_list]
  exact spl_le c _ l hl

/-! ### marks -/
structure Mk where
  a : Bool
  k : Bool
  s : Bool
  n : Bool
  m : Bool
  f : Bool

def Mk.none : Mk := ⟨false, false, false, false, false, false⟩
def b2i (b : Bool) (i : Int) : Int := bif b then i else 0
def Mk.int (x : Mk) : Int := b2i x.a 1 + b2i x.k 2 + b2i x.s 4 + b2i x.n 8 + b2i x.m 16 + b2i x.f 32

/-- a mark more; none: it is no mark, or is there -/
def Mk.add (x : Mk) (p : ByteArray) : Option Mk :=
  match p.data.toList with
  | [97] => if x.a then Option.none else some { x with a := true }
  | [107] => if x.k then Option.none else some { x with k := true }
  | [115] => if x.s then Option.none else some { x with s := true }
  | [110] => if x.n then Option.none else some { x with n := true }
  | [109] => if x.m then Option.none else some { x with m := true }
  | [102] => if x.f then Option.none else some { x with f := true }
  | _ => Option.none

def marksA : List ByteArray → Mk → Option Mk
  | [], x => some x
  | p :: r, x => match x.add p with
    | some y => marksA r y
    | Option.none => Option.none

/-- the marks go together -/
def Mk.fit (x : Mk) : Bool := !(x.s && (x.a || x.k || x.n || x.m || x.f)) && !(x.m && x.k) && !(x.f && (x.k || x.n || x.m))

def isNm (s : ByteArray) : Bool := decide (1 ≤ s.size) && decide (s.size ≤ 16) && s.data.toList.all fun b => decide (97 ≤ b.toNat) && decide (b.toNat ≤ 122)

structure IM where
  names : List ByteArray
  mks : Mk

def itemA (s : ByteArray) : Option IM :=
  match pieces 47 s with
  | h :: t => match marksA t Mk.none with
    | some x => if (pieces 61 h).all isNm && x.fit then some ⟨pieces 61 h, x⟩ else Option.none
    | Option.none => Option.none
  | [] => Option.none

/-- behind the last item only one may have the rest -/
def restOk : List IM → Bool
  | [] => true
  | [_] => true
  | x :: l => !x.mks.f && restOk l

def namesOf (l : List IM) : List ByteArray := l.flatMap IM.names
def manyOf (l : List IM) : Nat := (l.filter (·.mks.m)).length

def itemsA : List ByteArray → Option (List IM)
  | [] => some []
  | p :: r => match itemA p with
    | some x => (itemsA r).map (x :: ·)
    | Option.none => Option.none

def goodA (l : List IM) : Prop := restOk l = true ∧ (namesOf l).Nodup ∧ manyOf l ≤ 1

/-- a template's items (or what error there is) -/
inductive TmA (t : ByteArray) : List IM → Int → Prop where
  | nil : t = ByteArray.empty → TmA t [] 0
  | ok (l : List IM) : t ≠ ByteArray.empty → itemsA (pieces 44 t) = some l → goodA l → l.length ≤ 20 → TmA t l 0
  | long (l : List IM) : t ≠ ByteArray.empty → itemsA (pieces 44 t) = some l → goodA l → 20 < l.length → TmA t [] 2
  | bad : t ≠ ByteArray.empty → (∀ l, itemsA (pieces 44 t) = some l → ¬ goodA l) → TmA t [] 3

theorem TmA.unique {t : ByteArray} {l l' : List IM} {e e' : Int} (h : TmA t l e) (k : TmA t l' e') : l = l' ∧ e = e' := by
  cases h with
  | nil h0 => cases k with
    | nil => exact ⟨rfl, rfl⟩
    | ok _ k0 => exact (k0 h0).elim
    | long _ k0 => exact (k0 h0).elim
    | bad k0 => exact (k0 h0).elim
  | ok _ h0 h1 h2 h3 => cases k with
    | nil k0 => exact (h0 k0).elim
    | ok _ k0 k1 k2 k3 => rw [h1] at k1; cases k1; exact ⟨rfl, rfl⟩
    | long _ k0 k1 k2 k3 => rw [h1] at k1; cases k1; omega
    | bad k0 k1 => exact (k1 _ h1 h2).elim
  | long _ h0 h1 h2 h3 => cases k with
    | nil k0 => exact (h0 k0).elim
    | ok _ k0 k1 k2 k3 => rw [h1] at k1; cases k1; omega
    | long _ k0 k1 k2 k3 => exact ⟨rfl, rfl⟩
    | bad k0 k1 => exact (k1 _ h1 h2).elim
  | bad h0 h1 => cases k with
    | nil k0 => exact (h0 k0).elim
    | ok _ k0 k1 k2 k3 => exact (h1 _ k1 k2).elim
    | long _ k0 k1 k2 k3 => exact (h1 _ k1 k2).elim
    | bad k0 k1 => exact ⟨rfl, rfl⟩

/-! ### how a template is written -/
def mkText (x : Mk) : List UInt8 :=
  (bif x.a then [47, 97] else []) ++ (bif x.k then [47, 107] else []) ++ (bif x.s then [47, 115] else []) ++ (bif x.n then [47, 110] else []) ++ (bif x.m then [47, 109] else []) ++ (bif x.f then [47, 102] else [])
def itText (x : IM) : List UInt8 := Lib.join (x.names.map (·.data.toList)) [61] ++ mkText x.mks
def usText (l : List IM) : List UInt8 := Lib.join (l.map itText) [44]
end Go.Proofs.YtdmemibnphcedaaGreatDoor
end
section
set_option linter.unusedSimpArgs false
set_option linter.unusedVariables false
set_option maxRecDepth 10000
set_option linter.unusedSectionVars false
namespace Go.Proofs.YtdmemibnphcedaaGreatDoor
open Go.Am

/-- a slice that grows: n elements, each of esz cells -/
def GroK (esz : Nat) (st : St) (v : Value) (cs : List Value) (n : Nat) : Prop :=
  (v = .slice none 0 0 ∧ cs = [] ∧ n = 0) ∨ ∃ b cap, v = .slice (some ⟨b, 0, none⟩) n cap ∧ n ≤ cap ∧ st.get b = some (.row cs esz false) ∧ cs.length = n * esz

section
variable {st st' : St} {v : Value} {cs new : List Value} {esz n : Nat}
theorem GroK.nil (esz : Nat) (st : St) : GroK esz st (.slice none 0 0) [] 0 := .inl ⟨rfl, rfl, rfl⟩
theorem GroK.keep (h : GroK esz st v cs n) (hb : ∀ i, i + 1 = ow v → st'.get i = st.get i) : GroK esz st' v cs n := by
  rcases h with h | ⟨b, cap, h1, h2, h3, h4⟩
  · exact .inl h
  · subst h1; exact .inr ⟨b, cap, rfl, h2, (hb b rfl).trans h3, h4⟩
theorem GroK.cel (h : GroK 1 st v cs n) : Cel st v cs ∧ cs.length = n := by
  rcases h with ⟨h1, h2, h3⟩ | ⟨b, cap, h1, h2, h3, h4⟩
  · subst h1 h2 h3; exact ⟨.inl ⟨rfl, rfl⟩, rfl⟩
  · rw [Nat.mul_one] at h4
    subst h1
    refine ⟨.inr (.inl ⟨b, 0, cap, cs, 1, false, by rw [h4], h3, by omega, by rw [List.drop_zero, List.take_length]⟩), h4⟩

theorem appendK {bytes sb g : Nat} {ro : Bool} (hv : GroK esz st v cs n) (hs : st.get sb = some (.row new g ro)) (hl : new.length = esz) (he : 0 < esz) (ho : new.all oneCell = true) (hb : (n + 1) * bytes ≤ 1099511627776) (hn : n + 1 ≤ 1099511627776) {W : Value → St → Prop}
    (h : ∀ st', GroK esz st' (.slice (some ⟨st.next, 0, none⟩) (n + 1) (n + 1)) (cs ++ new) (n + 1) → st'.next = st.next + 1 → (∀ i, i + 1 ≠ ow v → i < st.next → st'.get i = st.get i) → W (.slice (some ⟨st.next, 0, none⟩) (n + 1) (n + 1)) st') :
    wopK (.append esz bytes) [v, .slice (some ⟨sb, 0, none⟩) 1 1] st W := by
  have h1 : st.srcCells esz (.slice (some ⟨sb, 0, none⟩) 1 1) = some new := by
    simp only [St.srcCells, St.cells, hs, Nat.one_ne_zero, if_false]
    rw [if_pos (by show 0 + 1 * esz ≤ _; omega), List.drop_zero, List.take_of_length_le (by omega)]
  have e0 : esz ≠ 0 := by omega
  simp only [wopK, wop, appendV, srcLen, h1, Nat.one_ne_zero, if_false, ho, not_true_eq_false, or_false, e0]
  rcases hv with ⟨q1, q2, q3⟩ | ⟨b, cap, q1, q2, q3, q4⟩
  · subst q1 q2 q3
    simp only
    rw [if_pos ⟨by simpa using hb, by decide⟩]
    refine h _ (.inr ⟨st.next, 1, rfl, Nat.le_refl _, get_new_same _ _, by simpa using hl⟩) rfl fun i _ hi => get_new_ne _ _ _ (by omega)
  · subst q1
    have h3 : st.cells ⟨b, 0, none⟩ (n * esz) = some cs := by
      simp only [St.cells, q3]
      rw [if_pos (by show 0 + n * esz ≤ _; omega), List.drop_zero, List.take_of_length_le (by omega)]
    simp only [q3, h3, e0, if_false]
    rw [if_pos ⟨hb, hn⟩, if_pos ⟨trivial, trivial, Nat.zero_le _⟩]
    refine h _ (.inr ⟨st.next, n + 1, rfl, Nat.le_refl _, ?_, ?_⟩) rfl fun i hi hlt => ?_
    · exact get_new_same (st.put b none) _
    · rw [List.length_append, q4, hl, Nat.add_mul, Nat.one_mul]
    · show ((st.put b none).new _).get i = _
      rw [get_new_ne _ _ _ (by show st.next ≠ i; omega), get_put_ne _ _ _ _ (fun e => hi (by rw [← e]; rfl))]

/-- a row that is laid -/
theorem cel_row {b cap g : Nat} {ro : Bool} (h : st.get b = some (.row cs g ro)) (hn : cs.length = n) : Cel st (.slice (some ⟨b, 0, none⟩) n cap) cs :=
  .inr (.inl ⟨b, 0, cap, cs, g, ro, by rw [hn], h, by omega, by rw [List.drop_zero, List.take_length]⟩)

/-- the cells of an element -/
theorem rk_loadK {b o k g : Nat} {ro : Bool} {xs : List Value} (hb : st.get b = some (.row cs g ro)) (hx : (cs.drop o).take k = xs) (hk : xs.length = k) (hk0 : 0 < k) (K : Value → Prop) : ropK (.loadN k) [.pointer (some ⟨b, o, none⟩)] st K = K (.agg xs.toArray) := by
  have hle : o + k ≤ cs.length := by
    have := congrArg List.length hx
    rw [List.length_take, List.length_drop, hk] at this
    omega
  simp only [ropK, rop, St.cells, hb]
  rw [if_pos (by show o + k ≤ _; exact hle)]
  show K (.agg ((cs.drop o).take k).toArray) = _
  rw [hx]
theorem wk_storeK {b o k g : Nat} {xs : List Value} (hb : st.get b = some (.row cs g false)) (ho : o + k ≤ cs.length) (hk : xs.length = k) (hx : xs.all oneCell = true) (W : Value → St → Prop) : wopK (.store k) [.pointer (some ⟨b, o, none⟩), .agg xs.toArray] st W = W undef (st.put b (some (.row (lputs cs o xs) g false))) := by
  rw [wk_store, hb]
  simp only [getK, rowK, cells_agg]
  exact propext ⟨fun h => h.2.2, fun h => ⟨hk, ⟨by first | trivial | rfl, ho, hx⟩, h⟩⟩
end

section
variable {K : Value → Prop}
theorem q_indexStr (s : ByteArray) (k : IntKind) (i : Int) (h0 : 0 ≤ i) (h1 : i < (s.size : Int)) : popK .indexStr [.string s, .int k i] K = K (.int .u8 ((s.data.toList.getD i.toNat 0).toNat)) := by
  have hl : i.toNat < s.data.toList.length := by rw [← size_list]; omega
  simp only [popK, pop, if_pos h0, List.getD_eq_getElem?_getD, List.getElem?_eq_getElem hl, Option.map_some, Option.getD_some]
theorem q_slBoth (s : ByteArray) (k k' : IntKind) (a b : Int) (h0 : 0 ≤ a) (h1 : a ≤ b) (h2 : b ≤ (s.size : Int)) : popK (.slStr true true) [.string s, .int k a, .int k' b] K = K (.string (s.extract a.toNat b.toNat)) := by
  have m : max b 0 = b := by omega
  have b0 : 0 ≤ b := by omega
  simp [popK, pop, bounds, bound, b0, h2, m, h0, h1]
end
theorem extract_bs (s : ByteArray) (a b : Nat) : s.extract a b = bs ((s.data.toList.drop a).take (b - a)) := by
  rw [← Lib.extract_data, bs_of]

attribute [local irreducible] callO wopK ropK popK opK grpsE listE sx Runs

section
variable {st : St} {v u : Value} {K : Value → St → Prop} {xs : List ByteArray} {x : ByteArray}

theorem getD_str (xs : List ByteArray) (i : Nat) (h : i < xs.length) : (xs.map Value.string).getD i undef = .string (xs.getD i .empty) := by
  simp [List.getD, h]

theorem kEqStrs (n : Nat) (hu : Cel st u (xs.map Value.string)) (hv : Cel st v (xs.map Value.string)) (hl : xs.length < 90000) (h : K (.bool true) st) :
    callK (callO T0 orc fns 100000 (n + 1)) 23 [u, v] st K := by
  refine fn_runs (fn := g23) ?_ ?_ ?_
  · rfl
  · rfl
  unfold g23
  have hn := len_cel hu
  have hn2 := len_cel hv
  rw [List.length_map] at hn hn2
  simp (disch := omega) only [↓sxA, ↓wk_store, sxB, sxP, Nat.reduceLeDiff, reduceCtorEq, Nat.reduceEqDiff, Nat.reduceAdd, Int.reduceLT, Int.reduceLE, Int.reduceEq, Nat.reduceLT, Int.reduceToNat, Int.reduceAdd, Int.reduceSub, ↓reduceIte, ↓hn, ↓hn2]
  refine loop_rule [0, 1, 5] (fun vs st' => st' = st ∧ ∃ j : Nat, vs = [u, v, .int .i64 j] ∧ j ≤ xs.length) (fun vs _ => match lget vs 2 with
      | .int _ k => ((xs.length : Int) - k).toNat
      | _ => 0) ?_ ?_ ?_
  · rfl
  · refine ⟨_, rfl, ⟨rfl, 0, rfl, Nat.zero_le _⟩, ?_⟩
    show ((xs.length : Int) - 0).toNat < 100000
    omega
  · rintro vs st' ⟨rfl, j, rfl, j1⟩
    show sx _ _ _ _ _ [(0, _), (1, _), (5, _)] _ _ _ _
    by_cases hj : j < xs.length
    · have i1 := idx_cel hu
      have ld := load_cel hu
      have i2 := idx_cel hv
      have ld2 := load_cel hv
      rw [List.length_map] at i1 ld i2 ld2
      have e := getD_str xs j hj
      simp (disch := omega) only [↓sxA, ↓wk_store, sxB, sxP, Nat.reduceLeDiff, reduceCtorEq, Nat.reduceEqDiff, Nat.reduceAdd, Int.reduceLT, Int.reduceLE, Int.reduceEq, Nat.reduceLT, Int.reduceToNat, Int.reduceAdd, Int.reduceSub, ↓reduceIte, ↓hn, ↓i1, ↓ld, ↓i2, ↓ld2, Int.toNat_natCast, e]
      refine ⟨_, rfl, ⟨j + 1, ?_, hj⟩, ?_⟩
      · simp
      · show ((xs.length : Int) - ((j : Int) + 1)).toNat < ((xs.length : Int) - j).toNat
        omega
    · simp (disch := omega) only [↓sxA, ↓wk_store, sxB, sxP, Nat.reduceLeDiff, reduceCtorEq, Nat.reduceEqDiff, Nat.reduceAdd, Int.reduceLT, Int.reduceLE, Int.reduceEq, Nat.reduceLT, Int.reduceToNat, Int.reduceAdd, Int.reduceSub, ↓reduceIte, ↓hn]
      exact h

theorem kHeavy (n : Nat) (hv : Cel st v (xs.map Value.string)) (hl : xs.length < 90000) (h1 : K (.bool true) st) (h2 : (∀ x ∈ xs, x.size ≤ 1200) → K (.bool false) st) :
    callK (callO T0 orc fns 100000 (n + 1)) 9 [v] st K := by
  refine fn_runs (fn := g9) ?_ ?_ ?_
  · rfl
  · rfl
  unfold g9
  have hn := len_cel hv
  rw [List.length_map] at hn
  simp (disch := omega) only [↓sxA, ↓wk_store, sxB, sxP, Nat.reduceLeDiff, reduceCtorEq, Nat.reduceEqDiff, Nat.reduceAdd, Int.reduceLT, Int.reduceLE, Int.reduceEq, Nat.reduceLT, Int.reduceToNat, Int.reduceAdd, Int.reduceSub, ↓reduceIte]
  refine loop_rule [0, 3] (fun vs st' => st' = st ∧ ∃ j : Nat, vs = [v, .int .i64 j] ∧ j ≤ xs.length ∧ ∀ i, i < j → (xs.getD i .empty).size ≤ 1200) (fun vs _ => match lget vs 1 with
      | .int _ k => ((xs.length : Int) - k).toNat
      | _ => 0) ?_ ?_ ?_
  · rfl
  · refine ⟨_, rfl, ⟨rfl, 0, rfl, Nat.zero_le _, fun i hi => by omega⟩, ?_⟩
    show ((xs.length : Int) - 0).toNat < 100000
    omega
  · rintro vs st' ⟨rfl, j, rfl, j1, j2⟩
    show sx _ _ _ _ _ [(0, _), (3, _)] _ _ _ _
    by_cases hj : j < xs.length
    · have i1 := idx_cel hv
      have ld := load_cel hv
      rw [List.length_map] at i1 ld
      have e := getD_str xs j hj
      simp (disch := omega) only [↓sxA, ↓wk_store, sxB, sxP, Nat.reduceLeDiff, reduceCtorEq, Nat.reduceEqDiff, Nat.reduceAdd, Int.reduceLT, Int.reduceLE, Int.reduceEq, Nat.reduceLT, Int.reduceToNat, Int.reduceAdd, Int.reduceSub, ↓reduceIte, ↓hn, ↓i1, ↓ld, Int.toNat_natCast, e]
      refine iteI (fun hq => ?_) (fun hq => ?_)
      · exact h1
      · refine ⟨_, rfl, ⟨j + 1, ?_, hj, fun i hi => ?_⟩, ?_⟩
        · simp
        · by_cases e : i = j
          · rw [e]; omega
          · exact j2 i (by omega)
        · show ((xs.length : Int) - ((j : Int) + 1)).toNat < ((xs.length : Int) - j).toNat
          omega
    · simp (disch := omega) only [↓sxA, ↓wk_store, sxB, sxP, Nat.reduceLeDiff, reduceCtorEq, Nat.reduceEqDiff, Nat.reduceAdd, Int.reduceLT, Int.reduceLE, Int.reduceEq, Nat.reduceLT, Int.reduceToNat, Int.reduceAdd, Int.reduceSub, ↓reduceIte, ↓hn]
      refine h2 fun y hm => ?_
      obtain ⟨i, hi, rfl⟩ := List.getElem_of_mem hm
      have := j2 i (by omega)
      rw [List.getD_eq_getElem?_getD, List.getElem?_eq_getElem hi, Option.getD_some] at this
      exact this

end
end Go.Proofs.YtdmemibnphcedaaGreatDoor
end
section
set_option linter.unusedSimpArgs false
set_option linter.unusedVariables false
set_option maxRecDepth 10000
set_option linter.unusedSectionVars false
namespace Go.Proofs.YtdmemibnphcedaaGreatDoor
open Go.Am

/-- a row of cells, laid from its beginning; not empty -/
def Row1 (st : St) (v : Value) (cs : List Value) : Prop := ∃ b cap g ro, v = .slice (some ⟨b, 0, none⟩) cs.length cap ∧ cs.length ≤ cap ∧ 0 < cs.length ∧ st.get b = some (.row cs g ro) ∧ (g = 0 ∨ g = 1)

section
variable {st st' : St} {v : Value} {cs : List Value}
theorem Row1.cel (h : Row1 st v cs) : Cel st v cs := by
  obtain ⟨b, cap, g, ro, h1, h2, h3, h4, h5⟩ := h
  subst h1
  exact cel_row h4 rfl
theorem Row1.keep (h : Row1 st v cs) (hb : ∀ i, i + 1 = ow v → st'.get i = st.get i) : Row1 st' v cs := by
  obtain ⟨b, cap, g, ro, h1, h2, h3, h4, h5⟩ := h
  subst h1
  exact ⟨b, cap, g, ro, rfl, h2, h3, (hb b rfl).trans h4, h5⟩
theorem sllo_row1 (h : Row1 st v cs) (k : IntKind) (n : Int) (K : Value → Prop) (h0 : 0 ≤ n) (h1 : n ≤ (cs.length : Int)) : ropK (.sl 1 true false) [v, .int k n] st K = K (blo v n.toNat) := by
  obtain ⟨b, cap, g, ro, q1, q2, q3, q4, q5⟩ := h
  subst q1
  have hb : bound 0 cs.length (.int k n) = some n.toNat := by simp only [bound]; rw [if_pos ⟨by simpa using h0, by omega⟩]
  have hc : cap ≠ 0 := by omega
  simp only [ropK, rop, q4, bounds, hb, Option.map_some, blo, hc, if_false]
  rw [if_pos q5]
theorem sllo_cel1 (h : Row1 st v cs) (n : Nat) (h1 : n ≤ cs.length) : Cel st (blo v n) (cs.drop n) := by
  obtain ⟨b, cap, g, ro, q1, q2, q3, q4, q5⟩ := h
  subst q1
  by_cases hc : cap = n
  · have e : cs.drop n = [] := List.drop_eq_nil_of_le (by omega)
    rw [e]
    refine .inr (.inl ⟨b, 0, cap - n, cs, g, ro, ?_, q4, by simp, rfl⟩)
    simp only [blo, hc, if_true, List.length_nil]
    congr 1
    omega
  · by_cases hn : n = 0
    · subst hn
      refine .inr (.inl ⟨b, 0, cap, cs, g, ro, ?_, q4, by simp, by simp⟩)
      simp [blo, hc, addA]
    · refine .inr (.inl ⟨b, n, cap - n, cs, g, ro, ?_, q4, by rw [List.length_drop]; omega, by rw [List.take_of_length_le (by rw [List.length_drop]; omega)]⟩)
      simp [blo, hc, addA, hn]

end

/-! ### a trim that leaves nothing -/
theorem dropWhile_nil {α : Type} {p : α → Bool} : ∀ {l : List α}, l.dropWhile p = [] ↔ ∀ x ∈ l, p x = true
  | [] => by simp
  | x :: l => by
    rw [List.dropWhile_cons]
    by_cases h : p x = true
    · rw [if_pos h, dropWhile_nil]; simp [h]
    · rw [if_neg h]; simp [h]

theorem dropWhile_head {α : Type} {p : α → Bool} : ∀ {l : List α} {x : α} {r : List α}, l.dropWhile p = x :: r → p x = false
  | [], _, _, h => by simp at h
  | y :: l, x, r, h => by
    rw [List.dropWhile_cons] at h
    by_cases hy : p y = true
    · rw [if_pos hy] at h; exact dropWhile_head h
    · rw [if_neg hy] at h; cases h; simpa using hy

theorem trimS_nil (l cs : List UInt8) : Lib.trimS l cs = [] ↔ ∀ b ∈ l, cs.contains b = true := by
  unfold Lib.trimS Lib.trimLeftS Lib.trimRightS
  rw [dropWhile_nil]
  constructor
  · intro h
    have h0 : l.reverse.dropWhile (cs.contains ·) = [] := by
      cases hd : l.reverse.dropWhile (cs.contains ·) with
      | nil => rfl
      | cons x r =>
        have h1 := dropWhile_head hd
        have h2 := h x (by rw [hd]; simp)
        rw [h1] at h2
        cases h2
    have := dropWhile_nil.1 h0
    exact fun b hb => this b (by simpa using hb)
  · intro h
    have h0 : l.reverse.dropWhile (cs.contains ·) = [] := dropWhile_nil.2 fun b hb => h b (by simpa using hb)
    rw [h0]
    simp

def letters : ByteArray := ⟨#[97, 98, 99, 100, 101, 102, 103, 104, 105, 106, 107, 108, 109, 110, 111, 112, 113, 114, 115, 116, 117, 118, 119, 120, 121, 122]⟩

theorem letters_has (b : UInt8) : letters.data.toList.contains b = (decide (97 ≤ b.toNat) && decide (b.toNat ≤ 122)) := by
  have h : ∀ n : Fin 256, letters.data.toList.contains (UInt8.ofNat n.val) = (decide (97 ≤ n.val) && decide (n.val ≤ 122)) := by decide +kernel
  have := h ⟨b.toNat, b.toNat_lt⟩
  simpa using this

theorem bs_eq_empty {l : List UInt8} : bs l = ByteArray.empty ↔ l = [] := by
  constructor
  · intro h
    exact bs_inj (h.trans (show ByteArray.empty = bs [] from rfl))
  · intro h; subst h; rfl

theorem trim_letters (s : ByteArray) : (trimV s letters = ByteArray.empty) ↔ (s.data.toList.all fun b => decide (97 ≤ b.toNat) && decide (b.toNat ≤ 122)) = true := by
  show bs (Lib.trimS _ _) = _ ↔ _
  rw [bs_eq_empty, trimS_nil, List.all_eq_true]
  simp only [letters_has]

theorem orc_eq {f : FuncId} (h : f ≠ 15) (args : List Value) (st : St) : orc f args st = orc1 f args st := by
  unfold orc; rw [if_neg h]

section
variable {st : St} {K : Value → St → Prop}
theorem kAwake (n : Nat) (hm : hasMax st = true) (h : K (.bool true) st) : callK (callO T0 orc fns 100000 n) 15 [] st K := by
  rw [callO_none (by rfl)]
  have e : orc 15 [] st = .ret (.bool true, st) := by simp [orc, hm]
  exact (propext (callK_ret (K := K) e)).mpr h
theorem kTrim (n : Nat) (s : ByteArray) (hs : s.size ≤ 4294967280) (h : K (.string (trimV s letters)) st) : callK (callO T0 orc fns 100000 n) 47 [.string s, .string letters] st K := by
  rw [callO_none (by rfl)]
  have e : orc 47 [.string s, .string letters] st = .ret (.string (trimV s letters), st) := by
    rw [orc_eq (by decide)]
    have h1 : letters.size < 4294967281 := by decide
    have h2 : asciiB letters = true := by decide +kernel
    simp [orc1, hs, h1, h2]
  exact (propext (callK_ret (K := K) e)).mpr h
theorem kSplit (n : Nat) (s : ByteArray) (c : UInt8) (hs : s.size < 4294967281) (hm : hasMax st = true) (h : ∀ st', Row1 st' (.slice (some ⟨st.next, 0, none⟩) (pieces c s).length (pieces c s).length) ((pieces c s).map Value.string) → st'.next = st.next + 1 → (∀ i, i < st.next → st'.get i = st.get i) → K (.slice (some ⟨st.next, 0, none⟩) (pieces c s).length (pieces c s).length) st') :
    callK (callO T0 orc fns 100000 n) 37 [.string s, .string ⟨#[c]⟩] st K := by
  rw [callO_none (by rfl)]
  have e : orc 37 [.string s, .string ⟨#[c]⟩] st = .ret (.slice (some ⟨st.next, 0, none⟩) (pieces c s).length (pieces c s).length, st.new (.row ((pieces c s).map Value.string) 0 false)) := by
    rw [orc_eq (by decide)]
    have h1 : 1 ≤ (⟨#[c]⟩ : ByteArray).size := Nat.le_refl 1
    simp [orc1, hs, h1, hm, split_pieces]
  refine (propext (callK_ret (K := K) e)).mpr (h _ ⟨st.next, (pieces c s).length, 0, false, by simp, by simp, by simpa using List.length_pos_iff.2 (pieces_ne c s), get_new_same _ _, .inl rfl⟩ rfl fun i hi => get_new_ne _ _ _ (by omega))
theorem kIndex (n : Nat) (s c : ByteArray) (hs : s.size < 4294967281) (hm : hasMax st = true) (h : K (.int .i64 (Lib.index s.data.toList c.data.toList)) st) : callK (callO T0 orc fns 100000 n) 65 [.string s, .string c] st K := by
  rw [callO_none (by rfl)]
  have e : orc 65 [.string s, .string c] st = .ret (.int .i64 (Lib.index s.data.toList c.data.toList), st) := by
    rw [orc_eq (by decide)]
    simp [orc1, hs, hm]
  exact (propext (callK_ret (K := K) e)).mpr h
end
attribute [local irreducible] callO wopK ropK popK opK grpsE listE sx Runs

section
variable {st : St} {v u : Value} {K : Value → St → Prop} {xs : List ByteArray} {x : ByteArray}

theorem kNameBad (n : Nat) (s : ByteArray) (hs : s.size ≤ 4294967280) (h : K (.bool (!isNm s)) st) : callK (callO T0 orc fns 100000 (n + 1)) 67 [.string s] st K := by
  refine fn_runs (fn := g67) ?_ ?_ ?_
  · rfl
  · rfl
  unfold g67
  have hsz := size_list s
  have hse : s = ByteArray.empty ↔ s.size = 0 := by
    constructor
    · rintro rfl; rfl
    · intro e
      rw [← bs_of s, bs_eq_empty]
      exact List.length_eq_zero_iff.1 (by omega)
  by_cases h0 : s.size = 0
  · have e0 : (s = ByteArray.empty) = True := eq_true (hse.2 h0)
    have : isNm s = false := by rw [isNm, decide_eq_false (by omega), Bool.false_and, Bool.false_and]
    rw [this] at h
    simp (disch := omega) only [↓sxA, ↓wk_store, sxB, sxP, Nat.reduceLeDiff, reduceCtorEq, Nat.reduceEqDiff, Nat.reduceAdd, Int.reduceLT, Int.reduceLE, Int.reduceEq, Nat.reduceLT, Int.reduceToNat, Int.reduceAdd, Int.reduceSub, ↓reduceIte, e0]
    exact h
  · have e0 : (s = ByteArray.empty) = False := eq_false (fun e => h0 (hse.1 e))
    by_cases h16 : 16 < s.size
    · have : isNm s = false := by rw [isNm, decide_eq_false (by omega : ¬ s.size ≤ 16), Bool.and_false, Bool.false_and]
      rw [this] at h
      simp (disch := omega) only [↓sxA, ↓wk_store, sxB, sxP, Nat.reduceLeDiff, reduceCtorEq, Nat.reduceEqDiff, Nat.reduceAdd, Int.reduceLT, Int.reduceLE, Int.reduceEq, Nat.reduceLT, Int.reduceToNat, Int.reduceAdd, Int.reduceSub, ↓reduceIte, e0]
      exact h
    · simp (disch := omega) only [↓sxA, ↓wk_store, sxB, sxP, Nat.reduceLeDiff, reduceCtorEq, Nat.reduceEqDiff, Nat.reduceAdd, Int.reduceLT, Int.reduceLE, Int.reduceEq, Nat.reduceLT, Int.reduceToNat, Int.reduceAdd, Int.reduceSub, ↓reduceIte, e0]
      refine kTrim n s hs ?_
      by_cases ht : trimV s letters = ByteArray.empty
      · have hall := (trim_letters s).1 ht
        have : isNm s = true := by rw [isNm, hall, decide_eq_true (by omega), decide_eq_true (by omega)]; rfl
        rw [this] at h
        have e1 : (trimV s letters = ByteArray.empty) = True := eq_true ht
        simp (disch := omega) only [↓sxA, ↓wk_store, sxB, sxP, Nat.reduceLeDiff, reduceCtorEq, Nat.reduceEqDiff, Nat.reduceAdd, Int.reduceLT, Int.reduceLE, Int.reduceEq, Nat.reduceLT, Int.reduceToNat, Int.reduceAdd, Int.reduceSub, ↓reduceIte, e1]
        exact h
      · have hall : (s.data.toList.all fun b => decide (97 ≤ b.toNat) && decide (b.toNat ≤ 122)) = false := by
          cases hh : s.data.toList.all fun b => decide (97 ≤ b.toNat) && decide (b.toNat ≤ 122) with
          | false => rfl
          | true => exact (ht ((trim_letters s).2 hh)).elim
        have : isNm s = false := by rw [isNm, hall, Bool.and_false]
        rw [this] at h
        have e1 : (trimV s letters = ByteArray.empty) = False := eq_false ht
        simp (disch := omega) only [↓sxA, ↓wk_store, sxB, sxP, Nat.reduceLeDiff, reduceCtorEq, Nat.reduceEqDiff, Nat.reduceAdd, Int.reduceLT, Int.reduceLE, Int.reduceEq, Nat.reduceLT, Int.reduceToNat, Int.reduceAdd, Int.reduceSub, ↓reduceIte, e1]
        exact h

theorem kIndexFuncS (n : Nat) (hv : Cel st v (xs.map Value.string)) (hl : xs.length < 90000) (hs : ∀ x ∈ xs, x.size ≤ 4294967280) (h1 : xs.all isNm = false → ∀ r : Int, 0 ≤ r → K (.int .i64 r) st) (h2 : xs.all isNm = true → K (.int .i64 (-1)) st) :
    callK (callO T0 orc fns 100000 (n + 2)) 101 [v, .func (.func 67) #[] #[]] st K := by
  refine fn_runs (fn := g101) ?_ ?_ ?_
  · rfl
  · rfl
  unfold g101
  have hn := len_cel hv
  rw [List.length_map] at hn
  simp (disch := omega) only [↓sxA, ↓wk_store, sxB, sxP, Nat.reduceLeDiff, reduceCtorEq, Nat.reduceEqDiff, Nat.reduceAdd, Int.reduceLT, Int.reduceLE, Int.reduceEq, Nat.reduceLT, Int.reduceToNat, Int.reduceAdd, Int.reduceSub, ↓reduceIte, ↓hn]
  refine loop_rule [0, 1, 7, 8] (fun vs st' => st' = st ∧ ∃ j : Nat, vs = [v, .func (.func 67) #[] #[], .int .i64 (xs.length : Nat), .int .i64 j] ∧ j ≤ xs.length ∧ ∀ i, i < j → isNm (xs.getD i .empty) = true) (fun vs _ => match lget vs 3 with
      | .int _ k => ((xs.length : Int) - k).toNat
      | _ => 0) ?_ ?_ ?_
  · rfl
  · refine ⟨_, rfl, ⟨rfl, 0, rfl, Nat.zero_le _, fun i hi => by omega⟩, ?_⟩
    show ((xs.length : Int) - 0).toNat < 100000
    omega
  · rintro vs st' ⟨rfl, j, rfl, j1, j2⟩
    show sx _ _ _ _ _ [(0, _), (1, _), (7, _), (8, _)] _ _ _ _
    by_cases hj : j < xs.length
    · have i1 := idx_cel hv
      have ld := load_cel hv
      rw [List.length_map] at i1 ld
      have e := getD_str xs j hj
      have hm : xs.getD j .empty ∈ xs := by rw [List.getD_eq_getElem?_getD, List.getElem?_eq_getElem hj, Option.getD_some]; exact List.getElem_mem hj
      simp (disch := omega) only [↓sxA, ↓wk_store, sxB, sxP, Nat.reduceLeDiff, reduceCtorEq, Nat.reduceEqDiff, Nat.reduceAdd, Int.reduceLT, Int.reduceLE, Int.reduceEq, Nat.reduceLT, Int.reduceToNat, Int.reduceAdd, Int.reduceSub, ↓reduceIte, ↓i1, ↓ld, Int.toNat_natCast, e]
      refine kNameBad n _ (hs _ hm) ?_
      cases hc : isNm (xs.getD j .empty) with
      | true =>
        simp (disch := omega) only [↓sxA, ↓wk_store, sxB, sxP, Nat.reduceLeDiff, reduceCtorEq, Nat.reduceEqDiff, Nat.reduceAdd, Int.reduceLT, Int.reduceLE, Int.reduceEq, Nat.reduceLT, Int.reduceToNat, Int.reduceAdd, Int.reduceSub, ↓reduceIte]
        refine ⟨_, rfl, ⟨j + 1, ?_, hj, fun i hi => ?_⟩, ?_⟩
        · simp
        · by_cases e : i = j
          · rw [e]; exact hc
          · exact j2 i (by omega)
        · show ((xs.length : Int) - ((j : Int) + 1)).toNat < ((xs.length : Int) - j).toNat
          omega
      | false =>
        simp (disch := omega) only [↓sxA, ↓wk_store, sxB, sxP, Nat.reduceLeDiff, reduceCtorEq, Nat.reduceEqDiff, Nat.reduceAdd, Int.reduceLT, Int.reduceLE, Int.reduceEq, Nat.reduceLT, Int.reduceToNat, Int.reduceAdd, Int.reduceSub, ↓reduceIte]
        refine h1 ?_ _ (by omega)
        rw [List.all_eq_false]
        exact ⟨_, hm, by rw [hc]; simp⟩
    · simp (disch := omega) only [↓sxA, ↓wk_store, sxB, sxP, Nat.reduceLeDiff, reduceCtorEq, Nat.reduceEqDiff, Nat.reduceAdd, Int.reduceLT, Int.reduceLE, Int.reduceEq, Nat.reduceLT, Int.reduceToNat, Int.reduceAdd, Int.reduceSub, ↓reduceIte]
      refine h2 ?_
      rw [List.all_eq_true]
      intro y hm
      obtain ⟨i, hi, rfl⟩ := List.getElem_of_mem hm
      have := j2 i (by omega)
      rw [List.getD_eq_getElem?_getD, List.getElem?_eq_getElem hi, Option.getD_some] at this
      exact this

theorem kContainsBad (n : Nat) (hv : Cel st v (xs.map Value.string)) (hl : xs.length < 90000) (hs : ∀ x ∈ xs, x.size ≤ 4294967280) (h : K (.bool (!xs.all isNm)) st) :
    callK (callO T0 orc fns 100000 (n + 3)) 66 [v, .func (.func 67) #[] #[]] st K := by
  refine fn_runs (fn := g66) ?_ ?_ ?_
  · rfl
  · rfl
  unfold g66
  simp (disch := omega) only [↓sxA, ↓wk_store, sxB, sxP, Nat.reduceLeDiff, reduceCtorEq, Nat.reduceEqDiff, Nat.reduceAdd, Int.reduceLT, Int.reduceLE, Int.reduceEq, Nat.reduceLT, Int.reduceToNat, Int.reduceAdd, Int.reduceSub, ↓reduceIte]
  refine kIndexFuncS n hv hl hs (fun ha r hr => ?_) (fun ha => ?_)
  · rw [ha] at h
    simp (disch := omega) only [↓sxA, ↓wk_store, sxB, sxP, Nat.reduceLeDiff, reduceCtorEq, Nat.reduceEqDiff, Nat.reduceAdd, Int.reduceLT, Int.reduceLE, Int.reduceEq, Nat.reduceLT, Int.reduceToNat, Int.reduceAdd, Int.reduceSub, ↓reduceIte]
    exact h
  · rw [ha] at h
    simp (disch := omega) only [↓sxA, ↓wk_store, sxB, sxP, Nat.reduceLeDiff, reduceCtorEq, Nat.reduceEqDiff, Nat.reduceAdd, Int.reduceLT, Int.reduceLE, Int.reduceEq, Nat.reduceLT, Int.reduceToNat, Int.reduceAdd, Int.reduceSub, ↓reduceIte]
    exact h

end
end Go.Proofs.YtdmemibnphcedaaGreatDoor
end
section
set_option linter.unusedSimpArgs false
set_option linter.unusedVariables false
set_option maxRecDepth 10000
set_option linter.unusedSectionVars false
namespace Go.Proofs.YtdmemibnphcedaaGreatDoor
open Go.Am

/-! ### marks as ints -/
def Mk.bit (x : Mk) : Nat → Bool
  | 0 => x.a
  | 1 => x.k
  | 2 => x.s
  | 3 => x.n
  | 4 => x.m
  | _ => x.f
def Mk.put (x : Mk) : Nat → Mk
  | 0 => { x with a := true }
  | 1 => { x with k := true }
  | 2 => { x with s := true }
  | 3 => { x with n := true }
  | 4 => { x with m := true }
  | _ => { x with f := true }
def p2 : Nat → Int
  | 0 => 1
  | 1 => 2
  | 2 => 4
  | 3 => 8
  | 4 => 16
  | _ => 32
/-- the first marks -/
def Mk.upto (x : Mk) : Nat → Mk
  | 0 => Mk.none
  | 1 => ⟨x.a, false, false, false, false, false⟩
  | 2 => ⟨x.a, x.k, false, false, false, false⟩
  | 3 => ⟨x.a, x.k, x.s, false, false, false⟩
  | 4 => ⟨x.a, x.k, x.s, x.n, false, false⟩
  | 5 => ⟨x.a, x.k, x.s, x.n, x.m, false⟩
  | _ => x
def lt (i : Nat) : ByteArray := ⟨#[match i with | 0 => 97 | 1 => 107 | 2 => 115 | 3 => 110 | 4 => 109 | _ => 102]⟩
def order : ByteArray := ⟨#[97, 107, 115, 110, 109, 102]⟩

def andI (a b : Int) : Int := IntKind.i64.wrap (BitVec.ofInt 64 a &&& BitVec.ofInt 64 b).toNat
def orI (a b : Int) : Int := IntKind.i64.wrap (BitVec.ofInt 64 a ||| BitVec.ofInt 64 b).toNat
def notI (a b : Int) : Int := IntKind.i64.wrap (BitVec.ofInt 64 a &&& ~~~ BitVec.ofInt 64 b).toNat
def shlI (a b : Int) : Int := IntKind.i64.wrap (a * 2 ^ (Nat.min b.toNat 64))

section
variable {K : Value → Prop}
theorem popAnd (a b : Int) : popK (.bin .and) [.int .i64 a, .int .i64 b] K = K (.int .i64 (andI a b)) := of_eq_true (eq_self _)
theorem popOr (a b : Int) : popK (.bin .or) [.int .i64 a, .int .i64 b] K = K (.int .i64 (orI a b)) := of_eq_true (eq_self _)
theorem popNot (a b : Int) : popK (.bin .andNot) [.int .i64 a, .int .i64 b] K = K (.int .i64 (notI a b)) := of_eq_true (eq_self _)
theorem popShl (a b : Int) (h : 0 ≤ b) : popK (.bin .shl) [.int .i64 a, .int .i64 b] K = K (.int .i64 (shlI a b)) := by
  simp only [popK, pop, binV, shiftInt]
  rw [if_neg (by omega)]
  rfl
end

theorem shl_p2 (i : Nat) (h : i < 6) : shlI 1 (i : Int) = p2 i := by
  match i, h with
  | 0, _ | 1, _ | 2, _ | 3, _ | 4, _ | 5, _ => decide +kernel
theorem and_bit (x : Mk) (i : Nat) (h : i < 6) : andI x.int (p2 i) = b2i (x.bit i) (p2 i) := by
  obtain ⟨a, k, s, n, m, f⟩ := x
  match i, h with
  | 0, _ | 1, _ | 2, _ | 3, _ | 4, _ | 5, _ => revert a k s n m f; decide +kernel
theorem or_put (x : Mk) (i : Nat) (h : i < 6) : orI x.int (p2 i) = (x.put i).int := by
  obtain ⟨a, k, s, n, m, f⟩ := x
  match i, h with
  | 0, _ | 1, _ | 2, _ | 3, _ | 4, _ | 5, _ => revert a k s n m f; decide +kernel
theorem upto_bit (x : Mk) (i : Nat) (h : i < 6) : (x.bit i = true → (x.upto i).put i = x.upto (i + 1)) ∧ (x.bit i = false → x.upto i = x.upto (i + 1)) := by
  obtain ⟨a, k, s, n, m, f⟩ := x
  match i, h with
  | 0, _ | 1, _ | 2, _ | 3, _ | 4, _ | 5, _ => refine ⟨fun hb => ?_, fun hb => ?_⟩ <;> simp only [Mk.bit] at hb <;> subst hb <;> rfl
theorem index_lt (b : UInt8) : (Lib.index order.data.toList [b] = -1 ∧ ∀ i, i < 6 → [b] ≠ (lt i).data.toList) ∨ ∃ i : Nat, i < 6 ∧ Lib.index order.data.toList [b] = (i : Int) ∧ [b] = (lt i).data.toList := by
  have h : ∀ n : Fin 256, (Lib.index order.data.toList [UInt8.ofNat n.val] = -1 ∧ ∀ i : Fin 6, [UInt8.ofNat n.val] ≠ (lt i.val).data.toList) ∨ ∃ i : Fin 6, Lib.index order.data.toList [UInt8.ofNat n.val] = (i.val : Int) ∧ [UInt8.ofNat n.val] = (lt i.val).data.toList := by decide +kernel
  have := h ⟨b.toNat, b.toNat_lt⟩
  simp only [UInt8.ofNat_toNat] at this
  rcases this with ⟨h1, h2⟩ | ⟨i, h1, h2⟩
  · exact .inl ⟨h1, fun i hi => h2 ⟨i, hi⟩⟩
  · exact .inr ⟨i.val, i.isLt, h1, h2⟩

theorem add_lt (x : Mk) (i : Nat) (h : i < 6) : x.add (lt i) = if x.bit i = true then Option.none else some (x.put i) := by
  match i, h with
  | 0, _ | 1, _ | 2, _ | 3, _ | 4, _ | 5, _ => rfl
theorem add_no (x : Mk) (p : ByteArray) (h : ∀ i, i < 6 → p ≠ lt i) : x.add p = Option.none := by
  have hl : ∀ i, i < 6 → p.data.toList ≠ (lt i).data.toList := fun i hi e => h i hi (by rw [← bs_of p, e, bs_of])
  unfold Mk.add
  split <;> rename_i hp
  · exact (hl 0 (by decide) hp).elim
  · exact (hl 1 (by decide) hp).elim
  · exact (hl 2 (by decide) hp).elim
  · exact (hl 3 (by decide) hp).elim
  · exact (hl 4 (by decide) hp).elim
  · exact (hl 5 (by decide) hp).elim
  · rfl

/-- what a part is, as a mark -/
theorem part_is (p : ByteArray) : (p.size ≠ 1 ∧ ∀ i, i < 6 → p ≠ lt i) ∨ (p.size = 1 ∧ Lib.index order.data.toList p.data.toList = -1 ∧ ∀ i, i < 6 → p ≠ lt i) ∨ ∃ i : Nat, i < 6 ∧ p = lt i ∧ p.size = 1 ∧ Lib.index order.data.toList p.data.toList = (i : Int) := by
  have hs : ∀ i, (lt i).size = 1 := fun i => rfl
  by_cases h1 : p.size = 1
  · right
    obtain ⟨b, hb⟩ : ∃ b, p.data.toList = [b] := List.length_eq_one_iff.1 (by rw [← size_list]; exact h1)
    rcases index_lt b with ⟨k1, k2⟩ | ⟨i, k1, k2, k3⟩
    · exact .inl ⟨h1, by rw [hb]; exact k1, fun i hi e => k2 i hi (by rw [← hb, e])⟩
    · exact .inr ⟨i, k1, by rw [← bs_of p, hb, k3, bs_of], h1, by rw [hb]; exact k2⟩
  · exact .inl ⟨h1, fun i hi e => h1 (by rw [e]; exact hs i)⟩

/-- the cells of an item -/
def itCells (nv : Value) (x : Mk) : List Value := [nv, .bool x.a, .bool x.k, .bool x.s, .bool x.n, .bool x.m, .bool x.f]

theorem resP_k1 (e : Env) (s : St) (a b n : Nat) (Q : Value → St → Prop) : resP e s [(a, n + 2), (b, 0)] Q = getE e a fun u => ropK (.loadN n) [u] s fun x => getE e b fun v => Q (.tuple #[x, v]) s := by
  unfold resP getE ropK
  simp only [resE, res1E]
  cases e.get? a with
  | none => rfl
  | some u =>
    simp only
    cases rop (.loadN n) [u] s with
    | none => rfl
    | some x =>
      simp only
      cases e.get? b <;> rfl

attribute [local irreducible] callO wopK ropK popK opK grpsE listE sx Runs

section
variable {st : St} {v u nv : Value} {K : Value → St → Prop} {xs : List ByteArray} {x : Mk}

theorem kMarks (n : Nat) (hnv : oneCell nv = true) (h : ∀ st', st.next ≤ st'.next → (∀ i, i < st.next → st'.get i = st.get i) → K (.int .i64 x.int) st') :
    callK (callO T0 orc fns 100000 (n + 1)) 43 [.agg (itCells nv x).toArray] st K := by
  refine fn_runs (fn := g43) ?_ ?_ ?_
  · rfl
  · rfl
  unfold g43
  unfold itCells
  simp (disch := ((try simp only [St.next_put, St.next_new]); omega)) only [↓sxA, ↓wk_store, sxB, sxP, Nat.reduceLeDiff, reduceCtorEq, Nat.reduceEqDiff, Nat.reduceAdd, Int.reduceLT, Int.reduceLE, Int.reduceEq, Nat.reduceLT, Int.reduceToNat, Int.reduceAdd, Int.reduceSub, ↓reduceIte]
  obtain ⟨s2, hs2⟩ : ∃ s2, s2 = (st.new (.row (itCells nv x) 0 false)).new (.row [.bool x.a, .bool x.k, .bool x.s, .bool x.n, .bool x.m, .bool x.f] 0 false) := ⟨_, rfl⟩
  have hcel : Cel s2 (.slice (some ⟨st.next + 1, 0, none⟩) 6 6) [.bool x.a, .bool x.k, .bool x.s, .bool x.n, .bool x.m, .bool x.f] := cel_row (by rw [hs2]; exact get_new_same (st.new _) _) rfl
  refine loop_rule [3, 18, 19, 20] (fun vs s => s = s2 ∧ ∃ j : Nat, j ≤ 6 ∧ vs = [.int .i64 (x.upto j).int, .slice (some ⟨st.next + 1, 0, none⟩) 6 6, .int .i64 6, .int .i64 j]) (fun vs _ => match lget vs 3 with
      | .int _ k => (6 - k).toNat
      | _ => 0) ?_ ?_ ?_
  · rfl
  · exact ⟨_, rfl, ⟨hs2.symm, 0, by decide, rfl⟩, by show (6 - (0 : Int)).toNat < 100000; decide⟩
  · rintro vs s ⟨rfl, j, hj, rfl⟩
    show sx _ _ _ _ _ [(3, _), (18, _), (19, _), (20, _)] _ _ _ _
    by_cases h6 : j < 6
    · have ix := idx_cel hcel .i64 (j : Int)
      have ld := load_cel hcel (j : Int)
      have hb : [Value.bool x.a, .bool x.k, .bool x.s, .bool x.n, .bool x.m, .bool x.f].getD (j : Int).toNat undef = .bool (x.bit j) := by
        match j, h6 with
        | 0, _ | 1, _ | 2, _ | 3, _ | 4, _ | 5, _ => rfl
      simp only [List.length_cons, List.length_nil] at ix ld
      simp (disch := omega) only [↓sxA, ↓wk_store, sxB, sxP, Nat.reduceLeDiff, reduceCtorEq, Nat.reduceEqDiff, Nat.reduceAdd, Int.reduceLT, Int.reduceLE, Int.reduceEq, Nat.reduceLT, Int.reduceToNat, Int.reduceAdd, Int.reduceSub, ↓reduceIte, ↓ix, ↓ld, hb]
      obtain ⟨u1, u2⟩ := upto_bit x j h6
      have hm : (6 - ((j : Int) + 1)).toNat < (6 - (j : Int)).toNat := by omega
      cases hbit : x.bit j with
      | true =>
        simp (disch := omega) only [popShl, shl_p2 j h6, popOr, or_put _ j h6, ↓sxA, ↓wk_store, sxB, sxP, Nat.reduceLeDiff, reduceCtorEq, Nat.reduceEqDiff, Nat.reduceAdd, Int.reduceLT, Int.reduceLE, Int.reduceEq, Nat.reduceLT, Int.reduceToNat, Int.reduceAdd, Int.reduceSub, ↓reduceIte]
        exact ⟨_, rfl, ⟨j + 1, by omega, by rw [u1 hbit]; rfl⟩, hm⟩
      | false =>
        simp (disch := omega) only [↓sxA, ↓wk_store, sxB, sxP, Nat.reduceLeDiff, reduceCtorEq, Nat.reduceEqDiff, Nat.reduceAdd, Int.reduceLT, Int.reduceLE, Int.reduceEq, Nat.reduceLT, Int.reduceToNat, Int.reduceAdd, Int.reduceSub, ↓reduceIte]
        exact ⟨_, rfl, ⟨j + 1, by omega, by rw [u2 hbit]; rfl⟩, hm⟩
    · have e6 : j = 6 := by omega
      subst e6
      simp (disch := omega) only [↓sxA, ↓wk_store, sxB, sxP, Nat.reduceLeDiff, reduceCtorEq, Nat.reduceEqDiff, Nat.reduceAdd, Int.reduceLT, Int.reduceLE, Int.reduceEq, Nat.reduceLT, Int.reduceToNat, Int.reduceAdd, Int.reduceSub, ↓reduceIte]
      subst hs2
      exact h _ (by show st.next ≤ st.next + 1 + 1; omega) fun i hi => by rw [get_new_ne _ _ _ (by show st.next + 1 ≠ i; omega), get_new_ne _ _ _ (by omega)]

theorem kSame (n : Nat) (hu : Cel st u (xs.map Value.string)) (hv : Cel st v (xs.map Value.string)) (hun : ow u ≤ st.next) (hvn : ow v ≤ st.next) (hl : xs.length < 90000) (h1 : oneCell u = true) (h2 : oneCell v = true) (h : ∀ st', st.next ≤ st'.next → (∀ i, i < st.next → st'.get i = st.get i) → K (.bool true) st') :
    callK (callO T0 orc fns 100000 (n + 2)) 18 [.agg (itCells u x).toArray, .agg (itCells v x).toArray] st K := by
  refine fn_runs (fn := g18) ?_ ?_ ?_
  · rfl
  · rfl
  unfold g18
  unfold itCells
  have q : ∀ (s0 : St) (o p : AObj), ((s0.new o).new p).get (s0.next + 1) = some p := fun s0 o p => get_new_same (s0.new o) p
  have hf : ∀ (o p : AObj) (i : Nat), i < st.next → ((st.new o).new p).get i = st.get i := fun o p i hi => by rw [get_new_ne _ _ _ (by show st.next + 1 ≠ i; omega), get_new_ne _ _ _ (by omega)]
  simp (disch := ((try simp only [St.next_put, St.next_new]); omega)) only [q, ↓sxA, ↓wk_store, sxB, sxP, Nat.reduceLeDiff, reduceCtorEq, Nat.reduceEqDiff, Nat.reduceAdd, Int.reduceLT, Int.reduceLE, Int.reduceEq, Nat.reduceLT, Int.reduceToNat, Int.reduceAdd, Int.reduceSub, ↓reduceIte]
  refine kEqStrs n (hu.keep fun i hi => hf _ _ i (by omega)) (hv.keep fun i hi => hf _ _ i (by omega)) hl ?_
  simp (disch := ((try simp only [St.next_put, St.next_new]); omega)) only [q, ↓sxA, ↓wk_store, sxB, sxP, Nat.reduceLeDiff, reduceCtorEq, Nat.reduceEqDiff, Nat.reduceAdd, Int.reduceLT, Int.reduceLE, Int.reduceEq, Nat.reduceLT, Int.reduceToNat, Int.reduceAdd, Int.reduceSub, ↓reduceIte]
  exact h _ (by show st.next ≤ st.next + 1 + 1; omega) fun i hi => hf _ _ i hi
end
end Go.Proofs.YtdmemibnphcedaaGreatDoor
end
section
set_option linter.unusedSimpArgs false
set_option linter.unusedVariables false
set_option maxRecDepth 10000
set_option linter.unusedSectionVars false
namespace Go.Proofs.YtdmemibnphcedaaGreatDoor
open Go.Am
theorem rk_loadAll {st : St} {b k g : Nat} {ro : Bool} {cs : List Value} (hb : st.get b = some (.row cs g ro)) (hl : cs.length = k) (hk0 : 0 < k) (K : Value → Prop) : ropK (.loadN k) [.pointer (some ⟨b, 0, none⟩)] st K = K (.agg cs.toArray) :=
  rk_loadK hb (by rw [List.drop_zero, List.take_of_length_le (by omega)]) hl hk0 K

attribute [local irreducible] callO wopK ropK popK opK grpsE listE sx Runs

/-- nothing that was has turned -/
structure Frm (st st' : St) : Prop where
  nx : st.next ≤ st'.next
  old : ∀ i, i < st.next → st'.get i = st.get i
theorem Frm.refl (st : St) : Frm st st := ⟨Nat.le_refl _, fun _ _ => rfl⟩
theorem Frm.trans {s1 s2 s3 : St} (h : Frm s1 s2) (k : Frm s2 s3) : Frm s1 s3 := ⟨Nat.le_trans h.nx k.nx, fun i hi => (k.old i (Nat.lt_of_lt_of_le hi h.nx)).trans (h.old i hi)⟩
theorem Frm.new (st : St) (o : AObj) : Frm st (st.new o) := ⟨Nat.le_succ _, fun i hi => get_new_ne _ _ _ (by omega)⟩
theorem Frm.put {st s : St} (h : Frm st s) (i : Nat) (hi : st.next ≤ i) (o : Option AObj) : Frm st (s.put i o) := ⟨h.nx, fun j hj => (get_put_ne _ _ _ _ (by omega)).trans (h.old j hj)⟩
theorem Frm.max {st s : St} (h : Frm st s) (h0 : 0 < st.next) (hm : hasMax st = true) : hasMax s = true := by
  have : hasMax s = hasMax st := by unfold hasMax; rw [h.old 0 h0]
  rw [this]; exact hm

/-- the marks so far -/
def ItL (st : St) (s2 : St) (v4 : Value) (t : List ByteArray) (vs : List Value) (s : St) : Prop :=
  s = s2 ∧ ∃ (x : Mk) (j : Nat), j ≤ t.length ∧ vs = [.pointer (some ⟨st.next, 0, none⟩), v4, .int .i64 x.int, blo v4 1, .int .i64 t.length, .int .i64 j] ∧ marksA t Mk.none = marksA (t.drop j) x

abbrev zero7 : List Value := [.slice none 0 0, .bool false, .bool false, .bool false, .bool false, .bool false, .bool false]

theorem len_blo {st : St} {v : Value} {cs : List Value} (h : Row1 st v cs) (n : Nat) (hn : n ≤ cs.length) (K : Value → Prop) : popK .lenSl [blo v n] K = K (.int .i64 ((cs.drop n).length : Nat)) := len_cel (sllo_cel1 h n hn) K

theorem int_only (x : Mk) : x.int = 4 ↔ (x.s && !x.a && !x.k && !x.n && !x.m && !x.f) = true := by
  obtain ⟨a, k, s, n, m, f⟩ := x
  revert a k s n m f
  decide +kernel
theorem int_rest (x : Mk) : notI x.int 1 = 32 ↔ (x.f && !x.k && !x.s && !x.n && !x.m) = true := by
  obtain ⟨a, k, s, n, m, f⟩ := x
  revert a k s n m f
  decide +kernel

section
variable {st : St} {K : Value → St → Prop}

set_option maxHeartbeats 8000000 in
theorem kItem (n : Nat) (s : ByteArray) (hs : s.size < 80000) (h0 : 0 < st.next) (hm : hasMax st = true)
    (hbad : itemA s = Option.none → ∀ l : List Value, l.length = 7 → l.all oneCell = true → ∀ st', Frm st st' → K (.tuple #[.agg l.toArray, .bool false]) st')
    (hok : ∀ x, itemA s = some x → ∀ nv st', Frm st st' → Cel st' nv (x.names.map Value.string) → oneCell nv = true → (ow nv = 0 ∨ st.next + 1 ≤ ow nv) → ow nv ≤ st'.next → K (.tuple #[.agg (itCells nv x.mks).toArray, .bool true]) st') :
    callK (callO T0 orc fns 100000 (n + 5)) 38 [.string s] st K := by
  refine fn_runs (fn := g38) ?_ ?_ ?_
  · rfl
  · rfl
  unfold g38
  obtain ⟨h, t, hp⟩ : ∃ h t, pieces 47 s = h :: t := by
    cases hc : pieces 47 s with
    | nil => exact (pieces_ne 47 s hc).elim
    | cons h t => exact ⟨h, t, rfl⟩
  have hit : itemA s = match marksA t Mk.none with
    | some x => if (pieces 61 h).all isNm && x.fit then some ⟨pieces 61 h, x⟩ else Option.none
    | Option.none => Option.none := by unfold itemA; rw [hp]; rfl
  have hlen : (pieces 47 s).length ≤ s.size + 1 := pieces_length 47 s
  have hhs : h.size ≤ s.size := pieces_size (c := 47) (by rw [hp]; simp)
  have hts : ∀ p ∈ t, p.size ≤ s.size := fun p hpt => pieces_size (c := 47) (by rw [hp]; simp [hpt])
  rw [hp] at hlen
  simp only [List.length_cons] at hlen
  have F1 := Frm.new st (.row zero7 0 false)
  simp (disch := omega) only [↓sxA, ↓wk_store, sxB, sxP, Nat.reduceLeDiff, reduceCtorEq, Nat.reduceEqDiff, Nat.reduceAdd, Int.reduceLT, Int.reduceLE, Int.reduceEq, Nat.reduceLT, Int.reduceToNat, Int.reduceAdd, Int.reduceSub, ↓reduceIte]
  refine kSplit (n + 4) s 47 (by omega) (F1.max h0 hm) fun s2 r2 n2 f2 => ?_
  have n2' : s2.next = st.next + 2 := n2
  have F2 : Frm st s2 := F1.trans ⟨by show st.next + 1 ≤ s2.next; omega, f2⟩
  have hbox : s2.get st.next = some (.row zero7 0 false) := (f2 _ (Nat.lt_succ_self _)).trans (get_new_same _ _)
  have hn1 : (st.new (.row zero7 0 false)).next = st.next + 1 := rfl
  have m2 := F2.max h0 hm
  rw [hp] at r2
  have hown : ow (Value.slice (some ⟨(st.new (.row zero7 0 false)).next, 0, none⟩) (pieces 47 s).length (pieces 47 s).length) = st.next + 2 := rfl
  rw [hp] at hown
  rw [hp]
  generalize Value.slice (some ⟨(st.new (.row zero7 0 false)).next, 0, none⟩) (h :: t).length (h :: t).length = v4 at r2 hown
  have sl := fun K => sllo_row1 r2 .i64 1 K (by decide) (by rw [List.length_map, List.length_cons]; omega)
  have ln := len_blo r2 1 (by rw [List.length_map, List.length_cons]; omega)
  have hc4 := sllo_cel1 r2 1 (by rw [List.length_map, List.length_cons]; omega)
  simp only [List.map_cons, List.drop_succ_cons, List.drop_zero, List.length_map] at ln hc4
  have one7 : zero7.length = 7 := rfl
  simp (disch := omega) only [↓sxA, ↓wk_store, sxB, sxP, Nat.reduceLeDiff, reduceCtorEq, Nat.reduceEqDiff, Nat.reduceAdd, Int.reduceLT, Int.reduceLE, Int.reduceEq, Nat.reduceLT, Int.reduceToNat, Int.reduceAdd, Int.reduceSub, ↓reduceIte, ↓sl, ↓ln]
  refine loop_rule [2, 4, 5, 14, 15, 16] (ItL st s2 v4 t) (fun vs _ => match lget vs 5 with
      | .int _ k => ((t.length : Int) - k).toNat
      | _ => 0) ?_ ?_ ?_
  · rfl
  · refine ⟨_, rfl, ⟨rfl, Mk.none, 0, Nat.zero_le _, rfl, rfl⟩, ?_⟩
    show ((t.length : Int) - 0).toNat < 100000
    omega
  · rintro vs s1 ⟨rfl, x, j, hj, rfl, hmk⟩
    show sx _ _ _ _ _ [(2, _), (4, _), (5, _), (14, _), (15, _), (16, _)] _ _ _ _
    by_cases hjt : j < t.length
    · have ix := idx_cel hc4 .i64 (j : Int)
      have e := getD_str t j hjt
      have ld : ∀ K : Value → Prop, ropK .load1 [bptr (blo v4 1) (j : Int)] s1 K = K (.string (t.getD j .empty)) := fun K => by
        rw [load_cel hc4 (j : Int) K (by omega) (by rw [List.length_map]; omega), Int.toNat_natCast, e]
      rw [List.length_map] at ix
      have hpm : t.getD j .empty ∈ t := by rw [List.getD_eq_getElem?_getD, List.getElem?_eq_getElem hjt, Option.getD_some]; exact List.getElem_mem hjt
      have hdrop : t.drop j = t.getD j .empty :: t.drop (j + 1) := by rw [List.drop_eq_getElem_cons hjt, List.getD_eq_getElem?_getD, List.getElem?_eq_getElem hjt, Option.getD_some]
      have hps := hts _ hpm
      rw [hdrop] at hmk
      generalize t.getD j .empty = p at hmk hps ld
      simp (disch := omega) only [↓sxA, ↓wk_store, sxB, sxP, Nat.reduceLeDiff, reduceCtorEq, Nat.reduceEqDiff, Nat.reduceAdd, Int.reduceLT, Int.reduceLE, Int.reduceEq, Nat.reduceLT, Int.reduceToNat, Int.reduceAdd, Int.reduceSub, ↓reduceIte, ↓ix, ↓ld]
      refine kIndex (n + 4) order _ (by decide) m2 ?_
      have bad : x.add p = Option.none → itemA s = Option.none := fun ha => by
        rw [hit, hmk]; simp only [marksA, ha]
      rcases part_is p with ⟨h1, h2⟩ | ⟨h1, h3, h2⟩ | ⟨i, hi, hpe, h1, h3⟩
      · -- not of one byte
        have q1 : ((p.size : Int) = 1) = False := eq_false (by omega)
        have hb := bad (add_no x p h2)
        simp (disch := omega) only [↓sxA, ↓wk_store, sxB, sxP, Nat.reduceLeDiff, reduceCtorEq, Nat.reduceEqDiff, Nat.reduceAdd, Int.reduceLT, Int.reduceLE, Int.reduceEq, Nat.reduceLT, Int.reduceToNat, Int.reduceAdd, Int.reduceSub, ↓reduceIte, q1, hbox, cells_agg]
        rw [resP_k1]
        simp (disch := omega) only [↓sxA, ↓wk_store, sxB, sxP, Nat.reduceLeDiff, reduceCtorEq, Nat.reduceEqDiff, Nat.reduceAdd, Int.reduceLT, Int.reduceLE, Int.reduceEq, Nat.reduceLT, Int.reduceToNat, Int.reduceAdd, Int.reduceSub, ↓reduceIte]
        refine (rk_loadK (xs := zero7) (get_put_same _ _ _) rfl rfl (by decide) _).mpr ?_
        simp (disch := omega) only [↓sxA, ↓wk_store, sxB, sxP, Nat.reduceLeDiff, reduceCtorEq, Nat.reduceEqDiff, Nat.reduceAdd, Int.reduceLT, Int.reduceLE, Int.reduceEq, Nat.reduceLT, Int.reduceToNat, Int.reduceAdd, Int.reduceSub, ↓reduceIte]
        exact hbad hb zero7 rfl rfl _ (F2.put _ (Nat.le_refl _) _)
      · -- no mark
        have q1 : ((p.size : Int) = 1) = True := eq_true (by omega)
        have hb := bad (add_no x p h2)
        simp (disch := omega) only [↓sxA, ↓wk_store, sxB, sxP, Nat.reduceLeDiff, reduceCtorEq, Nat.reduceEqDiff, Nat.reduceAdd, Int.reduceLT, Int.reduceLE, Int.reduceEq, Nat.reduceLT, Int.reduceToNat, Int.reduceAdd, Int.reduceSub, ↓reduceIte, q1, h3, hbox, cells_agg]
        rw [resP_k1]
        simp (disch := omega) only [↓sxA, ↓wk_store, sxB, sxP, Nat.reduceLeDiff, reduceCtorEq, Nat.reduceEqDiff, Nat.reduceAdd, Int.reduceLT, Int.reduceLE, Int.reduceEq, Nat.reduceLT, Int.reduceToNat, Int.reduceAdd, Int.reduceSub, ↓reduceIte]
        refine (rk_loadK (xs := zero7) (get_put_same _ _ _) rfl rfl (by decide) _).mpr ?_
        simp (disch := omega) only [↓sxA, ↓wk_store, sxB, sxP, Nat.reduceLeDiff, reduceCtorEq, Nat.reduceEqDiff, Nat.reduceAdd, Int.reduceLT, Int.reduceLE, Int.reduceEq, Nat.reduceLT, Int.reduceToNat, Int.reduceAdd, Int.reduceSub, ↓reduceIte]
        exact hbad hb zero7 rfl rfl _ (F2.put _ (Nat.le_refl _) _)
      · have q1 : ((p.size : Int) = 1) = True := eq_true (by omega)
        have ha := add_lt x i hi
        rw [← hpe] at ha
        have q2 : (p2 i = 0) = False := eq_false (by match i, hi with
          | 0, _ | 1, _ | 2, _ | 3, _ | 4, _ | 5, _ => decide)
        cases hbit : x.bit i with
        | true =>
          have hb := bad (by rw [ha, hbit]; rfl)
          simp (disch := omega) only [↓sxA, ↓wk_store, sxB, sxP, Nat.reduceLeDiff, reduceCtorEq, Nat.reduceEqDiff, Nat.reduceAdd, Int.reduceLT, Int.reduceLE, Int.reduceEq, Nat.reduceLT, Int.reduceToNat, Int.reduceAdd, Int.reduceSub, ↓reduceIte, q1, h3, hbox, cells_agg, popShl, shl_p2 i hi, popAnd, and_bit x i hi, hbit, b2i, q2]
          rw [resP_k1]
          simp (disch := omega) only [↓sxA, ↓wk_store, sxB, sxP, Nat.reduceLeDiff, reduceCtorEq, Nat.reduceEqDiff, Nat.reduceAdd, Int.reduceLT, Int.reduceLE, Int.reduceEq, Nat.reduceLT, Int.reduceToNat, Int.reduceAdd, Int.reduceSub, ↓reduceIte]
          refine (rk_loadK (xs := zero7) (get_put_same _ _ _) rfl rfl (by decide) _).mpr ?_
          simp (disch := omega) only [↓sxA, ↓wk_store, sxB, sxP, Nat.reduceLeDiff, reduceCtorEq, Nat.reduceEqDiff, Nat.reduceAdd, Int.reduceLT, Int.reduceLE, Int.reduceEq, Nat.reduceLT, Int.reduceToNat, Int.reduceAdd, Int.reduceSub, ↓reduceIte]
          exact hbad hb zero7 rfl rfl _ (F2.put _ (Nat.le_refl _) _)
        | false =>
          have ha' : x.add p = some (x.put i) := by rw [ha, hbit]; rfl
          simp (disch := omega) only [↓sxA, ↓wk_store, sxB, sxP, Nat.reduceLeDiff, reduceCtorEq, Nat.reduceEqDiff, Nat.reduceAdd, Int.reduceLT, Int.reduceLE, Int.reduceEq, Nat.reduceLT, Int.reduceToNat, Int.reduceAdd, Int.reduceSub, ↓reduceIte, q1, h3, popShl, shl_p2 i hi, popAnd, and_bit x i hi, hbit, b2i, popOr, or_put x i hi]
          refine ⟨_, rfl, ⟨rfl, x.put i, j + 1, by omega, rfl, ?_⟩, ?_⟩
          · rw [hmk]; simp only [marksA, ha']
          · show ((t.length : Int) - ((j : Int) + 1)).toNat < ((t.length : Int) - j).toNat
            omega
    · have hdrop : t.drop j = [] := List.drop_eq_nil_of_le (by omega)
      rw [hdrop] at hmk
      simp only [marksA] at hmk
      rw [hmk] at hit
      simp only at hit
      have ix := idx_cel r2.cel .i64 (0 : Int)
      have ld := load_cel r2.cel (0 : Int)
      simp only [List.map_cons, List.length_cons, List.length_map] at ix ld
      simp (disch := omega) only [↓sxA, ↓wk_store, sxB, sxP, Nat.reduceLeDiff, reduceCtorEq, Nat.reduceEqDiff, Nat.reduceAdd, Int.reduceLT, Int.reduceLE, Int.reduceEq, Nat.reduceLT, Int.reduceToNat, Int.reduceAdd, Int.reduceSub, ↓reduceIte, ↓ix, ↓ld, List.getD_cons_zero]
      refine kSplit (n + 4) h 61 (by omega) m2 fun s3 r3 n3 f3 => ?_
      have F3 : Frm st s3 := F2.trans ⟨by omega, f3⟩
      have hbox3 : s3.get st.next = some (.row zero7 0 false) := (f3 _ (by omega)).trans hbox
      simp (disch := omega) only [↓sxA, ↓wk_store, sxB, sxP, Nat.reduceLeDiff, reduceCtorEq, Nat.reduceEqDiff, Nat.reduceAdd, Int.reduceLT, Int.reduceLE, Int.reduceEq, Nat.reduceLT, Int.reduceToNat, Int.reduceAdd, Int.reduceSub, ↓reduceIte]
      refine kContainsBad (n + 1) r3.cel (by have := pieces_length 61 h; omega) (fun p hpp => by have := pieces_size hpp; omega) ?_
      clear hmk ix ld hc4 sl ln
      cases hall : (pieces 61 h).all isNm with
      | false =>
        have hb : itemA s = Option.none := by rw [hit, hall]; rfl
        simp (disch := omega) only [↓sxA, ↓wk_store, sxB, sxP, Nat.reduceLeDiff, reduceCtorEq, Nat.reduceEqDiff, Nat.reduceAdd, Int.reduceLT, Int.reduceLE, Int.reduceEq, Nat.reduceLT, Int.reduceToNat, Int.reduceAdd, Int.reduceSub, ↓reduceIte, hbox3, cells_agg]
        rw [resP_k1]
        simp (disch := omega) only [↓sxA, ↓wk_store, sxB, sxP, Nat.reduceLeDiff, reduceCtorEq, Nat.reduceEqDiff, Nat.reduceAdd, Int.reduceLT, Int.reduceLE, Int.reduceEq, Nat.reduceLT, Int.reduceToNat, Int.reduceAdd, Int.reduceSub, ↓reduceIte]
        refine (rk_loadK (xs := zero7) (get_put_same _ _ _) rfl rfl (by decide) _).mpr ?_
        simp (disch := omega) only [↓sxA, ↓wk_store, sxB, sxP, Nat.reduceLeDiff, reduceCtorEq, Nat.reduceEqDiff, Nat.reduceAdd, Int.reduceLT, Int.reduceLE, Int.reduceEq, Nat.reduceLT, Int.reduceToNat, Int.reduceAdd, Int.reduceSub, ↓reduceIte]
        exact hbad hb zero7 rfl rfl _ (F3.put _ (Nat.le_refl _) _)
      | true =>
        rw [hall] at hit
        have A1 : andI x.int 1 = b2i x.a 1 := and_bit x 0 (by decide)
        have A2 : andI x.int 2 = b2i x.k 2 := and_bit x 1 (by decide)
        have A4 : andI x.int 4 = b2i x.s 4 := and_bit x 2 (by decide)
        have A8 : andI x.int 8 = b2i x.n 8 := and_bit x 3 (by decide)
        have A16 : andI x.int 16 = b2i x.m 16 := and_bit x 4 (by decide)
        have A32 : andI x.int 32 = b2i x.f 32 := and_bit x 5 (by decide)
        have E4 : (x.int = 4) = ((x.s && !x.a && !x.k && !x.n && !x.m && !x.f) = true) := propext (int_only x)
        have E32 : (notI x.int 1 = 32) = ((x.f && !x.k && !x.s && !x.n && !x.m) = true) := propext (int_rest x)
        have hcel := r3.cel
        have ho1 : ow (Value.slice (some ⟨s1.next, 0, none⟩) (pieces 61 h).length (pieces 61 h).length) = s1.next + 1 := rfl
        have endBad : itemA s = Option.none → K (.tuple #[.agg zero7.toArray, .bool false]) (s3.put st.next (some (.row zero7 0 false))) := fun hb => hbad hb zero7 rfl rfl _ (F3.put _ (Nat.le_refl _) _)
        have endOk : ∀ y : IM, itemA s = some y → y.names = pieces 61 h → K (.tuple #[.agg (itCells (.slice (some ⟨s1.next, 0, none⟩) (pieces 61 h).length (pieces 61 h).length) y.mks).toArray, .bool true]) (s3.put st.next (some (.row (itCells (.slice (some ⟨s1.next, 0, none⟩) (pieces 61 h).length (pieces 61 h).length) y.mks) 0 false))) := fun y hy hn => hok y hy _ _ (F3.put _ (Nat.le_refl _) _) (by rw [hn]; exact hcel.keep fun i hi => get_put_ne _ _ _ _ (by omega)) rfl (.inr (by omega)) (by show _ ≤ s3.next; omega)
        clear hbad hok hm m2 hbox r2 hcel r3 hts hlen hp one7 hown
        obtain ⟨a, k, s', n', m, f⟩ := x
        simp only at A1 A2 A4 A8 A16 A32 E4 E32
        cases a <;> cases k <;> cases s' <;> cases n' <;> cases m <;> cases f <;> (
          simp (disch := omega) only [popAnd, popNot, A1, A2, A4, A8, A16, A32, E4, E32, b2i, Bool.true_and, Bool.false_and, Bool.and_true, Bool.and_false, Bool.true_or, Bool.false_or, Bool.or_true, Bool.or_false, Bool.not_true, Bool.not_false, cond_true, cond_false, Bool.and_self, Bool.or_self, Bool.false_eq_true, if_true, if_false, Int.reduceEq, ↓sxA, ↓wk_store, sxB, sxP, Nat.reduceLeDiff, reduceCtorEq, Nat.reduceEqDiff, Nat.reduceAdd, Int.reduceLT, Int.reduceLE, Int.reduceEq, Nat.reduceLT, Int.reduceToNat, Int.reduceAdd, Int.reduceSub, ↓reduceIte, hbox3, cells_agg]
          rw [resP_k1]
          simp (disch := omega) only [↓sxA, ↓wk_store, sxB, sxP, Nat.reduceLeDiff, reduceCtorEq, Nat.reduceEqDiff, Nat.reduceAdd, Int.reduceLT, Int.reduceLE, Int.reduceEq, Nat.reduceLT, Int.reduceToNat, Int.reduceAdd, Int.reduceSub, ↓reduceIte]
          first
          | (refine (rk_loadK (xs := zero7) (get_put_same _ _ _) rfl rfl (by decide) _).mpr ?_
             simp (disch := omega) only [↓sxA, ↓wk_store, sxB, sxP, Nat.reduceLeDiff, reduceCtorEq, Nat.reduceEqDiff, Nat.reduceAdd, Int.reduceLT, Int.reduceLE, Int.reduceEq, Nat.reduceLT, Int.reduceToNat, Int.reduceAdd, Int.reduceSub, ↓reduceIte]
             exact endBad (hit.trans rfl))
          | (refine (rk_loadAll (k := 7) (get_put_same _ _ _) rfl (by decide) _).mpr ?_
             simp (disch := omega) only [↓sxA, ↓wk_store, sxB, sxP, Nat.reduceLeDiff, reduceCtorEq, Nat.reduceEqDiff, Nat.reduceAdd, Int.reduceLT, Int.reduceLE, Int.reduceEq, Nat.reduceLT, Int.reduceToNat, Int.reduceAdd, Int.reduceSub, ↓reduceIte]
             exact endOk _ (hit.trans rfl) rfl))
end
end Go.Proofs.YtdmemibnphcedaaGreatDoor
end
section
set_option linter.unusedSimpArgs false
set_option linter.unusedVariables false
set_option maxRecDepth 10000
set_option linter.unusedSectionVars false
namespace Go.Proofs.YtdmemibnphcedaaGreatDoor
open Go.Am
attribute [local irreducible] callO wopK ropK popK opK grpsE listE sx Runs

theorem it7 {nv : Value} (h : oneCell nv = true) (x : Mk) : (itCells nv x).all oneCell = true := by
  show (oneCell nv && _) = true
  rw [h]
  rfl
section
variable {st : St} {K : Value → St → Prop}

end
end Go.Proofs.YtdmemibnphcedaaGreatDoor
end
section
set_option linter.unusedSimpArgs false
set_option linter.unusedVariables false
set_option maxRecDepth 10000
set_option linter.unusedSectionVars false
namespace Go.Proofs.YtdmemibnphcedaaGreatDoor
open Go.Am

/-! ### lists of items, in plain words -/
theorem itemsA_append : ∀ (a b : List ByteArray), itemsA (a ++ b) = (itemsA a).bind fun x => (itemsA b).map (x ++ ·)
  | [], b => by
    simp only [List.nil_append, itemsA, Option.bind_some]
    cases itemsA b <;> simp
  | p :: a, b => by
    simp only [List.cons_append, itemsA]
    cases itemA p with
    | none => rfl
    | some x =>
      simp only [itemsA_append a b]
      cases itemsA a with
      | none => rfl
      | some l =>
        simp only [Option.bind_some, Option.map_some, Option.map_map]
        cases itemsA b <;> simp
theorem itemsA_length : ∀ {ps : List ByteArray} {l : List IM}, itemsA ps = some l → l.length = ps.length
  | [], l, h => by simp [itemsA] at h; subst h; rfl
  | p :: ps, l, h => by
    simp only [itemsA] at h
    cases hp : itemA p with
    | none => rw [hp] at h; cases h
    | some x =>
      rw [hp] at h
      simp only [Option.map_eq_some_iff] at h
      obtain ⟨m, h1, rfl⟩ := h
      simp [itemsA_length h1]
theorem items_at {ps : List ByteArray} {j : Nat} {done l : List IM} (hj : j < ps.length) (hd : itemsA (ps.take j) = some done) (hl : itemsA ps = some l) : ∃ x r, itemA ps[j] = some x ∧ l = done ++ x :: r ∧ r.length = ps.length - j - 1 := by
  have e : ps = ps.take j ++ ps[j] :: ps.drop (j + 1) := by rw [← List.drop_eq_getElem_cons hj, List.take_append_drop]
  rw [e, itemsA_append, hd] at hl
  simp only [Option.bind_some, Option.map_eq_some_iff, itemsA] at hl
  obtain ⟨m, h1, rfl⟩ := hl
  cases hp : itemA ps[j] with
  | none => rw [hp] at h1; cases h1
  | some x =>
    rw [hp] at h1
    simp only [Option.map_eq_some_iff] at h1
    obtain ⟨r, h2, rfl⟩ := h1
    refine ⟨x, r, rfl, rfl, ?_⟩
    rw [itemsA_length h2, List.length_drop]
    omega
theorem items_snoc {ps : List ByteArray} {j : Nat} {done : List IM} {x : IM} (hj : j < ps.length) (hd : itemsA (ps.take j) = some done) (hx : itemA ps[j] = some x) : itemsA (ps.take (j + 1)) = some (done ++ [x]) := by
  rw [List.take_add_one, List.getElem?_eq_getElem hj, itemsA_append, hd]
  simp [itemsA, hx]
theorem restOk_iff : ∀ (l : List IM), restOk l = true ↔ ∀ i y, l[i]? = some y → i + 1 < l.length → y.mks.f = false
  | [] => by simp [restOk]
  | [x] => by
    simp only [restOk, true_iff]
    intro i y hi hl
    simp at hl
  | x :: y :: l => by
    simp only [restOk, Bool.and_eq_true, Bool.not_eq_true', restOk_iff (y :: l)]
    constructor
    · rintro ⟨h1, h2⟩ i z hi hl
      cases i with
      | zero => simp at hi; subst hi; exact h1
      | succ i => exact h2 i z (by simpa using hi) (by simpa using hl)
    · intro h
      exact ⟨h 0 x rfl (by simp), fun i z hi hl => h (i + 1) z (by simpa using hi) (by simpa using hl)⟩
theorem namesOf_append (a b : List IM) : namesOf (a ++ b) = namesOf a ++ namesOf b := by simp [namesOf]
theorem namesOf_cons (x : IM) (b : List IM) : namesOf (x :: b) = x.names ++ namesOf b := rfl
theorem manyOf_append (a b : List IM) : manyOf (a ++ b) = manyOf a + manyOf b := by simp [manyOf]
theorem manyOf_one (x : IM) : manyOf [x] = if x.mks.m = true then 1 else 0 := by
  unfold manyOf
  by_cases h : x.mks.m = true
  · simp [h]
  · simp [h]

/-! ### on the heap -/
def itRow : List Value → List IM → List Value
  | nv :: nvs, x :: l => itCells nv x.mks ++ itRow nvs l
  | _, _ => []
theorem itRow_snoc : ∀ (nvs : List Value) (l : List IM) (nv : Value) (x : IM), nvs.length = l.length → itRow (nvs ++ [nv]) (l ++ [x]) = itRow nvs l ++ itCells nv x.mks
  | [], [], nv, x, _ => by simp [itRow]
  | a :: nvs, y :: l, nv, x, h => by
    simp only [List.cons_append, itRow, List.append_assoc]
    rw [itRow_snoc nvs l nv x (by simpa using h)]
theorem itRow_at : ∀ (nvs : List Value) (l : List IM) (j : Nat) (nv : Value) (x : IM), nvs[j]? = some nv → l[j]? = some x → ((itRow nvs l).drop (j * 7)).take 7 = itCells nv x.mks
  | a :: nvs, y :: l, 0, nv, x, h1, h2 => by
    simp at h1 h2
    subst h1 h2
    rfl
  | a :: nvs, y :: l, j + 1, nv, x, h1, h2 => by
    simp only [itRow]
    rw [show (j + 1) * 7 = 7 + j * 7 by omega, ← List.drop_drop]
    have : List.drop 7 (itCells a y.mks ++ itRow nvs l) = itRow nvs l := rfl
    rw [this]
    exact itRow_at nvs l j nv x (by simpa using h1) (by simpa using h2)
  | [], _, j, nv, x, h1, _ => by simp at h1
  | _ :: _, [], j, nv, x, _, h2 => by simp at h2

/-- a heap holds a list of items; all of it lies from the block lo - 1 on -/
def ItR (lo : Nat) (st : St) (v : Value) (l : List IM) : Prop :=
  ∃ nvs : List Value, nvs.length = l.length ∧ GroK 7 st v (itRow nvs l) l.length ∧ (ow v = 0 ∨ lo ≤ ow v) ∧ ow v ≤ st.next ∧
    ∀ (j : Nat) (nv : Value) (x : IM), nvs[j]? = some nv → l[j]? = some x → Cel st nv (x.names.map Value.string) ∧ oneCell nv = true ∧ (ow nv = 0 ∨ (lo ≤ ow nv ∧ ow nv ≠ ow v)) ∧ ow nv ≤ st.next

theorem ItR.nil (lo : Nat) (st : St) : ItR lo st (.slice none 0 0) [] := ⟨[], rfl, GroK.nil _ _, .inl rfl, Nat.zero_le _, fun j nv x h => by simp at h⟩
theorem ItR.keep {lo : Nat} {st st' : St} {v : Value} {l : List IM} (h : ItR lo st v l) (hn : st.next ≤ st'.next) (hf : ∀ i, lo ≤ i + 1 → i < st.next → st'.get i = st.get i) : ItR lo st' v l := by
  obtain ⟨nvs, h1, h2, h3, h4, h5⟩ := h
  refine ⟨nvs, h1, h2.keep fun i hi => hf i (by omega) (by omega), h3, by omega, fun j nv x hj hx => ?_⟩
  obtain ⟨k1, k2, k3, k4⟩ := h5 j nv x hj hx
  exact ⟨k1.keep fun i hi => hf i (by omega) (by omega), k2, k3, by omega⟩
theorem ItR.weak {lo lo' : Nat} {st : St} {v : Value} {l : List IM} (h : ItR lo st v l) (hl : lo' ≤ lo) : ItR lo' st v l := by
  obtain ⟨nvs, h1, h2, h3, h4, h5⟩ := h
  refine ⟨nvs, h1, h2, by omega, h4, fun j nv x hj hx => ?_⟩
  obtain ⟨k1, k2, k3, k4⟩ := h5 j nv x hj hx
  exact ⟨k1, k2, by omega, k4⟩
theorem ItR.len {lo : Nat} {st : St} {v : Value} {l : List IM} (h : ItR lo st v l) (K : Value → Prop) : popK .lenSl [v] K = K (.int .i64 (l.length : Nat)) := by
  obtain ⟨nvs, h1, h2, _⟩ := h
  rcases h2 with ⟨q1, q2, q3⟩ | ⟨b, cap, q1, _⟩
  · rw [q1, q3]; rfl
  · rw [q1, pk_lenSl]
theorem ItR.at {lo : Nat} {st : St} {v : Value} {l : List IM} (h : ItR lo st v l) {j : Nat} (hj : j < l.length) : ∃ (b : Nat) (nv : Value), (∀ K : Value → Prop, popK (.indexAddr 7) [v, .int .i64 (j : Int)] K = K (.pointer (some ⟨b, j * 7, none⟩))) ∧ (∀ K : Value → Prop, ropK (.loadN 7) [.pointer (some ⟨b, j * 7, none⟩)] st K = K (.agg (itCells nv l[j].mks).toArray)) ∧
    (∀ (k : Nat) (c : Value), (itCells nv l[j].mks)[k]? = some c → ∀ K : Value → Prop, ropK .load1 [.pointer (some ⟨b, j * 7 + k, none⟩)] st K = K c) ∧ Cel st nv (l[j].names.map Value.string) ∧ oneCell nv = true ∧ (ow nv = 0 ∨ lo ≤ ow nv) ∧ ow nv ≤ st.next := by
  obtain ⟨nvs, h1, h2, h3, h4, h5⟩ := h
  rcases h2 with ⟨q1, q2, q3⟩ | ⟨b, cap, q1, q2, q3, q4⟩
  · omega
  have hnv : nvs[j]? = some (nvs[j]'(by omega)) := List.getElem?_eq_getElem _
  have hx : l[j]? = some l[j] := List.getElem?_eq_getElem _
  obtain ⟨k1, k2, k3, k4⟩ := h5 j _ _ hnv hx
  have hat := itRow_at nvs l j _ _ hnv hx
  refine ⟨b, nvs[j]'(by omega), fun K => ?_, fun K => rk_loadK q3 hat rfl (by decide) K, fun k c hc K => ?_, k1, k2, by omega, k4⟩
  · rw [q1, pk_indexAddr]
    have e : (0 : Nat) + (j : Int).toNat * 7 = j * 7 := by omega
    rw [e]
    exact propext ⟨fun h => h.2, fun h => ⟨⟨by omega, by omega⟩, h⟩⟩
  · rw [rk_load1, q3]
    simp only [getK, rowK]
    refine nthK_at ?_ K
    rw [← hat] at hc
    have hk : k < 7 := by
      have := (List.getElem?_eq_some_iff.1 hc).1
      rw [List.length_take] at this
      omega
    rw [List.getElem?_take_of_lt hk, List.getElem?_drop] at hc
    exact hc
theorem ItR.snoc {lo : Nat} {st st' : St} {v v' nv : Value} {l : List IM} {x : IM} {nvs : List Value} (h1 : nvs.length = l.length) (h5 : ∀ (j : Nat) (nv : Value) (x : IM), nvs[j]? = some nv → l[j]? = some x → Cel st nv (x.names.map Value.string) ∧ oneCell nv = true ∧ (ow nv = 0 ∨ (lo ≤ ow nv ∧ ow nv ≠ ow v)) ∧ ow nv ≤ st.next)
    (hg : GroK 7 st' v' (itRow nvs l ++ itCells nv x.mks) (l.length + 1)) (hn : st.next ≤ st'.next) (hf : ∀ i, i + 1 ≠ ow v → i < st.next → st'.get i = st.get i) (hv' : lo ≤ ow v' ∧ st.next < ow v' ∧ ow v' ≤ st'.next)
    (hc : Cel st nv (x.names.map Value.string)) (ho : oneCell nv = true) (hw : ow nv = 0 ∨ (lo ≤ ow nv ∧ ow nv ≠ ow v)) (hwn : ow nv ≤ st.next) : ItR lo st' v' (l ++ [x]) := by
  refine ⟨nvs ++ [nv], by simp [h1], by rw [itRow_snoc _ _ _ _ h1, List.length_append]; exact hg, .inr hv'.1, hv'.2.2, fun j nv' x' hj hx => ?_⟩
  by_cases hjl : j < l.length
  · rw [List.getElem?_append_left (by omega)] at hj hx
    obtain ⟨k1, k2, k3, k4⟩ := h5 j nv' x' hj hx
    refine ⟨k1.keep fun i hi => hf i (by omega) (by omega), k2, by omega, by omega⟩
  · rw [List.getElem?_append_right (by omega)] at hj hx
    have e1 : j - nvs.length = 0 := by
      have := (List.getElem?_eq_some_iff.1 hj).1
      simp at this
      omega
    rw [e1] at hj
    rw [show j - l.length = 0 by omega] at hx
    simp at hj hx
    subst hj hx
    exact ⟨hc.keep fun i hi => hf i (by omega) (by omega), ho, by omega, by omega⟩

/-- the names that were seen -/
def Seen (es : List (Value × Value × Nat)) (ns : List ByteArray) : Prop := es.map (fun e => (e.1, e.2.1)) = ns.map fun n => (Value.string n, Value.bool true)

theorem Seen.find : ∀ {es : List (Value × Value × Nat)} {ns : List ByteArray}, Seen es ns → ∀ (q : ByteArray) (i : Nat), (q ∈ ns → ∃ k, findV .str (.string q) es i = some (some (k, .bool true))) ∧ (q ∉ ns → findV .str (.string q) es i = some none)
  | [], [], _, q, i => ⟨fun h => (by cases h), fun _ => rfl⟩
  | e :: es, n :: ns, h, q, i => by
    simp only [Seen, List.map_cons, List.cons.injEq, Prod.mk.injEq] at h
    obtain ⟨⟨h1, h2⟩, h3⟩ := h
    obtain ⟨k1, k2⟩ := Seen.find (es := es) (ns := ns) h3 q (i + 1)
    simp only [findV, h1, h2, sameV, bytes_beq]
    by_cases hq : q = n
    · subst hq
      simp
    · simp only [hq, decide_false, List.mem_cons, false_or]
      exact ⟨k1, k2⟩
  | [], n :: ns, h, _, _ => by simp [Seen] at h
  | e :: es, [], h, _, _ => by simp [Seen] at h
theorem Seen.snoc {es : List (Value × Value × Nat)} {ns : List ByteArray} (h : Seen es ns) (q : ByteArray) (c : Nat) : Seen (es ++ [(.string q, .bool true, c)]) (ns ++ [q]) := by
  unfold Seen at *
  rw [List.map_append, h, List.map_append]
  rfl
end Go.Proofs.YtdmemibnphcedaaGreatDoor
end
section
set_option linter.unusedSimpArgs false
set_option linter.unusedVariables false
set_option maxRecDepth 10000
set_option linter.unusedSectionVars false
namespace Go.Proofs.YtdmemibnphcedaaGreatDoor
open Go.Am
attribute [local irreducible] callO wopK ropK popK opK grpsE listE sx Runs

/-- between two parts -/
def TL1 (st : St) (pv : Value) (ps : List ByteArray) (vs : List Value) (s : St) : Prop :=
  ∃ (done : List IM) (j : Nat) (out : Value) (es : List (Value × Value × Nat)) (c : Nat), vs = [out, .map (some st.next), pv, .int .i64 (manyOf done : Nat), pv, .int .i64 (ps.length : Nat), .int .i64 (j : Nat)] ∧ j ≤ ps.length ∧ itemsA (ps.take j) = some done ∧
    ItR (st.next + 3) s out done ∧ s.get st.next = some (.map es c) ∧ Seen es (namesOf done) ∧ (namesOf done).Nodup ∧ (∀ i y, done[i]? = some y → i + 1 < ps.length → y.mks.f = false) ∧ st.next < s.next ∧ (∀ i, i < st.next → s.get i = st.get i) ∧ Row1 s pv (ps.map Value.string) ∧ ow pv ≤ s.next ∧ ow pv = st.next + 2

/-- between two names -/
def TL2 (st s3 : St) (pv out nv : Value) (ps : List ByteArray) (done : List IM) (x : IM) (bx j : Nat) (vs : List Value) (s : St) : Prop :=
  ∃ (k : Nat) (es : List (Value × Value × Nat)) (c : Nat), vs = [out, .map (some st.next), pv, .int .i64 (manyOf done : Nat), .pointer (some ⟨bx, 0, none⟩), pv, .int .i64 (ps.length : Nat), .int .i64 (j : Nat), nv, .int .i64 (x.names.length : Nat), .int .i64 (k : Nat)] ∧ k ≤ x.names.length ∧
    s.get st.next = some (.map es c) ∧ Seen es (namesOf done ++ x.names.take k) ∧ (namesOf done ++ x.names.take k).Nodup ∧ s.next = s3.next ∧ ∀ i, i ≠ st.next → s.get i = s3.get i

theorem itemA_names {s : ByteArray} {x : IM} (h : itemA s = some x) : x.names.length ≤ s.size + 1 := by
  unfold itemA at h
  split at h
  · rename_i hd t hp
    split at h
    · rename_i mks hm
      split at h
      · cases h
        have h1 := pieces_length 61 hd
        have h2 := pieces_size (c := 47) (s := s) (p := hd) (by rw [hp]; simp)
        show (pieces 61 hd).length ≤ _
        omega
      · cases h
    · cases h
  · cases h

section
variable {st : St} {K : Value → St → Prop}

set_option maxHeartbeats 8000000 in
theorem kTemplate (n : Nat) (t : ByteArray) (ht : t.size < 80000) (h0 : 0 < st.next) (hm : hasMax st = true) (h : ∀ l e v st', TmA t l e → ItR (st.next + 1) st' v l → Frm st st' → K (.tuple #[v, .int .i64 e]) st') :
    callK (callO T0 orc fns 100000 (n + 6)) 16 [.string t] st K := by
  refine fn_runs (fn := g16) ?_ ?_ ?_
  · rfl
  · rfl
  unfold g16
  by_cases h1 : t = ByteArray.empty
  · have e1 : (t = ByteArray.empty) = True := eq_true h1
    simp (disch := omega) only [↓sxA, ↓wk_store, sxB, sxP, Nat.reduceLeDiff, reduceCtorEq, Nat.reduceEqDiff, Nat.reduceAdd, Int.reduceLT, Int.reduceLE, Int.reduceEq, Nat.reduceLT, Int.reduceToNat, Int.reduceAdd, Int.reduceSub, ↓reduceIte, e1]
    exact h [] 0 _ st (.nil h1) (ItR.nil _ _) (Frm.refl _)
  have e1 : (t = ByteArray.empty) = False := eq_false h1
  have F1 := Frm.new st (.map [] 0)
  simp (disch := omega) only [↓sxA, ↓wk_store, sxB, sxP, Nat.reduceLeDiff, reduceCtorEq, Nat.reduceEqDiff, Nat.reduceAdd, Int.reduceLT, Int.reduceLE, Int.reduceEq, Nat.reduceLT, Int.reduceToNat, Int.reduceAdd, Int.reduceSub, ↓reduceIte, e1]
  refine kSplit (n + 5) t 44 (by omega) (F1.max h0 hm) fun s2 r2 n2 f2 => ?_
  have n2' : s2.next = st.next + 2 := n2
  have hmp : s2.get st.next = some (.map [] 0) := (f2 _ (Nat.lt_succ_self _)).trans (get_new_same _ _)
  have hlen : (pieces 44 t).length ≤ t.size + 1 := pieces_length 44 t
  have hsz : ∀ p ∈ pieces 44 t, p.size ≤ t.size := fun p hp => pieces_size hp
  have hbadT : (∀ l, itemsA (pieces 44 t) = some l → ¬ goodA l) → TmA t [] 3 := fun hh => .bad h1 hh
  have hlongT : ∀ l, itemsA (pieces 44 t) = some l → goodA l → 20 < l.length → TmA t [] 2 := fun l k1 k2 k3 => .long l h1 k1 k2 k3
  have hokT : ∀ l, itemsA (pieces 44 t) = some l → goodA l → l.length ≤ 20 → TmA t l 0 := fun l k1 k2 k3 => .ok l h1 k1 k2 k3
  have how : ow (Value.slice (some ⟨(st.new (.map [] 0)).next, 0, none⟩) (pieces 44 t).length (pieces 44 t).length) = st.next + 2 := rfl
  have hln : ∀ K : Value → Prop, popK .lenSl [Value.slice (some ⟨(st.new (.map [] 0)).next, 0, none⟩) (pieces 44 t).length (pieces 44 t).length] K = K (.int .i64 ((pieces 44 t).length : Nat)) := fun K => pk_lenSl _ _ _
  generalize Value.slice (some ⟨(st.new (.map [] 0)).next, 0, none⟩) (pieces 44 t).length (pieces 44 t).length = pv at r2 how hln
  have f2' : ∀ i, i < st.next → s2.get i = st.get i := fun i hi => (f2 i (by show i < st.next + 1; omega)).trans (get_new_ne _ _ _ (by omega))
  generalize pieces 44 t = ps at r2 hlen hsz hbadT hlongT hokT hln
  clear f2 n2
  simp (disch := omega) only [↓sxA, ↓wk_store, sxB, sxP, Nat.reduceLeDiff, reduceCtorEq, Nat.reduceEqDiff, Nat.reduceAdd, Int.reduceLT, Int.reduceLE, Int.reduceEq, Nat.reduceLT, Int.reduceToNat, Int.reduceAdd, Int.reduceSub, ↓reduceIte, ↓hln]
  refine loop_rule [4, 5, 6, 7, 19, 20, 21] (TL1 st pv ps) (fun vs _ => match lget vs 6 with
      | .int _ k => ((ps.length : Int) - k).toNat
      | _ => 0) ?_ ?_ ?_
  · rfl
  · refine ⟨_, rfl, ⟨[], 0, _, [], 0, rfl, Nat.zero_le _, rfl, ItR.nil _ _, hmp, rfl, List.nodup_nil, fun i y hi => by simp at hi, by omega, f2', r2, by omega, by omega⟩, ?_⟩
    show ((ps.length : Int) - 0).toNat < 100000
    omega
  · clear hmp f2' r2 n2' s2
    rintro vs s ⟨done, j, out, es, c, rfl, hj, hit, hR, hmp, hseen, hnd, hrest, hnx, hf, hr, hpw, hpl⟩
    show sx _ _ _ _ _ [(4, _), (5, _), (6, _), (7, _), (19, _), (20, _), (21, _)] _ _ _ _
    have F : Frm st s := ⟨by omega, hf⟩
    by_cases hjp : j < ps.length
    · have ix := idx_cel hr.cel .i64 (j : Int)
      rw [List.length_map] at ix
      have ld : ∀ K : Value → Prop, ropK .load1 [bptr pv (j : Int)] s K = K (.string (ps.getD j .empty)) := fun K => by
        rw [load_cel hr.cel (j : Int) K (by omega) (by rw [List.length_map]; omega), Int.toNat_natCast, getD_str _ j hjp]
      have hpj : ps.getD j .empty = ps[j] := by rw [List.getD_eq_getElem?_getD, List.getElem?_eq_getElem hjp, Option.getD_some]
      rw [hpj] at ld
      have hps := hsz _ (List.getElem_mem hjp)
      have hat : ∀ l, itemsA ps = some l → ∃ x r, itemA ps[j] = some x ∧ l = done ++ x :: r ∧ r.length = ps.length - j - 1 := fun l hl => items_at hjp hit hl
      have hsn : ∀ x, itemA ps[j] = some x → itemsA (ps.take (j + 1)) = some (done ++ [x]) := fun x hx => items_snoc hjp hit hx
      have hdl : done.length = j := by rw [itemsA_length hit, List.length_take]; omega
      generalize ps[j] = p at ld hps hat hsn
      simp (disch := omega) only [↓sxA, ↓wk_store, sxB, sxP, Nat.reduceLeDiff, reduceCtorEq, Nat.reduceEqDiff, Nat.reduceAdd, Int.reduceLT, Int.reduceLE, Int.reduceEq, Nat.reduceLT, Int.reduceToNat, Int.reduceAdd, Int.reduceSub, ↓reduceIte, ↓ix, ↓ld]
      refine kItem n p (by omega) (by omega) (F.max h0 hm) (fun hb l hl hlo s3 F3 => ?_) (fun x hx nv s3 F3 hnv ho1 how1 hown => ?_)
      · -- no item
        have st7 := fun W => wk_storeK (W := W) (get_new_same s3 (.row zero7 0 false)) (o := 0) (k := 7) (xs := l) (by decide) hl hlo
        simp (disch := omega) only [↓sxA, ↓wk_store, sxB, sxP, Nat.reduceLeDiff, reduceCtorEq, Nat.reduceEqDiff, Nat.reduceAdd, Int.reduceLT, Int.reduceLE, Int.reduceEq, Nat.reduceLT, Int.reduceToNat, Int.reduceAdd, Int.reduceSub, ↓reduceIte, ↓st7]
        refine h [] 3 _ _ (hbadT fun l hl => ?_) (ItR.nil _ _) (((F.trans F3).trans (Frm.new s3 _)).put _ (by have := F3.nx; omega) _)
        obtain ⟨x, r, hx, _⟩ := hat l hl
        rw [hb] at hx
        cases hx
      · obtain ⟨s4, hs4⟩ : ∃ s4, s4 = (s3.new (.row zero7 0 false)).put s3.next (some (.row [nv, .bool x.mks.a, .bool x.mks.k, .bool x.mks.s, .bool x.mks.n, .bool x.mks.m, .bool x.mks.f] 0 false)) := ⟨_, rfl⟩
        have st7 : ∀ W : Value → St → Prop, wopK (.store 7) [.pointer (some ⟨s3.next, 0, none⟩), .agg (itCells nv x.mks).toArray] (s3.new (.row zero7 0 false)) W = W undef s4 :=
          fun W => by rw [hs4]; exact wk_storeK (W := W) (get_new_same s3 (.row zero7 0 false)) (o := 0) (k := 7) (xs := itCells nv x.mks) (by decide) rfl (it7 ho1 _)
        have hnl := itemA_names hx
        have hbx : s4.get s3.next = some (.row [nv, .bool x.mks.a, .bool x.mks.k, .bool x.mks.s, .bool x.mks.n, .bool x.mks.m, .bool x.mks.f] 0 false) := by rw [hs4]; exact get_put_same _ _ _
        have n4 : s4.next = s3.next + 1 := by rw [hs4]; rfl
        have f4 : ∀ i, i < s3.next → s4.get i = s3.get i := fun i hi => by rw [hs4, get_put_ne _ _ _ _ (by omega), get_new_ne _ _ _ (by omega)]
        have hn3 := F3.nx
        have F4 : Frm s s4 := F3.trans ⟨by omega, f4⟩
        have Fst : Frm st s4 := F.trans F4
        have hnv4 : Cel s4 nv (x.names.map Value.string) := hnv.keep fun i hi => f4 i (by omega)
        have lnv := len_cel hnv4
        rw [List.length_map] at lnv
        have hmp4 : s4.get st.next = some (.map es c) := (F4.old _ hnx).trans hmp
        have early : x.mks.f = true → (j : Int) < (ps.length : Int) - 1 → K (.tuple #[.slice none 0 0, .int .i64 3]) s4 := fun hxf hlt => by
          refine h [] 3 _ _ (hbadT fun l hl hg => ?_) (ItR.nil _ _) Fst
          obtain ⟨x', r, hx', hl', hrl⟩ := hat l hl
          rw [hx] at hx'
          cases hx'
          have := (restOk_iff l).1 hg.1 j x (by rw [hl', List.getElem?_append_right (by omega), hdl]; simp) (by rw [hl', List.length_append, List.length_cons]; omega)
          rw [hxf] at this
          cases this
        have hdup : ∀ (k : Nat) (q : ByteArray), k < x.names.length → x.names[k]? = some q → q ∈ namesOf done ++ x.names.take k → ∀ l, itemsA ps = some l → ¬ goodA l := fun k q hk hq hin l hl hg => by
          obtain ⟨x', r, hx', hl', hrl⟩ := hat l hl
          rw [hx] at hx'
          cases hx'
          have hnod := hg.2.1
          have hqk : x.names[k] = q := by rw [List.getElem?_eq_getElem hk] at hq; exact Option.some.inj hq
          rw [hl', namesOf_append, namesOf_cons] at hnod
          have e : x.names = x.names.take k ++ q :: x.names.drop (k + 1) := by rw [← hqk, ← List.drop_eq_getElem_cons hk, List.take_append_drop]
          rw [e, List.append_assoc, ← List.append_assoc, List.cons_append] at hnod
          rw [List.nodup_append] at hnod
          exact hnod.2.2 q hin q (by simp) rfl
        by_cases hE : x.mks.f = true ∧ (j : Int) < (ps.length : Int) - 1
        · have hfv := hE.1
          have hlt := hE.2
          simp (disch := omega) only [↓sxA, ↓wk_store, sxB, sxP, Nat.reduceLeDiff, reduceCtorEq, Nat.reduceEqDiff, Nat.reduceAdd, Int.reduceLT, Int.reduceLE, Int.reduceEq, Nat.reduceLT, Int.reduceToNat, Int.reduceAdd, Int.reduceSub, ↓reduceIte, ↓st7, hbx, hfv, ↓hln]
          exact early hfv hlt
        have hcase : x.mks.f = false ∨ (x.mks.f = true ∧ ¬ (j : Int) < (ps.length : Int) - 1) := by
          cases hh : x.mks.f with
          | false => exact .inl rfl
          | true => exact .inr ⟨rfl, fun hlt => hE ⟨hh, hlt⟩⟩
        rcases hcase with hfv | ⟨hfv, hlast⟩
        all_goals
          simp (disch := omega) only [↓sxA, ↓wk_store, sxB, sxP, Nat.reduceLeDiff, reduceCtorEq, Nat.reduceEqDiff, Nat.reduceAdd, Int.reduceLT, Int.reduceLE, Int.reduceEq, Nat.reduceLT, Int.reduceToNat, Int.reduceAdd, Int.reduceSub, ↓reduceIte, ↓st7, hbx, hfv, ↓hln, ↓lnv]
          refine loop_rule [4, 5, 6, 7, 10, 19, 20, 21, 45, 46, 47] (TL2 st s4 pv out nv ps done x s3.next j) (fun vs _ => match lget vs 10 with
              | .int _ k => ((x.names.length : Int) - k).toNat
              | _ => 0) ?_ ?_ ?_
          · rfl
          · refine ⟨_, rfl, ⟨0, es, c, rfl, Nat.zero_le _, hmp4, by simpa using hseen, by simpa using hnd, rfl, fun _ _ => rfl⟩, ?_⟩
            show ((x.names.length : Int) - 0).toNat < 100000
            omega
          · clear early hmp hmp4 hseen hnd
            rintro vs s5 ⟨k, es, c, rfl, hk, hmp, hseen, hnd, n5, f5⟩
            show sx _ _ _ _ _ [(4, _), (5, _), (6, _), (7, _), (10, _), (19, _), (20, _), (21, _), (45, _), (46, _), (47, _)] _ _ _ _
            have hnv5 : Cel s5 nv (x.names.map Value.string) := hnv4.keep fun i hi => f5 i (by omega)
            have F5 : Frm st s5 := ⟨by have := Fst.nx; omega, fun i hi => (f5 i (by omega)).trans (Fst.old i hi)⟩
            by_cases hkn : k < x.names.length
            · have ix5 := idx_cel hnv5 .i64 (k : Int)
              rw [List.length_map] at ix5
              have hqk : x.names[k]? = some (x.names.getD k .empty) := by rw [List.getD_eq_getElem?_getD, List.getElem?_eq_getElem hkn]; rfl
              have ld5 : ∀ K : Value → Prop, ropK .load1 [bptr nv (k : Int)] s5 K = K (.string (x.names.getD k .empty)) := fun K => by
                rw [load_cel hnv5 (k : Int) K (by omega) (by rw [List.length_map]; omega), Int.toNat_natCast, getD_str _ k hkn]
              have htk : x.names.take (k + 1) = x.names.take k ++ [x.names.getD k .empty] := by rw [List.take_add_one, hqk]; rfl
              have hdq := hdup k _ hkn hqk
              generalize x.names.getD k .empty = q at ld5 htk hdq
              by_cases hin : q ∈ namesOf done ++ x.names.take k
              · obtain ⟨k', hk'⟩ := (hseen.find q 0).1 hin
                have hlk := lookK_hit1 hk'
                simp (disch := omega) only [↓sxA, ↓wk_store, sxB, sxP, Nat.reduceLeDiff, reduceCtorEq, Nat.reduceEqDiff, Nat.reduceAdd, Int.reduceLT, Int.reduceLE, Int.reduceEq, Nat.reduceLT, Int.reduceToNat, Int.reduceAdd, Int.reduceSub, ↓reduceIte, ↓ix5, ↓ld5, hmp, ↓hlk]
                exact h [] 3 _ _ (hbadT (hdq hin)) (ItR.nil _ _) F5
              · have hk' := (hseen.find q 0).2 hin
                have hlk := lookK_miss1 hk'
                have hst := setK_miss hk'
                simp (disch := omega) only [↓sxA, ↓wk_store, sxB, sxP, Nat.reduceLeDiff, reduceCtorEq, Nat.reduceEqDiff, Nat.reduceAdd, Int.reduceLT, Int.reduceLE, Int.reduceEq, Nat.reduceLT, Int.reduceToNat, Int.reduceAdd, Int.reduceSub, ↓reduceIte, ↓ix5, ↓ld5, hmp, ↓hlk, ↓hst]
                refine ⟨_, rfl, ⟨k + 1, _, _, rfl, hkn, get_put_same _ _ _, ?_, ?_, n5, fun i hi => (get_put_ne _ _ _ _ (Ne.symm hi)).trans (f5 i hi)⟩, ?_⟩
                · rw [htk, ← List.append_assoc]; exact hseen.snoc q c
                · rw [htk, ← List.append_assoc, List.nodup_append]
                  refine ⟨hnd, by simp, fun a ha b hb => ?_⟩
                  simp at hb
                  subst hb
                  exact fun e => hin (e ▸ ha)
                · show ((x.names.length : Int) - ((k : Int) + 1)).toNat < ((x.names.length : Int) - (k : Int)).toNat
                  omega
            · have htk : x.names.take k = x.names := List.take_of_length_le (by omega)
              rw [htk] at hseen hnd
              have hbx5 := (f5 s3.next (by omega)).trans hbx
              have all5 := rk_loadAll (k := 7) hbx5 rfl (by decide)
              have hR5 : ItR (st.next + 3) s5 out done := (hR.keep (st' := s4) F4.nx (fun i _ hi => F4.old i hi)).keep (by omega) fun i hi _ => f5 i (by omega)
              obtain ⟨nvs, g1, g2, g3, g4, g5⟩ := hR5
              obtain ⟨nvs', g1', g2', g3', g4', g5'⟩ := hR
              have hnx5 : (s5.new (.row [nv, .bool x.mks.a, .bool x.mks.k, .bool x.mks.s, .bool x.mks.n, .bool x.mks.m, .bool x.mks.f] 0 false)).next = s5.next + 1 := rfl
              -- the item is laid on
              have lay : ∀ W : Value → St → Prop, (∀ v' s6, ItR (st.next + 3) s6 v' (done ++ [x]) → s6.get st.next = some (.map es c) → (∀ i, i < st.next → s6.get i = st.get i) → s5.next ≤ s6.next → Row1 s6 pv (ps.map Value.string) → W v' s6) → wopK (.append 7 32) [out, .slice (some ⟨s5.next, 0, none⟩) 1 1] (s5.new (.row [nv, .bool x.mks.a, .bool x.mks.k, .bool x.mks.s, .bool x.mks.n, .bool x.mks.m, .bool x.mks.f] 0 false)) W := fun W hW => by
                refine appendK (new := [nv, .bool x.mks.a, .bool x.mks.k, .bool x.mks.s, .bool x.mks.n, .bool x.mks.m, .bool x.mks.f]) (g2.keep fun i hi => get_new_ne _ _ _ (by omega)) (get_new_same _ _) rfl (by decide) (it7 ho1 x.mks) (by omega) (by omega) fun s6 k1 k2 k3 => ?_
                have fr : ∀ i, i + 1 ≠ ow out → i < s5.next → s6.get i = s5.get i := fun i hi hlt => (k3 i hi (by omega)).trans (get_new_ne _ _ _ (by omega))
                refine hW _ s6 (ItR.snoc g1 g5 k1 (by omega) fr ⟨?_, ?_, ?_⟩ hnv5 ho1 (by omega) (by omega)) ((fr _ (by omega) (by omega)).trans hmp) (fun i hi => (fr i (by omega) (by omega)).trans (F5.old i hi)) (by omega) ?_
                · show st.next + 3 ≤ s5.next + 1 + 1; omega
                · show s5.next < s5.next + 1 + 1; omega
                · show s5.next + 1 + 1 ≤ s6.next; omega
                · exact hr.keep fun i hi => (fr i (by omega) (by omega)).trans ((f5 i (by omega)).trans (F4.old i (by omega)))
              have hmm : manyOf (done ++ [x]) = manyOf done + manyOf [x] := manyOf_append _ _
              rw [manyOf_one] at hmm
              have hns : namesOf (done ++ [x]) = namesOf done ++ x.names := by rw [namesOf_append]; simp [namesOf]
              have hmeas : ((ps.length : Int) - ((j : Int) + 1)).toNat < ((ps.length : Int) - (j : Int)).toNat := by omega
              have hrest' : ∀ i y, (done ++ [x])[i]? = some y → i + 1 < ps.length → y.mks.f = false := fun i y hi hil => by
                by_cases hid : i < done.length
                · rw [List.getElem?_append_left hid] at hi; exact hrest i y hi hil
                · rw [List.getElem?_append_right (by omega)] at hi
                  have e0 : i - done.length = 0 := by
                    have := (List.getElem?_eq_some_iff.1 hi).1
                    simp at this
                    omega
                  rw [e0] at hi
                  simp at hi
                  subst hi
                  first
                  | exact hfv
                  | (exfalso; omega)
              have fin : ∀ (many : Int) v' s6, many = (manyOf (done ++ [x]) : Nat) → ItR (st.next + 3) s6 v' (done ++ [x]) → s6.get st.next = some (.map es c) → (∀ i, i < st.next → s6.get i = st.get i) → s5.next ≤ s6.next → Row1 s6 pv (ps.map Value.string) →
                  TL1 st pv ps [v', .map (some st.next), pv, .int .i64 many, pv, .int .i64 (ps.length : Nat), .int .i64 ((j : Int) + 1)] s6 := fun many v' s6 e k1 k2 k3 k4 k5 => by
                subst e
                exact ⟨done ++ [x], j + 1, v', es, c, rfl, hjp, hsn x hx, k1, k2, by rw [hns]; exact hseen, by rw [hns]; exact hnd, hrest', by omega, k3, k5, by omega, hpl⟩
              have hml : manyOf done ≤ done.length := List.length_filter_le _ _
              cases hmv : x.mks.m with
              | true =>
                simp (disch := omega) only [↓sxA, ↓wk_store, sxB, sxP, Nat.reduceLeDiff, reduceCtorEq, Nat.reduceEqDiff, Nat.reduceAdd, Int.reduceLT, Int.reduceLE, Int.reduceEq, Nat.reduceLT, Int.reduceToNat, Int.reduceAdd, Int.reduceSub, ↓reduceIte, hbx5, hmv, ↓all5]
                rw [hmv] at lay
                refine lay _ fun v' s6 k1 k2 k3 k4 k5 => ?_
                simp (disch := omega) only [↓sxA, ↓wk_store, sxB, sxP, Nat.reduceLeDiff, reduceCtorEq, Nat.reduceEqDiff, Nat.reduceAdd, Int.reduceLT, Int.reduceLE, Int.reduceEq, Nat.reduceLT, Int.reduceToNat, Int.reduceAdd, Int.reduceSub, ↓reduceIte]
                exact ⟨_, rfl, fin _ v' s6 (by rw [hmm, if_pos hmv]; rfl) k1 k2 k3 k4 k5, hmeas⟩
              | false =>
                simp (disch := omega) only [↓sxA, ↓wk_store, sxB, sxP, Nat.reduceLeDiff, reduceCtorEq, Nat.reduceEqDiff, Nat.reduceAdd, Int.reduceLT, Int.reduceLE, Int.reduceEq, Nat.reduceLT, Int.reduceToNat, Int.reduceAdd, Int.reduceSub, ↓reduceIte, hbx5, hmv, ↓all5]
                rw [hmv] at lay
                refine lay _ fun v' s6 k1 k2 k3 k4 k5 => ?_
                simp (disch := omega) only [↓sxA, ↓wk_store, sxB, sxP, Nat.reduceLeDiff, reduceCtorEq, Nat.reduceEqDiff, Nat.reduceAdd, Int.reduceLT, Int.reduceLE, Int.reduceEq, Nat.reduceLT, Int.reduceToNat, Int.reduceAdd, Int.reduceSub, ↓reduceIte]
                exact ⟨_, rfl, fin _ v' s6 (by rw [hmm, if_neg (by rw [hmv]; decide)]; rfl) k1 k2 k3 k4 k5, hmeas⟩
    · have hjl : j = ps.length := by omega
      have hps : ps.take j = ps := List.take_of_length_le (by omega)
      rw [hps] at hit
      have hdl := itemsA_length hit
      have hlo := hR.len
      have hro : restOk done = true := (restOk_iff done).2 fun i y hi hl => hrest i y hi (by omega)
      by_cases hm1 : 1 < manyOf done
      · simp (disch := omega) only [↓sxA, ↓wk_store, sxB, sxP, Nat.reduceLeDiff, reduceCtorEq, Nat.reduceEqDiff, Nat.reduceAdd, Int.reduceLT, Int.reduceLE, Int.reduceEq, Nat.reduceLT, Int.reduceToNat, Int.reduceAdd, Int.reduceSub, ↓reduceIte]
        refine h [] 3 _ _ (hbadT fun l hl hg => ?_) (ItR.nil _ _) F
        rw [hit] at hl
        cases hl
        exact absurd hg.2.2 (by omega)
      · have hg : goodA done := ⟨hro, hnd, by omega⟩
        by_cases h20 : 20 < done.length
        · simp (disch := omega) only [↓sxA, ↓wk_store, sxB, sxP, Nat.reduceLeDiff, reduceCtorEq, Nat.reduceEqDiff, Nat.reduceAdd, Int.reduceLT, Int.reduceLE, Int.reduceEq, Nat.reduceLT, Int.reduceToNat, Int.reduceAdd, Int.reduceSub, ↓reduceIte, ↓hlo]
          exact h [] 2 _ _ (hlongT done hit hg h20) (ItR.nil _ _) F
        · simp (disch := omega) only [↓sxA, ↓wk_store, sxB, sxP, Nat.reduceLeDiff, reduceCtorEq, Nat.reduceEqDiff, Nat.reduceAdd, Int.reduceLT, Int.reduceLE, Int.reduceEq, Nat.reduceLT, Int.reduceToNat, Int.reduceAdd, Int.reduceSub, ↓reduceIte, ↓hlo]
          exact h done 0 _ _ (hokT done hit hg (by omega)) (hR.weak (by omega)) F
end
end Go.Proofs.YtdmemibnphcedaaGreatDoor
end
section
set_option linter.unusedSimpArgs false
set_option linter.unusedVariables false
set_option maxRecDepth 10000
set_option linter.unusedSectionVars false
namespace Go.Proofs.YtdmemibnphcedaaGreatDoor
open Go.Am
attribute [local irreducible] callO wopK ropK popK opK grpsE listE sx Runs

/-- a list of items; no part of it lies in the block a - 1 -/
def ItV (lo a : Nat) (st : St) (v : Value) (l : List IM) (nvs : List Value) : Prop :=
  nvs.length = l.length ∧ GroK 7 st v (itRow nvs l) l.length ∧ (ow v = 0 ∨ (lo ≤ ow v ∧ ow v ≠ a)) ∧ ow v ≤ st.next ∧
    ∀ (j : Nat) (nv : Value) (x : IM), nvs[j]? = some nv → l[j]? = some x → Cel st nv (x.names.map Value.string) ∧ oneCell nv = true ∧ (ow nv = 0 ∨ (lo ≤ ow nv ∧ ow nv ≠ ow v ∧ ow nv ≠ a)) ∧ ow nv ≤ st.next

theorem ItV.keep {lo a a' : Nat} {st st' : St} {v : Value} {l : List IM} {nvs : List Value} (h : ItV lo a st v l nvs) (hn : st.next ≤ st'.next) (hf : ∀ i, i + 1 ≠ a → lo ≤ i + 1 → i < st.next → st'.get i = st.get i) (ha : a' = a ∨ a' = 0 ∨ st.next < a') : ItV lo a' st' v l nvs := by
  obtain ⟨h1, h2, h3, h4, h5⟩ := h
  refine ⟨h1, h2.keep fun i hi => hf i (by omega) (by omega) (by omega), by omega, by omega, fun j nv x hj hx => ?_⟩
  obtain ⟨k1, k2, k3, k4⟩ := h5 j nv x hj hx
  exact ⟨k1.keep fun i hi => hf i (by omega) (by omega) (by omega), k2, by omega, by omega⟩

/-! ### how many names there are at most -/
theorem spl_sum (c : UInt8) : ∀ l, ((spl c l).map fun p => p.length + 1).sum = l.length + 1
  | [] => rfl
  | x :: l => by
    have ih := spl_sum c l
    simp only [spl]
    split
    · simp [ih]; omega
    · split
      · rename_i p ps hp
        rw [hp] at ih
        simp only [List.map_cons, List.sum_cons, List.length_cons] at ih ⊢
        omega
      · rename_i hp; exact (spl_ne c l hp).elim
section
variable {st : St} {K : Value → St → Prop}

end
end Go.Proofs.YtdmemibnphcedaaGreatDoor
end
section
set_option linter.unusedSimpArgs false
set_option linter.unusedVariables false
set_option maxRecDepth 10000
set_option linter.unusedSectionVars false
namespace Go.Proofs.YtdmemibnphcedaaGreatDoor
open Go.Am

theorem wk_rangeS {s : St} {W : Value → St → Prop} (b : ByteArray) : wopK (.range true) [.string b] s W = W (.pointer (some ⟨s.next, 0, none⟩)) (s.new (.strIter b 0)) := of_eq_true (eq_self _)
theorem next_chr {s : St} {i pos : Nat} {b : ByteArray} (hi : s.get i = some (.strIter b pos)) (hp : pos < b.size) {W : Value → St → Prop} (hW : W (.tuple #[.bool true, .int .i64 pos, .int .i32 (Utf8.decode b pos).1]) (s.put i (some (.strIter b (pos + (Utf8.decode b pos).2))))) : nextK true [.pointer (some ⟨i, 0, none⟩)] s W := by
  simp only [nextK, nextV, ne_eq, not_true_eq_false, if_false, hi, Bool.true_eq_false]
  rw [if_pos hp]
  exact hW
theorem next_chrEnd {s : St} {i pos : Nat} {b : ByteArray} (hi : s.get i = some (.strIter b pos)) (hp : ¬ pos < b.size) {W : Value → St → Prop} (hW : W (.tuple #[.bool false]) s) : nextK true [.pointer (some ⟨i, 0, none⟩)] s W := by
  simp only [nextK, nextV, ne_eq, not_true_eq_false, if_false, hi, Bool.true_eq_false]
  rw [if_neg hp]
  exact hW

/-- the text of the first marks -/
def mkUp (x : Mk) : Nat → List UInt8
  | 0 => []
  | j + 1 => mkUp x j ++ (bif x.bit j then 47 :: (lt j).data.toList else [])
theorem mkUp6 (x : Mk) : mkUp x 6 = mkText x := by
  obtain ⟨a, k, s, n, m, f⟩ := x
  simp only [mkUp, mkText, Mk.bit, lt, List.nil_append]
theorem mkUp_len (x : Mk) : ∀ j, (mkUp x j).length ≤ 2 * j
  | 0 => Nat.le_refl _
  | j + 1 => by
    have := mkUp_len x j
    simp only [mkUp, List.length_append]
    have : (bif x.bit j then 47 :: (lt j).data.toList else []).length ≤ 2 := by cases x.bit j <;> simp [lt]
    omega

section
variable {st : St} {v : Value} {K : Value → St → Prop} {xs : List ByteArray}
theorem kJoin (n : Nat) (hv : Cel st v (xs.map Value.string)) (sep : ByteArray) (hl : xs.length ≤ 140737488355328) (hj : (Lib.join (xs.map (·.data.toList)) sep.data.toList).length ≤ 140737488355328) (hv0 : xs = [] → v = .slice none 0 0) (h : K (.string (bs (Lib.join (xs.map (·.data.toList)) sep.data.toList))) st) : callK (callO T0 orc fns 100000 n) 42 [v, .string sep] st K := by
  rw [callO_none (by rfl)]
  have e : orc 42 [v, .string sep] st = .ret (.string (bs (Lib.join (xs.map (·.data.toList)) sep.data.toList)), st) := by
    rw [orc_eq (by decide)]
    by_cases hx : xs = []
    · rw [hv0 hx]
      subst hx
      rfl
    · have hpos : 0 < xs.length := List.length_pos_iff.2 hx
      rcases hv with ⟨_, hc⟩ | ⟨b, o, cap, all, g, ro, h1, h2, h3, h4⟩ | ⟨ad, _, hc⟩
      · exact (hx (by simpa using hc)).elim
      · rw [List.length_map] at h1 h3 h4
        rw [h1]
        have hcl : st.cells ⟨b, o, none⟩ xs.length = some (xs.map Value.string) := by
          simp only [St.cells, h2]
          rw [if_pos h3, h4]
        have hne : ∀ c : Value, orc1 42 [.slice (some ⟨b, o, none⟩) xs.length cap, .string sep] st = (if 0 < xs.length then (match st.cells ⟨b, o, none⟩ xs.length with
            | some l => (match strsOf l with
              | some ys => if ys.length ≤ 140737488355328 ∧ (Lib.join (ys.map (·.data.toList)) sep.data.toList).length ≤ 140737488355328 then .ret (.string (joinV ys sep), st) else .fail
              | none => .fail)
            | none => .fail) else .fail) := fun _ => rfl
        rw [hne undef, if_pos hpos, hcl]
        simp only [strsOf_map]
        rw [if_pos ⟨hl, hj⟩]
        rfl
      · exact (hx (by simpa using hc)).elim
  exact (propext (callK_ret (K := K) e)).mpr h
end
end Go.Proofs.YtdmemibnphcedaaGreatDoor
end
section
set_option linter.unusedSimpArgs false
set_option linter.unusedVariables false
set_option maxRecDepth 10000
set_option linter.unusedSectionVars false
namespace Go.Proofs.YtdmemibnphcedaaGreatDoor
open Go.Am

theorem bs_append (l m : List UInt8) : bs l ++ bs m = bs (l ++ m) := by
  apply ByteArray.ext
  simp [bs]
theorem join_len (c : UInt8) : ∀ xs : List (List UInt8), (Lib.join xs [c]).length ≤ (xs.map fun p => p.length + 1).sum
  | [] => by simp [Lib.join_nil]
  | x :: r => by
    rw [Lib.join_cons, List.length_append]
    have : ∀ r : List (List UInt8), (Lib.joinTail [c] r).length = (r.map fun p => p.length + 1).sum := fun r => by
      induction r with
      | nil => rfl
      | cons y r ih =>
        simp only [Lib.joinTail, List.map_cons, List.flatten_cons, List.length_append, List.length_cons, List.length_nil, List.sum_cons] at ih ⊢
        omega
    rw [this]
    simp only [List.map_cons, List.sum_cons]
    omega
theorem itemA_text {s : ByteArray} {x : IM} (h : itemA s = some x) : x.names ≠ [] ∧ (Lib.join (x.names.map (·.data.toList)) [61]).length ≤ s.size + 1 := by
  unfold itemA at h
  split at h
  · rename_i hd t hp
    split at h
    · rename_i mks hm
      split at h
      · cases h
        have h2 := pieces_size (c := 47) (s := s) (p := hd) (by rw [hp]; simp)
        refine ⟨pieces_ne 61 hd, ?_⟩
        have e : (pieces 61 hd).map (·.data.toList) = spl 61 hd.data.toList := by
          rw [pieces, List.map_map]
          conv => rhs; rw [← List.map_id (spl 61 hd.data.toList)]
          exact List.map_congr_left fun l _ => bs_list l
        have h1 := join_len 61 (spl 61 hd.data.toList)
        rw [spl_sum, ← size_list] at h1
        show (Lib.join ((pieces 61 hd).map (·.data.toList)) [61]).length ≤ _
        rw [e]
        omega
      · cases h
    · cases h
  · cases h
theorem items_mem : ∀ {ps : List ByteArray} {l : List IM}, itemsA ps = some l → ∀ x ∈ l, ∃ p ∈ ps, itemA p = some x
  | [], l, h, x, hx => by simp [itemsA] at h; subst h; cases hx
  | p :: ps, l, h, x, hx => by
    simp only [itemsA] at h
    cases hp : itemA p with
    | none => rw [hp] at h; cases h
    | some y =>
      rw [hp] at h
      simp only [Option.map_eq_some_iff] at h
      obtain ⟨m, h1, rfl⟩ := h
      rcases List.mem_cons.1 hx with rfl | hx
      · exact ⟨p, by simp, hp⟩
      · obtain ⟨q, k1, k2⟩ := items_mem h1 x hx
        exact ⟨q, by simp [k1], k2⟩
theorem tm_bounds {t : ByteArray} {l : List IM} {e : Int} (h : TmA t l e) : l.length ≤ 20 ∧ (e ≠ 0 → l = []) ∧ ∀ x ∈ l, x.names ≠ [] ∧ x.names.length ≤ t.size + 1 ∧ (Lib.join (x.names.map (·.data.toList)) [61]).length ≤ t.size + 1 := by
  cases h with
  | nil _ => exact ⟨Nat.zero_le _, fun _ => rfl, fun x hx => by cases hx⟩
  | long _ _ _ _ _ => exact ⟨Nat.zero_le _, fun _ => rfl, fun x hx => by cases hx⟩
  | bad _ _ => exact ⟨Nat.zero_le _, fun _ => rfl, fun x hx => by cases hx⟩
  | ok _ h0 h1 h2 h3 =>
    refine ⟨h3, fun h => (h rfl).elim, fun x hx => ?_⟩
    obtain ⟨p, hp, hpx⟩ := items_mem h1 x hx
    have hs := pieces_size hp
    obtain ⟨k1, k2⟩ := itemA_text hpx
    have k3 := itemA_names hpx
    exact ⟨k1, by omega, by omega⟩

theorem lt_size (i : Nat) : (lt i).size = 1 := rfl
theorem order_at (p : Nat) (h : p < 6) : order.extract p (p + 1) = lt p ∧ (Utf8.decode order p).2 = 1 := by
  match p, h with
  | 0, _ | 1, _ | 2, _ | 3, _ | 4, _ | 5, _ => constructor <;> decide +kernel

section
variable {K : Value → Prop}
theorem q_addS (a b : ByteArray) (h : a.size + b.size ≤ 9223372036854775807) : popK (.bin .add) [.string a, .string b] K = K (.string (a ++ b)) := by
  rw [pk_addS]
  exact propext ⟨fun h => h.2, fun k => ⟨h, k⟩⟩
end
attribute [local irreducible] callO wopK ropK popK opK grpsE listE sx Runs

/-- between two items -/
def UL1 (s0 : St) (lv : Value) (l : List IM) (vs : List Value) (s : St) : Prop :=
  ∃ (j : Nat) (out : Value), vs = [out, lv, .int .i64 (l.length : Nat), .int .i64 (j : Nat)] ∧ j ≤ l.length ∧ GroK 1 s out (((l.take j).map fun x => bs (itText x)).map Value.string) j ∧ (ow out = 0 ∨ s0.next + 1 ≤ ow out) ∧ ow out ≤ s.next ∧ Frm s0 s ∧ (j = 0 → out = .slice none 0 0)

/-- between two marks -/
def UL2 (s1 : St) (lv out nv : Value) (l : List IM) (x : IM) (bx j it : Nat) (vs : List Value) (s : St) : Prop :=
  ∃ p : Nat, vs = [out, .pointer (some ⟨bx, 0, none⟩), .string (bs (Lib.join (x.names.map (·.data.toList)) [61] ++ mkUp x.mks p)), lv, .int .i64 (l.length : Nat), .int .i64 (j : Nat), .pointer (some ⟨it, 0, none⟩)] ∧ p ≤ 6 ∧
    s.get it = some (.strIter order p) ∧ it < s.next ∧ ∀ i, i < it → s.get i = s1.get i

section
variable {st : St} {K : Value → St → Prop}

set_option maxHeartbeats 4000000 in
theorem kUsage (n : Nat) (t : ByteArray) (ht : t.size < 80000) (h0 : 0 < st.next) (hm : hasMax st = true) (h : ∀ l e st', TmA t l e → Frm st st' → K (.tuple #[.string (if e = 0 then bs (usText l) else .empty), .int .i64 e]) st') :
    callK (callO T0 orc fns 100000 (n + 7)) 19 [.string t] st K := by
  refine fn_runs (fn := g19) ?_ ?_ ?_
  · rfl
  · rfl
  unfold g19
  simp (disch := omega) only [↓sxA, ↓wk_store, sxB, sxP, Nat.reduceLeDiff, reduceCtorEq, Nat.reduceEqDiff, Nat.reduceAdd, Int.reduceLT, Int.reduceLE, Int.reduceEq, Nat.reduceLT, Int.reduceToNat, Int.reduceAdd, Int.reduceSub, ↓reduceIte]
  refine kTemplate n t ht h0 hm fun l e lv s0 hT hR F0 => ?_
  obtain ⟨hl20, hle, hb⟩ := tm_bounds hT
  by_cases he : e = 0
  case neg =>
    have he' : (e = 0) = False := eq_false he
    have hh := h l e s0 hT F0
    rw [if_neg he] at hh
    simp (disch := omega) only [↓sxA, ↓wk_store, sxB, sxP, Nat.reduceLeDiff, reduceCtorEq, Nat.reduceEqDiff, Nat.reduceAdd, Int.reduceLT, Int.reduceLE, Int.reduceEq, Nat.reduceLT, Int.reduceToNat, Int.reduceAdd, Int.reduceSub, ↓reduceIte, he']
    exact hh
  subst he
  have hln := hR.len
  simp (disch := omega) only [↓sxA, ↓wk_store, sxB, sxP, Nat.reduceLeDiff, reduceCtorEq, Nat.reduceEqDiff, Nat.reduceAdd, Int.reduceLT, Int.reduceLE, Int.reduceEq, Nat.reduceLT, Int.reduceToNat, Int.reduceAdd, Int.reduceSub, ↓reduceIte, ↓hln]
  refine loop_rule [6, 19, 20, 21] (UL1 s0 lv l) (fun vs _ => match lget vs 3 with
      | .int _ k => ((l.length : Int) - k).toNat
      | _ => 0) ?_ ?_ ?_
  · rfl
  · refine ⟨_, rfl, ⟨0, _, rfl, Nat.zero_le _, GroK.nil _ _, .inl rfl, Nat.zero_le _, Frm.refl _, fun _ => rfl⟩, ?_⟩
    show ((l.length : Int) - 0).toNat < 100000
    omega
  · rintro vs s ⟨j, out, rfl, hj, hg, ho, hon, F, hj0⟩
    show sx _ _ _ _ _ [(6, _), (19, _), (20, _), (21, _)] _ _ _ _
    have hRs : ItR (st.next + 1) s lv l := hR.keep F.nx fun i _ hi => F.old i hi
    by_cases hjl : j < l.length
    · obtain ⟨b, nv, q1, q2, q3, q4, q5, q6, q7⟩ := hRs.at hjl
      have hx : l[j] ∈ l := List.getElem_mem hjl
      obtain ⟨b1, b2, b3⟩ := hb _ hx
      have htk : l.take (j + 1) = l.take j ++ [l[j]] := by rw [List.take_add_one, List.getElem?_eq_getElem hjl]; rfl
      generalize l[j] = x at q2 q3 q4 b1 b2 b3 htk
      obtain ⟨s1, hs1⟩ : ∃ s1, s1 = (s.new (.row zero7 0 false)).put s.next (some (.row [nv, .bool x.mks.a, .bool x.mks.k, .bool x.mks.s, .bool x.mks.n, .bool x.mks.m, .bool x.mks.f] 0 false)) := ⟨_, rfl⟩
      have st7 : ∀ W : Value → St → Prop, wopK (.store 7) [.pointer (some ⟨s.next, 0, none⟩), .agg (itCells nv x.mks).toArray] (s.new (.row zero7 0 false)) W = W undef s1 :=
        fun W => by rw [hs1]; exact wk_storeK (W := W) (get_new_same s (.row zero7 0 false)) (o := 0) (k := 7) (xs := itCells nv x.mks) (by decide) rfl (it7 q5 _)
      have hbx : s1.get s.next = some (.row [nv, .bool x.mks.a, .bool x.mks.k, .bool x.mks.s, .bool x.mks.n, .bool x.mks.m, .bool x.mks.f] 0 false) := by rw [hs1]; exact get_put_same _ _ _
      have n1 : s1.next = s.next + 1 := by rw [hs1]; rfl
      have f1 : ∀ i, i < s.next → s1.get i = s.get i := fun i hi => by rw [hs1, get_put_ne _ _ _ _ (by omega), get_new_ne _ _ _ (by omega)]
      simp (disch := omega) only [↓sxA, ↓wk_store, sxB, sxP, Nat.reduceLeDiff, reduceCtorEq, Nat.reduceEqDiff, Nat.reduceAdd, Int.reduceLT, Int.reduceLE, Int.reduceEq, Nat.reduceLT, Int.reduceToNat, Int.reduceAdd, Int.reduceSub, ↓reduceIte, ↓q1, ↓q2, ↓st7, hbx]
      refine kJoin (n + 6) (xs := x.names) (q4.keep fun i hi => f1 i (by omega)) ⟨#[61]⟩ (by omega) (by show (Lib.join _ [61]).length ≤ _; omega) (fun hx => (b1 hx).elim) ?_
      simp (disch := omega) only [wk_rangeS, ↓sxA, ↓wk_store, sxB, sxP, Nat.reduceLeDiff, reduceCtorEq, Nat.reduceEqDiff, Nat.reduceAdd, Int.reduceLT, Int.reduceLE, Int.reduceEq, Nat.reduceLT, Int.reduceToNat, Int.reduceAdd, Int.reduceSub, ↓reduceIte]
      refine loop_rule [6, 8, 9, 19, 20, 21, 28] (UL2 s1 lv out nv l x s.next j s1.next) (fun vs s' => match s'.get s1.next with
          | some (.strIter _ p) => 6 - p
          | _ => 0) ?_ ?_ ?_
      · rfl
      · refine ⟨_, rfl, ⟨0, by first | (simp only [mkUp, List.append_nil]; done) | (simp only [mkUp, List.append_nil]; rfl), by decide, get_new_same _ _, Nat.lt_succ_self _, fun i hi => get_new_ne _ _ _ (by omega)⟩, ?_⟩
        rw [get_new_same]
        decide
      · rintro vs s2 ⟨p, rfl, hp, hit, hin, hf2⟩
        show sx _ _ _ _ _ [(6, _), (8, _), (9, _), (19, _), (20, _), (21, _), (28, _)] _ _ _ _
        have hmu := mkUp_len x.mks p
        by_cases hp6 : p < 6
        · obtain ⟨o1, o2⟩ := order_at p hp6
          simp (disch := omega) only [↓sxA, ↓wk_store, sxB, sxP, Nat.reduceLeDiff, reduceCtorEq, Nat.reduceEqDiff, Nat.reduceAdd, Int.reduceLT, Int.reduceLE, Int.reduceEq, Nat.reduceLT, Int.reduceToNat, Int.reduceAdd, Int.reduceSub, ↓reduceIte]
          refine next_chr hit (by show p < 6; exact hp6) ?_
          rw [o2]
          have hbx2 : (s2.put s1.next (some (.strIter order (p + 1)))).get s.next = some (.row [nv, .bool x.mks.a, .bool x.mks.k, .bool x.mks.s, .bool x.mks.n, .bool x.mks.m, .bool x.mks.f] 0 false) := by rw [get_put_ne _ _ _ _ (by omega), hf2 _ (by omega)]; exact hbx
          have all2 := rk_loadAll (k := 7) hbx2 rfl (by decide)
          simp (disch := omega) only [↓sxA, ↓wk_store, sxB, sxP, Nat.reduceLeDiff, reduceCtorEq, Nat.reduceEqDiff, Nat.reduceAdd, Int.reduceLT, Int.reduceLE, Int.reduceEq, Nat.reduceLT, Int.reduceToNat, Int.reduceAdd, Int.reduceSub, ↓reduceIte, ↓all2]
          refine kMarks (n + 5) (x := x.mks) q5 fun s3 n3 f3 => ?_
          have n3' : s2.next ≤ s3.next := n3
          have hit3 : s3.get s1.next = some (.strIter order (p + 1)) := (f3 _ hin).trans (get_put_same _ _ _)
          have hf3 : ∀ i, i < s1.next → s3.get i = s1.get i := fun i hi => (f3 i (by show i < s2.next; omega)).trans ((get_put_ne _ _ _ _ (by omega)).trans (hf2 i hi))
          have hmeas : (match s3.get s1.next with
            | some (.strIter _ p) => 6 - p
            | _ => 0) < (match s2.get s1.next with
            | some (.strIter _ p) => 6 - p
            | _ => 0) := by rw [hit3, hit]; show 6 - (p + 1) < 6 - p; omega
          have hsz2 := bs_size (Lib.join (x.names.map (·.data.toList)) [61] ++ mkUp x.mks p)
          rw [List.length_append] at hsz2
          have q2' : (p2 p = 0) = False := eq_false (by match p, hp6 with
            | 0, _ | 1, _ | 2, _ | 3, _ | 4, _ | 5, _ => decide)
          cases hbit : x.mks.bit p with
          | true =>
            have s6 : (6 : Nat) = order.size := rfl
            have ex : ∀ K : Value → Prop, popK (.slStr true true) [.string ⟨#[97, 107, 115, 110, 109, 102]⟩, .int .i64 (p : Int), .int .i64 ((p : Int) + 1)] K = K (.string (lt p)) := fun K => by
              have := q_slBoth (K := K) order .i64 .i64 (p : Int) ((p : Int) + 1) (by omega) (by omega) (by show (p : Int) + 1 ≤ (6 : Int); omega)
              rw [← o1]
              exact this
            have sl1 : (⟨#[47]⟩ : ByteArray).size = 1 := rfl
            have sl2 := lt_size p
            have sl3 : (⟨#[47]⟩ ++ lt p : ByteArray).size = 2 := by rw [ByteArray.size_append]; rfl
            simp (disch := omega) only [popShl, shl_p2 p hp6, popAnd, and_bit x.mks p hp6, hbit, b2i, q2', ↓ex, ↓q_addS, ↓sxA, ↓wk_store, sxB, sxP, Nat.reduceLeDiff, reduceCtorEq, Nat.reduceEqDiff, Nat.reduceAdd, Int.reduceLT, Int.reduceLE, Int.reduceEq, Nat.reduceLT, Int.reduceToNat, Int.reduceAdd, Int.reduceSub, ↓reduceIte]
            refine ⟨_, rfl, ⟨p + 1, ?_, by omega, hit3, by omega, hf3⟩, hmeas⟩
            have e : bs (Lib.join (x.names.map (·.data.toList)) [61] ++ mkUp x.mks p) ++ (⟨#[47]⟩ ++ lt p) = bs (Lib.join (x.names.map (·.data.toList)) [61] ++ mkUp x.mks (p + 1)) := by
              have e1 : (⟨#[47]⟩ ++ lt p : ByteArray) = bs (47 :: (lt p).data.toList) := rfl
              rw [e1, bs_append, mkUp, hbit, List.append_assoc]
              rfl
            rw [e]
          | false =>
            simp (disch := omega) only [popShl, shl_p2 p hp6, popAnd, and_bit x.mks p hp6, hbit, b2i, ↓sxA, ↓wk_store, sxB, sxP, Nat.reduceLeDiff, reduceCtorEq, Nat.reduceEqDiff, Nat.reduceAdd, Int.reduceLT, Int.reduceLE, Int.reduceEq, Nat.reduceLT, Int.reduceToNat, Int.reduceAdd, Int.reduceSub, ↓reduceIte]
            refine ⟨_, rfl, ⟨p + 1, ?_, by omega, hit3, by omega, hf3⟩, hmeas⟩
            rw [mkUp, hbit]
            simp
        · have e6 : p = 6 := by omega
          subst e6
          simp (disch := omega) only [↓sxA, ↓wk_store, sxB, sxP, Nat.reduceLeDiff, reduceCtorEq, Nat.reduceEqDiff, Nat.reduceAdd, Int.reduceLT, Int.reduceLE, Int.reduceEq, Nat.reduceLT, Int.reduceToNat, Int.reduceAdd, Int.reduceSub, ↓reduceIte]
          refine next_chrEnd hit (by show ¬ 6 < 6; decide) ?_
          simp (disch := omega) only [↓sxA, ↓wk_store, sxB, sxP, Nat.reduceLeDiff, reduceCtorEq, Nat.reduceEqDiff, Nat.reduceAdd, Int.reduceLT, Int.reduceLE, Int.reduceEq, Nat.reduceLT, Int.reduceToNat, Int.reduceAdd, Int.reduceSub, ↓reduceIte]
          rw [mkUp6]
          have hnx2 : ∀ o, (s2.new o).next = s2.next + 1 := fun _ => rfl
          refine appendK (hg.keep fun i hi => (get_new_ne _ _ _ (by omega)).trans ((hf2 i (by omega)).trans (f1 i (by omega)))) (get_new_same _ _) rfl (by decide) rfl (by omega) (by omega) fun s3 k1 k2 k3 => ?_
          have k2' : s3.next = s2.next + 2 := k2
          simp (disch := omega) only [↓sxA, ↓wk_store, sxB, sxP, Nat.reduceLeDiff, reduceCtorEq, Nat.reduceEqDiff, Nat.reduceAdd, Int.reduceLT, Int.reduceLE, Int.reduceEq, Nat.reduceLT, Int.reduceToNat, Int.reduceAdd, Int.reduceSub, ↓reduceIte]
          refine ⟨_, rfl, ⟨j + 1, .slice (some ⟨s2.next + 1, 0, none⟩) (j + 1) (j + 1), rfl, hjl, ?_, .inr ?_, ?_, ⟨by have := F.nx; omega, fun i hi => ?_⟩, fun h => by omega⟩, ?_⟩
          · rw [htk, List.map_append, List.map_append]
            exact k1
          · show s0.next + 1 ≤ s2.next + 1 + 1
            have := F.nx
            omega
          · show s2.next + 1 + 1 ≤ s3.next
            omega
          · have := F.nx
            exact (k3 i (by omega) (by show i < s2.next + 1; omega)).trans ((get_new_ne _ _ _ (by omega)).trans ((hf2 i (by omega)).trans ((f1 i (by omega)).trans (F.old i hi))))
          · show ((l.length : Int) - ((j : Int) + 1)).toNat < ((l.length : Int) - (j : Int)).toNat
            omega
    · have hjl' : l.take j = l := List.take_of_length_le (by omega)
      rw [hjl'] at hg
      have hmap : ((l.map fun x => bs (itText x)).map (·.data.toList)) = l.map itText := by
        rw [List.map_map]
        exact List.map_congr_left fun x _ => bs_list _
      have htl : ∀ x ∈ l, (itText x).length + 1 ≤ 90000 := fun x hx => by
        obtain ⟨_, _, b3⟩ := hb x hx
        have := mkUp_len x.mks 6
        rw [mkUp6] at this
        rw [itText, List.length_append]
        omega
      have hsum : ∀ m : List IM, (∀ x ∈ m, (itText x).length + 1 ≤ 90000) → ((m.map itText).map fun p => p.length + 1).sum ≤ m.length * 90000 := fun m hm => by
        induction m with
        | nil => simp
        | cons x m ih =>
          simp only [List.map_cons, List.sum_cons, List.length_cons]
          have h1 := hm x (by simp)
          have h2 := ih fun y hy => hm y (by simp [hy])
          rw [Nat.add_mul]
          omega
      have hj1 := join_len 44 (l.map itText)
      have hj2 := hsum l htl
      simp (disch := omega) only [↓sxA, ↓wk_store, sxB, sxP, Nat.reduceLeDiff, reduceCtorEq, Nat.reduceEqDiff, Nat.reduceAdd, Int.reduceLT, Int.reduceLE, Int.reduceEq, Nat.reduceLT, Int.reduceToNat, Int.reduceAdd, Int.reduceSub, ↓reduceIte]
      refine kJoin (n + 6) (xs := l.map fun x => bs (itText x)) hg.cel.1 ⟨#[44]⟩ (by rw [List.length_map]; omega) (by rw [hmap]; show (Lib.join _ [44]).length ≤ _; omega) (fun hx => hj0 (by rw [List.map_eq_nil_iff] at hx; rw [hx] at hj; simpa using hj)) ?_
      rw [hmap]
      simp (disch := omega) only [↓sxA, ↓wk_store, sxB, sxP, Nat.reduceLeDiff, reduceCtorEq, Nat.reduceEqDiff, Nat.reduceAdd, Int.reduceLT, Int.reduceLE, Int.reduceEq, Nat.reduceLT, Int.reduceToNat, Int.reduceAdd, Int.reduceSub, ↓reduceIte]
      have hh := h l 0 s hT (F0.trans F)
      rw [if_pos rfl] at hh
      exact hh
end
end Go.Proofs.YtdmemibnphcedaaGreatDoor
end
section
set_option linter.unusedSimpArgs false
set_option linter.unusedVariables false
set_option maxRecDepth 10000
set_option linter.unusedSectionVars false
namespace Go.Proofs.YtdmemibnphcedaaGreatDoor
open Go.Am

section
variable {st st' : St} {v u : Value} {l m : List UInt8} {K : Value → Prop}
theorem append_src (hd : Gro st v l) (s1 : srcLen u = some m.length) (s2 : st.srcCells 1 u = some (m.map u8v)) (hsz : l.length + m.length ≤ 1099511627776) {W : Value → St → Prop}
    (h : ∀ v' st', Gro st' v' (l ++ m) → (ow v' = ow v ∨ (ow v' = st.next + 1 ∧ st.next + 1 ≤ st'.next)) → st.next ≤ st'.next → (∀ i, i + 1 ≠ ow v → i < st.next → st'.get i = st.get i) → W v' st') :
    wopK (.append 1 1) [v, u] st W := by
  simp only [wopK, wop, appendV, s1, s2]
  by_cases hm : m = []
  · subst hm
    simp only [List.length_nil, if_true]
    obtain ⟨a, cap, rfl⟩ := hd.bys.cap
    simp only
    refine h _ st ?_ (.inl rfl) (Nat.le_refl _) (fun _ _ _ => rfl)
    simpa using hd
  · have hm0 : m.length ≠ 0 := fun e => hm (List.eq_nil_of_length_eq_zero e)
    simp only [hm0, if_false, all_u8, Nat.one_ne_zero, not_true_eq_false, or_self]
    have fin : ∀ (st0 : St), st0.next = st.next → (∀ i, i + 1 ≠ ow v → st0.get i = st.get i) → W (.slice (some ⟨st.next, 0, none⟩) (l.length + m.length) (l.length + m.length)) (st0.new (.row (l.map u8v ++ m.map u8v) 1 false)) := by
      intro st0 e1 e2
      refine h _ _ ?_ (.inr ⟨rfl, ?_⟩) ?_ (fun i hi hlt => ?_)
      · refine .inr (.inl ⟨st.next, 0, l.length + m.length, l.map u8v ++ m.map u8v, ?_, ?_, ?_, ?_, ?_⟩)
        · simp
        · simp
        · rw [← e1, St.get_new, if_pos rfl]
        · simp
        · rw [List.map_append, List.drop_zero, List.take_of_length_le (by simp)]
      · show st.next + 1 ≤ st0.next + 1; omega
      · show st.next ≤ st0.next + 1; omega
      · rw [St.get_new, if_neg (by omega), e2 i hi]
    rcases hd with ⟨q, q'⟩ | ⟨b, o, cap, cs, q1, q2, q3, q5, q6⟩ | ⟨b, o, cs, ro, q1, q2, q3, q4⟩
    · subst q q'
      simp only
      rw [if_pos (by simp at hsz; omega)]
      have := fin st rfl (fun _ _ => rfl)
      simpa [St.grow] using this
    · subst q1
      simp only
      rw [if_pos (by omega)]
      have hc : st.cells ⟨b, o, none⟩ (l.length * 1) = some (l.map u8v) := by
        simp only [St.cells, q3, Nat.mul_one]
        rw [if_pos q5, q6]
      simp only [q3, hc, Nat.one_ne_zero, if_false, true_and]
      rw [if_pos (by omega)]
      have := fin (st.put b none) rfl (fun i hi => by rw [St.get_put, if_neg (fun e => hi (by show i + 1 = b + 1; omega))])
      simpa [St.grow] using this
    · subst q1 q2
      simp only
      rw [if_pos (by simp at hsz; omega)]
      have hc : st.cells ⟨b, o, none⟩ (0 * 1) = some [] := by
        simp only [St.cells, q3, Nat.zero_mul, Nat.add_zero, List.take_zero]
        rw [if_pos q4]
      simp only [q3, hc, if_true]
      rw [if_neg (by omega)]
      have := fin st rfl (fun _ _ => rfl)
      simpa [St.grow] using this


theorem append_str (hd : Gro st v l) (b : ByteArray) (hsz : l.length + b.size ≤ 1099511627776) {W : Value → St → Prop}
    (h : ∀ v' st', Gro st' v' (l ++ b.data.toList) → (ow v' = ow v ∨ (ow v' = st.next + 1 ∧ st.next + 1 ≤ st'.next)) → st.next ≤ st'.next → (∀ i, i + 1 ≠ ow v → i < st.next → st'.get i = st.get i) → W v' st') :
    wopK (.append 1 1) [v, .string b] st W :=
  append_src hd (by simp only [srcLen]; rw [size_list]) (by simp [St.srcCells, u8v]) (by rw [← size_list]; exact hsz) h
theorem append_row {b g n : Nat} {ro : Bool} (hd : Gro st v l) (hb : st.get b = some (.row (m.map u8v) g ro)) (hn : m.length = n) (h0 : 0 < n) (hsz : l.length + m.length ≤ 1099511627776) {W : Value → St → Prop}
    (h : ∀ v' st', Gro st' v' (l ++ m) → (ow v' = ow v ∨ (ow v' = st.next + 1 ∧ st.next + 1 ≤ st'.next)) → st.next ≤ st'.next → (∀ i, i + 1 ≠ ow v → i < st.next → st'.get i = st.get i) → W v' st') :
    wopK (.append 1 1) [v, .slice (some ⟨b, 0, none⟩) n n] st W := by
  subst hn
  refine append_src hd rfl ?_ hsz h
  simp only [St.srcCells, St.cells, hb]
  rw [if_neg (by omega), if_pos (by rw [List.length_map]; show 0 + m.length * 1 ≤ _; omega), List.drop_zero, List.take_of_length_le (by rw [List.length_map]; omega)]
theorem rk_str (h : Gro st v l) : ropK .bytesToStr [v] st K = K (.string (bs l)) := by
  rcases h with ⟨h, h'⟩ | ⟨b, o, cap, cs, q1, q2, q3, q5, q6⟩ | ⟨b, o, cs, ro, q1, q2, q3, q4⟩
  · subst h h'; rfl
  · subst q1
    simp only [ropK, rop, St.cells, q3]
    rw [if_pos q5, q6]
    simp only [Option.bind_some, u8s_map, Option.map_some]
    rfl
  · subst q1 q2
    simp only [ropK, rop, St.cells, q3]
    rw [if_pos (by show o + 0 ≤ _; omega)]
    rfl
end
attribute [local irreducible] callO wopK ropK popK opK grpsE listE sx Runs

/-- what was written so far -/
def Wr (s0 s : St) (out : Value) (L : List UInt8) : Prop := Gro s out L ∧ (ow out = 0 ∨ s0.next + 1 ≤ ow out) ∧ ow out ≤ s.next ∧ Frm s0 s

theorem Wr.row {s0 s : St} {out : Value} {L m : List UInt8} {g n : Nat} {ro : Bool} (h : Wr s0 s out L) (hn : m.length = n) (h0 : 0 < n) (hsz : L.length + m.length ≤ 1099511627776) {W : Value → St → Prop}
    (hW : ∀ out1 s1, Wr s0 s1 out1 (L ++ m) → s.next ≤ s1.next → (∀ i, i + 1 ≠ ow out → i < s.next → s1.get i = s.get i) → (ow out1 = ow out ∨ s.next < ow out1) → W out1 s1) : wopK (.append 1 1) [out, .slice (some ⟨s.next, 0, none⟩) n n] (s.new (.row (m.map u8v) g ro)) W := by
  obtain ⟨h1, h2, h3, h4⟩ := h
  have hfn := h4.nx
  refine append_row (h1.keep fun i hi => get_new_ne _ _ _ (by omega)) (get_new_same _ _) hn h0 hsz fun out1 s1 g1 g2 g3 g4 => ?_
  have g3' : s.next + 1 ≤ s1.next := g3
  have g2' : ow out1 = ow out ∨ (ow out1 = s.next + 1 + 1 ∧ s.next + 1 + 1 ≤ s1.next) := g2
  have fr : ∀ i, i + 1 ≠ ow out → i < s.next → s1.get i = s.get i := fun i hi hlt => (g4 i hi (by show i < s.next + 1; omega)).trans (get_new_ne _ _ _ (by omega))
  exact hW out1 s1 ⟨g1, by omega, by omega, ⟨by omega, fun i hi => (fr i (by omega) (by omega)).trans (h4.old i hi)⟩⟩ (by omega) fr (by omega)
theorem Wr.str {s0 s : St} {out : Value} {L : List UInt8} (h : Wr s0 s out L) (b : ByteArray) (hsz : L.length + b.size ≤ 1099511627776) {W : Value → St → Prop}
    (hW : ∀ out1 s1, Wr s0 s1 out1 (L ++ b.data.toList) → s.next ≤ s1.next → (∀ i, i + 1 ≠ ow out → i < s.next → s1.get i = s.get i) → (ow out1 = ow out ∨ s.next < ow out1) → W out1 s1) : wopK (.append 1 1) [out, .string b] s W := by
  obtain ⟨h1, h2, h3, h4⟩ := h
  have hfn := h4.nx
  refine append_str h1 b hsz fun out1 s1 g1 g2 g3 g4 => ?_
  exact hW out1 s1 ⟨g1, by omega, by omega, ⟨by omega, fun i hi => (g4 i (by omega) (by omega)).trans (h4.old i hi)⟩⟩ g3 g4 (by omega)

section
variable {st : St} {K : Value → St → Prop}

end
end Go.Proofs.YtdmemibnphcedaaGreatDoor
end
