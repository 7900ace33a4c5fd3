/-
  Templates in plain words: pieces, items, marks. (No program in sight, but for what Split comes to.)
-/
import Derived.Test.YtdmemibnphcedaaGreatDoorRBckClaimPart19
import Derived.Lib.SplitLaws
set_option linter.unusedSimpArgs false
set_option linter.unusedVariables false
set_option maxRecDepth 10000
namespace Go.Proofs.YtdmemibnphcedaaGreatDoor
open Go.Am

def bs (l : List UInt8) : ByteArray := ⟨l.toArray⟩
theorem bs_list (l : List UInt8) : (bs l).data.toList = l := by simp [bs]
theorem bs_of (s : ByteArray) : bs s.data.toList = s := by cases s; simp [bs]
theorem bs_size (l : List UInt8) : (bs l).size = l.length := by simp [bs, ByteArray.size]
theorem bs_inj {l m : List UInt8} (h : bs l = bs m) : l = m := by rw [← bs_list l, h, bs_list]
theorem size_list (s : ByteArray) : s.size = s.data.toList.length := by cases s; simp [ByteArray.size]

/-- cut at each byte c -/
def spl (c : UInt8) : List UInt8 → List (List UInt8)
 | [] => [[]]
 | x :: l => if x = c then [] :: spl c l else match spl c l with
  | p :: ps => (x :: p) :: ps
  | [] => [[x]]

theorem spl_ne (c : UInt8) : ∀ l, spl c l ≠ []
 | [] => by simp [spl]
 | x :: l => by
  simp only [spl]
  split
  ·simp
  ·split <;> simp
theorem spl_none {c : UInt8} : ∀ {l : List UInt8}, c ∉ l → spl c l = [l]
 | [], _ => rfl
 | x :: l, h => by
  simp only [List.mem_cons, not_or] at h
  simp only [spl]
  rw [if_neg (fun e => h.1 e.symm), spl_none h.2]
theorem spl_hit {c : UInt8} (r : List UInt8) : ∀ {p : List UInt8}, c ∉ p → spl c (p ++ c :: r) = p :: spl c r
 | [], _ => by simp [spl]
 | x :: p, h => by
  simp only [List.mem_cons, not_or] at h
  simp only [List.cons_append, spl]
  rw [if_neg (fun e => h.1 e.symm), spl_hit r h.2]
theorem spl_length (c : UInt8) : ∀ l, (spl c l).length = l.count c + 1
 | [] => rfl
 | x :: l => by
  have ih := spl_length c l
  have hne := spl_ne c l
  simp only [spl]
  split
  ·rename_i h; subst h; simp [ih]
  ·rename_i h
   rw [List.count_cons_of_ne h]
   split
   ·rename_i p ps hp; rw [hp] at ih; simpa using ih
   ·rename_i hp; exact (hne hp).elim
theorem spl_le (c : UInt8) : ∀ (l : List UInt8) p, p ∈ spl c l → p.length ≤ l.length
 | [], p, h => by simp [spl] at h; subst h; simp
 | x :: l, p, h => by
  have ih := spl_le c l
  simp only [spl] at h
  split at h
  ·rcases List.mem_cons.1 h with rfl | h
   ·simp
   ·have := ih p h; simp; omega
  ·split at h
   ·rename_i q qs hq
    rw [hq] at ih
    rcases List.mem_cons.1 h with rfl | h
    ·have := ih q (by simp); simpa using this
    ·have := ih p (by simp [h]); simp; omega
   ·rename_i hq; exact (spl_ne c l hq).elim

theorem cut_at {c : UInt8} : ∀ {l : List UInt8}, c ∈ l → ∃ p r, l = p ++ c :: r ∧ c ∉ p
 | x :: l, h => by
  by_cases hx : x = c
  ·subst hx; exact ⟨[], l, rfl, by simp⟩
  ·rcases List.mem_cons.1 h with h | h
   ·exact (hx h.symm).elim
   ·obtain ⟨p, r, e, hp⟩ := cut_at h
    exact ⟨x :: p, r, by rw [e]; rfl, by simp only [List.mem_cons, not_or]; exact ⟨fun e => hx e.symm, hp⟩⟩

theorem indexByte_hit (c : UInt8) (r : List UInt8) : ∀ p : List UInt8, c ∉ p → Lib.indexByte (p ++ c :: r) c = (p.length : Int)
 | [], _ => by simp [Lib.indexByte]
 | x :: p, h => by
  simp only [List.mem_cons, not_or] at h
  have e : (x == c) = false := beq_eq_false_iff_ne.2 fun e => h.1 e.symm
  simp only [List.cons_append, Lib.indexByte, e, Bool.false_eq_true, if_false, indexByte_hit c r p h.2, List.length_cons]
  rw [if_neg (by rw [beq_iff_eq]; omega)]
  omega
theorem indexByte_miss (c : UInt8) : ∀ l : List UInt8, c ∉ l → Lib.indexByte l c = -1
 | [], _ => rfl
 | x :: p, h => by
  simp only [List.mem_cons, not_or] at h
  have e : (x == c) = false := beq_eq_false_iff_ne.2 fun e => h.1 e.symm
  simp [Lib.indexByte, e, indexByte_miss c p h.2]

theorem splitK_spl (c : UInt8) : ∀ (k : Nat) (l : List UInt8), l.count c = k → Lib.splitK [c] 0 k l = spl c l
 | 0, l, h => (spl_none (List.count_eq_zero.1 h)).symm
 | k + 1, l, h => by
  have hm : c ∈ l := List.count_pos_iff.1 (by omega)
  obtain ⟨p, r, rfl, hp⟩ := cut_at hm
  have hr : r.count c = k := by
   rw [List.count_append, List.count_cons_self, List.count_eq_zero.2 hp] at h
   omega
  have hd : List.drop (p.length + [c].length) (p ++ c :: r) = r := by
   rw [← List.drop_drop, List.drop_left' rfl]; rfl
  have ht : List.take (p.length + 0) (p ++ c :: r) = p := by simp
  simp only [Lib.splitK, Lib.index_one, indexByte_hit c r p hp]
  rw [if_neg (by rw [beq_iff_eq]; omega), spl_hit r hp, Int.toNat_natCast, hd, ht, splitK_spl c k r hr]

def pieces (c : UInt8) (s : ByteArray) : List ByteArray := (spl c s.data.toList).map bs

theorem split_pieces (c : UInt8) (s : ByteArray) : splitV s ⟨#[c]⟩ = (pieces c s).map Value.string := by
 have h : (Lib.splitB ⟨#[c]⟩ 0 (Lib.countB s ⟨#[c]⟩) s).map (·.data.toList) = spl c s.data.toList := by
  rw [Lib.splitB_data]
  exact splitK_spl c _ _ (Lib.count_one c s.data.toList).symm
 unfold splitV pieces
 rw [← h, List.map_map, List.map_map]
 refine List.map_congr_left fun x _ => ?_
 simp [bs_of]

theorem pieces_ne (c : UInt8) (s : ByteArray) : pieces c s ≠ [] := by simp [pieces, spl_ne]
theorem pieces_length (c : UInt8) (s : ByteArray) : (pieces c s).length ≤ s.size + 1 := by
 rw [pieces, List.length_map, spl_length, size_list]
 have := List.count_le_length (a := c) (l := s.data.toList)
 omega
theorem pieces_size {c : UInt8} {s p : ByteArray} (h : p ∈ pieces c s) : p.size ≤ s.size := by
 obtain ⟨l, hl, rfl⟩ := List.mem_map.1 h
 rw [bs_size, size_list]
 exact spl_le c _ l hl

/-! ### marks -/
structure Mk where
 a : Bool
 k : Bool
 s : Bool
 n : Bool
 m : Bool
 f : Bool

def Mk.none : Mk := ⟨false, false, false, false, false, false⟩
def b2i (b : Bool) (i : Int) : Int := bif b then i else 0
def Mk.int (x : Mk) : Int := b2i x.a 1 + b2i x.k 2 + b2i x.s 4 + b2i x.n 8 + b2i x.m 16 + b2i x.f 32

/-- a mark more; none: it is no mark, or is there -/
def Mk.add (x : Mk) (p : ByteArray) : Option Mk :=
 match p.data.toList with
 | [97] => if x.a then Option.none else some { x with a := true }
 | [107] => if x.k then Option.none else some { x with k := true }
 | [115] => if x.s then Option.none else some { x with s := true }
 | [110] => if x.n then Option.none else some { x with n := true }
 | [109] => if x.m then Option.none else some { x with m := true }
 | [102] => if x.f then Option.none else some { x with f := true }
 | _ => Option.none

def marksA : List ByteArray → Mk → Option Mk
 | [], x => some x
 | p :: r, x => match x.add p with
  | some y => marksA r y
  | Option.none => Option.none

/-- the marks go together -/
def Mk.fit (x : Mk) : Bool := !(x.s && (x.a || x.k || x.n || x.m || x.f)) && !(x.m && x.k) && !(x.f && (x.k || x.n || x.m))

def isNm (s : ByteArray) : Bool := decide (1 ≤ s.size) && decide (s.size ≤ 16) && s.data.toList.all fun b => decide (97 ≤ b.toNat) && decide (b.toNat ≤ 122)

structure IM where
 names : List ByteArray
 mks : Mk

def itemA (s : ByteArray) : Option IM :=
 match pieces 47 s with
 | h :: t => match marksA t Mk.none with
  | some x => if (pieces 61 h).all isNm && x.fit then some ⟨pieces 61 h, x⟩ else Option.none
  | Option.none => Option.none
 | [] => Option.none

/-- behind the last item only one may have the rest -/
def restOk : List IM → Bool
 | [] => true
 | [_] => true
 | x :: l => !x.mks.f && restOk l

def namesOf (l : List IM) : List ByteArray := l.flatMap IM.names
def manyOf (l : List IM) : Nat := (l.filter (·.mks.m)).length

def itemsA : List ByteArray → Option (List IM)
 | [] => some []
 | p :: r => match itemA p with
  | some x => (itemsA r).map (x :: ·)
  | Option.none => Option.none

def goodA (l : List IM) : Prop := restOk l = true ∧ (namesOf l).Nodup ∧ manyOf l ≤ 1

/-- a template's items (or what error there is) -/
inductive TmA (t : ByteArray) : List IM → Int → Prop where
 | nil : t = ByteArray.empty → TmA t [] 0
 | ok (l : List IM) : t ≠ ByteArray.empty → itemsA (pieces 44 t) = some l → goodA l → l.length ≤ 20 → TmA t l 0
 | long (l : List IM) : t ≠ ByteArray.empty → itemsA (pieces 44 t) = some l → goodA l → 20 < l.length → TmA t [] 2
 | bad : t ≠ ByteArray.empty → (∀ l, itemsA (pieces 44 t) = some l → ¬ goodA l) → TmA t [] 3

theorem TmA.unique {t : ByteArray} {l l' : List IM} {e e' : Int} (h : TmA t l e) (k : TmA t l' e') : l = l' ∧ e = e' := by
 cases h with
 | nil h0 => cases k with
  | nil => exact ⟨rfl, rfl⟩
  | ok _ k0 => exact (k0 h0).elim
  | long _ k0 => exact (k0 h0).elim
  | bad k0 => exact (k0 h0).elim
 | ok _ h0 h1 h2 h3 => cases k with
  | nil k0 => exact (h0 k0).elim
  | ok _ k0 k1 k2 k3 => rw [h1] at k1; cases k1; exact ⟨rfl, rfl⟩
  | long _ k0 k1 k2 k3 => rw [h1] at k1; cases k1; omega
  | bad k0 k1 => exact (k1 _ h1 h2).elim
 | long _ h0 h1 h2 h3 => cases k with
  | nil k0 => exact (h0 k0).elim
  | ok _ k0 k1 k2 k3 => rw [h1] at k1; cases k1; omega
  | long _ k0 k1 k2 k3 => exact ⟨rfl, rfl⟩
  | bad k0 k1 => exact (k1 _ h1 h2).elim
 | bad h0 h1 => cases k with
  | nil k0 => exact (h0 k0).elim
  | ok _ k0 k1 k2 k3 => exact (h1 _ k1 k2).elim
  | long _ k0 k1 k2 k3 => exact (h1 _ k1 k2).elim
  | bad k0 k1 => exact ⟨rfl, rfl⟩

/-! ### how a template is written -/
end Go.Proofs.YtdmemibnphcedaaGreatDoor
