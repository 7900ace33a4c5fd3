/-
  Templates in plain words: pieces, items, marks. (No program in sight, but for what Split comes to.)
-/
import Derived.Test.YtjomiadmminhfaaGreatDoorSFilClaimPart16
import Derived.Lib.SplitLaws
set_option linter.unusedSimpArgs false
set_option linter.unusedVariables false
set_option maxRecDepth 10000
namespace Go.Proofs.YtjomiadmminhfaaGreatDoor
open Go.Am

def bs (l : List UInt8) : ByteArray := ⟨l.toArray⟩
theorem bs_of (s : ByteArray) : bs s.data.toList = s := by cases s; simp [bs]
theorem bs_size (l : List UInt8) : (bs l).size = l.length := by simp [bs, ByteArray.size]
theorem size_list (s : ByteArray) : s.size = s.data.toList.length := by cases s; simp [ByteArray.size]

/-- cut at each byte c -/
def spl (c : UInt8) : List UInt8 → List (List UInt8)
 | [] => [[]]
 | x :: l => if x = c then [] :: spl c l else match spl c l with
  | p :: ps => (x :: p) :: ps
  | [] => [[x]]

def pieces (c : UInt8) (s : ByteArray) : List ByteArray := (spl c s.data.toList).map bs

/-! ### marks -/
structure Mk where
 a : Bool
 k : Bool
 s : Bool
 n : Bool
 m : Bool
 f : Bool

def Mk.none : Mk := ⟨false, false, false, false, false, false⟩
def b2i (b : Bool) (i : Int) : Int := bif b then i else 0
def Mk.int (x : Mk) : Int := b2i x.a 1 + b2i x.k 2 + b2i x.s 4 + b2i x.n 8 + b2i x.m 16 + b2i x.f 32

/-- a mark more; none: it is no mark, or is there -/
def Mk.add (x : Mk) (p : ByteArray) : Option Mk :=
 match p.data.toList with
 | [97] => if x.a then Option.none else some { x with a := true }
 | [107] => if x.k then Option.none else some { x with k := true }
 | [115] => if x.s then Option.none else some { x with s := true }
 | [110] => if x.n then Option.none else some { x with n := true }
 | [109] => if x.m then Option.none else some { x with m := true }
 | [102] => if x.f then Option.none else some { x with f := true }
 | _ => Option.none

def marksA : List ByteArray → Mk → Option Mk
 | [], x => some x
 | p :: r, x => match x.add p with
  | some y => marksA r y
  | Option.none => Option.none

/-- the marks go together -/
def Mk.fit (x : Mk) : Bool := !(x.s && (x.a || x.k || x.n || x.m || x.f)) && !(x.m && x.k) && !(x.f && (x.k || x.n || x.m))

def isNm (s : ByteArray) : Bool := decide (1 ≤ s.size) && decide (s.size ≤ 16) && s.data.toList.all fun b => decide (97 ≤ b.toNat) && decide (b.toNat ≤ 122)

structure IM where
 names : List ByteArray
 mks : Mk

def itemA (s : ByteArray) : Option IM :=
 match pieces 47 s with
 | h :: t => match marksA t Mk.none with
  | some x => if (pieces 61 h).all isNm && x.fit then some ⟨pieces 61 h, x⟩ else Option.none
  | Option.none => Option.none
 | [] => Option.none

/-- behind the last item only one may have the rest -/
def restOk : List IM → Bool
 | [] => true
 | [_] => true
 | x :: l => !x.mks.f && restOk l

def namesOf (l : List IM) : List ByteArray := l.flatMap IM.names
def manyOf (l : List IM) : Nat := (l.filter (·.mks.m)).length

def itemsA : List ByteArray → Option (List IM)
 | [] => some []
 | p :: r => match itemA p with
  | some x => (itemsA r).map (x :: ·)
  | Option.none => Option.none

def goodA (l : List IM) : Prop := restOk l = true ∧ (namesOf l).Nodup ∧ manyOf l ≤ 1

/-- a template's items (or what error there is) -/
inductive TmA (t : ByteArray) : List IM → Int → Prop where
 | nil : t = ByteArray.empty → TmA t [] 0
 | ok (l : List IM) : t ≠ ByteArray.empty → itemsA (pieces 44 t) = some l → goodA l → l.length ≤ 20 → TmA t l 0
 | long (l : List IM) : t ≠ ByteArray.empty → itemsA (pieces 44 t) = some l → goodA l → 20 < l.length → TmA t [] 2
 | bad : t ≠ ByteArray.empty → (∀ l, itemsA (pieces 44 t) = some l → ¬ goodA l) → TmA t [] 3

theorem TmA.unique {t : ByteArray} {l l' : List IM} {e e' : Int} (h : TmA t l e) (k : TmA t l' e') : l = l' ∧ e = e' := by
 cases h with
 | nil h0 => cases k with
  | nil => exact ⟨rfl, rfl⟩
  | ok _ k0 => exact (k0 h0).elim
  | long _ k0 => exact (k0 h0).elim
  | bad k0 => exact (k0 h0).elim
 | ok _ h0 h1 h2 h3 => cases k with
  | nil k0 => exact (h0 k0).elim
  | ok _ k0 k1 k2 k3 => rw [h1] at k1; cases k1; exact ⟨rfl, rfl⟩
  | long _ k0 k1 k2 k3 => rw [h1] at k1; cases k1; omega
  | bad k0 k1 => exact (k1 _ h1 h2).elim
 | long _ h0 h1 h2 h3 => cases k with
  | nil k0 => exact (h0 k0).elim
  | ok _ k0 k1 k2 k3 => rw [h1] at k1; cases k1; omega
  | long _ k0 k1 k2 k3 => exact ⟨rfl, rfl⟩
  | bad k0 k1 => exact (k1 _ h1 h2).elim
 | bad h0 h1 => cases k with
  | nil k0 => exact (h0 k0).elim
  | ok _ k0 k1 k2 k3 => exact (h1 _ k1 k2).elim
  | long _ k0 k1 k2 k3 => exact (h1 _ k1 k2).elim
  | bad k0 k1 => exact ⟨rfl, rfl⟩

/-! ### how a template is written -/
end Go.Proofs.YtjomiadmminhfaaGreatDoor
