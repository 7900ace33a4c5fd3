/-
  Which item a word belongs to, in plain words. (No program in sight.)
-/
import Derived.Test.YtdmemibnphcedaaGreatDoorRTplA
set_option linter.unusedSimpArgs false
set_option linter.unusedVariables false
set_option maxRecDepth 10000
namespace Go.Proofs.YtdmemibnphcedaaGreatDoor
open Go.Am

/-! ### which item -/
structure Cl where
  vals : List ByteArray
  set : Bool
  nm : Bool
def Cl.zero : Cl := ⟨[], false, false⟩
open Classical in
noncomputable def knownL (s : ByteArray) : List IM → Nat → Int
  | [], _ => -1
  | x :: r, i => if s ∈ x.names then i else knownL s r (i + 1)
theorem knownL_lt (s : ByteArray) : ∀ (l : List IM) (i : Nat), knownL s l i = -1 ∨ ((i : Int) ≤ knownL s l i ∧ knownL s l i < (i : Int) + l.length)
  | [], i => .inl rfl
  | x :: r, i => by
    simp only [knownL]
    split
    · right; simp; omega
    · rcases knownL_lt s r (i + 1) with h | h
      · exact .inl h
      · right; simp only [List.length_cons]; omega
def openL : List IM → List Cl → Nat → Int → Int
  | x :: l, c :: cs, i, m => if (x.mks.s || x.mks.k) = true then openL l cs (i + 1) m else if x.mks.m = true then openL l cs (i + 1) i else if c.set = true then openL l cs (i + 1) m else i
  | _, _, _, m => m

def mkAt (l : List IM) (k : Nat) : Mk := (l.getD k ⟨[], Mk.none⟩).mks
def clAt (cs : List Cl) (k : Nat) : Cl := cs.getD k Cl.zero

/-- what the search for an open item gives -/
theorem openL_spec : ∀ (l : List IM) (cs : List Cl) (i : Nat) (m : Int), l.length = cs.length → (openL l cs i m = m ∨ ∃ k, k < l.length ∧ openL l cs i m = ((i + k : Nat) : Int) ∧ ((mkAt l k).m = true ∨ (clAt cs k).set = false))
  | [], [], i, m, _ => .inl rfl
  | [], _ :: _, i, m, h => by simp at h
  | _ :: _, [], i, m, h => by simp at h
  | x :: l, c :: cs, i, m, h => by
    have hl : l.length = cs.length := by simpa using h
    have shift : ∀ m', (openL l cs (i + 1) m' = m' ∨ ∃ k, k < l.length ∧ openL l cs (i + 1) m' = ((i + 1 + k : Nat) : Int) ∧ ((mkAt l k).m = true ∨ (clAt cs k).set = false)) → (openL l cs (i + 1) m' = m' ∨ ∃ k, k < (x :: l).length ∧ openL l cs (i + 1) m' = ((i + k : Nat) : Int) ∧ ((mkAt (x :: l) k).m = true ∨ (clAt (c :: cs) k).set = false)) := fun m' hh => by
      rcases hh with hh | ⟨k, k1, k2, k3⟩
      · exact .inl hh
      · refine .inr ⟨k + 1, by simp; omega, by rw [k2]; congr 1; omega, ?_⟩
        simpa [mkAt, clAt] using k3
    simp only [openL]
    split
    · exact shift m (openL_spec l cs (i + 1) m hl)
    · split
      · rename_i hm
        rcases shift i (openL_spec l cs (i + 1) i hl) with hh | hh
        · exact .inr ⟨0, by simp, by rw [hh]; simp, .inl (by simpa [mkAt] using hm)⟩
        · exact .inr hh
      · split
        · exact shift m (openL_spec l cs (i + 1) m hl)
        · rename_i hs
          exact .inr ⟨0, by simp, by simp, .inr (by simpa [clAt] using hs)⟩
end Go.Proofs.YtdmemibnphcedaaGreatDoor
