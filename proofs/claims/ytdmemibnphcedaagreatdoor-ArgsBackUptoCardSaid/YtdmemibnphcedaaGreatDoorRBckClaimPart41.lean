/-
  The chapter's Format, walked.
-/
import Derived.Test.YtdmemibnphcedaaGreatDoorRBckClaimPart39
set_option linter.unusedSimpArgs false
set_option linter.unusedVariables false
set_option maxRecDepth 10000
set_option linter.unusedSectionVars false
namespace Go.Proofs.YtdmemibnphcedaaGreatDoor
open Go.Am
attribute [local irreducible] callO wopK ropK popK opK grpsE listE sx Runs

/-- a list of words on the heap -/
structure XI (s0 : St) (X : List ByteArray) (wv : Value) (s : St) : Prop where
 go : GroK 1 s wv (X.map Value.string) X.length
 o1 : ow wv = 0 ∨ s0.next + 1 ≤ ow wv
 o2 : ow wv ≤ s.next
 fr : Frm s0 s
 le : ∀ x ∈ X, x.size ≤ 20010
theorem XI.keep {s0 s s' : St} {X : List ByteArray} {wv : Value} (h : XI s0 X wv s) (F : Frm s s') : XI s0 X wv s' := ⟨h.go.keep fun i hi => F.old i (by have := h.o2; omega), h.o1, Nat.le_trans h.o2 F.nx, h.fr.trans F, h.le⟩
theorem XI.push {s0 s s' : St} {X xs : List ByteArray} {wv wv' : Value} (h : XI s0 X wv s) (hxs : ∀ x ∈ xs, x.size ≤ 20010) {cells : List Value} {m : Nat} (hm : m = X.length + xs.length) (hcl : cells = X.map Value.string ++ xs.map Value.string) (g : GroK 1 s' wv' cells m) (o1 : s.next < ow wv') (o2 : ow wv' ≤ s'.next) (hn : s.next ≤ s'.next) (fr : ∀ i, i + 1 ≠ ow wv → i < s.next → s'.get i = s.get i) : XI s0 (X ++ xs) wv' s' where
 go := by
  subst hm hcl
  rw [List.map_append, List.length_append]
  exact g
 o1 := .inr (by have := h.fr.nx; omega)
 o2 := o2
 fr := ⟨Nat.le_trans h.fr.nx hn, fun i hi => (fr i (by have := h.o1; omega) (by have := h.fr.nx; omega)).trans (h.fr.old i hi)⟩
 le := fun x hx' => by
  rcases List.mem_append.1 hx' with q | q
  ·exact h.le x q
  ·exact hxs x q

section
variable {st : St} {K : Value → St → Prop}

end
end Go.Proofs.YtdmemibnphcedaaGreatDoor
