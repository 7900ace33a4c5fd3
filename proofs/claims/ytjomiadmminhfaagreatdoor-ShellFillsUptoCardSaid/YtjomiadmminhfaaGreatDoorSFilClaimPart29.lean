/-
  A text is quoted: by the chapter.
-/
import Derived.Test.YtjomiadmminhfaaGreatDoorSFilClaimPart28
import Derived.Test.YtjomiadmminhfaaGreatDoorSFilClaimPart22
set_option linter.unusedSimpArgs false
set_option linter.unusedVariables false
set_option maxRecDepth 10000
set_option linter.unusedSectionVars false
namespace Go.Proofs.YtjomiadmminhfaaGreatDoor
open Go.Am

/-- bytes that grow, or the ones that were laid first -/
def GQ (st : St) (v : Value) (l : List UInt8) : Prop := Gro st v l ∨ ∃ b, v = .slice (some ⟨b, 0, none⟩) l.length l.length ∧ st.get b = some (.row (l.map u8v) 0 false) ∧ l ≠ []

section
variable {st st' : St} {v u : Value} {l m : List UInt8}
theorem GQ.bys (h : GQ st v l) : Bys st v l := by
 rcases h with h | ⟨b, h1, h2, h3⟩
 ·exact h.bys
 ·exact .inr (.inl ⟨b, 0, l.length, l.map u8v, 0, false, h1, Nat.le_refl _, h2, .inl rfl, by simp, by rw [List.drop_zero, List.take_of_length_le (by simp)]⟩)
theorem GQ.keep (h : GQ st v l) (hb : ∀ i, i + 1 = ow v → st'.get i = st.get i) : GQ st' v l := by
 rcases h with h | ⟨b, h1, h2, h3⟩
 ·exact .inl (h.keep hb)
 ·subst h1; exact .inr ⟨b, rfl, (hb b rfl).trans h2, h3⟩
end

attribute [local irreducible] callO wopK ropK popK opK grpsE listE sx Runs

section
variable {st : St} {K : Value → St → Prop}

end
end Go.Proofs.YtjomiadmminhfaaGreatDoor
