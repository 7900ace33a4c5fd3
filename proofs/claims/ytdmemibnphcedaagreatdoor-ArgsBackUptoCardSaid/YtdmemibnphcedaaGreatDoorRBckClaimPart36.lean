/-
  ArgsFits on the second machine.
-/
import Derived.Test.YtdmemibnphcedaaGreatDoorRBckClaimPart27
set_option linter.unusedSimpArgs false
set_option linter.unusedVariables false
set_option maxRecDepth 10000
set_option linter.unusedSectionVars false
namespace Go.Proofs.YtdmemibnphcedaaGreatDoor
open Go.Am
attribute [local irreducible] callO wopK ropK popK opK grpsE listE sx Runs

theorem wdBoxA (s : St) (a b c : Value) (ha : oneCell a = true) (hb : oneCell b = true) (hc : oneCell c = true) : ∃ s4, (∀ W : Value → St → Prop, wopK (.store 3) [.pointer (some ⟨s.next, 0, none⟩), .agg #[a, b, c]] (s.new (.row [.string .empty, .slice none 0 0, .bool false] 0 false)) W = W undef s4) ∧ s4.get s.next = some (.row [a, b, c] 0 false) ∧ s4.next = s.next + 1 ∧ Frm s s4 :=
 ⟨(s.new (.row [.string .empty, .slice none 0 0, .bool false] 0 false)).put s.next (some (.row [a, b, c] 0 false)), fun W => wk_storeK (W := W) (get_new_same s (.row [.string .empty, .slice none 0 0, .bool false] 0 false)) (o := 0) (k := 3) (xs := [a, b, c]) (by decide) rfl (by simp [ha, hb, hc]), get_put_same _ _ _, rfl, (Frm.new s _).put _ (Nat.le_refl _) _⟩

theorem resA_some {l : List IM} {q : Option (List Cl)} {cs : List Cl} (h : resA l q = some cs) : q = some cs := by
 cases q with
 | none => cases h
 | some c =>
  unfold resA at h
  simp only at h
  split at h
  ·exact h
  ·cases h

section
variable {st : St} {K : Value → St → Prop}

end
end Go.Proofs.YtdmemibnphcedaaGreatDoor
