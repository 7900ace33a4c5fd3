/-
  The chapter's Words, and ArgsWords on the second machine.
-/
import Derived.Test.YtjomiadmminhfaaGreatDoorSFilClaimPart27
import Derived.Test.YtjomiadmminhfaaGreatDoorSFilClaimPart23
import Derived.Test.YtjomiadmminhfaaGreatDoorSFilClaimPart29
set_option linter.unusedSimpArgs false
set_option linter.unusedVariables false
set_option maxRecDepth 10000
set_option linter.unusedSectionVars false
namespace Go.Proofs.YtjomiadmminhfaaGreatDoor
open Go.Am

theorem pr_fin {L : List UInt8} {p : Nat} (hp : p ≤ L.length) (h : nxt L p = .fin) : Pr L p L.length := by
 have := blk_pr hp
 rw [(nxt_fin hp).1 h] at this
 exact this
theorem WsR.pr {L : List UInt8} {p : Nat} {r : Option (List (List UInt8 × Bool))} (h : WsR L p r) : p ≤ L.length → ∀ l, r = some l → Pr L p L.length := by
 induction h with
 | fin h => intro hp l _; exact pr_fin hp h
 | bad h => intro hp l e; cases e
 | wd h k ih =>
  intro hp l e
  rw [Option.map_eq_some_iff] at e
  obtain ⟨l', e1, _⟩ := e
  obtain ⟨_, _, _, n4, n5⟩ := nxt_wd hp h
  exact n5.split (ih n4 l' e1)
attribute [local irreducible] callO wopK ropK popK opK grpsE listE sx Runs

section
variable {st : St} {K : Value → St → Prop}

end
end Go.Proofs.YtjomiadmminhfaaGreatDoor
