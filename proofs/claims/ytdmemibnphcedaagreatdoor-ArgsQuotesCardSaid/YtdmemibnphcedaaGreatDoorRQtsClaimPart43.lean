/-
  ArgsTemplates on the second machine.
-/
import Derived.Test.YtdmemibnphcedaaGreatDoorRQtsClaimPart23
set_option linter.unusedSimpArgs false
set_option linter.unusedVariables false
set_option maxRecDepth 10000
set_option linter.unusedSectionVars false
namespace Go.Proofs.YtdmemibnphcedaaGreatDoor
open Go.Am
attribute [local irreducible] callO wopK ropK popK opK grpsE listE sx Runs

section
variable {st : St} {K : Value → St → Prop}

end
end Go.Proofs.YtdmemibnphcedaaGreatDoor
