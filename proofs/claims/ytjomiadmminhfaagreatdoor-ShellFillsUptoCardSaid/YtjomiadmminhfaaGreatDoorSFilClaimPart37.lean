/-
  Signs; the laws' own machine, above the rest.
-/
import Derived.Test.YtjomiadmminhfaaGreatDoorSFilClaimPart31
import Derived.Test.YtjomiadmminhfaaGreatDoorSFilClaimPart36
set_option linter.unusedSimpArgs false
set_option linter.unusedVariables false
set_option maxRecDepth 10000
set_option linter.unusedSectionVars false
namespace Go.Proofs.YtjomiadmminhfaaGreatDoor
open Go.Am
open Go.RowKit (Below)

def isS (w : List UInt8) : Bool := w == [60] || w == [62] || w == [62, 62]
attribute [local irreducible] callO wopK ropK popK opK grpsE listE sx Runs

section
variable {st : St} {K : Value → St → Prop} {M : Nat}
end
end Go.Proofs.YtjomiadmminhfaaGreatDoor
