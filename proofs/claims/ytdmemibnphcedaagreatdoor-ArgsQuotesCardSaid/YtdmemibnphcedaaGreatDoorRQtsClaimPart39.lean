/-
  How ArgsFits begins: the variable strconv.ErrRange holds an error.
-/
import Derived.Test.YtdmemibnphcedaaGreatDoorRQtsClaimPart36
import Derived.Test.YtdmemibnphcedaaGreatDoorRQtsClaimPart38
import Derived.Test.YtdmemibnphcedaaGreatDoorRows
import Derived.Test.YtdmemibnphcedaaGreatDoorChecked
import Derived.Stop.LaidErr
import Derived.LaidLaws
import Derived.LaidSub
import Derived.ProofKit
set_option linter.unusedSimpArgs false
set_option linter.unusedVariables false
set_option maxRecDepth 10000
namespace Go.Proofs.YtdmemibnphcedaaGreatDoor.argsFits
open Go.ChangeShapes Go.WideShapes Go.ChangeAt Go.RowKit Go.Am
attribute [local irreducible] callO

theorem globals9 : Tryz.prog.globals.size = 9 := by kernel_rfl
/-! ### how the run begins: the variable 0 holds some int, the variable ErrRange an error -/
/-! ### what the row says of ErrRange -/
end Go.Proofs.YtdmemibnphcedaaGreatDoor.argsFits
