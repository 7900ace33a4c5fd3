/-
  A builder that is written byte by byte.
-/
import Derived.Test.YtjomiadmminhfaaGreatDoorSFilClaimPart12
import Derived.Test.YtjomiadmminhfaaGreatDoorChecked
import Derived.WalkKit
import Derived.BigCall
import Derived.BigGuard
set_option maxRecDepth 10000
namespace Go.Proofs.YtjomiadmminhfaaGreatDoor
open Go.RowKit

theorem bld_write (B b : Nat) (bs : List Value) (c : Int) (w : World) (h : Lib.IsBuilder 50 5 B b bs w) (hlen : bs.length + 1 ≤ 140737488355328) (hBw : B ≤ w.heap.size) :
  Calls Tryz.prog 96 #[.pointer (some ⟨b, 0, none⟩), .int .u8 c] w fun e w' => e = .returned .nilIface ∧ (Lib.BuilderAt 50 5 B b (.pointer (some ⟨b, 0, none⟩)) (bs ++ [.int .u8 c]) w' ∧ Below B w w') := Any.Builder_WriteByte { Tryz.lays159 with } Tryz.Builder_Extra_159 B b bs c w h hlen hBw
end Go.Proofs.YtjomiadmminhfaaGreatDoor
