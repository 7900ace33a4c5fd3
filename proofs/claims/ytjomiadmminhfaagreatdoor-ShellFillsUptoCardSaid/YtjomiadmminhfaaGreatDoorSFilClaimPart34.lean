/-
  Deferred functions that begin with recover, as texts of the second machine (checked by the kernel).
-/
import Derived.Test.YtjomiadmminhfaaGreatDoorSFilClaimPart33
import Derived.Test.YtjomiadmminhfaaGreatDoorSFilClaimPart5
import Derived.Test.YtjomiadmminhfaaGreatDoorProg
namespace Go.Proofs.YtjomiadmminhfaaGreatDoor
open Go.Am

def g62r : GFn := ⟨28,
 .block 0 (.seq (.region [.one ⟨(some 9), .p (.nilEq .iface false), [.t 7, .c .nilIface], none⟩])
 (.cond (.t 9)
 (.region [.one ⟨(some 3), .p .move, [.t 7], none⟩])
 (.seq (.region [.one ⟨(some 10), .p (.assertT 136 (.agg #[]) true), [.t 7], none⟩,
 .one ⟨(some 11), .p (.extract 1), [.t 10], none⟩,
 .one ⟨(some 12), .p (.extract 0), [.t 10], none⟩])
 (.cond (.t 11)
 (.seq (.region [.one ⟨(some 4), .w (.new []), [], none⟩,
 .one ⟨none, .w (.store 0), [.t 4, .t 12], none⟩])
 (.seq (.region [.one ⟨(some 13), .r .load1, [.t 0], none⟩,
 .one ⟨(some 14), .r .load1, [.t 0], none⟩,
 .one ⟨(some 15), .p .nilCheck, [.t 13], none⟩,
 .one ⟨(some 16), .p (.fieldAddr 8), [.t 15], none⟩,
 .one ⟨none, .w (.store 1), [.t 16, .c (.bool true)], none⟩,
 .one ⟨(some 17), .p .nilCheck, [.t 14], none⟩,
 .one ⟨(some 18), .p (.fieldAddr 3), [.t 17], none⟩,
 .one ⟨none, .w (.store 1), [.t 18, .c (.int .i64 0)], none⟩])
 (.region [.one ⟨none, .w (.store 1), [.t 1, .c (.int .i64 0)], none⟩,
 .one ⟨none, .w (.store 1), [.t 2, .c (.int .i64 2)], none⟩])))
 (.seq (.region [.one ⟨(some 19), .p (.assertT 137 (.agg #[]) true), [.t 7], none⟩,
 .one ⟨(some 20), .p (.extract 1), [.t 19], none⟩,
 .one ⟨(some 21), .p (.extract 0), [.t 19], none⟩])
 (.cond (.t 20)
 (.seq (.region [.one ⟨(some 5), .w (.new []), [], none⟩,
 .one ⟨none, .w (.store 0), [.t 5, .t 21], none⟩])
 (.seq (.region [.one ⟨(some 22), .r .load1, [.t 0], none⟩,
 .one ⟨(some 23), .r .load1, [.t 0], none⟩,
 .one ⟨(some 24), .p .nilCheck, [.t 22], none⟩,
 .one ⟨(some 25), .p (.fieldAddr 10), [.t 24], none⟩,
 .one ⟨none, .w (.store 1), [.t 25, .c (.slice none 0 0)], none⟩,
 .one ⟨(some 26), .p .nilCheck, [.t 23], none⟩,
 .one ⟨(some 27), .p (.fieldAddr 3), [.t 26], none⟩,
 .one ⟨none, .w (.store 1), [.t 27, .c (.int .i64 10)], none⟩])
 (.region [.one ⟨none, .w (.store 1), [.t 1, .c (.int .i64 10)], none⟩,
 .one ⟨none, .w (.store 1), [.t 2, .c (.int .i64 0)], none⟩])))
 (.seq (.region [.one ⟨(some 6), .p .move, [.t 7], none⟩])
 .bad))))))),
 []⟩

theorem g62r_ok : recOf Tryz.prog 62 = some (7, fromGFn g62r) := by kernel_rfl

def g98r : GFn := ⟨15,
 .block 0 (.seq (.region [.one ⟨(some 7), .p (.nilEq .iface false), [.t 5, .c .nilIface], none⟩])
 (.cond (.t 7)
 (.region [.one ⟨(some 2), .p .move, [.t 5], none⟩])
 (.seq (.region [.one ⟨(some 8), .p (.assertT 172 (.agg #[.int .i64 0]) true), [.t 5], none⟩,
 .one ⟨(some 9), .p (.extract 1), [.t 8], none⟩,
 .one ⟨(some 10), .p (.extract 0), [.t 8], none⟩])
 (.cond (.t 9)
 (.seq (.region [.one ⟨(some 3), .w (.new [.int .i64 0]), [], none⟩,
 .one ⟨none, .w (.store 1), [.t 3, .t 10], none⟩])
 (.seq (.region [.one ⟨(some 11), .r .load1, [.t 0], none⟩,
 .one ⟨(some 12), .callV, [.t 11], none⟩])
 (.region [.one ⟨(some 13), .p (.fieldAddr 0), [.t 3], none⟩,
 .one ⟨(some 14), .r .load1, [.t 13], none⟩,
 .one ⟨none, .w (.store 1), [.t 1, .t 14], none⟩])))
 (.seq (.region [.one ⟨(some 4), .p .move, [.t 5], none⟩])
 .bad))))),
 []⟩

theorem g98r_ok : recOf Tryz.prog 98 = some (5, fromGFn g98r) := by kernel_rfl

def recs : FuncId → Option (Nat × AFn) := fun f => if f = 62 then some (7, fromGFn g62r) else if f = 98 then some (5, fromGFn g98r) else none
theorem recs_ok : ∀ f x, recs f = some x → recOf Tryz.prog f = some x := fun f x h => by
 unfold recs at h
 split at h
 ·rename_i e; subst e; rw [← h]; exact g62r_ok
 split at h
 ·rename_i e; subst e; rw [← h]; exact g98r_ok
 cases h
end Go.Proofs.YtjomiadmminhfaaGreatDoor
