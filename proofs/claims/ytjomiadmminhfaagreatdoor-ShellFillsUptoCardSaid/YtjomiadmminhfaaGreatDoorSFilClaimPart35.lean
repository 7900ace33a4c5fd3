/-
  The program's functions as texts of the second machine, each as the compiler makes it (checked by the kernel).
-/
import Derived.Test.YtjomiadmminhfaaGreatDoorSFilClaimPart5
import Derived.Test.YtjomiadmminhfaaGreatDoorProg
namespace Go.Proofs.YtjomiadmminhfaaGreatDoor
open Go.Am

def g92 : GFn := ⟨18,
 .seq (.region [.one ⟨(some 4), .p .move, [.c (.bool false)], none⟩])
 (.seq (.region [.one ⟨(some 5), .p .move, [.t 0], none⟩,
 .one ⟨(some 6), .p .lenStr, [.t 5], none⟩,
 .one ⟨(some 7), .p .move, [.t 1], none⟩,
 .one ⟨(some 8), .p .lenStr, [.t 7], none⟩,
 .one ⟨(some 9), .p (.bin .geq), [.t 6, .t 8], none⟩,
 .one ⟨(some 10), .p .move, [.t 9], none⟩,
 .grp 10 true [⟨(some 11), .p .move, [.t 0], none⟩, ⟨(some 12), .p .move, [.t 1], none⟩, ⟨(some 13), .p .lenStr, [.t 12], none⟩, ⟨(some 14), .p (.slStr false true), [.t 11, .t 13], none⟩, ⟨(some 15), .p .move, [.t 1], none⟩, ⟨(some 16), .p (.bin .eql), [.t 14, .t 15], none⟩],
 .one ⟨(some 17), .p .pick, [.t 10, .t 16, .c (.bool false)], none⟩,
 .one ⟨(some 4), .p .move, [.t 17], none⟩])
 .ret),
 [(4, 0)]⟩

theorem g92_ok : compFn Tryz.prog 92 = some (fromGFn g92) := by kernel_rfl

def g112 : GFn := ⟨6,
 .seq (.region [.one ⟨(some 2), .p .move, [.c (.bool false)], none⟩])
 (.seq (.region [.one ⟨(some 3), .p .move, [.t 0], none⟩,
 .one ⟨(some 4), .p .move, [.t 0], none⟩,
 .one ⟨(some 5), .p (.bin .neq), [.t 3, .t 4], none⟩,
 .one ⟨(some 2), .p .move, [.t 5], none⟩])
 .ret),
 [(2, 0)]⟩

theorem g112_ok : compFn Tryz.prog 112 = some (fromGFn g112) := by kernel_rfl

def g121 : GFn := ⟨21,
 .seq (.region [.one ⟨(some 4), .p .move, [.c (.bool false)], none⟩])
 (.seq (.region [.one ⟨(some 5), .p .move, [.t 0], none⟩,
 .one ⟨(some 6), .p .lenStr, [.t 5], none⟩,
 .one ⟨(some 7), .p .move, [.t 1], none⟩,
 .one ⟨(some 8), .p .lenStr, [.t 7], none⟩,
 .one ⟨(some 9), .p (.bin .geq), [.t 6, .t 8], none⟩,
 .one ⟨(some 10), .p .move, [.t 9], none⟩,
 .grp 10 true [⟨(some 11), .p .move, [.t 0], none⟩, ⟨(some 12), .p .move, [.t 0], none⟩, ⟨(some 13), .p .lenStr, [.t 12], none⟩, ⟨(some 14), .p .move, [.t 1], none⟩, ⟨(some 15), .p .lenStr, [.t 14], none⟩, ⟨(some 16), .p (.bin .sub), [.t 13, .t 15], none⟩, ⟨(some 17), .p (.slStr true false), [.t 11, .t 16], none⟩, ⟨(some 18), .p .move, [.t 1], none⟩, ⟨(some 19), .p (.bin .eql), [.t 17, .t 18], none⟩],
 .one ⟨(some 20), .p .pick, [.t 10, .t 19, .c (.bool false)], none⟩,
 .one ⟨(some 4), .p .move, [.t 20], none⟩])
 .ret),
 [(4, 0)]⟩

theorem g121_ok : compFn Tryz.prog 121 = some (fromGFn g121) := by kernel_rfl

def g226 : GFn := ⟨15,
 .seq (.region [.one ⟨(some 4), .p .move, [.c (.string ByteArray.empty)], none⟩,
 .one ⟨(some 5), .p .move, [.c (.bool false)], none⟩])
 (.seq (.seq (.region [.one ⟨(some 6), .p .move, [.t 0], none⟩,
 .one ⟨(some 7), .p .move, [.t 1], none⟩,
 .one ⟨(some 8), .call 92, [.t 6, .t 7], none⟩,
 .one ⟨(some 9), .p (.un .not), [.t 8], none⟩])
 (.cond (.t 9)
 (.seq (.region [.one ⟨(some 10), .p .move, [.t 0], none⟩,
 .one ⟨(some 4), .p .move, [.t 10], none⟩,
 .one ⟨(some 5), .p .move, [.c (.bool false)], none⟩])
 .ret)
 .skip))
 (.seq (.region [.one ⟨(some 11), .p .move, [.t 0], none⟩,
 .one ⟨(some 12), .p .move, [.t 1], none⟩,
 .one ⟨(some 13), .p .lenStr, [.t 12], none⟩,
 .one ⟨(some 14), .p (.slStr true false), [.t 11, .t 13], none⟩,
 .one ⟨(some 4), .p .move, [.t 14], none⟩,
 .one ⟨(some 5), .p .move, [.c (.bool true)], none⟩])
 .ret)),
 [(4, 0), (5, 0)]⟩

theorem g226_ok : compFn Tryz.prog 226 = some (fromGFn g226) := by kernel_rfl

def g119 : GFn := ⟨5,
 .seq (.region [.one ⟨(some 2), .p .move, [.c (.string ByteArray.empty)], none⟩])
 (.seq (.region [.one ⟨(some 3), .p .move, [.t 0], none⟩,
 .one ⟨(some 4), .call 145, [.t 3, .c (.int .i64 10)], none⟩,
 .one ⟨(some 2), .p .move, [.t 4], none⟩])
 .ret),
 [(2, 0)]⟩

theorem g119_ok : compFn Tryz.prog 119 = some (fromGFn g119) := by kernel_rfl

def g145 : GFn := ⟨54,
 .seq (.region [.one ⟨(some 4), .p .move, [.c (.string ByteArray.empty)], none⟩])
 (.seq (.seq (.region [.one ⟨(some 10), .p .move, [.t 1], none⟩,
 .one ⟨(some 11), .p (.bin .eql), [.t 10, .c (.int .i64 10)], none⟩])
 (.cond (.t 11)
 (.seq (.seq (.region [.one ⟨(some 12), .p .move, [.t 0], none⟩,
 .one ⟨(some 13), .p (.bin .leq), [.c (.int .i64 0), .t 12], none⟩,
 .one ⟨(some 14), .p .move, [.t 13], none⟩,
 .grp 14 true [⟨(some 15), .p .move, [.t 0], none⟩, ⟨(some 16), .p (.bin .lss), [.t 15, .c (.int .i64 100)], none⟩],
 .one ⟨(some 17), .p .pick, [.t 14, .t 16, .c (.bool false)], none⟩])
 (.cond (.t 17)
 (.seq (.region [.one ⟨(some 18), .p .move, [.t 0], none⟩,
 .one ⟨(some 19), .call 175, [.t 18], none⟩,
 .one ⟨(some 4), .p .move, [.t 19], none⟩])
 .ret)
 .skip))
 (.seq (.region [.one ⟨(some 5), .w (.new (List.replicate 24 (.int .u8 0))), [], none⟩])
 (.seq (.region [.one ⟨(some 20), .p .move, [.t 0], none⟩,
 .one ⟨(some 21), .p (.convInt .u64), [.t 20], none⟩,
 .one ⟨(some 6), .p .move, [.t 21], none⟩])
 (.seq (.seq (.region [.one ⟨(some 22), .p .move, [.t 0], none⟩,
 .one ⟨(some 23), .p (.bin .lss), [.t 22, .c (.int .i64 0)], none⟩])
 (.cond (.t 23)
 (.region [.one ⟨(some 24), .p .move, [.t 6], none⟩,
 .one ⟨(some 25), .p (.un .neg), [.t 24], none⟩,
 .one ⟨(some 6), .p .move, [.t 25], none⟩])
 .skip))
 (.seq (.region [.one ⟨(some 26), .p .move, [.t 6], none⟩,
 .one ⟨(some 27), .call 176, [.t 26], none⟩,
 .one ⟨(some 7), .p .move, [.t 27], none⟩])
 (.seq (.region [.one ⟨(some 28), .p .move, [.t 7], none⟩,
 .one ⟨(some 29), .p (.bin .add), [.c (.int .i64 1), .t 28], none⟩,
 .one ⟨(some 30), .r (.slArr 24 1 true true), [.t 5, .c (.int .i64 1), .t 29], none⟩,
 .one ⟨(some 31), .p .move, [.t 6], none⟩,
 .one ⟨(some 32), .call 177, [.t 30, .t 31], none⟩])
 (.seq (.seq (.region [.one ⟨(some 33), .p .move, [.t 0], none⟩,
 .one ⟨(some 34), .p (.bin .lss), [.t 33, .c (.int .i64 0)], none⟩])
 (.cond (.t 34)
 (.seq (.region [.one ⟨(some 35), .p (.indexAddrArr 24 1), [.t 5, .c (.int .i64 0)], none⟩,
 .one ⟨none, .w (.store 1), [.t 35, .c (.int .u8 45)], none⟩])
 (.seq (.region [.one ⟨(some 36), .p .move, [.t 7], none⟩,
 .one ⟨(some 37), .p (.bin .add), [.c (.int .i64 1), .t 36], none⟩,
 .one ⟨(some 38), .r (.slArr 24 1 false true), [.t 5, .t 37], none⟩,
 .one ⟨(some 39), .r .bytesToStr, [.t 38], none⟩,
 .one ⟨(some 4), .p .move, [.t 39], none⟩])
 .ret))
 .skip))
 (.seq (.region [.one ⟨(some 40), .p .move, [.t 7], none⟩,
 .one ⟨(some 41), .p (.bin .add), [.c (.int .i64 1), .t 40], none⟩,
 .one ⟨(some 42), .r (.slArr 24 1 true true), [.t 5, .c (.int .i64 1), .t 41], none⟩,
 .one ⟨(some 43), .r .bytesToStr, [.t 42], none⟩,
 .one ⟨(some 4), .p .move, [.t 43], none⟩])
 .ret))))))))
 .skip))
 (.seq (.region [.one ⟨(some 45), .p .move, [.t 0], none⟩,
 .one ⟨(some 46), .p (.convInt .u64), [.t 45], none⟩,
 .one ⟨(some 47), .p .move, [.t 1], none⟩,
 .one ⟨(some 48), .p .move, [.t 0], none⟩,
 .one ⟨(some 49), .p (.bin .lss), [.t 48, .c (.int .i64 0)], none⟩,
 .one ⟨(some 50), .call 178, [.c (.slice none 0 0), .t 46, .t 47, .t 49, .c (.bool false)], none⟩,
 .one ⟨(some 44), .p .move, [.t 50], none⟩,
 .one ⟨(some 51), .p (.extract 0), [.t 44], none⟩,
 .one ⟨(some 52), .p (.extract 1), [.t 44], none⟩,
 .one ⟨(some 8), .p .move, [.t 51], none⟩,
 .one ⟨(some 9), .p .move, [.t 52], none⟩])
 (.seq (.region [.one ⟨(some 53), .p .move, [.t 9], none⟩,
 .one ⟨(some 4), .p .move, [.t 53], none⟩])
 .ret))),
 [(4, 0)]⟩

theorem g145_ok : compFn Tryz.prog 145 = some (fromGFn g145) := by kernel_rfl

def g175 : GFn := ⟨15,
 .seq (.region [.one ⟨(some 2), .p .move, [.c (.string ByteArray.empty)], none⟩])
 (.seq (.seq (.region [.one ⟨(some 3), .p .move, [.t 0], none⟩,
 .one ⟨(some 4), .p (.bin .lss), [.t 3, .c (.int .i64 10)], none⟩])
 (.cond (.t 4)
 (.seq (.region [.one ⟨(some 5), .p .move, [.t 0], none⟩,
 .one ⟨(some 6), .p .move, [.t 0], none⟩,
 .one ⟨(some 7), .p (.bin .add), [.t 6, .c (.int .i64 1)], none⟩,
 .one ⟨(some 8), .p (.slStr true true), [.c (.string ⟨#[48, 49, 50, 51, 52, 53, 54, 55, 56, 57, 97, 98, 99, 100, 101, 102, 103, 104, 105, 106, 107, 108, 109, 110, 111, 112, 113, 114, 115, 116, 117, 118, 119, 120, 121, 122]⟩), .t 5, .t 7], none⟩,
 .one ⟨(some 2), .p .move, [.t 8], none⟩])
 .ret)
 .skip))
 (.seq (.region [.one ⟨(some 9), .p .move, [.t 0], none⟩,
 .one ⟨(some 10), .p (.bin .mul), [.t 9, .c (.int .i64 2)], none⟩,
 .one ⟨(some 11), .p .move, [.t 0], none⟩,
 .one ⟨(some 12), .p (.bin .mul), [.t 11, .c (.int .i64 2)], none⟩,
 .one ⟨(some 13), .p (.bin .add), [.t 12, .c (.int .i64 2)], none⟩,
 .one ⟨(some 14), .p (.slStr true true), [.c (.string ⟨#[48, 48, 48, 49, 48, 50, 48, 51, 48, 52, 48, 53, 48, 54, 48, 55, 48, 56, 48, 57, 49, 48, 49, 49, 49, 50, 49, 51, 49, 52, 49, 53, 49, 54, 49, 55, 49, 56, 49, 57, 50, 48, 50, 49, 50, 50, 50, 51, 50, 52, 50, 53, 50, 54, 50, 55, 50, 56, 50, 57, 51, 48, 51, 49, 51, 50, 51, 51, 51, 52, 51, 53, 51, 54, 51, 55, 51, 56, 51, 57, 52, 48, 52, 49, 52, 50, 52, 51, 52, 52, 52, 53, 52, 54, 52, 55, 52, 56, 52, 57, 53, 48, 53, 49, 53, 50, 53, 51, 53, 52, 53, 53, 53, 54, 53, 55, 53, 56, 53, 57, 54, 48, 54, 49, 54, 50, 54, 51, 54, 52, 54, 53, 54, 54, 54, 55, 54, 56, 54, 57, 55, 48, 55, 49, 55, 50, 55, 51, 55, 52, 55, 53, 55, 54, 55, 55, 55, 56, 55, 57, 56, 48, 56, 49, 56, 50, 56, 51, 56, 52, 56, 53, 56, 54, 56, 55, 56, 56, 56, 57, 57, 48, 57, 49, 57, 50, 57, 51, 57, 52, 57, 53, 57, 54, 57, 55, 57, 56, 57, 57]⟩), .t 10, .t 13], none⟩,
 .one ⟨(some 2), .p .move, [.t 14], none⟩])
 .ret)),
 [(2, 0)]⟩

theorem g175_ok : compFn Tryz.prog 175 = some (fromGFn g175) := by kernel_rfl

def g176 : GFn := ⟨15,
 .seq (.region [.one ⟨(some 2), .p .move, [.c (.int .i64 0)], none⟩])
 (.seq (.region [.one ⟨(some 4), .p .move, [.t 0], none⟩,
 .one ⟨(some 5), .call 139, [.t 4], none⟩,
 .one ⟨(some 6), .call 217, [.t 5], none⟩,
 .one ⟨(some 3), .p .move, [.t 6], none⟩])
 (.seq (.region [.one ⟨(some 7), .p .move, [.t 3], none⟩,
 .one ⟨(some 8), .p .move, [.t 0], none⟩,
 .one ⟨(some 9), .p .move, [.t 3], none⟩,
 .one ⟨(some 10), .p (.indexAddrArr 20 1), [.g 3, .t 9], none⟩,
 .one ⟨(some 11), .r .load1, [.t 10], none⟩,
 .one ⟨(some 12), .p (.bin .geq), [.t 8, .t 11], none⟩,
 .one ⟨(some 13), .call 218, [.t 12], none⟩,
 .one ⟨(some 14), .p (.bin .add), [.t 7, .t 13], none⟩,
 .one ⟨(some 2), .p .move, [.t 14], none⟩])
 .ret)),
 [(2, 0)]⟩

theorem g176_ok : compFn Tryz.prog 176 = some (fromGFn g176) := by kernel_rfl

def g78 : GFn := ⟨51,
 .seq (.region [.one ⟨(some 2), .p .move, [.c (.int .i32 0)], none⟩,
 .one ⟨(some 3), .p .move, [.c (.int .i64 0)], none⟩])
 (.seq (.region [.one ⟨(some 7), .p .move, [.t 0], none⟩,
 .one ⟨(some 8), .p .lenStr, [.t 7], none⟩,
 .one ⟨(some 4), .p .move, [.t 8], none⟩])
 (.seq (.seq (.region [.one ⟨(some 9), .p .move, [.t 4], none⟩,
 .one ⟨(some 10), .p (.bin .eql), [.t 9, .c (.int .i64 0)], none⟩])
 (.cond (.t 10)
 (.seq (.region [.one ⟨(some 2), .p .move, [.c (.int .i32 65533)], none⟩,
 .one ⟨(some 3), .p .move, [.c (.int .i64 0)], none⟩])
 .ret)
 .skip))
 (.seq (.region [.one ⟨(some 11), .p .move, [.t 4], none⟩,
 .one ⟨(some 12), .p (.bin .sub), [.t 11, .c (.int .i64 1)], none⟩,
 .one ⟨(some 5), .p .move, [.t 12], none⟩])
 (.seq (.region [.one ⟨(some 13), .p .move, [.t 0], none⟩,
 .one ⟨(some 14), .p .move, [.t 5], none⟩,
 .one ⟨(some 15), .p .indexStr, [.t 13, .t 14], none⟩,
 .one ⟨(some 16), .p (.convInt .i32), [.t 15], none⟩,
 .one ⟨(some 2), .p .move, [.t 16], none⟩])
 (.seq (.seq (.region [.one ⟨(some 17), .p .move, [.t 2], none⟩,
 .one ⟨(some 18), .p (.bin .lss), [.t 17, .c (.int .i32 128)], none⟩])
 (.cond (.t 18)
 (.seq (.region [.one ⟨(some 19), .p .move, [.t 2], none⟩,
 .one ⟨(some 2), .p .move, [.t 19], none⟩,
 .one ⟨(some 3), .p .move, [.c (.int .i64 1)], none⟩])
 .ret)
 .skip))
 (.seq (.region [.one ⟨(some 20), .p .move, [.t 4], none⟩,
 .one ⟨(some 21), .p (.bin .sub), [.t 20, .c (.int .i64 4)], none⟩,
 .one ⟨(some 22), .p .max, [.t 21, .c (.int .i64 0)], none⟩,
 .one ⟨(some 6), .p .move, [.t 22], none⟩])
 (.seq (.seq (.region [.one ⟨(some 23), .p .move, [.t 5], none⟩,
 .one ⟨(some 24), .p (.bin .sub), [.t 23, .c (.int .i64 1)], none⟩,
 .one ⟨(some 5), .p .move, [.t 24], none⟩])
 (.block 0 (.loop (.seq (.seq (.region [.one ⟨(some 25), .p .move, [.t 5], none⟩,
 .one ⟨(some 26), .p .move, [.t 6], none⟩,
 .one ⟨(some 27), .p (.bin .geq), [.t 25, .t 26], none⟩])
 (.cond (.t 27)
 .skip
 (.exit 0)))
 (.seq (.block 1 (.seq (.region [.one ⟨(some 30), .p .move, [.t 0], none⟩,
 .one ⟨(some 31), .p .move, [.t 5], none⟩,
 .one ⟨(some 32), .p .indexStr, [.t 30, .t 31], none⟩,
 .one ⟨(some 33), .call 115, [.t 32], none⟩])
 (.cond (.t 33)
 (.exit 0)
 .skip)))
 (.region [.one ⟨(some 28), .p .move, [.t 5], none⟩,
 .one ⟨(some 29), .p (.bin .sub), [.t 28, .c (.int .i64 1)], none⟩,
 .one ⟨(some 5), .p .move, [.t 29], none⟩]))))))
 (.seq (.seq (.region [.one ⟨(some 34), .p .move, [.t 5], none⟩,
 .one ⟨(some 35), .p (.bin .lss), [.t 34, .c (.int .i64 0)], none⟩])
 (.cond (.t 35)
 (.region [.one ⟨(some 5), .p .move, [.c (.int .i64 0)], none⟩])
 .skip))
 (.seq (.region [.one ⟨(some 37), .p .move, [.t 0], none⟩,
 .one ⟨(some 38), .p .move, [.t 5], none⟩,
 .one ⟨(some 39), .p .move, [.t 4], none⟩,
 .one ⟨(some 40), .p (.slStr true true), [.t 37, .t 38, .t 39], none⟩,
 .one ⟨(some 41), .call 76, [.t 40], none⟩,
 .one ⟨(some 36), .p .move, [.t 41], none⟩,
 .one ⟨(some 42), .p (.extract 0), [.t 36], none⟩,
 .one ⟨(some 43), .p (.extract 1), [.t 36], none⟩,
 .one ⟨(some 2), .p .move, [.t 42], none⟩,
 .one ⟨(some 3), .p .move, [.t 43], none⟩])
 (.seq (.seq (.region [.one ⟨(some 44), .p .move, [.t 5], none⟩,
 .one ⟨(some 45), .p .move, [.t 3], none⟩,
 .one ⟨(some 46), .p (.bin .add), [.t 44, .t 45], none⟩,
 .one ⟨(some 47), .p .move, [.t 4], none⟩,
 .one ⟨(some 48), .p (.bin .neq), [.t 46, .t 47], none⟩])
 (.cond (.t 48)
 (.seq (.region [.one ⟨(some 2), .p .move, [.c (.int .i32 65533)], none⟩,
 .one ⟨(some 3), .p .move, [.c (.int .i64 1)], none⟩])
 .ret)
 .skip))
 (.seq (.region [.one ⟨(some 49), .p .move, [.t 2], none⟩,
 .one ⟨(some 50), .p .move, [.t 3], none⟩,
 .one ⟨(some 2), .p .move, [.t 49], none⟩,
 .one ⟨(some 3), .p .move, [.t 50], none⟩])
 .ret))))))))))),
 [(2, 0), (3, 0)]⟩

theorem g78_ok : compFn Tryz.prog 78 = some (fromGFn g78) := by kernel_rfl

def g138 : GFn := ⟨19,
 .seq (.region [.one ⟨(some 2), .p .move, [.c (.int .i64 0)], none⟩])
 (.seq (.seq (.region [.one ⟨(some 3), .p .move, [.t 0], none⟩,
 .one ⟨(some 4), .p (.bin .geq), [.t 3, .c (.int .u32 65536)], none⟩])
 (.cond (.t 4)
 (.seq (.region [.one ⟨(some 5), .p .move, [.t 0], none⟩,
 .one ⟨(some 6), .p (.bin .shr), [.t 5, .c (.int .u64 16)], none⟩,
 .one ⟨(some 0), .p .move, [.t 6], none⟩])
 (.region [.one ⟨(some 2), .p .move, [.c (.int .i64 16)], none⟩]))
 .skip))
 (.seq (.seq (.region [.one ⟨(some 7), .p .move, [.t 0], none⟩,
 .one ⟨(some 8), .p (.bin .geq), [.t 7, .c (.int .u32 256)], none⟩])
 (.cond (.t 8)
 (.seq (.region [.one ⟨(some 9), .p .move, [.t 0], none⟩,
 .one ⟨(some 10), .p (.bin .shr), [.t 9, .c (.int .u64 8)], none⟩,
 .one ⟨(some 0), .p .move, [.t 10], none⟩])
 (.region [.one ⟨(some 11), .p .move, [.t 2], none⟩,
 .one ⟨(some 12), .p (.bin .add), [.t 11, .c (.int .i64 8)], none⟩,
 .one ⟨(some 2), .p .move, [.t 12], none⟩]))
 .skip))
 (.seq (.region [.one ⟨(some 13), .p .move, [.t 2], none⟩,
 .one ⟨(some 14), .p .move, [.t 0], none⟩,
 .one ⟨(some 15), .p (.convInt .u8), [.t 14], none⟩,
 .one ⟨(some 16), .p .indexStr, [.c (.string ⟨#[0, 1, 2, 2, 3, 3, 3, 3, 4, 4, 4, 4, 4, 4, 4, 4, 5, 5, 5, 5, 5, 5, 5, 5, 5, 5, 5, 5, 5, 5, 5, 5, 6, 6, 6, 6, 6, 6, 6, 6, 6, 6, 6, 6, 6, 6, 6, 6, 6, 6, 6, 6, 6, 6, 6, 6, 6, 6, 6, 6, 6, 6, 6, 6, 7, 7, 7, 7, 7, 7, 7, 7, 7, 7, 7, 7, 7, 7, 7, 7, 7, 7, 7, 7, 7, 7, 7, 7, 7, 7, 7, 7, 7, 7, 7, 7, 7, 7, 7, 7, 7, 7, 7, 7, 7, 7, 7, 7, 7, 7, 7, 7, 7, 7, 7, 7, 7, 7, 7, 7, 7, 7, 7, 7, 7, 7, 7, 7, 8, 8, 8, 8, 8, 8, 8, 8, 8, 8, 8, 8, 8, 8, 8, 8, 8, 8, 8, 8, 8, 8, 8, 8, 8, 8, 8, 8, 8, 8, 8, 8, 8, 8, 8, 8, 8, 8, 8, 8, 8, 8, 8, 8, 8, 8, 8, 8, 8, 8, 8, 8, 8, 8, 8, 8, 8, 8, 8, 8, 8, 8, 8, 8, 8, 8, 8, 8, 8, 8, 8, 8, 8, 8, 8, 8, 8, 8, 8, 8, 8, 8, 8, 8, 8, 8, 8, 8, 8, 8, 8, 8, 8, 8, 8, 8, 8, 8, 8, 8, 8, 8, 8, 8, 8, 8, 8, 8, 8, 8, 8, 8, 8, 8, 8, 8, 8, 8, 8, 8, 8, 8, 8, 8, 8, 8, 8, 8]⟩), .t 15], none⟩,
 .one ⟨(some 17), .p (.convInt .i64), [.t 16], none⟩,
 .one ⟨(some 18), .p (.bin .add), [.t 13, .t 17], none⟩,
 .one ⟨(some 2), .p .move, [.t 18], none⟩])
 .ret))),
 [(2, 0)]⟩

theorem g138_ok : compFn Tryz.prog 138 = some (fromGFn g138) := by kernel_rfl

def g139 : GFn := ⟨25,
 .seq (.region [.one ⟨(some 2), .p .move, [.c (.int .i64 0)], none⟩])
 (.seq (.seq (.region [.one ⟨(some 3), .p .move, [.t 0], none⟩,
 .one ⟨(some 4), .p (.bin .geq), [.t 3, .c (.int .u64 4294967296)], none⟩])
 (.cond (.t 4)
 (.seq (.region [.one ⟨(some 5), .p .move, [.t 0], none⟩,
 .one ⟨(some 6), .p (.bin .shr), [.t 5, .c (.int .u64 32)], none⟩,
 .one ⟨(some 0), .p .move, [.t 6], none⟩])
 (.region [.one ⟨(some 2), .p .move, [.c (.int .i64 32)], none⟩]))
 .skip))
 (.seq (.seq (.region [.one ⟨(some 7), .p .move, [.t 0], none⟩,
 .one ⟨(some 8), .p (.bin .geq), [.t 7, .c (.int .u64 65536)], none⟩])
 (.cond (.t 8)
 (.seq (.region [.one ⟨(some 9), .p .move, [.t 0], none⟩,
 .one ⟨(some 10), .p (.bin .shr), [.t 9, .c (.int .u64 16)], none⟩,
 .one ⟨(some 0), .p .move, [.t 10], none⟩])
 (.region [.one ⟨(some 11), .p .move, [.t 2], none⟩,
 .one ⟨(some 12), .p (.bin .add), [.t 11, .c (.int .i64 16)], none⟩,
 .one ⟨(some 2), .p .move, [.t 12], none⟩]))
 .skip))
 (.seq (.seq (.region [.one ⟨(some 13), .p .move, [.t 0], none⟩,
 .one ⟨(some 14), .p (.bin .geq), [.t 13, .c (.int .u64 256)], none⟩])
 (.cond (.t 14)
 (.seq (.region [.one ⟨(some 15), .p .move, [.t 0], none⟩,
 .one ⟨(some 16), .p (.bin .shr), [.t 15, .c (.int .u64 8)], none⟩,
 .one ⟨(some 0), .p .move, [.t 16], none⟩])
 (.region [.one ⟨(some 17), .p .move, [.t 2], none⟩,
 .one ⟨(some 18), .p (.bin .add), [.t 17, .c (.int .i64 8)], none⟩,
 .one ⟨(some 2), .p .move, [.t 18], none⟩]))
 .skip))
 (.seq (.region [.one ⟨(some 19), .p .move, [.t 2], none⟩,
 .one ⟨(some 20), .p .move, [.t 0], none⟩,
 .one ⟨(some 21), .p (.convInt .u8), [.t 20], none⟩,
 .one ⟨(some 22), .p .indexStr, [.c (.string ⟨#[0, 1, 2, 2, 3, 3, 3, 3, 4, 4, 4, 4, 4, 4, 4, 4, 5, 5, 5, 5, 5, 5, 5, 5, 5, 5, 5, 5, 5, 5, 5, 5, 6, 6, 6, 6, 6, 6, 6, 6, 6, 6, 6, 6, 6, 6, 6, 6, 6, 6, 6, 6, 6, 6, 6, 6, 6, 6, 6, 6, 6, 6, 6, 6, 7, 7, 7, 7, 7, 7, 7, 7, 7, 7, 7, 7, 7, 7, 7, 7, 7, 7, 7, 7, 7, 7, 7, 7, 7, 7, 7, 7, 7, 7, 7, 7, 7, 7, 7, 7, 7, 7, 7, 7, 7, 7, 7, 7, 7, 7, 7, 7, 7, 7, 7, 7, 7, 7, 7, 7, 7, 7, 7, 7, 7, 7, 7, 7, 8, 8, 8, 8, 8, 8, 8, 8, 8, 8, 8, 8, 8, 8, 8, 8, 8, 8, 8, 8, 8, 8, 8, 8, 8, 8, 8, 8, 8, 8, 8, 8, 8, 8, 8, 8, 8, 8, 8, 8, 8, 8, 8, 8, 8, 8, 8, 8, 8, 8, 8, 8, 8, 8, 8, 8, 8, 8, 8, 8, 8, 8, 8, 8, 8, 8, 8, 8, 8, 8, 8, 8, 8, 8, 8, 8, 8, 8, 8, 8, 8, 8, 8, 8, 8, 8, 8, 8, 8, 8, 8, 8, 8, 8, 8, 8, 8, 8, 8, 8, 8, 8, 8, 8, 8, 8, 8, 8, 8, 8, 8, 8, 8, 8, 8, 8, 8, 8, 8, 8, 8, 8, 8, 8, 8, 8, 8, 8]⟩), .t 21], none⟩,
 .one ⟨(some 23), .p (.convInt .i64), [.t 22], none⟩,
 .one ⟨(some 24), .p (.bin .add), [.t 19, .t 23], none⟩,
 .one ⟨(some 2), .p .move, [.t 24], none⟩])
 .ret)))),
 [(2, 0)]⟩

theorem g139_ok : compFn Tryz.prog 139 = some (fromGFn g139) := by kernel_rfl

def g140 : GFn := ⟨17,
 .seq (.region [.one ⟨(some 2), .p .move, [.c (.bool false)], none⟩])
 (.seq (.block 0 (.seq (.region [.one ⟨(some 4), .p .move, [.t 0], none⟩,
 .one ⟨(some 5), .p (.bin .leq), [.c (.int .i32 0), .t 4], none⟩,
 .one ⟨(some 6), .p .move, [.t 5], none⟩,
 .grp 6 true [⟨(some 7), .p .move, [.t 0], none⟩, ⟨(some 8), .p (.bin .lss), [.t 7, .c (.int .i32 55296)], none⟩],
 .one ⟨(some 9), .p .pick, [.t 6, .t 8, .c (.bool false)], none⟩,
 .one ⟨(some 3), .p .move, [.t 9], none⟩])
 (.cond (.t 3)
 (.seq (.region [.one ⟨(some 2), .p .move, [.c (.bool true)], none⟩])
 .ret)
 (.seq (.region [.one ⟨(some 11), .p .move, [.t 0], none⟩,
 .one ⟨(some 12), .p (.bin .lss), [.c (.int .i32 57343), .t 11], none⟩,
 .one ⟨(some 13), .p .move, [.t 12], none⟩,
 .grp 13 true [⟨(some 14), .p .move, [.t 0], none⟩, ⟨(some 15), .p (.bin .leq), [.t 14, .c (.int .i32 1114111)], none⟩],
 .one ⟨(some 16), .p .pick, [.t 13, .t 15, .c (.bool false)], none⟩,
 .one ⟨(some 10), .p .move, [.t 16], none⟩])
 (.cond (.t 10)
 (.seq (.region [.one ⟨(some 2), .p .move, [.c (.bool true)], none⟩])
 .ret)
 .skip)))))
 (.seq (.region [.one ⟨(some 2), .p .move, [.c (.bool false)], none⟩])
 .ret)),
 [(2, 0)]⟩

theorem g140_ok : compFn Tryz.prog 140 = some (fromGFn g140) := by kernel_rfl

def g115 : GFn := ⟨6,
 .seq (.region [.one ⟨(some 2), .p .move, [.c (.bool false)], none⟩])
 (.seq (.region [.one ⟨(some 3), .p .move, [.t 0], none⟩,
 .one ⟨(some 4), .p (.bin .and), [.t 3, .c (.int .u8 192)], none⟩,
 .one ⟨(some 5), .p (.bin .neq), [.t 4, .c (.int .u8 128)], none⟩,
 .one ⟨(some 2), .p .move, [.t 5], none⟩])
 .ret),
 [(2, 0)]⟩

theorem g115_ok : compFn Tryz.prog 115 = some (fromGFn g115) := by kernel_rfl

/-- the functions whose text is run -/
def tblB : List (Nat × GFn) := [(92, g92), (112, g112), (121, g121), (226, g226), (119, g119), (145, g145), (175, g175), (176, g176), (78, g78), (138, g138), (139, g139), (140, g140), (115, g115)]

theorem fnsB_ok : AllOk Tryz.prog tblB := ⟨g92_ok, g112_ok, g121_ok, g226_ok, g119_ok, g145_ok, g175_ok, g176_ok, g78_ok, g138_ok, g139_ok, g140_ok, g115_ok, trivial⟩

end Go.Proofs.YtjomiadmminhfaaGreatDoor
