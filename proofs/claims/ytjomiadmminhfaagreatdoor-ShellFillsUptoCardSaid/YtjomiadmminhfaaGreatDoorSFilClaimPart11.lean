/-
  The program's functions as texts of the second machine, each as the compiler makes it (checked by the kernel).
-/
import Derived.Test.YtjomiadmminhfaaGreatDoorSFilClaimPart5
import Derived.Test.YtjomiadmminhfaaGreatDoorProg
namespace Go.Proofs.YtjomiadmminhfaaGreatDoor
open Go.Am

def g5 : GFn := ⟨22,
 .seq (.region [.one ⟨some 0, .p .move, [.c (.bool false)], none⟩])
 (.seq (.region [.one ⟨some 6, .w (.sliceLit [.string ByteArray.empty, .string ByteArray.empty] 2 [(0, 1), (1, 1)]), [.c (.string ⟨#[101, 99, 104, 111, 32, 97, 32, 59, 32, 101, 99, 104, 111, 32, 98]⟩), .c (.string ⟨#[101, 99, 104, 111, 32, 120, 32, 62, 32, 102, 32, 59, 32, 116, 121, 112, 101, 32, 102]⟩)], none⟩,
 .one ⟨some 7, .call 13, [.c (.slice none 0 0), .t 6, .c (.string ByteArray.empty)], none⟩,
 .one ⟨some 5, .p .move, [.t 7], none⟩,
 .one ⟨some 8, .p (.extract 0), [.t 5], none⟩,
 .one ⟨some 9, .p (.extract 1), [.t 5], none⟩,
 .one ⟨some 10, .p (.extract 2), [.t 5], none⟩,
 .one ⟨some 11, .p (.extract 3), [.t 5], none⟩,
 .one ⟨some 1, .p .move, [.t 8], none⟩,
 .one ⟨some 2, .p .move, [.t 9], none⟩,
 .one ⟨some 3, .p .move, [.t 10], none⟩,
 .one ⟨some 4, .p .move, [.t 11], none⟩])
 (.seq (.region [.one ⟨some 12, .p .move, [.t 4], none⟩,
 .one ⟨some 13, .p (.bin .eql), [.t 12, .c (.int .i64 0)], none⟩,
 .one ⟨some 14, .p .move, [.t 13], none⟩,
 .grp 14 true [⟨some 15, .p .move, [.t 3], none⟩, ⟨some 16, .p (.bin .eql), [.t 15, .c (.int .i64 0)], none⟩],
 .one ⟨some 17, .p .pick, [.t 14, .t 16, .c (.bool false)], none⟩,
 .one ⟨some 18, .p .move, [.t 17], none⟩,
 .grp 18 true [⟨some 19, .p .move, [.t 1], none⟩, ⟨some 20, .p (.bin .eql), [.t 19, .c (.string ⟨#[97, 10, 98, 10, 120, 10]⟩)], none⟩],
 .one ⟨some 21, .p .pick, [.t 18, .t 20, .c (.bool false)], none⟩,
 .one ⟨some 0, .p .move, [.t 21], none⟩])
 .ret)),
 [(0, 0)]⟩

theorem g5_ok : compFn Tryz.prog 5 = some (fromGFn g5) := by kernel_rfl

def g6 : GFn := ⟨55,
 .seq (.region [.one ⟨some 1, .w (.box 1), [.t 0], none⟩,
 .one ⟨some 2, .p .move, [.c (.slice none 0 0)], none⟩,
 .one ⟨some 3, .p .move, [.c (.int .i64 0)], none⟩])
 (.seq (.region [.one ⟨some 4, .w (.new [.slice none 0 0]), [], none⟩])
 (.seq (.region [.one ⟨some 5, .w (.new [.int .i64 0]), [], none⟩,
 .one ⟨none, .w (.store 1), [.t 5, .c (.int .i64 0)], none⟩,
 .one ⟨some 6, .p .move, [.c (.bool true)], none⟩])
 (.seq (.region [.one ⟨some 11, .p (.mkFunc (.func 14) 0), [.t 1, .t 5, .t 4], none⟩,
 .one ⟨some 7, .p .move, [.t 11], none⟩])
 (.seq (.seq (.region [.one ⟨some 8, .p .move, [.c (.int .i64 0)], none⟩])
 (.block 0 (.loop (.seq (.seq (.region [.one ⟨some 12, .p .move, [.t 8], none⟩,
 .one ⟨some 13, .r .load1, [.t 1], none⟩,
 .one ⟨some 14, .p .lenStr, [.t 13], none⟩,
 .one ⟨some 15, .p (.bin .lss), [.t 12, .t 14], none⟩])
 (.cond (.t 15)
 .skip
 (.exit 0)))
 (.seq (.block 1 (.seq (.region [.one ⟨some 18, .r .load1, [.t 1], none⟩,
 .one ⟨some 19, .p .move, [.t 8], none⟩,
 .one ⟨some 20, .p .indexStr, [.t 18, .t 19], none⟩,
 .one ⟨some 9, .p .move, [.t 20], none⟩])
 (.seq (.block 2 (.seq (.region [.one ⟨some 22, .p .move, [.t 9], none⟩,
 .one ⟨some 23, .p (.bin .eql), [.t 22, .c (.int .u8 34)], none⟩,
 .one ⟨some 24, .p .move, [.t 23], none⟩,
 .grp 24 true [⟨some 25, .p .move, [.t 6], none⟩],
 .one ⟨some 26, .p .pick, [.t 24, .t 25, .c (.bool false)], none⟩,
 .one ⟨some 21, .p .move, [.t 26], none⟩])
 (.cond (.t 21)
 (.seq (.region [.one ⟨some 27, .r .load1, [.t 1], none⟩,
 .one ⟨some 28, .p .move, [.t 8], none⟩,
 .one ⟨some 29, .call 16, [.t 27, .t 28], none⟩,
 .one ⟨some 10, .p .move, [.t 29], none⟩])
 (.seq (.seq (.region [.one ⟨some 30, .p .move, [.t 10], none⟩,
 .one ⟨some 31, .p (.bin .lss), [.t 30, .c (.int .i64 0)], none⟩])
 (.cond (.t 31)
 (.seq (.region [.one ⟨some 2, .p .move, [.c (.slice none 0 0)], none⟩,
 .one ⟨some 3, .p .move, [.c (.int .i64 250)], none⟩])
 .ret)
 .skip))
 (.region [.one ⟨some 32, .p .move, [.t 10], none⟩,
 .one ⟨some 33, .p (.bin .sub), [.t 32, .c (.int .i64 1)], none⟩,
 .one ⟨some 8, .p .move, [.t 33], none⟩])))
 (.seq (.region [.one ⟨some 35, .p .move, [.t 9], none⟩,
 .one ⟨some 36, .p (.bin .eql), [.t 35, .c (.int .u8 59)], none⟩,
 .one ⟨some 34, .p .move, [.t 36], none⟩])
 (.cond (.t 34)
 (.region [.one ⟨some 37, .p .move, [.t 7], none⟩,
 .one ⟨some 38, .p .move, [.t 8], none⟩,
 .one ⟨some 39, .callV, [.t 37, .t 38], none⟩])
 .skip)))))
 (.region [.one ⟨some 40, .p .move, [.t 9], none⟩,
 .one ⟨some 41, .p (.bin .eql), [.t 40, .c (.int .u8 32)], none⟩,
 .one ⟨some 42, .p .move, [.t 41], none⟩,
 .grp 42 false [⟨some 43, .p .move, [.t 9], none⟩, ⟨some 44, .p (.bin .eql), [.t 43, .c (.int .u8 61)], none⟩],
 .one ⟨some 45, .p .pick, [.t 42, .c (.bool true), .t 44], none⟩,
 .one ⟨some 46, .p .move, [.t 45], none⟩,
 .grp 46 false [⟨some 47, .p .move, [.t 9], none⟩, ⟨some 48, .p (.bin .eql), [.t 47, .c (.int .u8 59)], none⟩],
 .one ⟨some 49, .p .pick, [.t 46, .c (.bool true), .t 48], none⟩,
 .one ⟨some 6, .p .move, [.t 49], none⟩]))))
 (.region [.one ⟨some 16, .p .move, [.t 8], none⟩,
 .one ⟨some 17, .p (.bin .add), [.t 16, .c (.int .i64 1)], none⟩,
 .one ⟨some 8, .p .move, [.t 17], none⟩]))))))
 (.seq (.region [.one ⟨some 50, .p .move, [.t 7], none⟩,
 .one ⟨some 51, .r .load1, [.t 1], none⟩,
 .one ⟨some 52, .p .lenStr, [.t 51], none⟩,
 .one ⟨some 53, .callV, [.t 50, .t 52], none⟩])
 (.seq (.region [.one ⟨some 54, .r .load1, [.t 4], none⟩,
 .one ⟨some 2, .p .move, [.t 54], none⟩,
 .one ⟨some 3, .p .move, [.c (.int .i64 0)], none⟩])
 .ret)))))),
 [(2, 0), (3, 0)]⟩

theorem g6_ok : compFn Tryz.prog 6 = some (fromGFn g6) := by kernel_rfl

def g8 : GFn := ⟨102,
 .seq (.region [.one ⟨some 2, .p .move, [.c (.string ByteArray.empty)], none⟩,
 .one ⟨some 3, .p .move, [.c (.string ByteArray.empty)], none⟩,
 .one ⟨some 4, .p .move, [.c (.string ByteArray.empty)], none⟩,
 .one ⟨some 5, .p .move, [.c (.bool false)], none⟩,
 .one ⟨some 6, .p .move, [.c (.int .i64 0)], none⟩])
 (.seq (.region [.one ⟨some 18, .p .move, [.t 0], none⟩,
 .one ⟨some 19, .call 19, [.t 18], none⟩,
 .one ⟨some 17, .p .move, [.t 19], none⟩,
 .one ⟨some 20, .p (.extract 0), [.t 17], none⟩,
 .one ⟨some 21, .p (.extract 1), [.t 17], none⟩,
 .one ⟨some 22, .p (.extract 2), [.t 17], none⟩,
 .one ⟨some 7, .w (.new [.slice none 0 0]), [], none⟩,
 .one ⟨some 8, .w (.new [.slice none 0 0]), [], none⟩,
 .one ⟨none, .w (.store 1), [.t 7, .t 20], none⟩,
 .one ⟨none, .w (.store 1), [.t 8, .t 21], none⟩,
 .one ⟨some 9, .p .move, [.t 22], none⟩])
 (.seq (.seq (.region [.one ⟨some 23, .p .move, [.t 9], none⟩,
 .one ⟨some 24, .p (.bin .neq), [.t 23, .c (.int .i64 0)], none⟩])
 (.cond (.t 24)
 (.seq (.region [.one ⟨some 25, .p .move, [.t 9], none⟩,
 .one ⟨some 2, .p .move, [.c (.string ByteArray.empty)], none⟩,
 .one ⟨some 3, .p .move, [.c (.string ByteArray.empty)], none⟩,
 .one ⟨some 4, .p .move, [.c (.string ByteArray.empty)], none⟩,
 .one ⟨some 5, .p .move, [.c (.bool false)], none⟩,
 .one ⟨some 6, .p .move, [.t 25], none⟩])
 .ret)
 .skip))
 (.seq (.region [.one ⟨some 26, .p (.mkFunc (.func 20) 0), [.t 8, .t 7], none⟩,
 .one ⟨some 10, .p .move, [.t 26], none⟩])
 (.seq (.region [.one ⟨some 27, .p .move, [.t 0], none⟩,
 .one ⟨some 28, .call 21, [.t 27], none⟩,
 .one ⟨some 11, .p .move, [.t 28], none⟩])
 (.seq (.region [.one ⟨some 29, .r .load1, [.t 7], none⟩,
 .one ⟨some 30, .p .lenSl, [.t 29], none⟩,
 .one ⟨some 12, .p .move, [.t 30], none⟩])
 (.seq (.region [.one ⟨some 13, .p .move, [.c (.bool false)], none⟩,
 .one ⟨some 14, .p .move, [.c (.bool false)], none⟩])
 (.seq (.block 0 (.loop (.seq (.seq (.region [.one ⟨some 31, .p .move, [.t 12], none⟩,
 .one ⟨some 32, .p (.bin .geq), [.t 31, .c (.int .i64 2)], none⟩,
 .one ⟨some 33, .p .move, [.t 32], none⟩,
 .grp 33 true [⟨some 34, .p .move, [.t 10], none⟩, ⟨some 35, .p .move, [.t 12], none⟩, ⟨some 36, .p (.bin .sub), [.t 35, .c (.int .i64 2)], none⟩, ⟨some 37, .callV, [.t 34, .t 36], none⟩],
 .one ⟨some 38, .p .pick, [.t 33, .t 37, .c (.bool false)], none⟩,
 .one ⟨some 39, .p .move, [.t 38], none⟩,
 .grp 39 true [⟨some 40, .p .move, [.t 10], none⟩, ⟨some 41, .p .move, [.t 12], none⟩, ⟨some 42, .p (.bin .sub), [.t 41, .c (.int .i64 1)], none⟩, ⟨some 43, .callV, [.t 40, .t 42], none⟩, ⟨some 44, .p (.un .not), [.t 43], none⟩],
 .one ⟨some 45, .p .pick, [.t 39, .t 44, .c (.bool false)], none⟩])
 (.cond (.t 45)
 .skip
 (.exit 0)))
 (.block 1 (.seq (.region [.one ⟨some 46, .r .load1, [.t 7], none⟩,
 .one ⟨some 47, .p .move, [.t 12], none⟩,
 .one ⟨some 48, .p (.bin .sub), [.t 47, .c (.int .i64 2)], none⟩,
 .one ⟨some 49, .p (.indexAddr 1), [.t 46, .t 48], none⟩,
 .one ⟨some 50, .r .load1, [.t 49], none⟩,
 .one ⟨some 15, .p .move, [.t 50], none⟩])
 (.seq (.seq (.region [.one ⟨some 51, .p .move, [.t 15], none⟩,
 .one ⟨some 52, .p (.bin .eql), [.t 51, .c (.string ⟨#[60]⟩)], none⟩,
 .one ⟨some 53, .p .move, [.t 52], none⟩,
 .grp 53 true [⟨some 54, .p .move, [.t 13], none⟩],
 .one ⟨some 55, .p .pick, [.t 53, .t 54, .c (.bool false)], none⟩,
 .one ⟨some 56, .p .move, [.t 55], none⟩,
 .grp 56 false [⟨some 57, .p .move, [.t 15], none⟩, ⟨some 58, .p (.bin .neq), [.t 57, .c (.string ⟨#[60]⟩)], none⟩, ⟨some 59, .p .move, [.t 58], none⟩],
 .grp 59 true [⟨some 60, .p .move, [.t 14], none⟩],
 .grp 56 false [⟨some 61, .p .pick, [.t 59, .t 60, .c (.bool false)], none⟩],
 .one ⟨some 62, .p .pick, [.t 56, .c (.bool true), .t 61], none⟩])
 (.cond (.t 62)
 (.seq (.region [.one ⟨some 2, .p .move, [.c (.string ByteArray.empty)], none⟩,
 .one ⟨some 3, .p .move, [.c (.string ByteArray.empty)], none⟩,
 .one ⟨some 4, .p .move, [.c (.string ByteArray.empty)], none⟩,
 .one ⟨some 5, .p .move, [.c (.bool false)], none⟩,
 .one ⟨some 6, .p .move, [.c (.int .i64 250)], none⟩])
 .ret)
 .skip))
 (.seq (.seq (.region [.one ⟨some 63, .p .move, [.t 15], none⟩,
 .one ⟨some 64, .p (.bin .eql), [.t 63, .c (.string ⟨#[60]⟩)], none⟩])
 (.cond (.t 64)
 (.region [.one ⟨some 65, .r .load1, [.t 7], none⟩,
 .one ⟨some 66, .p .move, [.t 12], none⟩,
 .one ⟨some 67, .p (.bin .sub), [.t 66, .c (.int .i64 1)], none⟩,
 .one ⟨some 68, .p (.indexAddr 1), [.t 65, .t 67], none⟩,
 .one ⟨some 69, .r .load1, [.t 68], none⟩,
 .one ⟨some 13, .p .move, [.c (.bool true)], none⟩,
 .one ⟨some 3, .p .move, [.t 69], none⟩])
 (.region [.one ⟨some 70, .r .load1, [.t 7], none⟩,
 .one ⟨some 71, .p .move, [.t 12], none⟩,
 .one ⟨some 72, .p (.bin .sub), [.t 71, .c (.int .i64 1)], none⟩,
 .one ⟨some 73, .p (.indexAddr 1), [.t 70, .t 72], none⟩,
 .one ⟨some 74, .r .load1, [.t 73], none⟩,
 .one ⟨some 75, .p .move, [.t 15], none⟩,
 .one ⟨some 76, .p (.bin .eql), [.t 75, .c (.string ⟨#[62, 62]⟩)], none⟩,
 .one ⟨some 14, .p .move, [.c (.bool true)], none⟩,
 .one ⟨some 4, .p .move, [.t 74], none⟩,
 .one ⟨some 5, .p .move, [.t 76], none⟩])))
 (.region [.one ⟨some 77, .p .move, [.t 12], none⟩,
 .one ⟨some 78, .p (.bin .sub), [.t 77, .c (.int .i64 2)], none⟩,
 .one ⟨some 12, .p .move, [.t 78], none⟩]))))))))
 (.seq (.seq (.region [.one ⟨some 79, .p .move, [.t 12], none⟩,
 .one ⟨some 80, .p .move, [.c (.int .i64 0)], none⟩])
 (.block 2 (.loop (.seq (.region [.one ⟨some 81, .p (.bin .lss), [.t 80, .t 79], none⟩])
 (.seq (.cond (.t 81)
 .skip
 (.exit 2))
 (.seq (.block 3 (.seq (.region [.one ⟨some 82, .p .move, [.t 80], none⟩,
 .one ⟨some 16, .p .move, [.t 82], none⟩])
 (.seq (.region [.one ⟨some 83, .p .move, [.t 10], none⟩,
 .one ⟨some 84, .p .move, [.t 16], none⟩,
 .one ⟨some 85, .callV, [.t 83, .t 84], none⟩])
 (.cond (.t 85)
 (.seq (.region [.one ⟨some 2, .p .move, [.c (.string ByteArray.empty)], none⟩,
 .one ⟨some 3, .p .move, [.c (.string ByteArray.empty)], none⟩,
 .one ⟨some 4, .p .move, [.c (.string ByteArray.empty)], none⟩,
 .one ⟨some 5, .p .move, [.c (.bool false)], none⟩,
 .one ⟨some 6, .p .move, [.c (.int .i64 250)], none⟩])
 .ret)
 .skip))))
 (.region [.one ⟨some 86, .p (.bin .add), [.t 80, .c (.int .i64 1)], none⟩,
 .one ⟨some 80, .p .move, [.t 86], none⟩])))))))
 (.seq (.seq (.region [.one ⟨some 87, .p .move, [.t 12], none⟩,
 .one ⟨some 88, .r .load1, [.t 7], none⟩,
 .one ⟨some 89, .p .lenSl, [.t 88], none⟩,
 .one ⟨some 90, .p (.bin .lss), [.t 87, .t 89], none⟩])
 (.cond (.t 90)
 (.region [.one ⟨some 91, .p .move, [.t 0], none⟩,
 .one ⟨some 92, .p .move, [.t 11], none⟩,
 .one ⟨some 93, .p .move, [.t 12], none⟩,
 .one ⟨some 94, .p (.indexAddr 1), [.t 92, .t 93], none⟩,
 .one ⟨some 95, .r .load1, [.t 94], none⟩,
 .one ⟨some 96, .p (.slStr false true), [.t 91, .t 95], none⟩,
 .one ⟨some 0, .p .move, [.t 96], none⟩])
 .skip))
 (.seq (.region [.one ⟨some 97, .p .move, [.t 0], none⟩,
 .one ⟨some 98, .call 15, [.t 97, .c (.string ⟨#[32]⟩)], none⟩,
 .one ⟨some 99, .p .move, [.t 3], none⟩,
 .one ⟨some 100, .p .move, [.t 4], none⟩,
 .one ⟨some 101, .p .move, [.t 5], none⟩,
 .one ⟨some 2, .p .move, [.t 98], none⟩,
 .one ⟨some 3, .p .move, [.t 99], none⟩,
 .one ⟨some 4, .p .move, [.t 100], none⟩,
 .one ⟨some 5, .p .move, [.t 101], none⟩,
 .one ⟨some 6, .p .move, [.c (.int .i64 0)], none⟩])
 .ret)))))))))),
 [(2, 0), (3, 0), (4, 0), (5, 0), (6, 0)]⟩

theorem g8_ok : compFn Tryz.prog 8 = some (fromGFn g8) := by kernel_rfl

def g12 : GFn := ⟨112,
 .seq (.region [.one ⟨some 4, .p .move, [.c (.string ByteArray.empty)], none⟩])
 (.seq (.region [.one ⟨some 5, .p .move, [.c (.string ByteArray.empty)], none⟩])
 (.seq (.seq (.region [.one ⟨some 6, .p .move, [.c (.int .i64 0)], none⟩])
 (.block 0 (.loop (.seq (.seq (.region [.one ⟨some 11, .p .move, [.t 6], none⟩,
 .one ⟨some 12, .p .move, [.t 0], none⟩,
 .one ⟨some 13, .p .lenStr, [.t 12], none⟩,
 .one ⟨some 14, .p (.bin .lss), [.t 11, .t 13], none⟩])
 (.cond (.t 14)
 .skip
 (.exit 0)))
 (.block 1 (.seq (.region [.one ⟨some 15, .p .move, [.t 6], none⟩,
 .one ⟨some 16, .p (.bin .add), [.t 15, .c (.int .i64 1)], none⟩,
 .one ⟨some 7, .p .move, [.t 16], none⟩])
 (.seq (.block 2 (.loop (.seq (.seq (.region [.one ⟨some 17, .p .move, [.t 7], none⟩,
 .one ⟨some 18, .p .move, [.t 0], none⟩,
 .one ⟨some 19, .p .lenStr, [.t 18], none⟩,
 .one ⟨some 20, .p (.bin .lss), [.t 17, .t 19], none⟩,
 .one ⟨some 21, .p .move, [.t 20], none⟩,
 .grp 21 true [⟨some 22, .p .move, [.t 0], none⟩, ⟨some 23, .p .move, [.t 7], none⟩, ⟨some 24, .p .indexStr, [.t 22, .t 23], none⟩, ⟨some 25, .call 29, [.t 24], none⟩],
 .one ⟨some 26, .p .pick, [.t 21, .t 25, .c (.bool false)], none⟩])
 (.cond (.t 26)
 .skip
 (.exit 2)))
 (.block 3 (.region [.one ⟨some 27, .p .move, [.t 7], none⟩,
 .one ⟨some 28, .p (.bin .add), [.t 27, .c (.int .i64 1)], none⟩,
 .one ⟨some 7, .p .move, [.t 28], none⟩])))))
 (.seq (.region [.one ⟨some 8, .p .move, [.c (.int .i64 (-1))], none⟩])
 (.seq (.seq (.region [.one ⟨some 29, .p .move, [.t 0], none⟩,
 .one ⟨some 30, .p .move, [.t 6], none⟩,
 .one ⟨some 31, .p .indexStr, [.t 29, .t 30], none⟩,
 .one ⟨some 32, .p (.bin .eql), [.t 31, .c (.int .u8 60)], none⟩,
 .one ⟨some 33, .p .move, [.t 32], none⟩,
 .grp 33 true [⟨some 34, .p .move, [.t 7], none⟩, ⟨some 35, .p .move, [.t 0], none⟩, ⟨some 36, .p .lenStr, [.t 35], none⟩, ⟨some 37, .p (.bin .lss), [.t 34, .t 36], none⟩],
 .one ⟨some 38, .p .pick, [.t 33, .t 37, .c (.bool false)], none⟩,
 .one ⟨some 39, .p .move, [.t 38], none⟩,
 .grp 39 true [⟨some 40, .p .move, [.t 0], none⟩, ⟨some 41, .p .move, [.t 7], none⟩, ⟨some 42, .p .indexStr, [.t 40, .t 41], none⟩, ⟨some 43, .p (.bin .eql), [.t 42, .c (.int .u8 62)], none⟩, ⟨some 44, .p .move, [.t 43], none⟩],
 .grp 44 false [⟨some 45, .p .move, [.t 0], none⟩, ⟨some 46, .p .move, [.t 7], none⟩, ⟨some 47, .p .indexStr, [.t 45, .t 46], none⟩, ⟨some 48, .p (.bin .eql), [.t 47, .c (.int .u8 36)], none⟩],
 .grp 39 true [⟨some 49, .p .pick, [.t 44, .c (.bool true), .t 48], none⟩],
 .one ⟨some 50, .p .pick, [.t 39, .t 49, .c (.bool false)], none⟩])
 (.cond (.t 50)
 (.region [.one ⟨some 51, .p .move, [.t 1], none⟩,
 .one ⟨some 52, .p .move, [.t 0], none⟩,
 .one ⟨some 53, .p .move, [.t 6], none⟩,
 .one ⟨some 54, .p (.bin .add), [.t 53, .c (.int .i64 1)], none⟩,
 .one ⟨some 55, .p .move, [.t 7], none⟩,
 .one ⟨some 56, .p (.slStr true true), [.t 52, .t 54, .t 55], none⟩,
 .one ⟨some 57, .call 30, [.t 51, .t 56], none⟩,
 .one ⟨some 8, .p .move, [.t 57], none⟩])
 .skip))
 (.seq (.region [.one ⟨some 58, .p .move, [.t 7], none⟩,
 .one ⟨some 9, .p .move, [.t 58], none⟩])
 (.seq (.block 4 (.loop (.seq (.seq (.region [.one ⟨some 59, .p .move, [.t 8], none⟩,
 .one ⟨some 60, .p (.bin .geq), [.t 59, .c (.int .i64 0)], none⟩,
 .one ⟨some 61, .p .move, [.t 60], none⟩,
 .grp 61 true [⟨some 62, .p .move, [.t 9], none⟩, ⟨some 63, .p .move, [.t 0], none⟩, ⟨some 64, .p .lenStr, [.t 63], none⟩, ⟨some 65, .p (.bin .lss), [.t 62, .t 64], none⟩],
 .one ⟨some 66, .p .pick, [.t 61, .t 65, .c (.bool false)], none⟩,
 .one ⟨some 67, .p .move, [.t 66], none⟩,
 .grp 67 true [⟨some 68, .p .move, [.t 0], none⟩, ⟨some 69, .p .move, [.t 9], none⟩, ⟨some 70, .p .indexStr, [.t 68, .t 69], none⟩, ⟨some 71, .p (.bin .neq), [.t 70, .c (.int .u8 62)], none⟩],
 .one ⟨some 72, .p .pick, [.t 67, .t 71, .c (.bool false)], none⟩])
 (.cond (.t 72)
 .skip
 (.exit 4)))
 (.block 5 (.region [.one ⟨some 73, .p .move, [.t 9], none⟩,
 .one ⟨some 74, .p (.bin .add), [.t 73, .c (.int .i64 1)], none⟩,
 .one ⟨some 9, .p .move, [.t 74], none⟩])))))
 (.seq (.seq (.region [.one ⟨some 75, .p .move, [.t 8], none⟩,
 .one ⟨some 76, .p (.bin .lss), [.t 75, .c (.int .i64 0)], none⟩,
 .one ⟨some 77, .p .move, [.t 76], none⟩,
 .grp 77 false [⟨some 78, .p .move, [.t 9], none⟩, ⟨some 79, .p .move, [.t 0], none⟩, ⟨some 80, .p .lenStr, [.t 79], none⟩, ⟨some 81, .p (.bin .geq), [.t 78, .t 80], none⟩],
 .one ⟨some 82, .p .pick, [.t 77, .c (.bool true), .t 81], none⟩])
 (.cond (.t 82)
 (.seq (.region [.one ⟨some 83, .p .move, [.t 5], none⟩,
 .one ⟨some 84, .p .move, [.t 0], none⟩,
 .one ⟨some 85, .p .move, [.t 6], none⟩,
 .one ⟨some 86, .p .move, [.t 6], none⟩,
 .one ⟨some 87, .p (.bin .add), [.t 86, .c (.int .i64 1)], none⟩,
 .one ⟨some 88, .p (.slStr true true), [.t 84, .t 85, .t 87], none⟩,
 .one ⟨some 89, .p (.bin .add), [.t 83, .t 88], none⟩,
 .one ⟨some 5, .p .move, [.t 89], none⟩])
 (.seq (.region [.one ⟨some 90, .p .move, [.t 6], none⟩,
 .one ⟨some 91, .p (.bin .add), [.t 90, .c (.int .i64 1)], none⟩,
 .one ⟨some 6, .p .move, [.t 91], none⟩])
 (.exit 1)))
 .skip))
 (.seq (.region [.one ⟨some 10, .p .move, [.c (.string ByteArray.empty)], none⟩])
 (.seq (.seq (.region [.one ⟨some 92, .p .move, [.t 0], none⟩,
 .one ⟨some 93, .p .move, [.t 7], none⟩,
 .one ⟨some 94, .p .indexStr, [.t 92, .t 93], none⟩,
 .one ⟨some 95, .p (.bin .eql), [.t 94, .c (.int .u8 36)], none⟩])
 (.cond (.t 95)
 (.region [.one ⟨some 96, .p .move, [.t 0], none⟩,
 .one ⟨some 97, .p .move, [.t 7], none⟩,
 .one ⟨some 98, .p (.bin .add), [.t 97, .c (.int .i64 1)], none⟩,
 .one ⟨some 99, .p .move, [.t 9], none⟩,
 .one ⟨some 100, .p (.slStr true true), [.t 96, .t 98, .t 99], none⟩,
 .one ⟨some 10, .p .move, [.t 100], none⟩])
 .skip))
 (.seq (.region [.one ⟨some 101, .p .move, [.t 5], none⟩,
 .one ⟨some 102, .p .move, [.t 1], none⟩,
 .one ⟨some 103, .p .move, [.t 8], none⟩,
 .one ⟨some 104, .p (.indexAddr 3), [.t 102, .t 103], none⟩,
 .one ⟨some 105, .r (.loadN 3), [.t 104], none⟩,
 .one ⟨some 106, .p .move, [.t 10], none⟩,
 .one ⟨some 107, .call 31, [.t 105, .t 106], none⟩,
 .one ⟨some 108, .p (.bin .add), [.t 101, .t 107], none⟩,
 .one ⟨some 5, .p .move, [.t 108], none⟩])
 (.region [.one ⟨some 109, .p .move, [.t 9], none⟩,
 .one ⟨some 110, .p (.bin .add), [.t 109, .c (.int .i64 1)], none⟩,
 .one ⟨some 6, .p .move, [.t 110], none⟩]))))))))))))))))
 (.seq (.region [.one ⟨some 111, .p .move, [.t 5], none⟩,
 .one ⟨some 4, .p .move, [.t 111], none⟩])
 .ret))),
 [(4, 0)]⟩

theorem g12_ok : compFn Tryz.prog 12 = some (fromGFn g12) := by kernel_rfl

def g13 : GFn := ⟨76,
 .seq (.region [.one ⟨some 6, .p .move, [.c (.string ByteArray.empty)], none⟩,
 .one ⟨some 7, .p .move, [.c (.slice none 0 0)], none⟩,
 .one ⟨some 8, .p .move, [.c (.int .i64 0)], none⟩,
 .one ⟨some 9, .p .move, [.c (.int .i64 0)], none⟩])
 (.seq (.region [.one ⟨some 20, .call 32, [], none⟩,
 .one ⟨some 10, .p .move, [.t 20], none⟩])
 (.seq (.region [.one ⟨some 21, .p .move, [.t 10], none⟩,
 .one ⟨some 22, .p .move, [.t 2], none⟩,
 .one ⟨some 23, .call 33, [.t 21, .t 22], none⟩,
 .one ⟨some 11, .p .move, [.t 23], none⟩])
 (.seq (.seq (.region [.one ⟨some 24, .p .move, [.t 0], none⟩,
 .one ⟨some 25, .p .lenSl, [.t 24], none⟩,
 .one ⟨some 26, .p .move, [.c (.int .i64 0)], none⟩])
 (.block 0 (.loop (.seq (.region [.one ⟨some 27, .p (.bin .lss), [.t 26, .t 25], none⟩])
 (.seq (.cond (.t 27)
 .skip
 (.exit 0))
 (.seq (.block 1 (.seq (.region [.one ⟨some 28, .p (.indexAddr 2), [.t 24, .t 26], none⟩,
 .one ⟨some 29, .r (.loadN 2), [.t 28], none⟩,
 .one ⟨some 13, .w (.new [.string ByteArray.empty, .slice none 0 0]), [], none⟩,
 .one ⟨none, .w (.store 2), [.t 13, .t 29], none⟩])
 (.seq (.region [.one ⟨some 31, .p .move, [.t 10], none⟩,
 .one ⟨some 32, .p (.fieldAddr 0), [.t 13], none⟩,
 .one ⟨some 33, .r .load1, [.t 32], none⟩,
 .one ⟨some 34, .call 34, [.t 31, .t 33, .c (.int .i64 1)], none⟩,
 .one ⟨some 30, .p .move, [.t 34], none⟩,
 .one ⟨some 35, .p (.extract 0), [.t 30], none⟩,
 .one ⟨some 36, .p (.extract 1), [.t 30], none⟩,
 .one ⟨some 14, .p .move, [.t 35], none⟩,
 .one ⟨some 15, .p .move, [.t 36], none⟩])
 (.seq (.seq (.region [.one ⟨some 37, .p .move, [.t 15], none⟩,
 .one ⟨some 38, .p (.bin .eql), [.t 37, .c (.int .i64 0)], none⟩])
 (.cond (.t 38)
 (.seq (.region [.one ⟨some 40, .p .move, [.t 10], none⟩,
 .one ⟨some 41, .p .move, [.t 14], none⟩,
 .one ⟨some 42, .p (.fieldAddr 1), [.t 13], none⟩,
 .one ⟨some 43, .r .load1, [.t 42], none⟩,
 .one ⟨some 44, .call 35, [.t 40, .t 41, .t 43], none⟩,
 .one ⟨some 39, .p .move, [.t 44], none⟩,
 .one ⟨some 45, .p (.extract 0), [.t 39], none⟩,
 .one ⟨some 46, .p (.extract 1), [.t 39], none⟩,
 .one ⟨some 15, .p .move, [.t 46], none⟩])
 (.region [.one ⟨some 47, .p .move, [.t 10], none⟩,
 .one ⟨some 48, .p .move, [.t 14], none⟩,
 .one ⟨some 49, .call 36, [.t 47, .t 48], none⟩]))
 .skip))
 (.seq (.region [.one ⟨some 50, .p .move, [.t 15], none⟩,
 .one ⟨some 51, .p (.bin .neq), [.t 50, .c (.int .i64 0)], none⟩])
 (.cond (.t 51)
 (.seq (.region [.one ⟨some 52, .p .move, [.t 15], none⟩,
 .one ⟨some 6, .p .move, [.c (.string ByteArray.empty)], none⟩,
 .one ⟨some 7, .p .move, [.c (.slice none 0 0)], none⟩,
 .one ⟨some 8, .p .move, [.c (.int .i64 0)], none⟩,
 .one ⟨some 9, .p .move, [.t 52], none⟩])
 .ret)
 .skip))))))
 (.region [.one ⟨some 53, .p (.bin .add), [.t 26, .c (.int .i64 1)], none⟩,
 .one ⟨some 26, .p .move, [.t 53], none⟩])))))))
 (.seq (.seq (.region [.one ⟨some 54, .p .move, [.t 1], none⟩,
 .one ⟨some 55, .p .lenSl, [.t 54], none⟩,
 .one ⟨some 56, .p .move, [.c (.int .i64 0)], none⟩])
 (.block 2 (.loop (.seq (.region [.one ⟨some 57, .p (.bin .lss), [.t 56, .t 55], none⟩])
 (.seq (.cond (.t 57)
 .skip
 (.exit 2))
 (.seq (.block 3 (.seq (.region [.one ⟨some 58, .p (.indexAddr 1), [.t 54, .t 56], none⟩,
 .one ⟨some 59, .r .load1, [.t 58], none⟩,
 .one ⟨some 17, .p .move, [.t 59], none⟩])
 (.seq (.region [.one ⟨some 61, .p .move, [.t 11], none⟩,
 .one ⟨some 62, .p .move, [.t 17], none⟩,
 .one ⟨some 63, .call 37, [.t 61, .t 62], none⟩,
 .one ⟨some 60, .p .move, [.t 63], none⟩,
 .one ⟨some 64, .p (.extract 0), [.t 60], none⟩,
 .one ⟨some 65, .p (.extract 1), [.t 60], none⟩,
 .one ⟨some 18, .p .move, [.t 64], none⟩,
 .one ⟨some 19, .p .move, [.t 65], none⟩])
 (.seq (.region [.one ⟨some 66, .p .move, [.t 19], none⟩,
 .one ⟨some 67, .p (.bin .neq), [.t 66, .c (.int .i64 0)], none⟩])
 (.cond (.t 67)
 (.seq (.region [.one ⟨some 68, .p .move, [.t 19], none⟩,
 .one ⟨some 6, .p .move, [.c (.string ByteArray.empty)], none⟩,
 .one ⟨some 7, .p .move, [.c (.slice none 0 0)], none⟩,
 .one ⟨some 8, .p .move, [.c (.int .i64 0)], none⟩,
 .one ⟨some 9, .p .move, [.t 68], none⟩])
 .ret)
 .skip)))))
 (.region [.one ⟨some 69, .p (.bin .add), [.t 56, .c (.int .i64 1)], none⟩,
 .one ⟨some 56, .p .move, [.t 69], none⟩])))))))
 (.seq (.region [.one ⟨some 70, .p .move, [.t 11], none⟩,
 .one ⟨some 71, .call 38, [.t 70], none⟩,
 .one ⟨some 72, .p .move, [.t 10], none⟩,
 .one ⟨some 73, .call 39, [.t 72], none⟩,
 .one ⟨some 74, .p .move, [.t 11], none⟩,
 .one ⟨some 75, .call 40, [.t 74], none⟩,
 .one ⟨some 6, .p .move, [.t 71], none⟩,
 .one ⟨some 7, .p .move, [.t 73], none⟩,
 .one ⟨some 8, .p .move, [.t 75], none⟩,
 .one ⟨some 9, .p .move, [.c (.int .i64 0)], none⟩])
 .ret))))),
 [(6, 0), (7, 0), (8, 0), (9, 0)]⟩

theorem g13_ok : compFn Tryz.prog 13 = some (fromGFn g13) := by kernel_rfl

def g14 : GFn := ⟨19,
 .seq (.seq (.region [.one ⟨some 6, .r .load1, [.t 1], none⟩,
 .one ⟨some 7, .r .load1, [.t 2], none⟩,
 .one ⟨some 8, .p .move, [.t 0], none⟩,
 .one ⟨some 9, .p (.slStr true true), [.t 6, .t 7, .t 8], none⟩,
 .one ⟨some 10, .call 15, [.t 9, .c (.string ⟨#[32]⟩)], none⟩,
 .one ⟨some 5, .p .move, [.t 10], none⟩])
 (.seq (.region [.one ⟨some 11, .p .move, [.t 5], none⟩,
 .one ⟨some 12, .p (.bin .neq), [.t 11, .c (.string ByteArray.empty)], none⟩])
 (.cond (.t 12)
 (.region [.one ⟨some 13, .r .load1, [.t 3], none⟩,
 .one ⟨some 14, .p .move, [.t 5], none⟩,
 .one ⟨some 15, .w (.sliceLit [.string ByteArray.empty] 1 [(0, 1)]), [.t 14], none⟩,
 .one ⟨some 16, .w (.append 1 16), [.t 13, .t 15], none⟩,
 .one ⟨none, .w (.store 1), [.t 3, .t 16], none⟩])
 .skip)))
 (.region [.one ⟨some 17, .p .move, [.t 0], none⟩,
 .one ⟨some 18, .p (.bin .add), [.t 17, .c (.int .i64 1)], none⟩,
 .one ⟨none, .w (.store 1), [.t 2, .t 18], none⟩]),
 []⟩

theorem g14_ok : compFn Tryz.prog 14 = some (fromGFn g14) := by kernel_rfl

def g15 : GFn := ⟨43,
 .seq (.region [.one ⟨some 4, .p .move, [.c (.string ByteArray.empty)], none⟩])
 (.seq (.seq (.region [.one ⟨some 7, .p .move, [.t 0], none⟩,
 .one ⟨some 8, .p (.bin .eql), [.t 7, .c (.string ByteArray.empty)], none⟩,
 .one ⟨some 9, .p .move, [.t 8], none⟩,
 .grp 9 false [⟨some 10, .p .move, [.t 1], none⟩, ⟨some 11, .p (.bin .eql), [.t 10, .c (.string ByteArray.empty)], none⟩],
 .one ⟨some 12, .p .pick, [.t 9, .c (.bool true), .t 11], none⟩])
 (.cond (.t 12)
 (.seq (.region [.one ⟨some 13, .p .move, [.t 0], none⟩,
 .one ⟨some 4, .p .move, [.t 13], none⟩])
 .ret)
 .skip))
 (.seq (.seq (.region [.one ⟨some 14, .p .move, [.t 1], none⟩,
 .one ⟨some 15, .p .lenStr, [.t 14], none⟩,
 .one ⟨some 16, .p (.bin .eql), [.t 15, .c (.int .i64 1)], none⟩,
 .one ⟨some 17, .p .move, [.t 16], none⟩,
 .grp 17 true [⟨some 18, .p .move, [.t 1], none⟩, ⟨some 19, .p .indexStr, [.t 18, .c (.int .i64 0)], none⟩, ⟨some 20, .p (.bin .lss), [.t 19, .c (.int .u8 128)], none⟩],
 .one ⟨some 21, .p .pick, [.t 17, .t 20, .c (.bool false)], none⟩])
 (.cond (.t 21)
 (.seq (.region [.one ⟨some 22, .p .move, [.t 0], none⟩,
 .one ⟨some 23, .p .move, [.t 1], none⟩,
 .one ⟨some 24, .p .indexStr, [.t 23, .c (.int .i64 0)], none⟩,
 .one ⟨some 25, .call 42, [.t 22, .t 24], none⟩,
 .one ⟨some 26, .p .move, [.t 1], none⟩,
 .one ⟨some 27, .p .indexStr, [.t 26, .c (.int .i64 0)], none⟩,
 .one ⟨some 28, .call 41, [.t 25, .t 27], none⟩,
 .one ⟨some 4, .p .move, [.t 28], none⟩])
 .ret)
 .skip))
 (.seq (.seq (.region [.one ⟨some 30, .p .move, [.t 1], none⟩,
 .one ⟨some 31, .call 43, [.t 30], none⟩,
 .one ⟨some 29, .p .move, [.t 31], none⟩,
 .one ⟨some 32, .p (.extract 0), [.t 29], none⟩,
 .one ⟨some 33, .p (.extract 1), [.t 29], none⟩,
 .one ⟨some 5, .w (.new (List.replicate 256 (.bool false))), [], none⟩,
 .one ⟨none, .w (.store 256), [.t 5, .t 32], none⟩,
 .one ⟨some 6, .p .move, [.t 33], none⟩])
 (.seq (.region [.one ⟨some 34, .p .move, [.t 6], none⟩])
 (.cond (.t 34)
 (.seq (.region [.one ⟨some 35, .p .move, [.t 0], none⟩,
 .one ⟨some 36, .call 45, [.t 35, .t 5], none⟩,
 .one ⟨some 37, .call 44, [.t 36, .t 5], none⟩,
 .one ⟨some 4, .p .move, [.t 37], none⟩])
 .ret)
 .skip)))
 (.seq (.region [.one ⟨some 38, .p .move, [.t 0], none⟩,
 .one ⟨some 39, .p .move, [.t 1], none⟩,
 .one ⟨some 40, .call 47, [.t 38, .t 39], none⟩,
 .one ⟨some 41, .p .move, [.t 1], none⟩,
 .one ⟨some 42, .call 46, [.t 40, .t 41], none⟩,
 .one ⟨some 4, .p .move, [.t 42], none⟩])
 .ret)))),
 [(4, 0)]⟩

theorem g15_ok : compFn Tryz.prog 15 = some (fromGFn g15) := by kernel_rfl

def g19 : GFn := ⟨32,
 .seq (.region [.one ⟨some 2, .w (.new [.slice none 0 0]), [], none⟩,
 .one ⟨some 3, .w (.new [.slice none 0 0]), [], none⟩,
 .one ⟨some 4, .w (.new [.int .i64 0]), [], none⟩])
 (.seq (.seq (.region [.one ⟨some 9, .p .move, [.t 0], none⟩,
 .one ⟨some 10, .call 48, [.t 9], none⟩,
 .one ⟨some 5, .p .move, [.t 10], none⟩])
 (.seq (.region [.one ⟨some 11, .p .move, [.t 5], none⟩,
 .one ⟨some 12, .p (.bin .neq), [.t 11, .c (.int .i64 0)], none⟩])
 (.cond (.t 12)
 (.seq (.region [.one ⟨some 13, .p .move, [.t 5], none⟩,
 .one ⟨none, .w (.store 1), [.t 2, .c (.slice none 0 0)], none⟩,
 .one ⟨none, .w (.store 1), [.t 3, .c (.slice none 0 0)], none⟩,
 .one ⟨none, .w (.store 1), [.t 4, .t 13], none⟩])
 .ret)
 .skip)))
 (.seq (.region [.one ⟨some 6, .w (.new [.slice none 0 0]), [], none⟩])
 (.seq (.region [.one ⟨some 7, .w (.new [.slice none 0 0]), [], none⟩])
 (.seq (.seq (.region [.one ⟨some 14, .p .move, [.t 0], none⟩,
 .one ⟨some 15, .call 49, [.t 14], none⟩])
 (.block 0 .bad))
 (.seq (.region [.one ⟨some 30, .r .load1, [.t 6], none⟩,
 .one ⟨some 31, .r .load1, [.t 7], none⟩,
 .one ⟨none, .w (.store 1), [.t 2, .t 30], none⟩,
 .one ⟨none, .r .same1, [.t 31, .t 7], none⟩,
 .one ⟨none, .w (.store 1), [.t 3, .t 31], none⟩,
 .one ⟨none, .w (.store 1), [.t 4, .c (.int .i64 0)], none⟩])
 .ret))))),
 [(2, 1), (3, 1), (4, 1)]⟩

theorem g19_ok : compFn Tryz.prog 19 = some (fromGFn g19) := by kernel_rfl

def g20 : GFn := ⟨31,
 .seq (.region [.one ⟨some 4, .p .move, [.c (.bool false)], none⟩])
 (.seq (.region [.one ⟨some 5, .r .load1, [.t 1], none⟩,
 .one ⟨some 6, .p .move, [.t 0], none⟩,
 .one ⟨some 7, .p (.indexAddr 1), [.t 5, .t 6], none⟩,
 .one ⟨some 8, .r .load1, [.t 7], none⟩,
 .one ⟨some 9, .p (.un .not), [.t 8], none⟩,
 .one ⟨some 10, .p .move, [.t 9], none⟩,
 .grp 10 true [⟨some 11, .r .load1, [.t 2], none⟩, ⟨some 12, .p .move, [.t 0], none⟩, ⟨some 13, .p (.indexAddr 1), [.t 11, .t 12], none⟩, ⟨some 14, .r .load1, [.t 13], none⟩, ⟨some 15, .p (.bin .eql), [.t 14, .c (.string ⟨#[60]⟩)], none⟩, ⟨some 16, .p .move, [.t 15], none⟩],
 .grp 16 false [⟨some 17, .r .load1, [.t 2], none⟩, ⟨some 18, .p .move, [.t 0], none⟩, ⟨some 19, .p (.indexAddr 1), [.t 17, .t 18], none⟩, ⟨some 20, .r .load1, [.t 19], none⟩, ⟨some 21, .p (.bin .eql), [.t 20, .c (.string ⟨#[62]⟩)], none⟩],
 .grp 10 true [⟨some 22, .p .pick, [.t 16, .c (.bool true), .t 21], none⟩, ⟨some 23, .p .move, [.t 22], none⟩],
 .grp 23 false [⟨some 24, .r .load1, [.t 2], none⟩, ⟨some 25, .p .move, [.t 0], none⟩, ⟨some 26, .p (.indexAddr 1), [.t 24, .t 25], none⟩, ⟨some 27, .r .load1, [.t 26], none⟩, ⟨some 28, .p (.bin .eql), [.t 27, .c (.string ⟨#[62, 62]⟩)], none⟩],
 .grp 10 true [⟨some 29, .p .pick, [.t 23, .c (.bool true), .t 28], none⟩],
 .one ⟨some 30, .p .pick, [.t 10, .t 29, .c (.bool false)], none⟩,
 .one ⟨some 4, .p .move, [.t 30], none⟩])
 .ret),
 [(4, 0)]⟩

theorem g20_ok : compFn Tryz.prog 20 = some (fromGFn g20) := by kernel_rfl

def g21 : GFn := ⟨50,
 .seq (.region [.one ⟨some 2, .p .move, [.c (.slice none 0 0)], none⟩])
 (.seq (.region [.one ⟨some 3, .p .move, [.c (.slice none 0 0)], none⟩])
 (.seq (.seq (.region [.one ⟨some 4, .p .move, [.c (.int .i64 0)], none⟩])
 (.block 0 (.loop (.seq (.seq (.region [.one ⟨some 5, .p .move, [.t 4], none⟩,
 .one ⟨some 6, .p .move, [.t 0], none⟩,
 .one ⟨some 7, .p .lenStr, [.t 6], none⟩,
 .one ⟨some 8, .p (.bin .lss), [.t 5, .t 7], none⟩])
 (.cond (.t 8)
 .skip
 (.exit 0)))
 (.block 1 (.seq (.seq (.region [.one ⟨some 9, .p .move, [.t 0], none⟩,
 .one ⟨some 10, .p .move, [.t 4], none⟩,
 .one ⟨some 11, .p .indexStr, [.t 9, .t 10], none⟩,
 .one ⟨some 12, .p (.bin .eql), [.t 11, .c (.int .u8 32)], none⟩])
 (.cond (.t 12)
 (.seq (.region [.one ⟨some 13, .p .move, [.t 4], none⟩,
 .one ⟨some 14, .p (.bin .add), [.t 13, .c (.int .i64 1)], none⟩,
 .one ⟨some 4, .p .move, [.t 14], none⟩])
 (.exit 1))
 .skip))
 (.seq (.region [.one ⟨some 15, .p .move, [.t 3], none⟩,
 .one ⟨some 16, .p .move, [.t 4], none⟩,
 .one ⟨some 17, .w (.sliceLit [.int .i64 0] 1 [(0, 1)]), [.t 16], none⟩,
 .one ⟨some 18, .w (.append 1 8), [.t 15, .t 17], none⟩,
 .one ⟨some 3, .p .move, [.t 18], none⟩])
 (.seq (.region [.one ⟨some 19, .p .move, [.t 0], none⟩,
 .one ⟨some 20, .p .move, [.t 4], none⟩,
 .one ⟨some 21, .p .indexStr, [.t 19, .t 20], none⟩])
 (.block 2 (.seq (.region [.one ⟨some 41, .p (.bin .eql), [.t 21, .c (.int .u8 61)], none⟩,
 .one ⟨some 40, .p .move, [.t 41], none⟩])
 (.cond (.t 40)
 (.region [.one ⟨some 42, .p .move, [.t 4], none⟩,
 .one ⟨some 43, .p (.bin .add), [.t 42, .c (.int .i64 1)], none⟩,
 .one ⟨some 4, .p .move, [.t 43], none⟩])
 (.seq (.region [.one ⟨some 45, .p (.bin .eql), [.t 21, .c (.int .u8 34)], none⟩,
 .one ⟨some 44, .p .move, [.t 45], none⟩])
 (.cond (.t 44)
 (.region [.one ⟨some 46, .p .move, [.t 0], none⟩,
 .one ⟨some 47, .p .move, [.t 4], none⟩,
 .one ⟨some 48, .call 16, [.t 46, .t 47], none⟩,
 .one ⟨some 4, .p .move, [.t 48], none⟩])
 (.block 3 (.loop (.seq (.seq (.region [.one ⟨some 22, .p .move, [.t 4], none⟩,
 .one ⟨some 23, .p .move, [.t 0], none⟩,
 .one ⟨some 24, .p .lenStr, [.t 23], none⟩,
 .one ⟨some 25, .p (.bin .lss), [.t 22, .t 24], none⟩,
 .one ⟨some 26, .p .move, [.t 25], none⟩,
 .grp 26 true [⟨some 27, .p .move, [.t 0], none⟩, ⟨some 28, .p .move, [.t 4], none⟩, ⟨some 29, .p .indexStr, [.t 27, .t 28], none⟩, ⟨some 30, .p (.bin .neq), [.t 29, .c (.int .u8 32)], none⟩],
 .one ⟨some 31, .p .pick, [.t 26, .t 30, .c (.bool false)], none⟩,
 .one ⟨some 32, .p .move, [.t 31], none⟩,
 .grp 32 true [⟨some 33, .p .move, [.t 0], none⟩, ⟨some 34, .p .move, [.t 4], none⟩, ⟨some 35, .p .indexStr, [.t 33, .t 34], none⟩, ⟨some 36, .p (.bin .neq), [.t 35, .c (.int .u8 61)], none⟩],
 .one ⟨some 37, .p .pick, [.t 32, .t 36, .c (.bool false)], none⟩])
 (.cond (.t 37)
 .skip
 (.exit 3)))
 (.block 4 (.region [.one ⟨some 38, .p .move, [.t 4], none⟩,
 .one ⟨some 39, .p (.bin .add), [.t 38, .c (.int .i64 1)], none⟩,
 .one ⟨some 4, .p .move, [.t 39], none⟩]))))))))))))))))))
 (.seq (.region [.one ⟨some 49, .p .move, [.t 3], none⟩,
 .one ⟨some 2, .p .move, [.t 49], none⟩])
 .ret))),
 [(2, 0)]⟩

theorem g21_ok : compFn Tryz.prog 21 = some (fromGFn g21) := by kernel_rfl

def g27 : GFn := ⟨59,
 .seq (.region [.one ⟨some 4, .p .move, [.c (.string ByteArray.empty)], none⟩,
 .one ⟨some 5, .p .move, [.c (.int .i64 0)], none⟩])
 (.seq (.region [.one ⟨some 12, .p .move, [.t 0], none⟩,
 .one ⟨some 13, .call 25, [.t 12, .c (.int .u8 62)], none⟩,
 .one ⟨some 6, .p .move, [.t 13], none⟩])
 (.seq (.seq (.region [.one ⟨some 14, .p .move, [.t 6], none⟩,
 .one ⟨some 15, .p (.bin .lss), [.t 14, .c (.int .i64 0)], none⟩])
 (.cond (.t 15)
 (.seq (.region [.one ⟨some 4, .p .move, [.c (.string ByteArray.empty)], none⟩,
 .one ⟨some 5, .p .move, [.c (.int .i64 0)], none⟩])
 .ret)
 .skip))
 (.seq (.region [.one ⟨some 17, .p .move, [.t 0], none⟩,
 .one ⟨some 18, .p .move, [.t 6], none⟩,
 .one ⟨some 19, .p (.slStr true true), [.t 17, .c (.int .i64 1), .t 18], none⟩,
 .one ⟨some 20, .call 53, [.t 19, .c (.string ⟨#[36]⟩)], none⟩,
 .one ⟨some 16, .p .move, [.t 20], none⟩,
 .one ⟨some 21, .p (.extract 0), [.t 16], none⟩,
 .one ⟨some 22, .p (.extract 1), [.t 16], none⟩,
 .one ⟨some 23, .p (.extract 2), [.t 16], none⟩,
 .one ⟨some 7, .p .move, [.t 21], none⟩,
 .one ⟨some 8, .p .move, [.t 22], none⟩,
 .one ⟨some 9, .p .move, [.t 23], none⟩])
 (.seq (.region [.one ⟨some 25, .p .move, [.t 1], none⟩,
 .one ⟨some 26, .p .move, [.t 7], none⟩,
 .one ⟨some 27, .call 54, [.t 25, .t 26], none⟩,
 .one ⟨some 24, .p .move, [.t 27], none⟩,
 .one ⟨some 28, .p (.extract 0), [.t 24], none⟩,
 .one ⟨some 29, .p (.extract 1), [.t 24], none⟩,
 .one ⟨some 10, .w (.new [.string ByteArray.empty, .slice none 0 0, .bool false]), [], none⟩,
 .one ⟨none, .w (.store 3), [.t 10, .t 28], none⟩,
 .one ⟨some 11, .p .move, [.t 29], none⟩])
 (.seq (.block 0 (.seq (.region [.one ⟨some 31, .p .move, [.t 11], none⟩,
 .one ⟨some 32, .p (.un .not), [.t 31], none⟩,
 .one ⟨some 33, .p .move, [.t 32], none⟩,
 .grp 33 false [⟨some 34, .p .move, [.t 7], none⟩, ⟨some 35, .call 15, [.t 34, .c (.string ⟨#[97, 98, 99, 100, 101, 102, 103, 104, 105, 106, 107, 108, 109, 110, 111, 112, 113, 114, 115, 116, 117, 118, 119, 120, 121, 122]⟩)], none⟩, ⟨some 36, .p (.bin .neq), [.t 35, .c (.string ByteArray.empty)], none⟩],
 .one ⟨some 37, .p .pick, [.t 33, .c (.bool true), .t 36], none⟩,
 .one ⟨some 30, .p .move, [.t 37], none⟩])
 (.cond (.t 30)
 (.seq (.region [.one ⟨some 4, .p .move, [.c (.string ByteArray.empty)], none⟩,
 .one ⟨some 5, .p .move, [.c (.int .i64 0)], none⟩])
 .ret)
 (.seq (.region [.one ⟨some 39, .p (.fieldAddr 1), [.t 10], none⟩,
 .one ⟨some 40, .r .load1, [.t 39], none⟩,
 .one ⟨some 41, .p .lenSl, [.t 40], none⟩,
 .one ⟨some 42, .p (.bin .gtr), [.t 41, .c (.int .i64 0)], none⟩,
 .one ⟨some 38, .p .move, [.t 42], none⟩])
 (.cond (.t 38)
 (.seq (.region [.one ⟨some 43, .p (.fieldAddr 1), [.t 10], none⟩,
 .one ⟨some 44, .r .load1, [.t 43], none⟩,
 .one ⟨some 45, .p (.indexAddr 1), [.t 44, .c (.int .i64 0)], none⟩,
 .one ⟨some 46, .r .load1, [.t 45], none⟩,
 .one ⟨some 47, .p .move, [.t 6], none⟩,
 .one ⟨some 48, .p (.bin .add), [.t 47, .c (.int .i64 1)], none⟩,
 .one ⟨some 4, .p .move, [.t 46], none⟩,
 .one ⟨some 5, .p .move, [.t 48], none⟩])
 .ret)
 (.seq (.region [.one ⟨some 50, .p (.fieldAddr 2), [.t 10], none⟩,
 .one ⟨some 51, .r .load1, [.t 50], none⟩,
 .one ⟨some 49, .p .move, [.t 51], none⟩])
 (.cond (.t 49)
 (.seq (.region [.one ⟨some 52, .p (.fieldAddr 0), [.t 10], none⟩,
 .one ⟨some 53, .r .load1, [.t 52], none⟩,
 .one ⟨some 54, .p .move, [.t 6], none⟩,
 .one ⟨some 55, .p (.bin .add), [.t 54, .c (.int .i64 1)], none⟩,
 .one ⟨some 4, .p .move, [.t 53], none⟩,
 .one ⟨some 5, .p .move, [.t 55], none⟩])
 .ret)
 .skip)))))))
 (.seq (.region [.one ⟨some 56, .p .move, [.t 8], none⟩,
 .one ⟨some 57, .p .move, [.t 6], none⟩,
 .one ⟨some 58, .p (.bin .add), [.t 57, .c (.int .i64 1)], none⟩,
 .one ⟨some 4, .p .move, [.t 56], none⟩,
 .one ⟨some 5, .p .move, [.t 58], none⟩])
 .ret)))))),
 [(4, 0), (5, 0)]⟩

theorem g27_ok : compFn Tryz.prog 27 = some (fromGFn g27) := by kernel_rfl

def g29 : GFn := ⟨9,
 .seq (.region [.one ⟨some 2, .p .move, [.c (.bool false)], none⟩])
 (.seq (.region [.one ⟨some 3, .p .move, [.t 0], none⟩,
 .one ⟨some 4, .p (.bin .geq), [.t 3, .c (.int .u8 97)], none⟩,
 .one ⟨some 5, .p .move, [.t 4], none⟩,
 .grp 5 true [⟨some 6, .p .move, [.t 0], none⟩, ⟨some 7, .p (.bin .leq), [.t 6, .c (.int .u8 122)], none⟩],
 .one ⟨some 8, .p .pick, [.t 5, .t 7, .c (.bool false)], none⟩,
 .one ⟨some 2, .p .move, [.t 8], none⟩])
 .ret),
 [(2, 0)]⟩

theorem g29_ok : compFn Tryz.prog 29 = some (fromGFn g29) := by kernel_rfl

def g30 : GFn := ⟨20,
 .seq (.region [.one ⟨some 4, .p .move, [.c (.int .i64 0)], none⟩])
 (.seq (.seq (.region [.one ⟨some 5, .p .move, [.c (.int .i64 0)], none⟩])
 (.block 0 (.loop (.seq (.seq (.region [.one ⟨some 6, .p .move, [.t 5], none⟩,
 .one ⟨some 7, .p .move, [.t 0], none⟩,
 .one ⟨some 8, .p .lenSl, [.t 7], none⟩,
 .one ⟨some 9, .p (.bin .lss), [.t 6, .t 8], none⟩])
 (.cond (.t 9)
 .skip
 (.exit 0)))
 (.seq (.block 1 (.seq (.region [.one ⟨some 12, .p .move, [.t 0], none⟩,
 .one ⟨some 13, .p .move, [.t 5], none⟩,
 .one ⟨some 14, .p (.indexAddr 3), [.t 12, .t 13], none⟩,
 .one ⟨some 15, .p (.fieldAddr 0), [.t 14], none⟩,
 .one ⟨some 16, .r .load1, [.t 15], none⟩,
 .one ⟨some 17, .p .move, [.t 1], none⟩,
 .one ⟨some 18, .p (.bin .eql), [.t 16, .t 17], none⟩])
 (.cond (.t 18)
 (.seq (.region [.one ⟨some 19, .p .move, [.t 5], none⟩,
 .one ⟨some 4, .p .move, [.t 19], none⟩])
 .ret)
 .skip)))
 (.region [.one ⟨some 10, .p .move, [.t 5], none⟩,
 .one ⟨some 11, .p (.bin .add), [.t 10, .c (.int .i64 1)], none⟩,
 .one ⟨some 5, .p .move, [.t 11], none⟩]))))))
 (.seq (.region [.one ⟨some 4, .p .move, [.c (.int .i64 (-1))], none⟩])
 .ret)),
 [(4, 0)]⟩

theorem g30_ok : compFn Tryz.prog 30 = some (fromGFn g30) := by kernel_rfl

def g31 : GFn := ⟨18,
 .seq (.region [.one ⟨some 2, .w (.box 3), [.t 0], none⟩,
 .one ⟨some 4, .p .move, [.c (.string ByteArray.empty)], none⟩])
 (.seq (.seq (.region [.one ⟨some 5, .p (.fieldAddr 1), [.t 2], none⟩,
 .one ⟨some 6, .r .load1, [.t 5], none⟩,
 .one ⟨some 7, .p .lenSl, [.t 6], none⟩,
 .one ⟨some 8, .p (.bin .gtr), [.t 7, .c (.int .i64 0)], none⟩])
 (.cond (.t 8)
 (.seq (.region [.one ⟨some 9, .p (.fieldAddr 1), [.t 2], none⟩,
 .one ⟨some 10, .r .load1, [.t 9], none⟩,
 .one ⟨some 11, .p (.indexAddr 1), [.t 10, .c (.int .i64 0)], none⟩,
 .one ⟨some 12, .r .load1, [.t 11], none⟩,
 .one ⟨some 4, .p .move, [.t 12], none⟩])
 .ret)
 .skip))
 (.seq (.seq (.region [.one ⟨some 13, .p (.fieldAddr 2), [.t 2], none⟩,
 .one ⟨some 14, .r .load1, [.t 13], none⟩])
 (.cond (.t 14)
 (.seq (.region [.one ⟨some 15, .p (.fieldAddr 0), [.t 2], none⟩,
 .one ⟨some 16, .r .load1, [.t 15], none⟩,
 .one ⟨some 4, .p .move, [.t 16], none⟩])
 .ret)
 .skip))
 (.seq (.region [.one ⟨some 17, .p .move, [.t 1], none⟩,
 .one ⟨some 4, .p .move, [.t 17], none⟩])
 .ret))),
 [(4, 0)]⟩

theorem g31_ok : compFn Tryz.prog 31 = some (fromGFn g31) := by kernel_rfl

def g32 : GFn := ⟨7,
 .seq (.region [.one ⟨some 0, .p .move, [.c (.pointer none)], none⟩])
 (.seq (.region [.one ⟨some 2, .p (.build [.map none, .map none, .map none, .map none, .int .i64 0] []), [], none⟩,
 .one ⟨some 3, .w (.box 5), [.t 2], none⟩,
 .one ⟨some 1, .p .move, [.t 3], none⟩])
 (.seq (.region [.one ⟨some 4, .p .move, [.t 1], none⟩,
 .one ⟨some 5, .call 55, [.t 4], none⟩])
 (.seq (.region [.one ⟨some 6, .p .move, [.t 1], none⟩,
 .one ⟨some 0, .p .move, [.t 6], none⟩])
 .ret))),
 [(0, 0)]⟩

theorem g32_ok : compFn Tryz.prog 32 = some (fromGFn g32) := by kernel_rfl

def g33 : GFn := ⟨13,
 .seq (.region [.one ⟨some 4, .p .move, [.c (.pointer none)], none⟩])
 (.seq (.seq (.region [.one ⟨some 5, .p .move, [.t 0], none⟩,
 .one ⟨some 6, .p (.nilEq .ptr false), [.t 5, .c (.pointer none)], none⟩])
 (.cond (.t 6)
 (.region [.one ⟨some 7, .call 32, [], none⟩,
 .one ⟨some 0, .p .move, [.t 7], none⟩])
 .skip))
 (.seq (.region [.one ⟨some 8, .p .move, [.t 0], none⟩,
 .one ⟨some 9, .p .move, [.t 1], none⟩,
 .one ⟨some 10, .w .mkMap, [], none⟩,
 .one ⟨some 11, .p (.build [.pointer none, .string ByteArray.empty, .slice none 0 0, .int .i64 0, .int .i64 0, .map none, .int .i64 0, .int .i64 0, .bool false, .int .i64 0, .slice none 0 0] [(0, 1), (1, 1), (4, 1), (5, 1)]), [.t 8, .t 9, .c (.int .i64 9), .t 10], none⟩,
 .one ⟨some 12, .w (.box 11), [.t 11], none⟩,
 .one ⟨some 4, .p .move, [.t 12], none⟩])
 .ret)),
 [(4, 0)]⟩

theorem g33_ok : compFn Tryz.prog 33 = some (fromGFn g33) := by kernel_rfl

def g34 : GFn := ⟨83,
 .seq (.region [.one ⟨some 6, .p .move, [.c (.int .i64 0)], none⟩,
 .one ⟨some 7, .p .move, [.c (.int .i64 0)], none⟩])
 (.seq (.region [.one ⟨some 13, .p .move, [.t 0], none⟩,
 .one ⟨some 14, .p .move, [.t 1], none⟩,
 .one ⟨some 15, .call 56, [.t 13, .t 14], none⟩,
 .one ⟨some 12, .p .move, [.t 15], none⟩,
 .one ⟨some 16, .p (.extract 0), [.t 12], none⟩,
 .one ⟨some 17, .p (.extract 1), [.t 12], none⟩,
 .one ⟨some 8, .p .move, [.t 16], none⟩,
 .one ⟨some 9, .p .move, [.t 17], none⟩])
 (.seq (.seq (.region [.one ⟨some 18, .p .move, [.t 9], none⟩,
 .one ⟨some 19, .p (.bin .neq), [.t 18, .c (.int .i64 0)], none⟩])
 (.cond (.t 19)
 (.seq (.region [.one ⟨some 20, .p .move, [.t 9], none⟩,
 .one ⟨some 6, .p .move, [.c (.int .i64 0)], none⟩,
 .one ⟨some 7, .p .move, [.t 20], none⟩])
 .ret)
 .skip))
 (.seq (.block 0 (.seq (.region [.one ⟨some 22, .p .move, [.t 8], none⟩,
 .one ⟨some 23, .p (.bin .eql), [.t 22, .c (.string ⟨#[114, 97, 109, 58]⟩)], none⟩,
 .one ⟨some 21, .p .move, [.t 23], none⟩])
 (.cond (.t 21)
 (.seq (.region [.one ⟨some 6, .p .move, [.c (.int .i64 0)], none⟩,
 .one ⟨some 7, .p .move, [.c (.int .i64 220)], none⟩])
 .ret)
 (.seq (.region [.one ⟨some 25, .p .move, [.t 2], none⟩,
 .one ⟨some 26, .p (.bin .lss), [.t 25, .c (.int .i64 0)], none⟩,
 .one ⟨some 27, .p .move, [.t 26], none⟩,
 .grp 27 false [⟨some 28, .p .move, [.t 2], none⟩, ⟨some 29, .p (.bin .gtr), [.t 28, .c (.int .i64 2)], none⟩],
 .one ⟨some 30, .p .pick, [.t 27, .c (.bool true), .t 29], none⟩,
 .one ⟨some 24, .p .move, [.t 30], none⟩])
 (.cond (.t 24)
 (.seq (.region [.one ⟨some 6, .p .move, [.c (.int .i64 0)], none⟩,
 .one ⟨some 7, .p .move, [.c (.int .i64 1)], none⟩])
 .ret)
 (.seq (.region [.one ⟨some 32, .p .move, [.t 2], none⟩,
 .one ⟨some 33, .p (.bin .eql), [.t 32, .c (.int .i64 2)], none⟩,
 .one ⟨some 34, .p .move, [.t 33], none⟩,
 .grp 34 true [⟨some 35, .p .move, [.t 8], none⟩, ⟨some 36, .call 57, [.t 35, .c (.string ⟨#[112, 105, 112, 101, 58]⟩)], none⟩],
 .one ⟨some 37, .p .pick, [.t 34, .t 36, .c (.bool false)], none⟩,
 .one ⟨some 31, .p .move, [.t 37], none⟩])
 (.cond (.t 31)
 (.seq (.region [.one ⟨some 6, .p .move, [.c (.int .i64 0)], none⟩,
 .one ⟨some 7, .p .move, [.c (.int .i64 221)], none⟩])
 .ret)
 .skip)))))))
 (.seq (.region [.one ⟨some 38, .p .move, [.t 0], none⟩,
 .one ⟨some 39, .call 55, [.t 38], none⟩])
 (.seq (.seq (.region [.one ⟨some 40, .p .move, [.t 0], none⟩,
 .one ⟨some 41, .p .nilCheck, [.t 40], none⟩,
 .one ⟨some 42, .p (.fieldAddr 3), [.t 41], none⟩,
 .one ⟨some 43, .r .load1, [.t 42], none⟩,
 .one ⟨some 44, .r .lenMap, [.t 43], none⟩,
 .one ⟨some 45, .p (.bin .eql), [.t 44, .c (.int .i64 20)], none⟩])
 (.cond (.t 45)
 (.seq (.seq (.region [.one ⟨some 46, .p .move, [.t 0], none⟩,
 .one ⟨some 47, .p .move, [.t 8], none⟩,
 .one ⟨some 48, .p .move, [.t 2], none⟩,
 .one ⟨some 49, .call 58, [.t 46, .t 47, .t 48], none⟩,
 .one ⟨some 10, .p .move, [.t 49], none⟩])
 (.seq (.region [.one ⟨some 50, .p .move, [.t 10], none⟩,
 .one ⟨some 51, .p (.bin .neq), [.t 50, .c (.int .i64 0)], none⟩])
 (.cond (.t 51)
 (.seq (.region [.one ⟨some 52, .p .move, [.t 10], none⟩,
 .one ⟨some 6, .p .move, [.c (.int .i64 0)], none⟩,
 .one ⟨some 7, .p .move, [.t 52], none⟩])
 .ret)
 .skip)))
 (.seq (.region [.one ⟨some 6, .p .move, [.c (.int .i64 0)], none⟩,
 .one ⟨some 7, .p .move, [.c (.int .i64 2)], none⟩])
 .ret))
 .skip))
 (.seq (.region [.one ⟨some 54, .p .move, [.t 0], none⟩,
 .one ⟨some 55, .p .move, [.t 8], none⟩,
 .one ⟨some 56, .p .move, [.t 2], none⟩,
 .one ⟨some 57, .call 59, [.t 54, .t 55, .t 56], none⟩,
 .one ⟨some 53, .p .move, [.t 57], none⟩,
 .one ⟨some 58, .p (.extract 0), [.t 53], none⟩,
 .one ⟨some 59, .p (.extract 1), [.t 53], none⟩,
 .one ⟨some 11, .p .move, [.t 58], none⟩,
 .one ⟨some 9, .p .move, [.t 59], none⟩])
 (.seq (.seq (.region [.one ⟨some 60, .p .move, [.t 9], none⟩,
 .one ⟨some 61, .p (.bin .neq), [.t 60, .c (.int .i64 0)], none⟩])
 (.cond (.t 61)
 (.seq (.region [.one ⟨some 62, .p .move, [.t 9], none⟩,
 .one ⟨some 6, .p .move, [.c (.int .i64 0)], none⟩,
 .one ⟨some 7, .p .move, [.t 62], none⟩])
 .ret)
 .skip))
 (.seq (.region [.one ⟨some 63, .p .move, [.t 0], none⟩,
 .one ⟨some 64, .p .nilCheck, [.t 63], none⟩,
 .one ⟨some 65, .p (.fieldAddr 4), [.t 64], none⟩,
 .one ⟨some 66, .r .load1, [.t 65], none⟩,
 .one ⟨some 67, .p (.bin .add), [.t 66, .c (.int .i64 1)], none⟩,
 .one ⟨some 68, .p .nilCheck, [.t 63], none⟩,
 .one ⟨some 69, .p (.fieldAddr 4), [.t 68], none⟩,
 .one ⟨none, .w (.store 1), [.t 69, .t 67], none⟩])
 (.seq (.region [.one ⟨some 70, .p .move, [.t 0], none⟩,
 .one ⟨some 71, .p .nilCheck, [.t 70], none⟩,
 .one ⟨some 72, .p (.fieldAddr 3), [.t 71], none⟩,
 .one ⟨some 73, .r .load1, [.t 72], none⟩,
 .one ⟨some 74, .p .move, [.t 0], none⟩,
 .one ⟨some 75, .p .nilCheck, [.t 74], none⟩,
 .one ⟨some 76, .p (.fieldAddr 4), [.t 75], none⟩,
 .one ⟨some 77, .r .load1, [.t 76], none⟩,
 .one ⟨some 78, .p .move, [.t 11], none⟩,
 .one ⟨none, .w (.mapSet .int), [.t 73, .t 77, .t 78], none⟩])
 (.seq (.region [.one ⟨some 79, .p .move, [.t 0], none⟩,
 .one ⟨some 80, .p .nilCheck, [.t 79], none⟩,
 .one ⟨some 81, .p (.fieldAddr 4), [.t 80], none⟩,
 .one ⟨some 82, .r .load1, [.t 81], none⟩,
 .one ⟨some 6, .p .move, [.t 82], none⟩,
 .one ⟨some 7, .p .move, [.c (.int .i64 0)], none⟩])
 .ret)))))))))),
 [(6, 0), (7, 0)]⟩

theorem g34_ok : compFn Tryz.prog 34 = some (fromGFn g34) := by kernel_rfl

def g35 : GFn := ⟨118,
 .seq (.region [.one ⟨some 6, .p .move, [.c (.int .i64 0)], none⟩,
 .one ⟨some 7, .p .move, [.c (.int .i64 0)], none⟩])
 (.seq (.seq (.region [.one ⟨some 15, .p .move, [.t 0], none⟩,
 .one ⟨some 16, .p (.nilEq .ptr false), [.t 15, .c (.pointer none)], none⟩])
 (.cond (.t 16)
 (.seq (.region [.one ⟨some 6, .p .move, [.c (.int .i64 0)], none⟩,
 .one ⟨some 7, .p .move, [.c (.int .i64 3)], none⟩])
 .ret)
 .skip))
 (.seq (.region [.one ⟨some 18, .p .move, [.t 0], none⟩,
 .one ⟨some 19, .p .nilCheck, [.t 18], none⟩,
 .one ⟨some 20, .p (.fieldAddr 3), [.t 19], none⟩,
 .one ⟨some 21, .r .load1, [.t 20], none⟩,
 .one ⟨some 22, .p .move, [.t 1], none⟩,
 .one ⟨some 23, .r (.lookup .int .nilIface true), [.t 21, .t 22], none⟩,
 .one ⟨some 17, .p .move, [.t 23], none⟩,
 .one ⟨some 24, .p (.extract 0), [.t 17], none⟩,
 .one ⟨some 25, .p (.extract 1), [.t 17], none⟩,
 .one ⟨some 8, .p .move, [.t 24], none⟩,
 .one ⟨some 9, .p .move, [.t 25], none⟩])
 (.seq (.seq (.region [.one ⟨some 26, .p .move, [.t 9], none⟩,
 .one ⟨some 27, .p (.un .not), [.t 26], none⟩])
 (.cond (.t 27)
 (.seq (.region [.one ⟨some 6, .p .move, [.c (.int .i64 0)], none⟩,
 .one ⟨some 7, .p .move, [.c (.int .i64 4)], none⟩])
 .ret)
 .skip))
 (.seq (.seq (.region [.one ⟨some 29, .p .move, [.t 8], none⟩,
 .one ⟨some 30, .p (.assertT 117 (.pointer none) true), [.t 29], none⟩,
 .one ⟨some 28, .p .move, [.t 30], none⟩,
 .one ⟨some 31, .p (.extract 0), [.t 28], none⟩,
 .one ⟨some 32, .p (.extract 1), [.t 28], none⟩,
 .one ⟨some 10, .p .move, [.t 31], none⟩,
 .one ⟨some 11, .p .move, [.t 32], none⟩])
 (.seq (.region [.one ⟨some 33, .p .move, [.t 11], none⟩])
 (.cond (.t 33)
 (.seq (.seq (.region [.one ⟨some 34, .p .move, [.t 2], none⟩,
 .one ⟨some 35, .p .lenSl, [.t 34], none⟩,
 .one ⟨some 36, .p .move, [.t 10], none⟩,
 .one ⟨some 37, .p .nilCheck, [.t 36], none⟩,
 .one ⟨some 38, .p (.fieldAddr 1), [.t 37], none⟩,
 .one ⟨some 39, .p (.fieldAddr 0), [.t 38], none⟩,
 .one ⟨some 40, .r .load1, [.t 39], none⟩,
 .one ⟨some 41, .p .lenSl, [.t 40], none⟩,
 .one ⟨some 42, .p (.bin .sub), [.c (.int .i64 20000), .t 41], none⟩,
 .one ⟨some 43, .p (.bin .gtr), [.t 35, .t 42], none⟩])
 (.cond (.t 43)
 (.seq (.region [.one ⟨some 6, .p .move, [.c (.int .i64 0)], none⟩,
 .one ⟨some 7, .p .move, [.c (.int .i64 2)], none⟩])
 .ret)
 .skip))
 (.seq (.region [.one ⟨some 44, .p .move, [.t 10], none⟩,
 .one ⟨some 45, .p .nilCheck, [.t 44], none⟩,
 .one ⟨some 46, .p (.fieldAddr 1), [.t 45], none⟩,
 .one ⟨some 47, .p .move, [.t 2], none⟩,
 .one ⟨some 48, .call 60, [.t 46, .t 47], none⟩,
 .one ⟨some 6, .p .move, [.t 48], none⟩,
 .one ⟨some 7, .p .move, [.c (.int .i64 0)], none⟩])
 .ret))
 .skip)))
 (.seq (.seq (.region [.one ⟨some 50, .p .move, [.t 8], none⟩,
 .one ⟨some 51, .p (.assertT 125 (.agg #[.bool false]) true), [.t 50], none⟩,
 .one ⟨some 49, .p .move, [.t 51], none⟩,
 .one ⟨some 52, .p (.extract 0), [.t 49], none⟩,
 .one ⟨some 53, .p (.extract 1), [.t 49], none⟩,
 .one ⟨some 12, .w (.new [.bool false]), [], none⟩,
 .one ⟨none, .w (.store 1), [.t 12, .t 52], none⟩,
 .one ⟨some 13, .p .move, [.t 53], none⟩])
 (.seq (.region [.one ⟨some 54, .p .move, [.t 13], none⟩,
 .one ⟨some 55, .p .move, [.t 54], none⟩,
 .grp 55 true [⟨some 56, .p (.fieldAddr 0), [.t 12], none⟩, ⟨some 57, .r .load1, [.t 56], none⟩, ⟨some 58, .p (.un .not), [.t 57], none⟩],
 .one ⟨some 59, .p .pick, [.t 55, .t 58, .c (.bool false)], none⟩])
 (.cond (.t 59)
 (.seq (.region [.one ⟨some 60, .p .move, [.t 2], none⟩,
 .one ⟨some 61, .p .lenSl, [.t 60], none⟩,
 .one ⟨some 6, .p .move, [.t 61], none⟩,
 .one ⟨some 7, .p .move, [.c (.int .i64 0)], none⟩])
 .ret)
 .skip)))
 (.seq (.region [.one ⟨some 63, .p .move, [.t 8], none⟩,
 .one ⟨some 64, .p (.assertT 127 (.pointer none) true), [.t 63], none⟩,
 .one ⟨some 62, .p .move, [.t 64], none⟩,
 .one ⟨some 65, .p (.extract 0), [.t 62], none⟩,
 .one ⟨some 66, .p (.extract 1), [.t 62], none⟩,
 .one ⟨some 14, .p .move, [.t 65], none⟩,
 .one ⟨some 9, .p .move, [.t 66], none⟩])
 (.seq (.block 0 (.seq (.region [.one ⟨some 68, .p .move, [.t 9], none⟩,
 .one ⟨some 69, .p (.un .not), [.t 68], none⟩,
 .one ⟨some 70, .p .move, [.t 69], none⟩,
 .grp 70 false [⟨some 71, .p .move, [.t 14], none⟩, ⟨some 72, .p .nilCheck, [.t 71], none⟩, ⟨some 73, .p (.fieldAddr 2), [.t 72], none⟩, ⟨some 74, .r .load1, [.t 73], none⟩],
 .one ⟨some 75, .p .pick, [.t 70, .c (.bool true), .t 74], none⟩,
 .one ⟨some 67, .p .move, [.t 75], none⟩])
 (.cond (.t 67)
 (.seq (.region [.one ⟨some 6, .p .move, [.c (.int .i64 0)], none⟩,
 .one ⟨some 7, .p .move, [.c (.int .i64 221)], none⟩])
 .ret)
 (.seq (.region [.one ⟨some 77, .p .move, [.t 14], none⟩,
 .one ⟨some 78, .p .nilCheck, [.t 77], none⟩,
 .one ⟨some 79, .p (.fieldAddr 1), [.t 78], none⟩,
 .one ⟨some 80, .r .load1, [.t 79], none⟩,
 .one ⟨some 81, .p .nilCheck, [.t 80], none⟩,
 .one ⟨some 82, .p (.fieldAddr 4), [.t 81], none⟩,
 .one ⟨some 83, .r .load1, [.t 82], none⟩,
 .one ⟨some 84, .p .move, [.t 83], none⟩,
 .grp 84 true [⟨some 85, .p .move, [.t 14], none⟩, ⟨some 86, .p .nilCheck, [.t 85], none⟩, ⟨some 87, .p (.fieldAddr 1), [.t 86], none⟩, ⟨some 88, .r .load1, [.t 87], none⟩, ⟨some 89, .p .nilCheck, [.t 88], none⟩, ⟨some 90, .p (.fieldAddr 5), [.t 89], none⟩, ⟨some 91, .r .load1, [.t 90], none⟩, ⟨some 92, .p (.un .not), [.t 91], none⟩],
 .one ⟨some 93, .p .pick, [.t 84, .t 92, .c (.bool false)], none⟩,
 .one ⟨some 76, .p .move, [.t 93], none⟩])
 (.cond (.t 76)
 (.seq (.region [.one ⟨some 6, .p .move, [.c (.int .i64 0)], none⟩,
 .one ⟨some 7, .p .move, [.c (.int .i64 240)], none⟩])
 .ret)
 (.seq (.region [.one ⟨some 95, .p .move, [.t 2], none⟩,
 .one ⟨some 96, .p .lenSl, [.t 95], none⟩,
 .one ⟨some 97, .p (.bin .gtr), [.t 96, .c (.int .i64 0)], none⟩,
 .one ⟨some 98, .p .move, [.t 97], none⟩,
 .grp 98 true [⟨some 99, .p .move, [.t 14], none⟩, ⟨some 100, .p .nilCheck, [.t 99], none⟩, ⟨some 101, .p (.fieldAddr 1), [.t 100], none⟩, ⟨some 102, .r .load1, [.t 101], none⟩, ⟨some 103, .p .nilCheck, [.t 102], none⟩, ⟨some 104, .p (.fieldAddr 0), [.t 103], none⟩, ⟨some 105, .p (.fieldAddr 0), [.t 104], none⟩, ⟨some 106, .r .load1, [.t 105], none⟩, ⟨some 107, .p .lenSl, [.t 106], none⟩, ⟨some 108, .p (.bin .eql), [.t 107, .c (.int .i64 64)], none⟩],
 .one ⟨some 109, .p .pick, [.t 98, .t 108, .c (.bool false)], none⟩,
 .one ⟨some 94, .p .move, [.t 109], none⟩])
 (.cond (.t 94)
 (.seq (.region [.one ⟨some 6, .p .move, [.c (.int .i64 0)], none⟩,
 .one ⟨some 7, .p .move, [.c (.int .i64 5)], none⟩])
 .ret)
 .skip)))))))
 (.seq (.region [.one ⟨some 110, .p .move, [.t 14], none⟩,
 .one ⟨some 111, .p .nilCheck, [.t 110], none⟩,
 .one ⟨some 112, .p (.fieldAddr 1), [.t 111], none⟩,
 .one ⟨some 113, .r .load1, [.t 112], none⟩,
 .one ⟨some 114, .p .nilCheck, [.t 113], none⟩,
 .one ⟨some 115, .p (.fieldAddr 0), [.t 114], none⟩,
 .one ⟨some 116, .p .move, [.t 2], none⟩,
 .one ⟨some 117, .call 60, [.t 115, .t 116], none⟩,
 .one ⟨some 6, .p .move, [.t 117], none⟩,
 .one ⟨some 7, .p .move, [.c (.int .i64 0)], none⟩])
 .ret)))))))),
 [(6, 0), (7, 0)]⟩

theorem g35_ok : compFn Tryz.prog 35 = some (fromGFn g35) := by kernel_rfl

def g36 : GFn := ⟨28,
 .seq (.region [.one ⟨some 4, .p .move, [.c (.int .i64 0)], none⟩])
 (.seq (.seq (.region [.one ⟨some 7, .p .move, [.t 0], none⟩,
 .one ⟨some 8, .p (.nilEq .ptr false), [.t 7, .c (.pointer none)], none⟩])
 (.cond (.t 8)
 (.seq (.region [.one ⟨some 4, .p .move, [.c (.int .i64 3)], none⟩])
 .ret)
 .skip))
 (.seq (.region [.one ⟨some 10, .p .move, [.t 0], none⟩,
 .one ⟨some 11, .p .nilCheck, [.t 10], none⟩,
 .one ⟨some 12, .p (.fieldAddr 3), [.t 11], none⟩,
 .one ⟨some 13, .r .load1, [.t 12], none⟩,
 .one ⟨some 14, .p .move, [.t 1], none⟩,
 .one ⟨some 15, .r (.lookup .int .nilIface true), [.t 13, .t 14], none⟩,
 .one ⟨some 9, .p .move, [.t 15], none⟩,
 .one ⟨some 16, .p (.extract 0), [.t 9], none⟩,
 .one ⟨some 17, .p (.extract 1), [.t 9], none⟩,
 .one ⟨some 5, .p .move, [.t 16], none⟩,
 .one ⟨some 6, .p .move, [.t 17], none⟩])
 (.seq (.seq (.region [.one ⟨some 18, .p .move, [.t 6], none⟩,
 .one ⟨some 19, .p (.un .not), [.t 18], none⟩])
 (.cond (.t 19)
 (.seq (.region [.one ⟨some 4, .p .move, [.c (.int .i64 4)], none⟩])
 .ret)
 .skip))
 (.seq (.region [.one ⟨some 20, .p .move, [.t 0], none⟩,
 .one ⟨some 21, .p .nilCheck, [.t 20], none⟩,
 .one ⟨some 22, .p (.fieldAddr 3), [.t 21], none⟩,
 .one ⟨some 23, .r .load1, [.t 22], none⟩,
 .one ⟨some 24, .p .move, [.t 1], none⟩,
 .one ⟨none, .w (.delete .int), [.t 23, .t 24], none⟩])
 (.seq (.region [.one ⟨some 25, .p .move, [.t 5], none⟩,
 .one ⟨some 26, .p .move, [.t 0], none⟩,
 .one ⟨some 27, .invoke "bluebell/stream.close", [.t 25, .t 26], none⟩])
 (.seq (.region [.one ⟨some 4, .p .move, [.c (.int .i64 0)], none⟩])
 .ret)))))),
 [(4, 0)]⟩

theorem g36_ok : compFn Tryz.prog 36 = some (fromGFn g36) := by kernel_rfl

def g37 : GFn := ⟨80,
 .seq (.region [.one ⟨some 2, .w (.box 1), [.t 0], none⟩,
 .one ⟨some 4, .w (.new [.int .i64 0]), [], none⟩,
 .one ⟨some 5, .w (.new [.int .i64 0]), [], none⟩])
 (.seq (.seq (.region [.one ⟨some 10, .r .load1, [.t 2], none⟩,
 .one ⟨some 11, .p (.nilEq .ptr false), [.t 10, .c (.pointer none)], none⟩])
 (.cond (.t 11)
 (.seq (.region [.one ⟨none, .w (.store 1), [.t 4, .c (.int .i64 0)], none⟩,
 .one ⟨none, .w (.store 1), [.t 5, .c (.int .i64 3)], none⟩])
 .ret)
 .skip))
 (.seq (.region [.one ⟨some 12, .r .load1, [.t 2], none⟩,
 .one ⟨some 13, .p .nilCheck, [.t 12], none⟩,
 .one ⟨some 14, .p (.fieldAddr 3), [.t 13], none⟩,
 .one ⟨none, .w (.store 1), [.t 14, .c (.int .i64 0)], none⟩])
 (.seq (.seq (.region [.one ⟨some 15, .r .load1, [.t 2], none⟩,
 .one ⟨some 16, .p .nilCheck, [.t 15], none⟩,
 .one ⟨some 17, .p (.fieldAddr 8), [.t 16], none⟩,
 .one ⟨some 18, .r .load1, [.t 17], none⟩])
 (.cond (.t 18)
 (.seq (.region [.one ⟨none, .w (.store 1), [.t 4, .c (.int .i64 0)], none⟩,
 .one ⟨none, .w (.store 1), [.t 5, .c (.int .i64 5)], none⟩])
 .ret)
 .skip))
 (.seq (.seq (.region [.one ⟨some 19, .r .load1, [.t 2], none⟩,
 .one ⟨some 20, .p .nilCheck, [.t 19], none⟩,
 .one ⟨some 21, .p (.fieldAddr 5), [.t 20], none⟩,
 .one ⟨some 22, .r .load1, [.t 21], none⟩,
 .one ⟨some 23, .p (.nilEq .map false), [.t 22, .c (.map none)], none⟩])
 (.cond (.t 23)
 (.region [.one ⟨some 24, .r .load1, [.t 2], none⟩,
 .one ⟨some 25, .w .mkMap, [], none⟩,
 .one ⟨some 26, .p .nilCheck, [.t 24], none⟩,
 .one ⟨some 27, .p (.fieldAddr 5), [.t 26], none⟩,
 .one ⟨none, .w (.store 1), [.t 27, .t 25], none⟩])
 .skip))
 (.seq (.region [.one ⟨some 28, .r .load1, [.t 2], none⟩,
 .one ⟨some 29, .p .move, [.t 1], none⟩,
 .one ⟨some 30, .call 61, [.t 28, .t 29], none⟩,
 .one ⟨some 6, .w (.new [.string ByteArray.empty]), [], none⟩,
 .one ⟨none, .w (.store 1), [.t 6, .t 30], none⟩])
 (.seq (.seq (.region [.one ⟨some 31, .p .move, [.t 1], none⟩,
 .one ⟨some 32, .p .lenStr, [.t 31], none⟩,
 .one ⟨some 33, .p (.bin .gtr), [.t 32, .c (.int .i64 1000)], none⟩,
 .one ⟨some 34, .p .move, [.t 33], none⟩,
 .grp 34 false [⟨some 35, .r .load1, [.t 6], none⟩, ⟨some 36, .p .lenStr, [.t 35], none⟩, ⟨some 37, .p (.bin .gtr), [.t 36, .c (.int .i64 1000)], none⟩],
 .one ⟨some 38, .p .pick, [.t 34, .c (.bool true), .t 37], none⟩])
 (.cond (.t 38)
 (.seq (.region [.one ⟨none, .w (.store 1), [.t 4, .c (.int .i64 0)], none⟩,
 .one ⟨none, .w (.store 1), [.t 5, .c (.int .i64 2)], none⟩])
 .ret)
 .skip))
 (.seq (.region [.one ⟨some 39, .p (.mkFunc (.func 62) 0), [.t 2, .t 4, .t 5], none⟩,
 .one ⟨some 80, .p .push, [.t 80, .t 39], none⟩])
 (.seq (.region [.one ⟨some 40, .p (.mkFunc (.func 63) 0), [.t 2], none⟩,
 .one ⟨some 7, .p .move, [.t 40], none⟩])
 (.seq (.region [.one ⟨some 41, .p .move, [.t 7], none⟩,
 .one ⟨some 42, .p (.mkFunc (.func 64) 0), [.t 2], none⟩,
 .one ⟨some 43, .r .load1, [.t 2], none⟩,
 .one ⟨some 44, .p (.mkFunc (.func 65) 1), [.t 43], none⟩,
 .one ⟨some 45, .p (.build [.nilFunc, .nilFunc, .nilFunc, .int .i64 0] [(0, 1), (1, 1), (2, 1)]), [.t 41, .t 42, .t 44], none⟩,
 .one ⟨some 8, .w (.new [.nilFunc, .nilFunc, .nilFunc, .int .i64 0]), [], none⟩,
 .one ⟨none, .w (.store 4), [.t 8, .t 45], none⟩])
 (.seq (.region [.one ⟨some 46, .r .load1, [.t 2], none⟩,
 .one ⟨some 47, .r .load1, [.t 2], none⟩,
 .one ⟨some 48, .p (.mkFunc (.func 67) 0), [.t 2, .t 8, .t 6], none⟩,
 .one ⟨some 49, .p (.mkFunc (.func 69) 0), [.t 2], none⟩,
 .one ⟨some 50, .call 66, [.t 47, .t 48, .t 49], none⟩,
 .one ⟨none, .r .same1, [.t 46, .t 2], none⟩,
 .one ⟨some 51, .p .nilCheck, [.t 46], none⟩,
 .one ⟨some 52, .p (.fieldAddr 3), [.t 51], none⟩,
 .one ⟨none, .w (.store 1), [.t 52, .t 50], none⟩])
 (.seq (.block 0 (.loop (.seq (.seq (.region [.one ⟨some 53, .r .load1, [.t 2], none⟩,
 .one ⟨some 54, .p .nilCheck, [.t 53], none⟩,
 .one ⟨some 55, .p (.fieldAddr 10), [.t 54], none⟩,
 .one ⟨some 56, .r .load1, [.t 55], none⟩,
 .one ⟨some 57, .p .lenSl, [.t 56], none⟩,
 .one ⟨some 58, .p (.bin .gtr), [.t 57, .c (.int .i64 0)], none⟩])
 (.cond (.t 58)
 .skip
 (.exit 0)))
 (.block 1 (.seq (.region [.one ⟨some 59, .r .load1, [.t 2], none⟩,
 .one ⟨some 60, .p .nilCheck, [.t 59], none⟩,
 .one ⟨some 61, .p (.fieldAddr 10), [.t 60], none⟩,
 .one ⟨some 62, .r .load1, [.t 61], none⟩,
 .one ⟨some 63, .p (.indexAddr 2), [.t 62, .c (.int .i64 0)], none⟩,
 .one ⟨some 64, .r (.loadN 2), [.t 63], none⟩,
 .one ⟨some 9, .w (.new [.string ByteArray.empty, .int .i64 0]), [], none⟩,
 .one ⟨none, .w (.store 2), [.t 9, .t 64], none⟩])
 (.seq (.region [.one ⟨some 65, .r .load1, [.t 2], none⟩,
 .one ⟨some 66, .r .load1, [.t 2], none⟩,
 .one ⟨some 67, .p .nilCheck, [.t 66], none⟩,
 .one ⟨some 68, .p (.fieldAddr 10), [.t 67], none⟩,
 .one ⟨some 69, .r .load1, [.t 68], none⟩,
 .one ⟨some 70, .r (.sl 2 true false), [.t 69, .c (.int .i64 1)], none⟩,
 .one ⟨some 71, .p .nilCheck, [.t 65], none⟩,
 .one ⟨some 72, .p (.fieldAddr 10), [.t 71], none⟩,
 .one ⟨none, .w (.store 1), [.t 72, .t 70], none⟩])
 (.region [.one ⟨some 73, .r .load1, [.t 2], none⟩,
 .one ⟨some 74, .r (.loadN 2), [.t 9], none⟩,
 .one ⟨some 75, .call 70, [.t 73, .t 74], none⟩])))))))
 (.seq (.region [.one ⟨some 76, .r .load1, [.t 2], none⟩,
 .one ⟨some 77, .p .nilCheck, [.t 76], none⟩,
 .one ⟨some 78, .p (.fieldAddr 3), [.t 77], none⟩,
 .one ⟨some 79, .r .load1, [.t 78], none⟩,
 .one ⟨none, .w (.store 1), [.t 4, .t 79], none⟩,
 .one ⟨none, .w (.store 1), [.t 5, .c (.int .i64 0)], none⟩])
 .ret)))))))))))),
 [(4, 1), (5, 1)]⟩

theorem g37_ok : compFn Tryz.prog 37 = some (fromGFn g37) := by kernel_rfl

def g38 : GFn := ⟨10,
 .seq (.region [.one ⟨some 2, .p .move, [.c (.string ByteArray.empty)], none⟩])
 (.seq (.seq (.region [.one ⟨some 3, .p .move, [.t 0], none⟩,
 .one ⟨some 4, .p (.nilEq .ptr false), [.t 3, .c (.pointer none)], none⟩])
 (.cond (.t 4)
 (.seq (.region [.one ⟨some 2, .p .move, [.c (.string ByteArray.empty)], none⟩])
 .ret)
 .skip))
 (.seq (.region [.one ⟨some 5, .p .move, [.t 0], none⟩,
 .one ⟨some 6, .p .nilCheck, [.t 5], none⟩,
 .one ⟨some 7, .p (.fieldAddr 2), [.t 6], none⟩,
 .one ⟨some 8, .r .load1, [.t 7], none⟩,
 .one ⟨some 9, .r .bytesToStr, [.t 8], none⟩,
 .one ⟨some 2, .p .move, [.t 9], none⟩])
 .ret)),
 [(2, 0)]⟩

theorem g38_ok : compFn Tryz.prog 38 = some (fromGFn g38) := by kernel_rfl

def g39 : GFn := ⟨28,
 .seq (.region [.one ⟨some 2, .p .move, [.c (.slice none 0 0)], none⟩])
 (.seq (.seq (.region [.one ⟨some 6, .p .move, [.t 0], none⟩,
 .one ⟨some 7, .p (.nilEq .ptr false), [.t 6, .c (.pointer none)], none⟩])
 (.cond (.t 7)
 (.seq (.region [.one ⟨some 2, .p .move, [.c (.slice none 0 0)], none⟩])
 .ret)
 .skip))
 (.seq (.region [.one ⟨some 3, .p .move, [.c (.slice none 0 0)], none⟩])
 (.seq (.seq (.region [.one ⟨some 8, .p .move, [.t 0], none⟩,
 .one ⟨some 9, .p .nilCheck, [.t 8], none⟩,
 .one ⟨some 10, .p (.fieldAddr 0), [.t 9], none⟩,
 .one ⟨some 11, .r .load1, [.t 10], none⟩,
 .one ⟨some 12, .w (.range false), [.t 11], none⟩])
 (.block 0 (.loop (.seq (.region [.one ⟨some 13, .next false, [.t 12], none⟩,
 .one ⟨some 14, .p (.extract 0), [.t 13], none⟩])
 (.seq (.cond (.t 14)
 .skip
 (.exit 0))
 (.block 1 (.seq (.region [.one ⟨some 15, .r .entry, [.t 12], none⟩,
 .one ⟨some 16, .p (.extract 0), [.t 15], none⟩,
 .one ⟨some 17, .p (.extract 1), [.t 15], none⟩,
 .one ⟨some 4, .p .move, [.t 16], none⟩,
 .one ⟨some 5, .p .move, [.t 17], none⟩])
 (.region [.one ⟨some 18, .p .move, [.t 3], none⟩,
 .one ⟨some 19, .p .move, [.t 4], none⟩,
 .one ⟨some 20, .p .move, [.t 5], none⟩,
 .one ⟨some 21, .call 71, [.t 20], none⟩,
 .one ⟨some 22, .p (.build [.string ByteArray.empty, .slice none 0 0] [(0, 1), (1, 1)]), [.t 19, .t 21], none⟩,
 .one ⟨some 23, .w (.sliceLit [.string ByteArray.empty, .slice none 0 0] 1 [(0, 2)]), [.t 22], none⟩,
 .one ⟨some 24, .w (.append 2 40), [.t 18, .t 23], none⟩,
 .one ⟨some 3, .p .move, [.t 24], none⟩]))))))))
 (.seq (.region [.one ⟨some 25, .p .move, [.t 3], none⟩,
 .one ⟨some 26, .call 72, [.t 25, .c (.func (.func 73) #[] #[])], none⟩])
 (.seq (.region [.one ⟨some 27, .p .move, [.t 3], none⟩,
 .one ⟨some 2, .p .move, [.t 27], none⟩])
 .ret))))),
 [(2, 0)]⟩

theorem g39_ok : compFn Tryz.prog 39 = some (fromGFn g39) := by kernel_rfl

def g40 : GFn := ⟨9,
 .seq (.region [.one ⟨some 2, .p .move, [.c (.int .i64 0)], none⟩])
 (.seq (.seq (.region [.one ⟨some 3, .p .move, [.t 0], none⟩,
 .one ⟨some 4, .p (.nilEq .ptr false), [.t 3, .c (.pointer none)], none⟩])
 (.cond (.t 4)
 (.seq (.region [.one ⟨some 2, .p .move, [.c (.int .i64 0)], none⟩])
 .ret)
 .skip))
 (.seq (.region [.one ⟨some 5, .p .move, [.t 0], none⟩,
 .one ⟨some 6, .p .nilCheck, [.t 5], none⟩,
 .one ⟨some 7, .p (.fieldAddr 3), [.t 6], none⟩,
 .one ⟨some 8, .r .load1, [.t 7], none⟩,
 .one ⟨some 2, .p .move, [.t 8], none⟩])
 .ret)),
 [(2, 0)]⟩

theorem g40_ok : compFn Tryz.prog 40 = some (fromGFn g40) := by kernel_rfl

def g48 : GFn := ⟨23,
 .seq (.region [.one ⟨some 2, .p .move, [.c (.int .i64 0)], none⟩])
 (.seq (.seq (.region [.one ⟨some 4, .p .move, [.t 0], none⟩,
 .one ⟨some 5, .p .lenStr, [.t 4], none⟩,
 .one ⟨some 6, .p (.bin .gtr), [.t 5, .c (.int .i64 1000)], none⟩])
 (.cond (.t 6)
 (.seq (.region [.one ⟨some 2, .p .move, [.c (.int .i64 2)], none⟩])
 .ret)
 .skip))
 (.seq (.seq (.region [.one ⟨some 7, .p .move, [.t 0], none⟩,
 .one ⟨some 8, .p .lenStr, [.t 7], none⟩,
 .one ⟨some 9, .p .move, [.c (.int .i64 0)], none⟩])
 (.block 0 (.loop (.seq (.region [.one ⟨some 10, .p (.bin .lss), [.t 9, .t 8], none⟩])
 (.seq (.cond (.t 10)
 .skip
 (.exit 0))
 (.seq (.block 1 (.seq (.region [.one ⟨some 11, .p .move, [.t 9], none⟩,
 .one ⟨some 3, .p .move, [.t 11], none⟩])
 (.seq (.region [.one ⟨some 12, .p .move, [.t 0], none⟩,
 .one ⟨some 13, .p .move, [.t 3], none⟩,
 .one ⟨some 14, .p .indexStr, [.t 12, .t 13], none⟩,
 .one ⟨some 15, .p (.bin .lss), [.t 14, .c (.int .u8 32)], none⟩,
 .one ⟨some 16, .p .move, [.t 15], none⟩,
 .grp 16 false [⟨some 17, .p .move, [.t 0], none⟩, ⟨some 18, .p .move, [.t 3], none⟩, ⟨some 19, .p .indexStr, [.t 17, .t 18], none⟩, ⟨some 20, .p (.bin .gtr), [.t 19, .c (.int .u8 126)], none⟩],
 .one ⟨some 21, .p .pick, [.t 16, .c (.bool true), .t 20], none⟩])
 (.cond (.t 21)
 (.seq (.region [.one ⟨some 2, .p .move, [.c (.int .i64 250)], none⟩])
 .ret)
 .skip))))
 (.region [.one ⟨some 22, .p (.bin .add), [.t 9, .c (.int .i64 1)], none⟩,
 .one ⟨some 9, .p .move, [.t 22], none⟩])))))))
 (.seq (.region [.one ⟨some 2, .p .move, [.c (.int .i64 0)], none⟩])
 .ret))),
 [(2, 0)]⟩

theorem g48_ok : compFn Tryz.prog 48 = some (fromGFn g48) := by kernel_rfl

def g53 : GFn := ⟨13,
 .seq (.region [.one ⟨some 4, .p .move, [.c (.string ByteArray.empty)], none⟩,
 .one ⟨some 5, .p .move, [.c (.string ByteArray.empty)], none⟩,
 .one ⟨some 6, .p .move, [.c (.bool false)], none⟩])
 (.seq (.region [.one ⟨some 7, .p .move, [.t 0], none⟩,
 .one ⟨some 8, .p .move, [.t 1], none⟩,
 .one ⟨some 9, .call 83, [.t 7, .t 8], none⟩,
 .one ⟨some 10, .p (.extract 0), [.t 9], none⟩,
 .one ⟨some 11, .p (.extract 1), [.t 9], none⟩,
 .one ⟨some 12, .p (.extract 2), [.t 9], none⟩,
 .one ⟨some 4, .p .move, [.t 10], none⟩,
 .one ⟨some 5, .p .move, [.t 11], none⟩,
 .one ⟨some 6, .p .move, [.t 12], none⟩])
 .ret),
 [(4, 0), (5, 0), (6, 0)]⟩

theorem g53_ok : compFn Tryz.prog 53 = some (fromGFn g53) := by kernel_rfl

def g54 : GFn := ⟨17,
 .seq (.region [.one ⟨some 3, .w (.box 1), [.t 1], none⟩,
 .one ⟨some 4, .w (.new [.string ByteArray.empty, .slice none 0 0, .bool false]), [], none⟩,
 .one ⟨some 5, .p .move, [.c (.bool false)], none⟩])
 (.seq (.region [.one ⟨some 7, .p .move, [.t 0], none⟩,
 .one ⟨some 8, .p (.mkFunc (.func 85) 0), [.t 3], none⟩,
 .one ⟨some 9, .call 84, [.t 7, .t 8], none⟩,
 .one ⟨some 6, .p .move, [.t 9], none⟩])
 (.seq (.seq (.region [.one ⟨some 10, .p .move, [.t 6], none⟩,
 .one ⟨some 11, .p (.bin .lss), [.t 10, .c (.int .i64 0)], none⟩])
 (.cond (.t 11)
 (.seq (.region [.one ⟨some 12, .p (.build [.string ByteArray.empty, .slice none 0 0, .bool false] []), [], none⟩,
 .one ⟨none, .w (.store 3), [.t 4, .t 12], none⟩,
 .one ⟨some 5, .p .move, [.c (.bool false)], none⟩])
 .ret)
 .skip))
 (.seq (.region [.one ⟨some 13, .p .move, [.t 0], none⟩,
 .one ⟨some 14, .p .move, [.t 6], none⟩,
 .one ⟨some 15, .p (.indexAddr 3), [.t 13, .t 14], none⟩,
 .one ⟨some 16, .r (.loadN 3), [.t 15], none⟩,
 .one ⟨none, .w (.store 3), [.t 4, .t 16], none⟩,
 .one ⟨some 5, .p .move, [.c (.bool true)], none⟩])
 .ret))),
 [(4, 5), (5, 0)]⟩

theorem g54_ok : compFn Tryz.prog 54 = some (fromGFn g54) := by kernel_rfl

def g55 : GFn := ⟨23,
 .seq (.region [.one ⟨some 2, .p .move, [.t 0], none⟩,
 .one ⟨some 3, .p .nilCheck, [.t 2], none⟩,
 .one ⟨some 4, .p (.fieldAddr 0), [.t 3], none⟩,
 .one ⟨some 5, .r .load1, [.t 4], none⟩,
 .one ⟨some 6, .p (.nilEq .map false), [.t 5, .c (.map none)], none⟩])
 (.cond (.t 6)
 (.region [.one ⟨some 7, .p .move, [.t 0], none⟩,
 .one ⟨some 8, .p .move, [.t 0], none⟩,
 .one ⟨some 9, .p .move, [.t 0], none⟩,
 .one ⟨some 10, .p .move, [.t 0], none⟩,
 .one ⟨some 11, .w .mkMap, [], none⟩,
 .one ⟨some 12, .w .mkMap, [], none⟩,
 .one ⟨some 13, .w .mkMap, [], none⟩,
 .one ⟨some 14, .w .mkMap, [], none⟩,
 .one ⟨some 15, .p .nilCheck, [.t 7], none⟩,
 .one ⟨some 16, .p (.fieldAddr 0), [.t 15], none⟩,
 .one ⟨none, .w (.store 1), [.t 16, .t 11], none⟩,
 .one ⟨some 17, .p .nilCheck, [.t 8], none⟩,
 .one ⟨some 18, .p (.fieldAddr 1), [.t 17], none⟩,
 .one ⟨none, .w (.store 1), [.t 18, .t 12], none⟩,
 .one ⟨some 19, .p .nilCheck, [.t 9], none⟩,
 .one ⟨some 20, .p (.fieldAddr 2), [.t 19], none⟩,
 .one ⟨none, .w (.store 1), [.t 20, .t 13], none⟩,
 .one ⟨some 21, .p .nilCheck, [.t 10], none⟩,
 .one ⟨some 22, .p (.fieldAddr 3), [.t 21], none⟩,
 .one ⟨none, .w (.store 1), [.t 22, .t 14], none⟩])
 .skip),
 []⟩

theorem g55_ok : compFn Tryz.prog 55 = some (fromGFn g55) := by kernel_rfl

def g56 : GFn := ⟨65,
 .seq (.region [.one ⟨some 4, .p .move, [.c (.string ByteArray.empty)], none⟩,
 .one ⟨some 5, .p .move, [.c (.int .i64 0)], none⟩])
 (.seq (.seq (.region [.one ⟨some 11, .p .move, [.t 0], none⟩,
 .one ⟨some 12, .p (.nilEq .ptr false), [.t 11, .c (.pointer none)], none⟩])
 (.cond (.t 12)
 (.seq (.region [.one ⟨some 4, .p .move, [.c (.string ByteArray.empty)], none⟩,
 .one ⟨some 5, .p .move, [.c (.int .i64 3)], none⟩])
 .ret)
 .skip))
 (.seq (.region [.one ⟨some 14, .p .move, [.t 1], none⟩,
 .one ⟨some 15, .call 86, [.t 14], none⟩,
 .one ⟨some 13, .p .move, [.t 15], none⟩,
 .one ⟨some 16, .p (.extract 0), [.t 13], none⟩,
 .one ⟨some 17, .p (.extract 1), [.t 13], none⟩,
 .one ⟨some 6, .p .move, [.t 16], none⟩,
 .one ⟨some 7, .p .move, [.t 17], none⟩])
 (.seq (.seq (.region [.one ⟨some 8, .p .move, [.c (.int .i64 0)], none⟩])
 (.block 0 (.loop (.seq (.seq (.region [.one ⟨some 18, .p .move, [.t 6], none⟩,
 .one ⟨some 19, .call 87, [.t 18], none⟩,
 .one ⟨some 20, .p (.un .not), [.t 19], none⟩])
 (.cond (.t 20)
 .skip
 (.exit 0)))
 (.seq (.block 1 (.seq (.seq (.region [.one ⟨some 23, .p .move, [.t 6], none⟩,
 .one ⟨some 24, .call 88, [.t 23], none⟩,
 .one ⟨some 25, .p (.un .not), [.t 24], none⟩,
 .one ⟨some 26, .p .move, [.t 25], none⟩,
 .grp 26 false [⟨some 27, .p .move, [.t 7], none⟩, ⟨some 28, .p (.bin .neq), [.t 27, .c (.string ByteArray.empty)], none⟩, ⟨some 29, .p .move, [.t 28], none⟩],
 .grp 29 true [⟨some 30, .p .move, [.t 7], none⟩, ⟨some 31, .call 89, [.c (.string ⟨#[114, 97, 109]⟩), .t 30], none⟩, ⟨some 32, .p (.un .not), [.t 31], none⟩],
 .grp 26 false [⟨some 33, .p .pick, [.t 29, .t 32, .c (.bool false)], none⟩],
 .one ⟨some 34, .p .pick, [.t 26, .c (.bool true), .t 33], none⟩])
 (.cond (.t 34)
 (.seq (.region [.one ⟨some 4, .p .move, [.c (.string ByteArray.empty)], none⟩,
 .one ⟨some 5, .p .move, [.c (.int .i64 220)], none⟩])
 .ret)
 .skip))
 (.seq (.region [.one ⟨some 36, .p .move, [.t 0], none⟩,
 .one ⟨some 37, .p .nilCheck, [.t 36], none⟩,
 .one ⟨some 38, .p (.fieldAddr 2), [.t 37], none⟩,
 .one ⟨some 39, .r .load1, [.t 38], none⟩,
 .one ⟨some 40, .p .move, [.t 6], none⟩,
 .one ⟨some 41, .r (.lookup .str (.string ByteArray.empty) true), [.t 39, .t 40], none⟩,
 .one ⟨some 35, .p .move, [.t 41], none⟩,
 .one ⟨some 42, .p (.extract 0), [.t 35], none⟩,
 .one ⟨some 43, .p (.extract 1), [.t 35], none⟩,
 .one ⟨some 9, .p .move, [.t 42], none⟩,
 .one ⟨some 10, .p .move, [.t 43], none⟩])
 (.seq (.block 2 (.seq (.region [.one ⟨some 45, .p .move, [.t 8], none⟩,
 .one ⟨some 46, .p (.bin .eql), [.t 45, .c (.int .i64 10)], none⟩,
 .one ⟨some 44, .p .move, [.t 46], none⟩])
 (.cond (.t 44)
 (.seq (.region [.one ⟨some 4, .p .move, [.c (.string ByteArray.empty)], none⟩,
 .one ⟨some 5, .p .move, [.c (.int .i64 241)], none⟩])
 .ret)
 (.seq (.region [.one ⟨some 48, .p .move, [.t 10], none⟩,
 .one ⟨some 49, .p (.un .not), [.t 48], none⟩,
 .one ⟨some 47, .p .move, [.t 49], none⟩])
 (.cond (.t 47)
 (.seq (.region [.one ⟨some 4, .p .move, [.c (.string ByteArray.empty)], none⟩,
 .one ⟨some 5, .p .move, [.c (.int .i64 4)], none⟩])
 .ret)
 .skip)))))
 (.region [.one ⟨some 51, .p .move, [.t 9], none⟩,
 .one ⟨some 52, .p .move, [.t 7], none⟩,
 .one ⟨some 53, .call 90, [.t 51, .t 52], none⟩,
 .one ⟨some 54, .call 86, [.t 53], none⟩,
 .one ⟨some 50, .p .move, [.t 54], none⟩,
 .one ⟨some 55, .p (.extract 0), [.t 50], none⟩,
 .one ⟨some 56, .p (.extract 1), [.t 50], none⟩,
 .one ⟨some 6, .p .move, [.t 55], none⟩,
 .one ⟨some 7, .p .move, [.t 56], none⟩])))))
 (.region [.one ⟨some 21, .p .move, [.t 8], none⟩,
 .one ⟨some 22, .p (.bin .add), [.t 21, .c (.int .i64 1)], none⟩,
 .one ⟨some 8, .p .move, [.t 22], none⟩]))))))
 (.seq (.seq (.region [.one ⟨some 57, .p .move, [.t 6], none⟩,
 .one ⟨some 58, .p .move, [.t 7], none⟩,
 .one ⟨some 59, .call 91, [.t 57, .t 58], none⟩,
 .one ⟨some 60, .p (.un .not), [.t 59], none⟩])
 (.cond (.t 60)
 (.seq (.region [.one ⟨some 4, .p .move, [.c (.string ByteArray.empty)], none⟩,
 .one ⟨some 5, .p .move, [.c (.int .i64 220)], none⟩])
 .ret)
 .skip))
 (.seq (.region [.one ⟨some 61, .p .move, [.t 6], none⟩,
 .one ⟨some 62, .p (.bin .add), [.t 61, .c (.string ⟨#[58]⟩)], none⟩,
 .one ⟨some 63, .p .move, [.t 7], none⟩,
 .one ⟨some 64, .p (.bin .add), [.t 62, .t 63], none⟩,
 .one ⟨some 4, .p .move, [.t 64], none⟩,
 .one ⟨some 5, .p .move, [.c (.int .i64 0)], none⟩])
 .ret))))),
 [(4, 0), (5, 0)]⟩

theorem g56_ok : compFn Tryz.prog 56 = some (fromGFn g56) := by kernel_rfl

def g57 : GFn := ⟨8,
 .seq (.region [.one ⟨some 4, .p .move, [.c (.bool false)], none⟩])
 (.seq (.region [.one ⟨some 5, .p .move, [.t 0], none⟩,
 .one ⟨some 6, .p .move, [.t 1], none⟩,
 .one ⟨some 7, .call 92, [.t 5, .t 6], none⟩,
 .one ⟨some 4, .p .move, [.t 7], none⟩])
 .ret),
 [(4, 0)]⟩

theorem g57_ok : compFn Tryz.prog 57 = some (fromGFn g57) := by kernel_rfl

def g59 : GFn := ⟨73,
 .seq (.region [.one ⟨some 6, .p .move, [.c .nilIface], none⟩,
 .one ⟨some 7, .p .move, [.c (.int .i64 0)], none⟩])
 (.seq (.region [.one ⟨some 13, .p .move, [.t 1], none⟩,
 .one ⟨some 14, .call 86, [.t 13], none⟩,
 .one ⟨some 12, .p .move, [.t 14], none⟩,
 .one ⟨some 15, .p (.extract 0), [.t 12], none⟩,
 .one ⟨some 16, .p (.extract 1), [.t 12], none⟩,
 .one ⟨some 8, .p .move, [.t 15], none⟩,
 .one ⟨some 9, .p .move, [.t 16], none⟩])
 (.seq (.seq (.region [.one ⟨some 17, .p .move, [.t 8], none⟩])
 (.block 0 (.seq (.region [.one ⟨some 19, .p (.bin .eql), [.t 17, .c (.string ⟨#[110, 105, 108]⟩)], none⟩,
 .one ⟨some 18, .p .move, [.t 19], none⟩])
 (.cond (.t 18)
 (.seq (.region [.one ⟨some 20, .p .move, [.t 2], none⟩,
 .one ⟨some 21, .p (.bin .eql), [.t 20, .c (.int .i64 0)], none⟩,
 .one ⟨some 22, .p (.build [.bool false] [(0, 1)]), [.t 21], none⟩,
 .one ⟨some 23, .p (.mkIface 125), [.t 22], none⟩,
 .one ⟨some 6, .p .move, [.t 23], none⟩,
 .one ⟨some 7, .p .move, [.c (.int .i64 0)], none⟩])
 .ret)
 (.seq (.region [.one ⟨some 25, .p (.bin .eql), [.t 17, .c (.string ⟨#[112, 105, 112, 101]⟩)], none⟩,
 .one ⟨some 24, .p .move, [.t 25], none⟩])
 (.cond (.t 24)
 (.seq (.region [.one ⟨some 26, .p .move, [.t 0], none⟩,
 .one ⟨some 27, .p .move, [.t 9], none⟩,
 .one ⟨some 28, .p .move, [.t 2], none⟩,
 .one ⟨some 29, .p (.bin .eql), [.t 28, .c (.int .i64 0)], none⟩,
 .one ⟨some 30, .call 94, [.t 26, .t 27, .t 29], none⟩,
 .one ⟨some 31, .p (.extract 0), [.t 30], none⟩,
 .one ⟨some 32, .p (.extract 1), [.t 30], none⟩,
 .one ⟨some 6, .p .move, [.t 31], none⟩,
 .one ⟨some 7, .p .move, [.t 32], none⟩])
 .ret)
 .skip))))))
 (.seq (.region [.one ⟨some 34, .p .move, [.t 0], none⟩,
 .one ⟨some 35, .p .nilCheck, [.t 34], none⟩,
 .one ⟨some 36, .p (.fieldAddr 0), [.t 35], none⟩,
 .one ⟨some 37, .r .load1, [.t 36], none⟩,
 .one ⟨some 38, .p .move, [.t 9], none⟩,
 .one ⟨some 39, .r (.lookup .str (.slice none 0 0) true), [.t 37, .t 38], none⟩,
 .one ⟨some 33, .p .move, [.t 39], none⟩,
 .one ⟨some 40, .p (.extract 0), [.t 33], none⟩,
 .one ⟨some 41, .p (.extract 1), [.t 33], none⟩,
 .one ⟨some 10, .p .move, [.t 40], none⟩,
 .one ⟨some 11, .p .move, [.t 41], none⟩])
 (.seq (.block 1 (.seq (.region [.one ⟨some 43, .p .move, [.t 2], none⟩,
 .one ⟨some 44, .p (.bin .eql), [.t 43, .c (.int .i64 0)], none⟩,
 .one ⟨some 45, .p .move, [.t 44], none⟩,
 .grp 45 true [⟨some 46, .p .move, [.t 11], none⟩, ⟨some 47, .p (.un .not), [.t 46], none⟩],
 .one ⟨some 48, .p .pick, [.t 45, .t 47, .c (.bool false)], none⟩,
 .one ⟨some 42, .p .move, [.t 48], none⟩])
 (.cond (.t 42)
 (.seq (.region [.one ⟨some 6, .p .move, [.c .nilIface], none⟩,
 .one ⟨some 7, .p .move, [.c (.int .i64 4)], none⟩])
 .ret)
 (.seq (.region [.one ⟨some 50, .p .move, [.t 2], none⟩,
 .one ⟨some 51, .p (.bin .eql), [.t 50, .c (.int .i64 0)], none⟩,
 .one ⟨some 49, .p .move, [.t 51], none⟩])
 (.cond (.t 49)
 (.seq (.region [.one ⟨some 52, .p .move, [.t 9], none⟩,
 .one ⟨some 53, .p .move, [.t 10], none⟩,
 .one ⟨some 54, .call 95, [.t 53], none⟩,
 .one ⟨some 55, .p (.build [.slice none 0 0, .int .i64 0] [(0, 1), (1, 1)]), [.t 54, .c (.int .i64 20000)], none⟩,
 .one ⟨some 56, .p (.build [.string ByteArray.empty, .slice none 0 0, .int .i64 0] [(0, 1), (1, 2)]), [.t 52, .t 55], none⟩,
 .one ⟨some 57, .w (.box 3), [.t 56], none⟩,
 .one ⟨some 58, .p (.mkIface 167), [.t 57], none⟩,
 .one ⟨some 6, .p .move, [.t 58], none⟩,
 .one ⟨some 7, .p .move, [.c (.int .i64 0)], none⟩])
 .ret)
 (.seq (.region [.one ⟨some 60, .p .move, [.t 0], none⟩,
 .one ⟨some 61, .p .move, [.t 9], none⟩,
 .one ⟨some 62, .call 93, [.t 60, .t 61], none⟩,
 .one ⟨some 59, .p .move, [.t 62], none⟩])
 (.cond (.t 59)
 (.seq (.region [.one ⟨some 6, .p .move, [.c .nilIface], none⟩,
 .one ⟨some 7, .p .move, [.c (.int .i64 222)], none⟩])
 .ret)
 (.seq (.region [.one ⟨some 64, .p .move, [.t 2], none⟩,
 .one ⟨some 65, .p (.bin .eql), [.t 64, .c (.int .i64 1)], none⟩,
 .one ⟨some 63, .p .move, [.t 65], none⟩])
 (.cond (.t 63)
 (.region [.one ⟨some 10, .p .move, [.c (.slice none 0 0)], none⟩])
 .skip)))))))))
 (.seq (.region [.one ⟨some 66, .p .move, [.t 9], none⟩,
 .one ⟨some 67, .p .move, [.t 10], none⟩,
 .one ⟨some 68, .call 95, [.t 67], none⟩,
 .one ⟨some 69, .p (.build [.slice none 0 0, .int .i64 0] [(0, 1), (1, 1)]), [.t 68, .c (.int .i64 20000)], none⟩,
 .one ⟨some 70, .p (.build [.string ByteArray.empty, .slice none 0 0, .int .i64 0] [(0, 1), (1, 2)]), [.t 66, .t 69], none⟩,
 .one ⟨some 71, .w (.box 3), [.t 70], none⟩,
 .one ⟨some 72, .p (.mkIface 117), [.t 71], none⟩,
 .one ⟨some 6, .p .move, [.t 72], none⟩,
 .one ⟨some 7, .p .move, [.c (.int .i64 0)], none⟩])
 .ret))))),
 [(6, 0), (7, 0)]⟩

theorem g59_ok : compFn Tryz.prog 59 = some (fromGFn g59) := by kernel_rfl

def g60 : GFn := ⟨31,
 .seq (.region [.one ⟨some 4, .p .move, [.c (.int .i64 0)], none⟩])
 (.seq (.region [.one ⟨some 6, .p .move, [.t 1], none⟩,
 .one ⟨some 7, .p .lenSl, [.t 6], none⟩,
 .one ⟨some 8, .p .move, [.t 0], none⟩,
 .one ⟨some 9, .p .nilCheck, [.t 8], none⟩,
 .one ⟨some 10, .p (.fieldAddr 1), [.t 9], none⟩,
 .one ⟨some 11, .r .load1, [.t 10], none⟩,
 .one ⟨some 12, .p .move, [.t 0], none⟩,
 .one ⟨some 13, .p .nilCheck, [.t 12], none⟩,
 .one ⟨some 14, .p (.fieldAddr 0), [.t 13], none⟩,
 .one ⟨some 15, .r .load1, [.t 14], none⟩,
 .one ⟨some 16, .p .lenSl, [.t 15], none⟩,
 .one ⟨some 17, .p (.bin .sub), [.t 11, .t 16], none⟩,
 .one ⟨some 18, .p .min, [.t 7, .t 17], none⟩,
 .one ⟨some 5, .p .move, [.t 18], none⟩])
 (.seq (.region [.one ⟨some 19, .p .move, [.t 0], none⟩,
 .one ⟨some 20, .p .move, [.t 0], none⟩,
 .one ⟨some 21, .p .nilCheck, [.t 20], none⟩,
 .one ⟨some 22, .p (.fieldAddr 0), [.t 21], none⟩,
 .one ⟨some 23, .r .load1, [.t 22], none⟩,
 .one ⟨some 24, .p .move, [.t 1], none⟩,
 .one ⟨some 25, .p .move, [.t 5], none⟩,
 .one ⟨some 26, .r (.sl 1 false true), [.t 24, .t 25], none⟩,
 .one ⟨some 27, .w (.append 1 1), [.t 23, .t 26], none⟩,
 .one ⟨some 28, .p .nilCheck, [.t 19], none⟩,
 .one ⟨some 29, .p (.fieldAddr 0), [.t 28], none⟩,
 .one ⟨none, .w (.store 1), [.t 29, .t 27], none⟩])
 (.seq (.region [.one ⟨some 30, .p .move, [.t 5], none⟩,
 .one ⟨some 4, .p .move, [.t 30], none⟩])
 .ret))),
 [(4, 0)]⟩

theorem g60_ok : compFn Tryz.prog 60 = some (fromGFn g60) := by kernel_rfl

def g61 : GFn := ⟨70,
 .seq (.region [.one ⟨some 4, .p .move, [.c (.string ByteArray.empty)], none⟩])
 (.seq (.region [.one ⟨some 5, .w (.new [.pointer none, .slice none 0 0]), [], none⟩])
 (.seq (.seq (.region [.one ⟨some 6, .p .move, [.c (.int .i64 0)], none⟩])
 (.block 0 (.loop (.seq (.seq (.region [.one ⟨some 8, .p .move, [.t 6], none⟩,
 .one ⟨some 9, .p .move, [.t 1], none⟩,
 .one ⟨some 10, .p .lenStr, [.t 9], none⟩,
 .one ⟨some 11, .p (.bin .lss), [.t 8, .t 10], none⟩])
 (.cond (.t 11)
 .skip
 (.exit 0)))
 (.seq (.block 1 (.seq (.seq (.region [.one ⟨some 14, .p .move, [.t 1], none⟩,
 .one ⟨some 15, .p .move, [.t 6], none⟩,
 .one ⟨some 16, .p .indexStr, [.t 14, .t 15], none⟩,
 .one ⟨some 17, .p (.bin .neq), [.t 16, .c (.int .u8 36)], none⟩])
 (.cond (.t 17)
 (.seq (.region [.one ⟨some 18, .p .move, [.t 1], none⟩,
 .one ⟨some 19, .p .move, [.t 6], none⟩,
 .one ⟨some 20, .p .indexStr, [.t 18, .t 19], none⟩,
 .one ⟨some 21, .call 96, [.t 5, .t 20], none⟩])
 (.exit 1))
 .skip))
 (.seq (.region [.one ⟨some 22, .p .move, [.t 6], none⟩,
 .one ⟨some 23, .p (.bin .add), [.t 22, .c (.int .i64 1)], none⟩,
 .one ⟨some 7, .p .move, [.t 23], none⟩])
 (.seq (.block 2 (.loop (.seq (.seq (.region [.one ⟨some 24, .p .move, [.t 7], none⟩,
 .one ⟨some 25, .p .move, [.t 1], none⟩,
 .one ⟨some 26, .p .lenStr, [.t 25], none⟩,
 .one ⟨some 27, .p (.bin .lss), [.t 24, .t 26], none⟩,
 .one ⟨some 28, .p .move, [.t 27], none⟩,
 .grp 28 true [⟨some 29, .p .move, [.t 1], none⟩, ⟨some 30, .p .move, [.t 7], none⟩, ⟨some 31, .p .indexStr, [.t 29, .t 30], none⟩, ⟨some 32, .call 97, [.t 31], none⟩],
 .one ⟨some 33, .p .pick, [.t 28, .t 32, .c (.bool false)], none⟩])
 (.cond (.t 33)
 .skip
 (.exit 2)))
 (.block 3 (.region [.one ⟨some 34, .p .move, [.t 7], none⟩,
 .one ⟨some 35, .p (.bin .add), [.t 34, .c (.int .i64 1)], none⟩,
 .one ⟨some 7, .p .move, [.t 35], none⟩])))))
 (.block 4 (.seq (.region [.one ⟨some 38, .p .move, [.t 7], none⟩,
 .one ⟨some 39, .p .move, [.t 6], none⟩,
 .one ⟨some 40, .p (.bin .add), [.t 39, .c (.int .i64 1)], none⟩,
 .one ⟨some 41, .p (.bin .gtr), [.t 38, .t 40], none⟩,
 .one ⟨some 37, .p .move, [.t 41], none⟩])
 (.cond (.t 37)
 (.seq (.region [.one ⟨some 42, .p .move, [.t 0], none⟩,
 .one ⟨some 43, .p .nilCheck, [.t 42], none⟩,
 .one ⟨some 44, .p (.fieldAddr 5), [.t 43], none⟩,
 .one ⟨some 45, .r .load1, [.t 44], none⟩,
 .one ⟨some 46, .p .move, [.t 1], none⟩,
 .one ⟨some 47, .p .move, [.t 6], none⟩,
 .one ⟨some 48, .p (.bin .add), [.t 47, .c (.int .i64 1)], none⟩,
 .one ⟨some 49, .p .move, [.t 7], none⟩,
 .one ⟨some 50, .p (.slStr true true), [.t 46, .t 48, .t 49], none⟩,
 .one ⟨some 51, .r (.lookup .str (.string ByteArray.empty) false), [.t 45, .t 50], none⟩,
 .one ⟨some 52, .call 26, [.t 5, .t 51], none⟩])
 (.region [.one ⟨some 53, .p .move, [.t 7], none⟩,
 .one ⟨some 54, .p (.bin .sub), [.t 53, .c (.int .i64 1)], none⟩,
 .one ⟨some 6, .p .move, [.t 54], none⟩]))
 (.seq (.region [.one ⟨some 56, .p .move, [.t 7], none⟩,
 .one ⟨some 57, .p .move, [.t 1], none⟩,
 .one ⟨some 58, .p .lenStr, [.t 57], none⟩,
 .one ⟨some 59, .p (.bin .lss), [.t 56, .t 58], none⟩,
 .one ⟨some 60, .p .move, [.t 59], none⟩,
 .grp 60 true [⟨some 61, .p .move, [.t 1], none⟩, ⟨some 62, .p .move, [.t 7], none⟩, ⟨some 63, .p .indexStr, [.t 61, .t 62], none⟩, ⟨some 64, .p (.bin .eql), [.t 63, .c (.int .u8 36)], none⟩],
 .one ⟨some 65, .p .pick, [.t 60, .t 64, .c (.bool false)], none⟩,
 .one ⟨some 55, .p .move, [.t 65], none⟩])
 (.cond (.t 55)
 (.seq (.region [.one ⟨some 66, .call 96, [.t 5, .c (.int .u8 36)], none⟩])
 (.region [.one ⟨some 67, .p .move, [.t 6], none⟩,
 .one ⟨some 68, .p (.bin .add), [.t 67, .c (.int .i64 1)], none⟩,
 .one ⟨some 6, .p .move, [.t 68], none⟩]))
 (.region [.one ⟨some 36, .call 96, [.t 5, .c (.int .u8 36)], none⟩]))))))))))
 (.region [.one ⟨some 12, .p .move, [.t 6], none⟩,
 .one ⟨some 13, .p (.bin .add), [.t 12, .c (.int .i64 1)], none⟩,
 .one ⟨some 6, .p .move, [.t 13], none⟩]))))))
 (.seq (.region [.one ⟨some 69, .call 28, [.t 5], none⟩,
 .one ⟨some 4, .p .move, [.t 69], none⟩])
 .ret))),
 [(4, 0)]⟩

theorem g61_ok : compFn Tryz.prog 61 = some (fromGFn g61) := by kernel_rfl

def g62 : GFn := ⟨28,
 .seq .bad
 (.block 0 (.seq (.region [.one ⟨some 9, .p (.nilEq .iface false), [.t 7, .c .nilIface], none⟩])
 (.cond (.t 9)
 (.region [.one ⟨some 3, .p .move, [.t 7], none⟩])
 (.seq (.region [.one ⟨some 10, .p (.assertT 136 (.agg #[]) true), [.t 7], none⟩,
 .one ⟨some 11, .p (.extract 1), [.t 10], none⟩,
 .one ⟨some 12, .p (.extract 0), [.t 10], none⟩])
 (.cond (.t 11)
 (.seq (.region [.one ⟨some 4, .w (.new []), [], none⟩,
 .one ⟨none, .w (.store 0), [.t 4, .t 12], none⟩])
 (.seq (.region [.one ⟨some 13, .r .load1, [.t 0], none⟩,
 .one ⟨some 14, .r .load1, [.t 0], none⟩,
 .one ⟨some 15, .p .nilCheck, [.t 13], none⟩,
 .one ⟨some 16, .p (.fieldAddr 8), [.t 15], none⟩,
 .one ⟨none, .w (.store 1), [.t 16, .c (.bool true)], none⟩,
 .one ⟨some 17, .p .nilCheck, [.t 14], none⟩,
 .one ⟨some 18, .p (.fieldAddr 3), [.t 17], none⟩,
 .one ⟨none, .w (.store 1), [.t 18, .c (.int .i64 0)], none⟩])
 (.region [.one ⟨none, .w (.store 1), [.t 1, .c (.int .i64 0)], none⟩,
 .one ⟨none, .w (.store 1), [.t 2, .c (.int .i64 2)], none⟩])))
 (.seq (.region [.one ⟨some 19, .p (.assertT 137 (.agg #[]) true), [.t 7], none⟩,
 .one ⟨some 20, .p (.extract 1), [.t 19], none⟩,
 .one ⟨some 21, .p (.extract 0), [.t 19], none⟩])
 (.cond (.t 20)
 (.seq (.region [.one ⟨some 5, .w (.new []), [], none⟩,
 .one ⟨none, .w (.store 0), [.t 5, .t 21], none⟩])
 (.seq (.region [.one ⟨some 22, .r .load1, [.t 0], none⟩,
 .one ⟨some 23, .r .load1, [.t 0], none⟩,
 .one ⟨some 24, .p .nilCheck, [.t 22], none⟩,
 .one ⟨some 25, .p (.fieldAddr 10), [.t 24], none⟩,
 .one ⟨none, .w (.store 1), [.t 25, .c (.slice none 0 0)], none⟩,
 .one ⟨some 26, .p .nilCheck, [.t 23], none⟩,
 .one ⟨some 27, .p (.fieldAddr 3), [.t 26], none⟩,
 .one ⟨none, .w (.store 1), [.t 27, .c (.int .i64 10)], none⟩])
 (.region [.one ⟨none, .w (.store 1), [.t 1, .c (.int .i64 10)], none⟩,
 .one ⟨none, .w (.store 1), [.t 2, .c (.int .i64 0)], none⟩])))
 (.seq (.region [.one ⟨some 6, .p .move, [.t 7], none⟩])
 .bad)))))))),
 []⟩

theorem g62_ok : compFn Tryz.prog 62 = some (fromGFn g62) := by kernel_rfl

def g64 : GFn := ⟨7,
 .seq (.region [.one ⟨some 3, .p .move, [.c (.int .i64 0)], none⟩])
 (.seq (.region [.one ⟨some 4, .r .load1, [.t 1], none⟩,
 .one ⟨some 5, .p .move, [.t 0], none⟩,
 .one ⟨some 6, .call 65, [.t 4, .t 5], none⟩])
 (.seq (.region [.one ⟨some 3, .p .move, [.c (.int .i64 0)], none⟩])
 .ret)),
 [(3, 0)]⟩

theorem g64_ok : compFn Tryz.prog 64 = some (fromGFn g64) := by kernel_rfl

def g65 : GFn := ⟨37,
 .seq (.seq (.region [.one ⟨some 5, .p .move, [.t 0], none⟩,
 .one ⟨some 6, .p .nilCheck, [.t 5], none⟩,
 .one ⟨some 7, .p (.fieldAddr 2), [.t 6], none⟩,
 .one ⟨some 8, .r .load1, [.t 7], none⟩,
 .one ⟨some 9, .p .lenSl, [.t 8], none⟩,
 .one ⟨some 10, .p (.bin .sub), [.c (.int .i64 100000), .t 9], none⟩,
 .one ⟨some 4, .p .move, [.t 10], none⟩])
 (.seq (.region [.one ⟨some 11, .p .move, [.t 1], none⟩,
 .one ⟨some 12, .p .lenStr, [.t 11], none⟩,
 .one ⟨some 13, .p .move, [.t 4], none⟩,
 .one ⟨some 14, .p (.bin .gtr), [.t 12, .t 13], none⟩])
 (.cond (.t 14)
 (.seq (.region [.one ⟨some 15, .p .move, [.t 0], none⟩,
 .one ⟨some 16, .p .move, [.t 0], none⟩,
 .one ⟨some 17, .p .nilCheck, [.t 16], none⟩,
 .one ⟨some 18, .p (.fieldAddr 2), [.t 17], none⟩,
 .one ⟨some 19, .r .load1, [.t 18], none⟩,
 .one ⟨some 20, .p .move, [.t 1], none⟩,
 .one ⟨some 21, .p .move, [.t 4], none⟩,
 .one ⟨some 22, .p (.slStr false true), [.t 20, .t 21], none⟩,
 .one ⟨some 23, .w (.append 1 1), [.t 19, .t 22], none⟩,
 .one ⟨some 24, .p .nilCheck, [.t 15], none⟩,
 .one ⟨some 25, .p (.fieldAddr 2), [.t 24], none⟩,
 .one ⟨none, .w (.store 1), [.t 25, .t 23], none⟩])
 .bad)
 .skip)))
 (.region [.one ⟨some 28, .p .move, [.t 0], none⟩,
 .one ⟨some 29, .p .move, [.t 0], none⟩,
 .one ⟨some 30, .p .nilCheck, [.t 29], none⟩,
 .one ⟨some 31, .p (.fieldAddr 2), [.t 30], none⟩,
 .one ⟨some 32, .r .load1, [.t 31], none⟩,
 .one ⟨some 33, .p .move, [.t 1], none⟩,
 .one ⟨some 34, .w (.append 1 1), [.t 32, .t 33], none⟩,
 .one ⟨some 35, .p .nilCheck, [.t 28], none⟩,
 .one ⟨some 36, .p (.fieldAddr 2), [.t 35], none⟩,
 .one ⟨none, .w (.store 1), [.t 36, .t 34], none⟩]),
 []⟩

theorem g65_ok : compFn Tryz.prog 65 = some (fromGFn g65) := by kernel_rfl

def g66 : GFn := ⟨10,
 .seq (.region [.one ⟨some 5, .w (.box 1), [.t 2], none⟩,
 .one ⟨some 6, .w (.new [.int .i64 0]), [], none⟩])
 (.seq (.region [.one ⟨some 7, .p (.mkFunc (.func 98) 0), [.t 5, .t 6], none⟩,
 .one ⟨some 10, .p .push, [.t 10, .t 7], none⟩])
 (.seq (.region [.one ⟨some 8, .p .move, [.t 1], none⟩,
 .one ⟨some 9, .callV, [.t 8], none⟩,
 .one ⟨none, .w (.store 1), [.t 6, .t 9], none⟩])
 .ret)),
 [(6, 1)]⟩

theorem g66_ok : compFn Tryz.prog 66 = some (fromGFn g66) := by kernel_rfl

def g67 : GFn := ⟨14,
 .seq (.region [.one ⟨some 3, .p .move, [.c (.int .i64 0)], none⟩])
 (.seq (.region [.one ⟨some 7, .r .load1, [.t 0], none⟩,
 .one ⟨some 8, .r (.loadN 4), [.t 1], none⟩,
 .one ⟨some 9, .r .load1, [.t 2], none⟩,
 .one ⟨some 10, .call 68, [.t 7, .t 8, .t 9, .c (.int .i64 0)], none⟩,
 .one ⟨some 6, .p .move, [.t 10], none⟩,
 .one ⟨some 11, .p (.extract 0), [.t 6], none⟩,
 .one ⟨some 12, .p (.extract 1), [.t 6], none⟩,
 .one ⟨some 4, .p .move, [.t 11], none⟩,
 .one ⟨some 5, .p .move, [.t 12], none⟩])
 (.seq (.region [.one ⟨some 13, .p .move, [.t 4], none⟩,
 .one ⟨some 3, .p .move, [.t 13], none⟩])
 .ret)),
 [(3, 0)]⟩

theorem g67_ok : compFn Tryz.prog 67 = some (fromGFn g67) := by kernel_rfl

def g68 : GFn := ⟨60,
 .seq (.region [.one ⟨some 5, .w (.box 4), [.t 1], none⟩,
 .one ⟨some 8, .p .move, [.c (.int .i64 0)], none⟩,
 .one ⟨some 9, .p .move, [.c (.bool false)], none⟩])
 (.seq (.seq (.region [.one ⟨some 16, .p .move, [.t 2], none⟩,
 .one ⟨some 17, .call 57, [.t 16, .c (.string ⟨#[35]⟩)], none⟩])
 (.cond (.t 17)
 (.seq (.region [.one ⟨some 18, .p .move, [.t 3], none⟩,
 .one ⟨some 8, .p .move, [.t 18], none⟩,
 .one ⟨some 9, .p .move, [.c (.bool false)], none⟩])
 .ret)
 .skip))
 (.seq (.region [.one ⟨some 20, .p .move, [.t 2], none⟩,
 .one ⟨some 21, .call 6, [.t 20], none⟩,
 .one ⟨some 19, .p .move, [.t 21], none⟩,
 .one ⟨some 22, .p (.extract 0), [.t 19], none⟩,
 .one ⟨some 23, .p (.extract 1), [.t 19], none⟩,
 .one ⟨some 10, .p .move, [.t 22], none⟩,
 .one ⟨some 11, .p .move, [.t 23], none⟩])
 (.seq (.seq (.region [.one ⟨some 24, .p .move, [.t 11], none⟩,
 .one ⟨some 25, .p (.bin .neq), [.t 24, .c (.int .i64 0)], none⟩])
 (.cond (.t 25)
 (.seq (.region [.one ⟨some 26, .r (.loadN 4), [.t 5], none⟩,
 .one ⟨some 27, .call 99, [.t 26], none⟩,
 .one ⟨some 3, .p .move, [.t 27], none⟩])
 (.seq (.region [.one ⟨some 28, .p .move, [.t 3], none⟩,
 .one ⟨some 29, .p .move, [.t 3], none⟩,
 .one ⟨some 30, .p .move, [.t 0], none⟩,
 .one ⟨some 31, .p .nilCheck, [.t 30], none⟩,
 .one ⟨some 32, .p (.fieldAddr 4), [.t 31], none⟩,
 .one ⟨some 33, .r .load1, [.t 32], none⟩,
 .one ⟨some 34, .p (.bin .gtr), [.t 29, .t 33], none⟩,
 .one ⟨some 8, .p .move, [.t 28], none⟩,
 .one ⟨some 9, .p .move, [.t 34], none⟩])
 .ret))
 .skip))
 (.seq (.seq (.region [.one ⟨some 35, .p .move, [.t 10], none⟩,
 .one ⟨some 36, .p .lenSl, [.t 35], none⟩,
 .one ⟨some 37, .p .move, [.c (.int .i64 0)], none⟩])
 (.block 0 (.loop (.seq (.region [.one ⟨some 38, .p (.bin .lss), [.t 37, .t 36], none⟩])
 (.seq (.cond (.t 38)
 .skip
 (.exit 0))
 (.seq (.block 1 (.seq (.region [.one ⟨some 39, .p (.indexAddr 1), [.t 35, .t 37], none⟩,
 .one ⟨some 40, .r .load1, [.t 39], none⟩,
 .one ⟨some 13, .p .move, [.t 40], none⟩])
 (.seq (.region [.one ⟨some 42, .p .move, [.t 0], none⟩,
 .one ⟨some 43, .r (.loadN 4), [.t 5], none⟩,
 .one ⟨some 44, .p .move, [.t 13], none⟩,
 .one ⟨some 45, .call 100, [.t 42, .t 43, .t 44], none⟩,
 .one ⟨some 41, .p .move, [.t 45], none⟩,
 .one ⟨some 46, .p (.extract 0), [.t 41], none⟩,
 .one ⟨some 47, .p (.extract 1), [.t 41], none⟩,
 .one ⟨some 14, .p .move, [.t 46], none⟩,
 .one ⟨some 15, .p .move, [.t 47], none⟩])
 (.seq (.seq (.region [.one ⟨some 48, .p .move, [.t 15], none⟩,
 .one ⟨some 49, .p (.un .not), [.t 48], none⟩])
 (.cond (.t 49)
 (.exit 1)
 .skip))
 (.seq (.region [.one ⟨some 50, .p .move, [.t 14], none⟩,
 .one ⟨some 3, .p .move, [.t 50], none⟩])
 (.seq (.region [.one ⟨some 51, .p .move, [.t 3], none⟩,
 .one ⟨some 52, .p .move, [.t 0], none⟩,
 .one ⟨some 53, .p .nilCheck, [.t 52], none⟩,
 .one ⟨some 54, .p (.fieldAddr 4), [.t 53], none⟩,
 .one ⟨some 55, .r .load1, [.t 54], none⟩,
 .one ⟨some 56, .p (.bin .gtr), [.t 51, .t 55], none⟩])
 (.cond (.t 56)
 (.seq (.region [.one ⟨some 57, .p .move, [.t 3], none⟩,
 .one ⟨some 8, .p .move, [.t 57], none⟩,
 .one ⟨some 9, .p .move, [.c (.bool true)], none⟩])
 .ret)
 .skip)))))))
 (.region [.one ⟨some 58, .p (.bin .add), [.t 37, .c (.int .i64 1)], none⟩,
 .one ⟨some 37, .p .move, [.t 58], none⟩])))))))
 (.seq (.region [.one ⟨some 59, .p .move, [.t 3], none⟩,
 .one ⟨some 8, .p .move, [.t 59], none⟩,
 .one ⟨some 9, .p .move, [.c (.bool false)], none⟩])
 .ret))))),
 [(8, 0), (9, 0)]⟩

theorem g68_ok : compFn Tryz.prog 68 = some (fromGFn g68) := by kernel_rfl

def g71 : GFn := ⟨8,
 .seq (.region [.one ⟨some 2, .p .move, [.c (.slice none 0 0)], none⟩])
 (.seq (.seq (.region [.one ⟨some 3, .p .move, [.t 0], none⟩,
 .one ⟨some 4, .p (.nilEq .slice false), [.t 3, .c (.slice none 0 0)], none⟩])
 (.cond (.t 4)
 (.seq (.region [.one ⟨some 2, .p .move, [.c (.slice none 0 0)], none⟩])
 .ret)
 .skip))
 (.seq (.region [.one ⟨some 5, .w (.sliceLit [] 0 []), [], none⟩,
 .one ⟨some 6, .p .move, [.t 0], none⟩,
 .one ⟨some 7, .w (.append 1 1), [.t 5, .t 6], none⟩,
 .one ⟨some 2, .p .move, [.t 7], none⟩])
 .ret)),
 [(2, 0)]⟩

theorem g71_ok : compFn Tryz.prog 71 = some (fromGFn g71) := by kernel_rfl

def g72 : GFn := ⟨14,
 .seq (.region [.one ⟨some 5, .p .move, [.t 0], none⟩,
 .one ⟨some 6, .p .lenSl, [.t 5], none⟩,
 .one ⟨some 4, .p .move, [.t 6], none⟩])
 (.region [.one ⟨some 7, .p .move, [.t 0], none⟩,
 .one ⟨some 8, .p .move, [.t 4], none⟩,
 .one ⟨some 9, .p .move, [.t 4], none⟩,
 .one ⟨some 10, .p (.convInt .u64), [.t 9], none⟩,
 .one ⟨some 11, .call 111, [.t 10], none⟩,
 .one ⟨some 12, .p .move, [.t 1], none⟩,
 .one ⟨some 13, .call 110, [.t 7, .c (.int .i64 0), .t 8, .t 11, .t 12], none⟩]),
 []⟩

theorem g72_ok : compFn Tryz.prog 72 = some (fromGFn g72) := by kernel_rfl

def g80 : GFn := ⟨77,
 .seq (.region [.one ⟨some 4, .w (.new [.string ByteArray.empty, .int .i64 0, .bool false]), [], none⟩,
 .one ⟨some 5, .p .move, [.c (.int .i64 0)], none⟩])
 (.seq (.block 0 (.loop (.seq (.seq (.region [.one ⟨some 9, .p .move, [.t 1], none⟩,
 .one ⟨some 10, .p .move, [.t 0], none⟩,
 .one ⟨some 11, .p .lenStr, [.t 10], none⟩,
 .one ⟨some 12, .p (.bin .lss), [.t 9, .t 11], none⟩,
 .one ⟨some 13, .p .move, [.t 12], none⟩,
 .grp 13 true [⟨some 14, .p .move, [.t 0], none⟩, ⟨some 15, .p .move, [.t 1], none⟩, ⟨some 16, .p .indexStr, [.t 14, .t 15], none⟩, ⟨some 17, .p (.bin .eql), [.t 16, .c (.int .u8 32)], none⟩],
 .one ⟨some 18, .p .pick, [.t 13, .t 17, .c (.bool false)], none⟩])
 (.cond (.t 18)
 .skip
 (.exit 0)))
 (.block 1 (.region [.one ⟨some 19, .p .move, [.t 1], none⟩,
 .one ⟨some 20, .p (.bin .add), [.t 19, .c (.int .i64 1)], none⟩,
 .one ⟨some 1, .p .move, [.t 20], none⟩])))))
 (.seq (.block 2 (.seq (.region [.one ⟨some 22, .p .move, [.t 1], none⟩,
 .one ⟨some 23, .p .move, [.t 0], none⟩,
 .one ⟨some 24, .p .lenStr, [.t 23], none⟩,
 .one ⟨some 25, .p (.bin .eql), [.t 22, .t 24], none⟩,
 .one ⟨some 21, .p .move, [.t 25], none⟩])
 (.cond (.t 21)
 (.seq (.region [.one ⟨some 26, .p (.build [.string ByteArray.empty, .int .i64 0, .bool false] []), [], none⟩,
 .one ⟨none, .w (.store 3), [.t 4, .t 26], none⟩,
 .one ⟨some 5, .p .move, [.c (.int .i64 0)], none⟩])
 .ret)
 (.seq (.region [.one ⟨some 28, .p .move, [.t 0], none⟩,
 .one ⟨some 29, .p .move, [.t 1], none⟩,
 .one ⟨some 30, .p .indexStr, [.t 28, .t 29], none⟩,
 .one ⟨some 31, .p (.bin .eql), [.t 30, .c (.int .u8 61)], none⟩,
 .one ⟨some 27, .p .move, [.t 31], none⟩])
 (.cond (.t 27)
 (.seq (.region [.one ⟨some 32, .p .move, [.t 1], none⟩,
 .one ⟨some 33, .p (.build [.string ByteArray.empty, .int .i64 0, .bool false] [(0, 1), (1, 1)]), [.c (.string ⟨#[61]⟩), .t 32], none⟩,
 .one ⟨some 34, .p .move, [.t 1], none⟩,
 .one ⟨some 35, .p (.bin .add), [.t 34, .c (.int .i64 1)], none⟩,
 .one ⟨none, .w (.store 3), [.t 4, .t 33], none⟩,
 .one ⟨some 5, .p .move, [.t 35], none⟩])
 .ret)
 (.seq (.region [.one ⟨some 37, .p .move, [.t 0], none⟩,
 .one ⟨some 38, .p .move, [.t 1], none⟩,
 .one ⟨some 39, .p .indexStr, [.t 37, .t 38], none⟩,
 .one ⟨some 40, .p (.bin .eql), [.t 39, .c (.int .u8 34)], none⟩,
 .one ⟨some 36, .p .move, [.t 40], none⟩])
 (.cond (.t 36)
 (.seq (.region [.one ⟨some 42, .p .move, [.t 0], none⟩,
 .one ⟨some 43, .p .move, [.t 1], none⟩,
 .one ⟨some 44, .call 116, [.t 42, .t 43], none⟩,
 .one ⟨some 41, .p .move, [.t 44], none⟩,
 .one ⟨some 45, .p (.extract 0), [.t 41], none⟩,
 .one ⟨some 46, .p (.extract 1), [.t 41], none⟩,
 .one ⟨some 6, .p .move, [.t 45], none⟩,
 .one ⟨some 7, .p .move, [.t 46], none⟩])
 (.seq (.region [.one ⟨some 47, .p .move, [.t 6], none⟩,
 .one ⟨some 48, .p .move, [.t 1], none⟩,
 .one ⟨some 49, .p (.build [.string ByteArray.empty, .int .i64 0, .bool false] [(0, 1), (1, 1), (2, 1)]), [.t 47, .t 48, .c (.bool true)], none⟩,
 .one ⟨some 50, .p .move, [.t 7], none⟩,
 .one ⟨none, .w (.store 3), [.t 4, .t 49], none⟩,
 .one ⟨some 5, .p .move, [.t 50], none⟩])
 .ret))
 .skip)))))))
 (.seq (.region [.one ⟨some 51, .p .move, [.t 1], none⟩,
 .one ⟨some 8, .p .move, [.t 51], none⟩])
 (.seq (.block 3 (.loop (.seq (.seq (.region [.one ⟨some 52, .p .move, [.t 8], none⟩,
 .one ⟨some 53, .p .move, [.t 0], none⟩,
 .one ⟨some 54, .p .lenStr, [.t 53], none⟩,
 .one ⟨some 55, .p (.bin .lss), [.t 52, .t 54], none⟩,
 .one ⟨some 56, .p .move, [.t 55], none⟩,
 .grp 56 true [⟨some 57, .p .move, [.t 0], none⟩, ⟨some 58, .p .move, [.t 8], none⟩, ⟨some 59, .p .indexStr, [.t 57, .t 58], none⟩, ⟨some 60, .p (.bin .neq), [.t 59, .c (.int .u8 32)], none⟩],
 .one ⟨some 61, .p .pick, [.t 56, .t 60, .c (.bool false)], none⟩,
 .one ⟨some 62, .p .move, [.t 61], none⟩,
 .grp 62 true [⟨some 63, .p .move, [.t 0], none⟩, ⟨some 64, .p .move, [.t 8], none⟩, ⟨some 65, .p .indexStr, [.t 63, .t 64], none⟩, ⟨some 66, .p (.bin .neq), [.t 65, .c (.int .u8 61)], none⟩],
 .one ⟨some 67, .p .pick, [.t 62, .t 66, .c (.bool false)], none⟩])
 (.cond (.t 67)
 .skip
 (.exit 3)))
 (.block 4 (.region [.one ⟨some 68, .p .move, [.t 8], none⟩,
 .one ⟨some 69, .p (.bin .add), [.t 68, .c (.int .i64 1)], none⟩,
 .one ⟨some 8, .p .move, [.t 69], none⟩])))))
 (.seq (.region [.one ⟨some 70, .p .move, [.t 0], none⟩,
 .one ⟨some 71, .p .move, [.t 1], none⟩,
 .one ⟨some 72, .p .move, [.t 8], none⟩,
 .one ⟨some 73, .p (.slStr true true), [.t 70, .t 71, .t 72], none⟩,
 .one ⟨some 74, .p .move, [.t 1], none⟩,
 .one ⟨some 75, .p (.build [.string ByteArray.empty, .int .i64 0, .bool false] [(0, 1), (1, 1)]), [.t 73, .t 74], none⟩,
 .one ⟨some 76, .p .move, [.t 8], none⟩,
 .one ⟨none, .w (.store 3), [.t 4, .t 75], none⟩,
 .one ⟨some 5, .p .move, [.t 76], none⟩])
 .ret))))),
 [(4, 5), (5, 0)]⟩

theorem g80_ok : compFn Tryz.prog 80 = some (fromGFn g80) := by kernel_rfl

def g84 : GFn := ⟨19,
 .seq (.region [.one ⟨some 4, .p .move, [.c (.int .i64 0)], none⟩])
 (.seq (.seq (.region [.one ⟨some 6, .p .move, [.t 0], none⟩,
 .one ⟨some 7, .p .lenSl, [.t 6], none⟩,
 .one ⟨some 8, .p .move, [.c (.int .i64 0)], none⟩])
 (.block 0 (.loop (.seq (.region [.one ⟨some 9, .p (.bin .lss), [.t 8, .t 7], none⟩])
 (.seq (.cond (.t 9)
 .skip
 (.exit 0))
 (.seq (.block 1 (.seq (.region [.one ⟨some 10, .p .move, [.t 8], none⟩,
 .one ⟨some 5, .p .move, [.t 10], none⟩])
 (.seq (.region [.one ⟨some 11, .p .move, [.t 1], none⟩,
 .one ⟨some 12, .p .move, [.t 0], none⟩,
 .one ⟨some 13, .p .move, [.t 5], none⟩,
 .one ⟨some 14, .p (.indexAddr 3), [.t 12, .t 13], none⟩,
 .one ⟨some 15, .r (.loadN 3), [.t 14], none⟩,
 .one ⟨some 16, .callV, [.t 11, .t 15], none⟩])
 (.cond (.t 16)
 (.seq (.region [.one ⟨some 17, .p .move, [.t 5], none⟩,
 .one ⟨some 4, .p .move, [.t 17], none⟩])
 .ret)
 .skip))))
 (.region [.one ⟨some 18, .p (.bin .add), [.t 8, .c (.int .i64 1)], none⟩,
 .one ⟨some 8, .p .move, [.t 18], none⟩])))))))
 (.seq (.region [.one ⟨some 4, .p .move, [.c (.int .i64 (-1))], none⟩])
 .ret)),
 [(4, 0)]⟩

theorem g84_ok : compFn Tryz.prog 84 = some (fromGFn g84) := by kernel_rfl

def g85 : GFn := ⟨8,
 .seq (.region [.one ⟨some 2, .w (.box 3), [.t 0], none⟩,
 .one ⟨some 3, .p .move, [.c (.bool false)], none⟩])
 (.seq (.region [.one ⟨some 4, .p (.fieldAddr 0), [.t 2], none⟩,
 .one ⟨some 5, .r .load1, [.t 4], none⟩,
 .one ⟨some 6, .r .load1, [.t 1], none⟩,
 .one ⟨some 7, .p (.bin .eql), [.t 5, .t 6], none⟩,
 .one ⟨some 3, .p .move, [.t 7], none⟩])
 .ret),
 [(3, 0)]⟩

theorem g85_ok : compFn Tryz.prog 85 = some (fromGFn g85) := by kernel_rfl

def g86 : GFn := ⟨18,
 .seq (.region [.one ⟨some 2, .p .move, [.c (.string ByteArray.empty)], none⟩,
 .one ⟨some 3, .p .move, [.c (.string ByteArray.empty)], none⟩])
 (.seq (.region [.one ⟨some 8, .p .move, [.t 0], none⟩,
 .one ⟨some 9, .call 53, [.t 8, .c (.string ⟨#[58]⟩)], none⟩,
 .one ⟨some 7, .p .move, [.t 9], none⟩,
 .one ⟨some 10, .p (.extract 0), [.t 7], none⟩,
 .one ⟨some 11, .p (.extract 1), [.t 7], none⟩,
 .one ⟨some 12, .p (.extract 2), [.t 7], none⟩,
 .one ⟨some 4, .p .move, [.t 10], none⟩,
 .one ⟨some 5, .p .move, [.t 11], none⟩,
 .one ⟨some 6, .p .move, [.t 12], none⟩])
 (.seq (.seq (.region [.one ⟨some 13, .p .move, [.t 6], none⟩,
 .one ⟨some 14, .p (.un .not), [.t 13], none⟩])
 (.cond (.t 14)
 (.seq (.region [.one ⟨some 15, .p .move, [.t 0], none⟩,
 .one ⟨some 2, .p .move, [.c (.string ⟨#[114, 97, 109]⟩)], none⟩,
 .one ⟨some 3, .p .move, [.t 15], none⟩])
 .ret)
 .skip))
 (.seq (.region [.one ⟨some 16, .p .move, [.t 4], none⟩,
 .one ⟨some 17, .p .move, [.t 5], none⟩,
 .one ⟨some 2, .p .move, [.t 16], none⟩,
 .one ⟨some 3, .p .move, [.t 17], none⟩])
 .ret))),
 [(2, 0), (3, 0)]⟩

theorem g86_ok : compFn Tryz.prog 86 = some (fromGFn g86) := by kernel_rfl

def g87 : GFn := ⟨13,
 .seq (.region [.one ⟨some 2, .p .move, [.c (.bool false)], none⟩])
 (.seq (.region [.one ⟨some 3, .p .move, [.t 0], none⟩,
 .one ⟨some 4, .p (.bin .eql), [.t 3, .c (.string ⟨#[114, 97, 109]⟩)], none⟩,
 .one ⟨some 5, .p .move, [.t 4], none⟩,
 .grp 5 false [⟨some 6, .p .move, [.t 0], none⟩, ⟨some 7, .p (.bin .eql), [.t 6, .c (.string ⟨#[112, 105, 112, 101]⟩)], none⟩],
 .one ⟨some 8, .p .pick, [.t 5, .c (.bool true), .t 7], none⟩,
 .one ⟨some 9, .p .move, [.t 8], none⟩,
 .grp 9 false [⟨some 10, .p .move, [.t 0], none⟩, ⟨some 11, .p (.bin .eql), [.t 10, .c (.string ⟨#[110, 105, 108]⟩)], none⟩],
 .one ⟨some 12, .p .pick, [.t 9, .c (.bool true), .t 11], none⟩,
 .one ⟨some 2, .p .move, [.t 12], none⟩])
 .ret),
 [(2, 0)]⟩

theorem g87_ok : compFn Tryz.prog 87 = some (fromGFn g87) := by kernel_rfl

def g89 : GFn := ⟨40,
 .seq (.region [.one ⟨some 4, .p .move, [.c (.bool false)], none⟩])
 (.seq (.seq (.region [.one ⟨some 5, .p .move, [.t 0], none⟩,
 .one ⟨some 6, .p (.bin .eql), [.t 5, .c (.string ⟨#[114, 97, 109]⟩)], none⟩,
 .one ⟨some 7, .p .move, [.t 6], none⟩,
 .grp 7 true [⟨some 8, .p .move, [.t 1], none⟩, ⟨some 9, .call 57, [.t 8, .c (.string ⟨#[47]⟩)], none⟩, ⟨some 10, .p .move, [.t 9], none⟩],
 .grp 10 false [⟨some 11, .p .move, [.t 1], none⟩, ⟨some 12, .call 104, [.t 11, .c (.string ⟨#[47]⟩)], none⟩],
 .grp 7 true [⟨some 13, .p .pick, [.t 10, .c (.bool true), .t 12], none⟩, ⟨some 14, .p .move, [.t 13], none⟩],
 .grp 14 false [⟨some 15, .p .move, [.t 1], none⟩, ⟨some 16, .call 118, [.t 15, .c (.string ⟨#[47, 47]⟩)], none⟩],
 .grp 7 true [⟨some 17, .p .pick, [.t 14, .c (.bool true), .t 16], none⟩],
 .one ⟨some 18, .p .pick, [.t 7, .t 17, .c (.bool false)], none⟩,
 .one ⟨some 19, .p .move, [.t 18], none⟩,
 .grp 19 false [⟨some 20, .p .move, [.t 0], none⟩, ⟨some 21, .p (.bin .neq), [.t 20, .c (.string ⟨#[114, 97, 109]⟩)], none⟩, ⟨some 22, .p .move, [.t 21], none⟩],
 .grp 22 true [⟨some 23, .p .move, [.t 1], none⟩, ⟨some 24, .call 118, [.t 23, .c (.string ⟨#[47]⟩)], none⟩],
 .grp 19 false [⟨some 25, .p .pick, [.t 22, .t 24, .c (.bool false)], none⟩],
 .one ⟨some 26, .p .pick, [.t 19, .c (.bool true), .t 25], none⟩])
 (.cond (.t 26)
 (.seq (.region [.one ⟨some 4, .p .move, [.c (.bool false)], none⟩])
 .ret)
 .skip))
 (.seq (.region [.one ⟨some 27, .p .move, [.t 1], none⟩,
 .one ⟨some 28, .p .lenStr, [.t 27], none⟩,
 .one ⟨some 29, .p (.bin .geq), [.t 28, .c (.int .i64 1)], none⟩,
 .one ⟨some 30, .p .move, [.t 29], none⟩,
 .grp 30 true [⟨some 31, .p .move, [.t 1], none⟩, ⟨some 32, .p .lenStr, [.t 31], none⟩, ⟨some 33, .p (.bin .leq), [.t 32, .c (.int .i64 24)], none⟩],
 .one ⟨some 34, .p .pick, [.t 30, .t 33, .c (.bool false)], none⟩,
 .one ⟨some 35, .p .move, [.t 34], none⟩,
 .grp 35 true [⟨some 36, .p .move, [.t 1], none⟩, ⟨some 37, .call 15, [.t 36, .c (.string ⟨#[97, 98, 99, 100, 101, 102, 103, 104, 105, 106, 107, 108, 109, 110, 111, 112, 113, 114, 115, 116, 117, 118, 119, 120, 121, 122, 48, 49, 50, 51, 52, 53, 54, 55, 56, 57, 46, 45, 95, 47]⟩)], none⟩, ⟨some 38, .p (.bin .eql), [.t 37, .c (.string ByteArray.empty)], none⟩],
 .one ⟨some 39, .p .pick, [.t 35, .t 38, .c (.bool false)], none⟩,
 .one ⟨some 4, .p .move, [.t 39], none⟩])
 .ret)),
 [(4, 0)]⟩

theorem g89_ok : compFn Tryz.prog 89 = some (fromGFn g89) := by kernel_rfl

def g91 : GFn := ⟨28,
 .seq (.region [.one ⟨some 4, .p .move, [.c (.bool false)], none⟩])
 (.seq (.region [.one ⟨some 5, .p .move, [.t 0], none⟩,
 .one ⟨some 6, .p (.bin .eql), [.t 5, .c (.string ⟨#[110, 105, 108]⟩)], none⟩,
 .one ⟨some 7, .p .move, [.t 6], none⟩,
 .grp 7 true [⟨some 8, .p .move, [.t 1], none⟩, ⟨some 9, .p (.bin .eql), [.t 8, .c (.string ByteArray.empty)], none⟩],
 .one ⟨some 10, .p .pick, [.t 7, .t 9, .c (.bool false)], none⟩,
 .one ⟨some 11, .p .move, [.t 10], none⟩,
 .grp 11 false [⟨some 12, .p .move, [.t 0], none⟩, ⟨some 13, .p (.bin .eql), [.t 12, .c (.string ⟨#[114, 97, 109]⟩)], none⟩, ⟨some 14, .p .move, [.t 13], none⟩],
 .grp 14 true [⟨some 15, .p .move, [.t 1], none⟩, ⟨some 16, .p (.bin .eql), [.t 15, .c (.string ByteArray.empty)], none⟩],
 .grp 11 false [⟨some 17, .p .pick, [.t 14, .t 16, .c (.bool false)], none⟩],
 .one ⟨some 18, .p .pick, [.t 11, .c (.bool true), .t 17], none⟩,
 .one ⟨some 19, .p .move, [.t 18], none⟩,
 .grp 19 false [⟨some 20, .p .move, [.t 0], none⟩, ⟨some 21, .p (.bin .neq), [.t 20, .c (.string ⟨#[110, 105, 108]⟩)], none⟩, ⟨some 22, .p .move, [.t 21], none⟩],
 .grp 22 true [⟨some 23, .p .move, [.t 0], none⟩, ⟨some 24, .p .move, [.t 1], none⟩, ⟨some 25, .call 89, [.t 23, .t 24], none⟩],
 .grp 19 false [⟨some 26, .p .pick, [.t 22, .t 25, .c (.bool false)], none⟩],
 .one ⟨some 27, .p .pick, [.t 19, .c (.bool true), .t 26], none⟩,
 .one ⟨some 4, .p .move, [.t 27], none⟩])
 .ret),
 [(4, 0)]⟩

theorem g91_ok : compFn Tryz.prog 91 = some (fromGFn g91) := by kernel_rfl

def g93 : GFn := ⟨32,
 .seq (.region [.one ⟨some 4, .p .move, [.c (.bool false)], none⟩])
 (.seq (.seq (.region [.one ⟨some 9, .p .move, [.t 0], none⟩,
 .one ⟨some 10, .p .nilCheck, [.t 9], none⟩,
 .one ⟨some 11, .p (.fieldAddr 3), [.t 10], none⟩,
 .one ⟨some 12, .r .load1, [.t 11], none⟩,
 .one ⟨some 13, .w (.range false), [.t 12], none⟩])
 (.block 0 (.loop (.seq (.region [.one ⟨some 14, .next false, [.t 13], none⟩,
 .one ⟨some 15, .p (.extract 0), [.t 14], none⟩])
 (.seq (.cond (.t 15)
 .skip
 (.exit 0))
 (.block 1 (.seq (.region [.one ⟨some 16, .r .entry, [.t 13], none⟩,
 .one ⟨some 17, .p (.extract 1), [.t 16], none⟩,
 .one ⟨some 6, .p .move, [.t 17], none⟩])
 (.seq (.region [.one ⟨some 19, .p .move, [.t 6], none⟩,
 .one ⟨some 20, .p (.assertT 117 (.pointer none) true), [.t 19], none⟩,
 .one ⟨some 18, .p .move, [.t 20], none⟩,
 .one ⟨some 21, .p (.extract 0), [.t 18], none⟩,
 .one ⟨some 22, .p (.extract 1), [.t 18], none⟩,
 .one ⟨some 7, .p .move, [.t 21], none⟩,
 .one ⟨some 8, .p .move, [.t 22], none⟩])
 (.seq (.region [.one ⟨some 23, .p .move, [.t 8], none⟩,
 .one ⟨some 24, .p .move, [.t 23], none⟩,
 .grp 24 true [⟨some 25, .p .move, [.t 7], none⟩, ⟨some 26, .p .nilCheck, [.t 25], none⟩, ⟨some 27, .p (.fieldAddr 0), [.t 26], none⟩, ⟨some 28, .r .load1, [.t 27], none⟩, ⟨some 29, .p .move, [.t 1], none⟩, ⟨some 30, .p (.bin .eql), [.t 28, .t 29], none⟩],
 .one ⟨some 31, .p .pick, [.t 24, .t 30, .c (.bool false)], none⟩])
 (.cond (.t 31)
 (.seq (.region [.one ⟨some 4, .p .move, [.c (.bool true)], none⟩])
 .ret)
 .skip))))))))))
 (.seq (.region [.one ⟨some 4, .p .move, [.c (.bool false)], none⟩])
 .ret)),
 [(4, 0)]⟩

theorem g93_ok : compFn Tryz.prog 93 = some (fromGFn g93) := by kernel_rfl

def g95 : GFn := ⟨8,
 .seq (.region [.one ⟨some 2, .p .move, [.c (.slice none 0 0)], none⟩])
 (.seq (.seq (.region [.one ⟨some 3, .p .move, [.t 0], none⟩,
 .one ⟨some 4, .p (.nilEq .slice false), [.t 3, .c (.slice none 0 0)], none⟩])
 (.cond (.t 4)
 (.seq (.region [.one ⟨some 2, .p .move, [.c (.slice none 0 0)], none⟩])
 .ret)
 .skip))
 (.seq (.region [.one ⟨some 5, .w (.sliceLit [] 0 []), [], none⟩,
 .one ⟨some 6, .p .move, [.t 0], none⟩,
 .one ⟨some 7, .w (.append 1 1), [.t 5, .t 6], none⟩,
 .one ⟨some 2, .p .move, [.t 7], none⟩])
 .ret)),
 [(2, 0)]⟩

theorem g95_ok : compFn Tryz.prog 95 = some (fromGFn g95) := by kernel_rfl

def g98 : GFn := ⟨15,
 .seq .bad
 (.block 0 (.seq (.region [.one ⟨some 7, .p (.nilEq .iface false), [.t 5, .c .nilIface], none⟩])
 (.cond (.t 7)
 (.region [.one ⟨some 2, .p .move, [.t 5], none⟩])
 (.seq (.region [.one ⟨some 8, .p (.assertT 172 (.agg #[.int .i64 0]) true), [.t 5], none⟩,
 .one ⟨some 9, .p (.extract 1), [.t 8], none⟩,
 .one ⟨some 10, .p (.extract 0), [.t 8], none⟩])
 (.cond (.t 9)
 (.seq (.region [.one ⟨some 3, .w (.new [.int .i64 0]), [], none⟩,
 .one ⟨none, .w (.store 1), [.t 3, .t 10], none⟩])
 (.seq (.region [.one ⟨some 11, .r .load1, [.t 0], none⟩,
 .one ⟨some 12, .callV, [.t 11], none⟩])
 (.region [.one ⟨some 13, .p (.fieldAddr 0), [.t 3], none⟩,
 .one ⟨some 14, .r .load1, [.t 13], none⟩,
 .one ⟨none, .w (.store 1), [.t 1, .t 14], none⟩])))
 (.seq (.region [.one ⟨some 4, .p .move, [.t 5], none⟩])
 .bad)))))),
 []⟩

theorem g98_ok : compFn Tryz.prog 98 = some (fromGFn g98) := by kernel_rfl

def g100 : GFn := ⟨58,
 .seq (.region [.one ⟨some 4, .w (.box 4), [.t 1], none⟩,
 .one ⟨some 6, .p .move, [.c (.int .i64 0)], none⟩,
 .one ⟨some 7, .p .move, [.c (.bool false)], none⟩])
 (.seq (.region [.one ⟨some 8, .p .move, [.c (.bool false)], none⟩])
 (.seq (.block 0 (.loop (.block 1 (.seq (.region [.one ⟨some 13, .p .move, [.t 2], none⟩,
 .one ⟨some 14, .call 53, [.t 13, .c (.string ⟨#[32]⟩)], none⟩,
 .one ⟨some 12, .p .move, [.t 14], none⟩,
 .one ⟨some 15, .p (.extract 0), [.t 12], none⟩,
 .one ⟨some 16, .p (.extract 1), [.t 12], none⟩,
 .one ⟨some 17, .p (.extract 2), [.t 12], none⟩,
 .one ⟨some 9, .p .move, [.t 15], none⟩,
 .one ⟨some 10, .p .move, [.t 16], none⟩,
 .one ⟨some 11, .p .move, [.t 17], none⟩])
 (.seq (.seq (.region [.one ⟨some 18, .p .move, [.t 9], none⟩,
 .one ⟨some 19, .p (.bin .neq), [.t 18, .c (.string ⟨#[114, 117, 110]⟩)], none⟩])
 (.cond (.t 19)
 (.exit 0)
 .skip))
 (.region [.one ⟨some 20, .p .move, [.t 10], none⟩,
 .one ⟨some 21, .call 15, [.t 20, .c (.string ⟨#[32]⟩)], none⟩,
 .one ⟨some 2, .p .move, [.t 21], none⟩,
 .one ⟨some 8, .p .move, [.c (.bool true)], none⟩]))))))
 (.seq (.block 2 (.seq (.region [.one ⟨some 23, .p .move, [.t 8], none⟩,
 .one ⟨some 24, .p .move, [.t 23], none⟩,
 .grp 24 true [⟨some 25, .p .move, [.t 2], none⟩, ⟨some 26, .p (.bin .eql), [.t 25, .c (.string ByteArray.empty)], none⟩],
 .one ⟨some 27, .p .pick, [.t 24, .t 26, .c (.bool false)], none⟩,
 .one ⟨some 22, .p .move, [.t 27], none⟩])
 (.cond (.t 22)
 (.seq (.region [.one ⟨some 28, .r (.loadN 4), [.t 4], none⟩,
 .one ⟨some 29, .call 99, [.t 28], none⟩,
 .one ⟨some 6, .p .move, [.t 29], none⟩,
 .one ⟨some 7, .p .move, [.c (.bool true)], none⟩])
 .ret)
 (.seq (.region [.one ⟨some 31, .p .move, [.t 8], none⟩,
 .one ⟨some 30, .p .move, [.t 31], none⟩])
 (.cond (.t 30)
 (.seq (.region [.one ⟨some 32, .p .move, [.t 0], none⟩,
 .one ⟨some 33, .p .nilCheck, [.t 32], none⟩,
 .one ⟨some 34, .p (.fieldAddr 9), [.t 33], none⟩,
 .one ⟨some 35, .r .load1, [.t 34], none⟩,
 .one ⟨some 36, .p (.bin .add), [.t 35, .c (.int .i64 1)], none⟩,
 .one ⟨some 37, .p .nilCheck, [.t 32], none⟩,
 .one ⟨some 38, .p (.fieldAddr 9), [.t 37], none⟩,
 .one ⟨none, .w (.store 1), [.t 38, .t 36], none⟩])
 (.seq (.region [.one ⟨some 39, .p .move, [.t 0], none⟩,
 .one ⟨some 40, .p .move, [.t 0], none⟩,
 .one ⟨some 41, .p .nilCheck, [.t 40], none⟩,
 .one ⟨some 42, .p (.fieldAddr 10), [.t 41], none⟩,
 .one ⟨some 43, .r .load1, [.t 42], none⟩,
 .one ⟨some 44, .p .move, [.t 2], none⟩,
 .one ⟨some 45, .p .move, [.t 0], none⟩,
 .one ⟨some 46, .p .nilCheck, [.t 45], none⟩,
 .one ⟨some 47, .p (.fieldAddr 9), [.t 46], none⟩,
 .one ⟨some 48, .r .load1, [.t 47], none⟩,
 .one ⟨some 49, .p (.build [.string ByteArray.empty, .int .i64 0] [(0, 1), (1, 1)]), [.t 44, .t 48], none⟩,
 .one ⟨some 50, .w (.sliceLit [.string ByteArray.empty, .int .i64 0] 1 [(0, 2)]), [.t 49], none⟩,
 .one ⟨none, .r .same1, [.t 43, .t 42], none⟩,
 .one ⟨some 51, .w (.append 2 24), [.t 43, .t 50], none⟩,
 .one ⟨some 52, .p .nilCheck, [.t 39], none⟩,
 .one ⟨some 53, .p (.fieldAddr 10), [.t 52], none⟩,
 .one ⟨none, .w (.store 1), [.t 53, .t 51], none⟩])
 (.seq (.region [.one ⟨some 6, .p .move, [.c (.int .i64 0)], none⟩,
 .one ⟨some 7, .p .move, [.c (.bool false)], none⟩])
 .ret)))
 .skip)))))
 (.seq (.region [.one ⟨some 54, .p .move, [.t 0], none⟩,
 .one ⟨some 55, .r (.loadN 4), [.t 4], none⟩,
 .one ⟨some 56, .p .move, [.t 2], none⟩,
 .one ⟨some 57, .call 108, [.t 54, .t 55, .t 56], none⟩,
 .one ⟨some 6, .p .move, [.t 57], none⟩,
 .one ⟨some 7, .p .move, [.c (.bool true)], none⟩])
 .ret)))),
 [(6, 0), (7, 0)]⟩

theorem g100_ok : compFn Tryz.prog 100 = some (fromGFn g100) := by kernel_rfl

def g104 : GFn := ⟨8,
 .seq (.region [.one ⟨some 4, .p .move, [.c (.bool false)], none⟩])
 (.seq (.region [.one ⟨some 5, .p .move, [.t 0], none⟩,
 .one ⟨some 6, .p .move, [.t 1], none⟩,
 .one ⟨some 7, .call 121, [.t 5, .t 6], none⟩,
 .one ⟨some 4, .p .move, [.t 7], none⟩])
 .ret),
 [(4, 0)]⟩

theorem g104_ok : compFn Tryz.prog 104 = some (fromGFn g104) := by kernel_rfl

def g108 : GFn := ⟨155,
 .seq (.region [.one ⟨some 3, .w (.box 1), [.t 0], none⟩,
 .one ⟨some 4, .w (.box 4), [.t 1], none⟩,
 .one ⟨some 6, .p .move, [.c (.int .i64 0)], none⟩])
 (.seq (.seq (.region [.one ⟨some 20, .r .load1, [.t 3], none⟩,
 .one ⟨some 21, .p .nilCheck, [.t 20], none⟩,
 .one ⟨some 22, .p (.fieldAddr 7), [.t 21], none⟩,
 .one ⟨some 23, .r .load1, [.t 22], none⟩,
 .one ⟨some 24, .p (.bin .gtr), [.t 23, .c (.int .i64 0)], none⟩,
 .one ⟨some 25, .p .move, [.t 24], none⟩,
 .grp 25 true [⟨some 26, .r .load1, [.t 3], none⟩, ⟨some 27, .p .nilCheck, [.t 26], none⟩, ⟨some 28, .p (.fieldAddr 6), [.t 27], none⟩, ⟨some 29, .r .load1, [.t 28], none⟩, ⟨some 30, .p (.bin .add), [.t 29, .c (.int .i64 1)], none⟩, ⟨some 31, .r .load1, [.t 3], none⟩, ⟨some 32, .p .nilCheck, [.t 31], none⟩, ⟨some 33, .p (.fieldAddr 7), [.t 32], none⟩, ⟨some 34, .r .load1, [.t 33], none⟩, ⟨some 35, .p (.bin .geq), [.t 30, .t 34], none⟩],
 .one ⟨some 36, .p .pick, [.t 25, .t 35, .c (.bool false)], none⟩])
 (.cond (.t 36)
 .bad
 .skip))
 (.seq (.seq (.region [.one ⟨some 39, .r .load1, [.t 3], none⟩,
 .one ⟨some 40, .p .nilCheck, [.t 39], none⟩,
 .one ⟨some 41, .p (.fieldAddr 6), [.t 40], none⟩,
 .one ⟨some 42, .r .load1, [.t 41], none⟩,
 .one ⟨some 43, .p (.bin .eql), [.t 42, .c (.int .i64 4000)], none⟩])
 (.cond (.t 43)
 .bad
 .skip))
 (.seq (.region [.one ⟨some 46, .r .load1, [.t 3], none⟩,
 .one ⟨some 47, .p .nilCheck, [.t 46], none⟩,
 .one ⟨some 48, .p (.fieldAddr 6), [.t 47], none⟩,
 .one ⟨some 49, .r .load1, [.t 48], none⟩,
 .one ⟨some 50, .p (.bin .add), [.t 49, .c (.int .i64 1)], none⟩,
 .one ⟨some 51, .p .nilCheck, [.t 46], none⟩,
 .one ⟨some 52, .p (.fieldAddr 6), [.t 51], none⟩,
 .one ⟨none, .w (.store 1), [.t 52, .t 50], none⟩])
 (.seq (.region [.one ⟨some 54, .p .move, [.t 2], none⟩,
 .one ⟨some 55, .call 8, [.t 54], none⟩,
 .one ⟨some 53, .p .move, [.t 55], none⟩,
 .one ⟨some 56, .p (.extract 0), [.t 53], none⟩,
 .one ⟨some 57, .p (.extract 1), [.t 53], none⟩,
 .one ⟨some 58, .p (.extract 2), [.t 53], none⟩,
 .one ⟨some 59, .p (.extract 3), [.t 53], none⟩,
 .one ⟨some 60, .p (.extract 4), [.t 53], none⟩,
 .one ⟨some 2, .p .move, [.t 56], none⟩,
 .one ⟨some 7, .p .move, [.t 57], none⟩,
 .one ⟨some 8, .p .move, [.t 58], none⟩,
 .one ⟨some 9, .p .move, [.t 59], none⟩,
 .one ⟨some 10, .p .move, [.t 60], none⟩])
 (.seq (.seq (.region [.one ⟨some 61, .p .move, [.t 10], none⟩,
 .one ⟨some 62, .p (.bin .neq), [.t 61, .c (.int .i64 0)], none⟩])
 (.cond (.t 62)
 (.seq (.region [.one ⟨some 63, .r (.loadN 4), [.t 4], none⟩,
 .one ⟨some 64, .call 99, [.t 63], none⟩,
 .one ⟨some 6, .p .move, [.t 64], none⟩])
 .ret)
 .skip))
 (.seq (.region [.one ⟨some 66, .p .move, [.t 2], none⟩,
 .one ⟨some 67, .call 122, [.t 66], none⟩,
 .one ⟨some 65, .p .move, [.t 67], none⟩,
 .one ⟨some 68, .p (.extract 0), [.t 65], none⟩,
 .one ⟨some 69, .p (.extract 1), [.t 65], none⟩,
 .one ⟨some 11, .p .move, [.t 68], none⟩,
 .one ⟨some 12, .p .move, [.t 69], none⟩])
 (.seq (.region [.one ⟨some 71, .call 123, [], none⟩,
 .one ⟨some 72, .p .move, [.t 11], none⟩,
 .one ⟨some 73, .r (.lookup .str (.agg #[.string ByteArray.empty, .nilFunc]) true), [.t 71, .t 72], none⟩,
 .one ⟨some 70, .p .move, [.t 73], none⟩,
 .one ⟨some 74, .p (.extract 0), [.t 70], none⟩,
 .one ⟨some 75, .p (.extract 1), [.t 70], none⟩,
 .one ⟨some 13, .w (.new [.string ByteArray.empty, .nilFunc]), [], none⟩,
 .one ⟨none, .w (.store 2), [.t 13, .t 74], none⟩,
 .one ⟨some 14, .p .move, [.t 75], none⟩])
 (.seq (.seq (.region [.one ⟨some 76, .p .move, [.t 14], none⟩,
 .one ⟨some 77, .p (.un .not), [.t 76], none⟩])
 (.cond (.t 77)
 (.seq (.region [.one ⟨some 78, .r (.loadN 4), [.t 4], none⟩,
 .one ⟨some 79, .call 99, [.t 78], none⟩,
 .one ⟨some 6, .p .move, [.t 79], none⟩])
 .ret)
 .skip))
 (.seq (.region [.one ⟨some 81, .p (.fieldAddr 0), [.t 13], none⟩,
 .one ⟨some 82, .r .load1, [.t 81], none⟩,
 .one ⟨some 83, .p .move, [.t 12], none⟩,
 .one ⟨some 84, .call 124, [.t 82, .t 83], none⟩,
 .one ⟨some 80, .p .move, [.t 84], none⟩,
 .one ⟨some 85, .p (.extract 0), [.t 80], none⟩,
 .one ⟨some 86, .p (.extract 1), [.t 80], none⟩,
 .one ⟨some 15, .p .move, [.t 85], none⟩,
 .one ⟨some 10, .p .move, [.t 86], none⟩])
 (.seq (.seq (.region [.one ⟨some 87, .p .move, [.t 10], none⟩,
 .one ⟨some 88, .p (.bin .neq), [.t 87, .c (.int .i64 0)], none⟩])
 (.cond (.t 88)
 (.seq (.region [.one ⟨some 89, .r (.loadN 4), [.t 4], none⟩,
 .one ⟨some 90, .call 99, [.t 89], none⟩,
 .one ⟨some 6, .p .move, [.t 90], none⟩])
 .ret)
 .skip))
 (.seq (.seq (.region [.one ⟨some 91, .p .move, [.t 7], none⟩,
 .one ⟨some 92, .p (.bin .neq), [.t 91, .c (.string ByteArray.empty)], none⟩])
 (.cond (.t 92)
 (.seq (.region [.one ⟨some 94, .r .load1, [.t 3], none⟩,
 .one ⟨some 95, .p .nilCheck, [.t 94], none⟩,
 .one ⟨some 96, .p (.fieldAddr 0), [.t 95], none⟩,
 .one ⟨some 97, .r .load1, [.t 96], none⟩,
 .one ⟨some 98, .p .move, [.t 7], none⟩,
 .one ⟨some 99, .call 34, [.t 97, .t 98, .c (.int .i64 0)], none⟩,
 .one ⟨some 93, .p .move, [.t 99], none⟩,
 .one ⟨some 100, .p (.extract 0), [.t 93], none⟩,
 .one ⟨some 101, .p (.extract 1), [.t 93], none⟩,
 .one ⟨some 16, .w (.new [.int .i64 0]), [], none⟩,
 .one ⟨none, .w (.store 1), [.t 16, .t 100], none⟩,
 .one ⟨some 17, .p .move, [.t 101], none⟩])
 (.seq (.seq (.region [.one ⟨some 102, .p .move, [.t 17], none⟩,
 .one ⟨some 103, .p (.bin .neq), [.t 102, .c (.int .i64 0)], none⟩])
 (.cond (.t 103)
 (.seq (.region [.one ⟨some 104, .r (.loadN 4), [.t 4], none⟩,
 .one ⟨some 105, .p .move, [.t 17], none⟩,
 .one ⟨some 106, .call 125, [.t 104, .t 105], none⟩,
 .one ⟨some 6, .p .move, [.t 106], none⟩])
 .ret)
 .skip))
 (.seq (.region [.one ⟨some 107, .r .load1, [.t 3], none⟩,
 .one ⟨some 108, .p .nilCheck, [.t 107], none⟩,
 .one ⟨some 109, .p (.fieldAddr 0), [.t 108], none⟩,
 .one ⟨some 110, .r .load1, [.t 109], none⟩,
 .one ⟨some 111, .r .load1, [.t 16], none⟩,
 .one ⟨some 155, .p .push, [.t 155, .c (.func (.func 36) #[] #[]), .t 110, .t 111], none⟩])
 (.region [.one ⟨some 112, .p (.mkFunc (.func 126) 0), [.t 3, .t 16], none⟩,
 .one ⟨some 113, .p (.fieldAddr 0), [.t 4], none⟩,
 .one ⟨none, .w (.store 1), [.t 113, .t 112], none⟩]))))
 .skip))
 (.seq (.seq (.region [.one ⟨some 114, .p .move, [.t 8], none⟩,
 .one ⟨some 115, .p (.bin .eql), [.t 114, .c (.string ByteArray.empty)], none⟩])
 (.cond (.t 115)
 (.seq (.region [.one ⟨some 116, .p (.fieldAddr 1), [.t 13], none⟩,
 .one ⟨some 117, .r .load1, [.t 116], none⟩,
 .one ⟨some 118, .r .load1, [.t 3], none⟩,
 .one ⟨some 119, .r (.loadN 4), [.t 4], none⟩,
 .one ⟨some 120, .p .move, [.t 15], none⟩,
 .one ⟨some 121, .p (.build [.pointer none, .nilFunc, .nilFunc, .nilFunc, .int .i64 0, .slice none 0 0] [(0, 1), (1, 4), (5, 1)]), [.t 118, .t 119, .t 120], none⟩,
 .one ⟨some 122, .w (.box 6), [.t 121], none⟩,
 .one ⟨some 123, .callV, [.t 117, .t 122], none⟩,
 .one ⟨some 6, .p .move, [.t 123], none⟩])
 .ret)
 .skip))
 (.seq (.region [.one ⟨some 18, .p .move, [.c (.int .i64 1)], none⟩])
 (.seq (.seq (.region [.one ⟨some 124, .p .move, [.t 9], none⟩])
 (.cond (.t 124)
 (.region [.one ⟨some 18, .p .move, [.c (.int .i64 2)], none⟩])
 .skip))
 (.seq (.region [.one ⟨some 126, .r .load1, [.t 3], none⟩,
 .one ⟨some 127, .p .nilCheck, [.t 126], none⟩,
 .one ⟨some 128, .p (.fieldAddr 0), [.t 127], none⟩,
 .one ⟨some 129, .r .load1, [.t 128], none⟩,
 .one ⟨some 130, .p .move, [.t 8], none⟩,
 .one ⟨some 131, .p .move, [.t 18], none⟩,
 .one ⟨some 132, .call 34, [.t 129, .t 130, .t 131], none⟩,
 .one ⟨some 125, .p .move, [.t 132], none⟩,
 .one ⟨some 133, .p (.extract 0), [.t 125], none⟩,
 .one ⟨some 134, .p (.extract 1), [.t 125], none⟩,
 .one ⟨some 19, .w (.new [.int .i64 0]), [], none⟩,
 .one ⟨none, .w (.store 1), [.t 19, .t 133], none⟩,
 .one ⟨some 10, .p .move, [.t 134], none⟩])
 (.seq (.seq (.region [.one ⟨some 135, .p .move, [.t 10], none⟩,
 .one ⟨some 136, .p (.bin .neq), [.t 135, .c (.int .i64 0)], none⟩])
 (.cond (.t 136)
 (.seq (.region [.one ⟨some 137, .r (.loadN 4), [.t 4], none⟩,
 .one ⟨some 138, .p .move, [.t 10], none⟩,
 .one ⟨some 139, .call 125, [.t 137, .t 138], none⟩,
 .one ⟨some 6, .p .move, [.t 139], none⟩])
 .ret)
 .skip))
 (.seq (.region [.one ⟨some 140, .r .load1, [.t 3], none⟩,
 .one ⟨some 141, .p .nilCheck, [.t 140], none⟩,
 .one ⟨some 142, .p (.fieldAddr 0), [.t 141], none⟩,
 .one ⟨some 143, .r .load1, [.t 142], none⟩,
 .one ⟨some 144, .r .load1, [.t 19], none⟩,
 .one ⟨some 155, .p .push, [.t 155, .c (.func (.func 36) #[] #[]), .t 143, .t 144], none⟩])
 (.seq (.region [.one ⟨some 145, .p (.mkFunc (.func 128) 0), [.t 3, .t 19], none⟩,
 .one ⟨some 146, .p (.fieldAddr 1), [.t 4], none⟩,
 .one ⟨none, .w (.store 1), [.t 146, .t 145], none⟩])
 (.seq (.region [.one ⟨some 147, .p (.fieldAddr 1), [.t 13], none⟩,
 .one ⟨some 148, .r .load1, [.t 147], none⟩,
 .one ⟨some 149, .r .load1, [.t 3], none⟩,
 .one ⟨some 150, .r (.loadN 4), [.t 4], none⟩,
 .one ⟨some 151, .p .move, [.t 15], none⟩,
 .one ⟨some 152, .p (.build [.pointer none, .nilFunc, .nilFunc, .nilFunc, .int .i64 0, .slice none 0 0] [(0, 1), (1, 4), (5, 1)]), [.t 149, .t 150, .t 151], none⟩,
 .one ⟨some 153, .w (.box 6), [.t 152], none⟩,
 .one ⟨some 154, .callV, [.t 148, .t 153], none⟩,
 .one ⟨some 6, .p .move, [.t 154], none⟩])
 .ret))))))))))))))))))),
 [(6, 0)]⟩

theorem g108_ok : compFn Tryz.prog 108 = some (fromGFn g108) := by kernel_rfl

def g110 : GFn := ⟨148,
 .seq (.region [.one ⟨some 10, .p .move, [.c (.bool true)], none⟩])
 (.seq (.region [.one ⟨some 11, .p .move, [.c (.bool true)], none⟩])
 (.block 0 (.loop (.block 1 (.seq (.region [.one ⟨some 21, .p .move, [.t 2], none⟩,
 .one ⟨some 22, .p .move, [.t 1], none⟩,
 .one ⟨some 23, .p (.bin .sub), [.t 21, .t 22], none⟩,
 .one ⟨some 12, .p .move, [.t 23], none⟩])
 (.seq (.seq (.region [.one ⟨some 24, .p .move, [.t 12], none⟩,
 .one ⟨some 25, .p (.bin .leq), [.t 24, .c (.int .i64 12)], none⟩])
 (.cond (.t 25)
 (.seq (.region [.one ⟨some 26, .p .move, [.t 0], none⟩,
 .one ⟨some 27, .p .move, [.t 1], none⟩,
 .one ⟨some 28, .p .move, [.t 2], none⟩,
 .one ⟨some 29, .p .move, [.t 4], none⟩,
 .one ⟨some 30, .call 130, [.t 26, .t 27, .t 28, .t 29], none⟩])
 .ret)
 .skip))
 (.seq (.seq (.region [.one ⟨some 31, .p .move, [.t 3], none⟩,
 .one ⟨some 32, .p (.bin .eql), [.t 31, .c (.int .i64 0)], none⟩])
 (.cond (.t 32)
 (.seq (.region [.one ⟨some 33, .p .move, [.t 0], none⟩,
 .one ⟨some 34, .p .move, [.t 1], none⟩,
 .one ⟨some 35, .p .move, [.t 2], none⟩,
 .one ⟨some 36, .p .move, [.t 4], none⟩,
 .one ⟨some 37, .call 131, [.t 33, .t 34, .t 35, .t 36], none⟩])
 .ret)
 .skip))
 (.seq (.seq (.region [.one ⟨some 38, .p .move, [.t 10], none⟩,
 .one ⟨some 39, .p (.un .not), [.t 38], none⟩])
 (.cond (.t 39)
 (.seq (.region [.one ⟨some 40, .p .move, [.t 0], none⟩,
 .one ⟨some 41, .p .move, [.t 1], none⟩,
 .one ⟨some 42, .p .move, [.t 2], none⟩,
 .one ⟨some 43, .p .move, [.t 4], none⟩,
 .one ⟨some 44, .call 132, [.t 40, .t 41, .t 42, .t 43], none⟩])
 (.region [.one ⟨some 45, .p .move, [.t 3], none⟩,
 .one ⟨some 46, .p (.bin .sub), [.t 45, .c (.int .i64 1)], none⟩,
 .one ⟨some 3, .p .move, [.t 46], none⟩]))
 .skip))
 (.seq (.region [.one ⟨some 48, .p .move, [.t 0], none⟩,
 .one ⟨some 49, .p .move, [.t 1], none⟩,
 .one ⟨some 50, .p .move, [.t 2], none⟩,
 .one ⟨some 51, .p .move, [.t 4], none⟩,
 .one ⟨some 52, .call 133, [.t 48, .t 49, .t 50, .t 51], none⟩,
 .one ⟨some 47, .p .move, [.t 52], none⟩,
 .one ⟨some 53, .p (.extract 0), [.t 47], none⟩,
 .one ⟨some 54, .p (.extract 1), [.t 47], none⟩,
 .one ⟨some 13, .p .move, [.t 53], none⟩,
 .one ⟨some 14, .p .move, [.t 54], none⟩])
 (.seq (.seq (.region [.one ⟨some 55, .p .move, [.t 14], none⟩,
 .one ⟨some 56, .p (.bin .eql), [.t 55, .c (.int .i64 2)], none⟩])
 (.cond (.t 56)
 (.seq (.region [.one ⟨some 57, .p .move, [.t 0], none⟩,
 .one ⟨some 58, .p .move, [.t 1], none⟩,
 .one ⟨some 59, .p .move, [.t 2], none⟩,
 .one ⟨some 60, .p .move, [.t 4], none⟩,
 .one ⟨some 61, .call 134, [.t 57, .t 58, .t 59, .t 60], none⟩])
 (.seq (.region [.one ⟨some 62, .p .move, [.t 2], none⟩,
 .one ⟨some 63, .p (.bin .sub), [.t 62, .c (.int .i64 1)], none⟩,
 .one ⟨some 64, .p .move, [.t 13], none⟩,
 .one ⟨some 65, .p .move, [.t 1], none⟩,
 .one ⟨some 66, .p (.bin .sub), [.t 64, .t 65], none⟩,
 .one ⟨some 67, .p (.bin .sub), [.t 63, .t 66], none⟩,
 .one ⟨some 13, .p .move, [.t 67], none⟩])
 (.region [.one ⟨some 14, .p .move, [.c (.int .i64 1)], none⟩])))
 .skip))
 (.seq (.seq (.region [.one ⟨some 68, .p .move, [.t 10], none⟩,
 .one ⟨some 69, .p .move, [.t 68], none⟩,
 .grp 69 true [⟨some 70, .p .move, [.t 11], none⟩],
 .one ⟨some 71, .p .pick, [.t 69, .t 70, .c (.bool false)], none⟩,
 .one ⟨some 72, .p .move, [.t 71], none⟩,
 .grp 72 true [⟨some 73, .p .move, [.t 14], none⟩, ⟨some 74, .p (.bin .eql), [.t 73, .c (.int .i64 1)], none⟩],
 .one ⟨some 75, .p .pick, [.t 72, .t 74, .c (.bool false)], none⟩])
 (.cond (.t 75)
 (.seq (.region [.one ⟨some 76, .p .move, [.t 0], none⟩,
 .one ⟨some 77, .p .move, [.t 1], none⟩,
 .one ⟨some 78, .p .move, [.t 2], none⟩,
 .one ⟨some 79, .p .move, [.t 4], none⟩,
 .one ⟨some 80, .call 135, [.t 76, .t 77, .t 78, .t 79], none⟩])
 (.cond (.t 80)
 .ret
 .skip))
 .skip))
 (.seq (.seq (.region [.one ⟨some 81, .p .move, [.t 1], none⟩,
 .one ⟨some 82, .p (.bin .gtr), [.t 81, .c (.int .i64 0)], none⟩,
 .one ⟨some 83, .p .move, [.t 82], none⟩,
 .grp 83 true [⟨some 84, .p .move, [.t 4], none⟩, ⟨some 85, .p .move, [.t 0], none⟩, ⟨some 86, .p .move, [.t 1], none⟩, ⟨some 87, .p (.bin .sub), [.t 86, .c (.int .i64 1)], none⟩, ⟨some 88, .p (.indexAddr 2), [.t 85, .t 87], none⟩, ⟨some 89, .r (.loadN 2), [.t 88], none⟩, ⟨some 90, .p .move, [.t 0], none⟩, ⟨some 91, .p .move, [.t 13], none⟩, ⟨some 92, .p (.indexAddr 2), [.t 90, .t 91], none⟩, ⟨some 93, .r (.loadN 2), [.t 92], none⟩, ⟨some 94, .callV, [.t 84, .t 89, .t 93], none⟩, ⟨some 95, .p (.bin .lss), [.t 94, .c (.int .i64 0)], none⟩, ⟨some 96, .p (.un .not), [.t 95], none⟩],
 .one ⟨some 97, .p .pick, [.t 83, .t 96, .c (.bool false)], none⟩])
 (.cond (.t 97)
 (.seq (.region [.one ⟨some 98, .p .move, [.t 0], none⟩,
 .one ⟨some 99, .p .move, [.t 1], none⟩,
 .one ⟨some 100, .p .move, [.t 2], none⟩,
 .one ⟨some 101, .p .move, [.t 13], none⟩,
 .one ⟨some 102, .p .move, [.t 4], none⟩,
 .one ⟨some 103, .call 136, [.t 98, .t 99, .t 100, .t 101, .t 102], none⟩,
 .one ⟨some 15, .p .move, [.t 103], none⟩])
 (.seq (.region [.one ⟨some 104, .p .move, [.t 15], none⟩,
 .one ⟨some 1, .p .move, [.t 104], none⟩])
 (.exit 1)))
 .skip))
 (.seq (.region [.one ⟨some 106, .p .move, [.t 0], none⟩,
 .one ⟨some 107, .p .move, [.t 1], none⟩,
 .one ⟨some 108, .p .move, [.t 2], none⟩,
 .one ⟨some 109, .p .move, [.t 13], none⟩,
 .one ⟨some 110, .p .move, [.t 4], none⟩,
 .one ⟨some 111, .call 137, [.t 106, .t 107, .t 108, .t 109, .t 110], none⟩,
 .one ⟨some 105, .p .move, [.t 111], none⟩,
 .one ⟨some 112, .p (.extract 0), [.t 105], none⟩,
 .one ⟨some 113, .p (.extract 1), [.t 105], none⟩,
 .one ⟨some 16, .p .move, [.t 112], none⟩,
 .one ⟨some 17, .p .move, [.t 113], none⟩])
 (.seq (.region [.one ⟨some 114, .p .move, [.t 17], none⟩,
 .one ⟨some 11, .p .move, [.t 114], none⟩])
 (.seq (.region [.one ⟨some 115, .p .move, [.t 16], none⟩,
 .one ⟨some 116, .p .move, [.t 1], none⟩,
 .one ⟨some 117, .p (.bin .sub), [.t 115, .t 116], none⟩,
 .one ⟨some 118, .p .move, [.t 2], none⟩,
 .one ⟨some 119, .p .move, [.t 16], none⟩,
 .one ⟨some 120, .p (.bin .sub), [.t 118, .t 119], none⟩,
 .one ⟨some 18, .p .move, [.t 117], none⟩,
 .one ⟨some 19, .p .move, [.t 120], none⟩])
 (.seq (.region [.one ⟨some 121, .p .move, [.t 12], none⟩,
 .one ⟨some 122, .p (.bin .quo), [.t 121, .c (.int .i64 8)], none⟩,
 .one ⟨some 20, .p .move, [.t 122], none⟩])
 (.seq (.region [.one ⟨some 123, .p .move, [.t 18], none⟩,
 .one ⟨some 124, .p .move, [.t 19], none⟩,
 .one ⟨some 125, .p (.bin .lss), [.t 123, .t 124], none⟩])
 (.cond (.t 125)
 (.seq (.region [.one ⟨some 126, .p .move, [.t 18], none⟩,
 .one ⟨some 127, .p .move, [.t 20], none⟩,
 .one ⟨some 128, .p (.bin .geq), [.t 126, .t 127], none⟩,
 .one ⟨some 10, .p .move, [.t 128], none⟩])
 (.seq (.region [.one ⟨some 129, .p .move, [.t 0], none⟩,
 .one ⟨some 130, .p .move, [.t 1], none⟩,
 .one ⟨some 131, .p .move, [.t 16], none⟩,
 .one ⟨some 132, .p .move, [.t 3], none⟩,
 .one ⟨some 133, .p .move, [.t 4], none⟩,
 .one ⟨some 134, .call 110, [.t 129, .t 130, .t 131, .t 132, .t 133], none⟩])
 (.region [.one ⟨some 135, .p .move, [.t 16], none⟩,
 .one ⟨some 136, .p (.bin .add), [.t 135, .c (.int .i64 1)], none⟩,
 .one ⟨some 1, .p .move, [.t 136], none⟩])))
 (.seq (.region [.one ⟨some 137, .p .move, [.t 19], none⟩,
 .one ⟨some 138, .p .move, [.t 20], none⟩,
 .one ⟨some 139, .p (.bin .geq), [.t 137, .t 138], none⟩,
 .one ⟨some 10, .p .move, [.t 139], none⟩])
 (.seq (.region [.one ⟨some 140, .p .move, [.t 0], none⟩,
 .one ⟨some 141, .p .move, [.t 16], none⟩,
 .one ⟨some 142, .p (.bin .add), [.t 141, .c (.int .i64 1)], none⟩,
 .one ⟨some 143, .p .move, [.t 2], none⟩,
 .one ⟨some 144, .p .move, [.t 3], none⟩,
 .one ⟨some 145, .p .move, [.t 4], none⟩,
 .one ⟨some 146, .call 110, [.t 140, .t 142, .t 143, .t 144, .t 145], none⟩])
 (.region [.one ⟨some 147, .p .move, [.t 16], none⟩,
 .one ⟨some 2, .p .move, [.t 147], none⟩]))))))))))))))))))))),
 []⟩

theorem g110_ok : compFn Tryz.prog 110 = some (fromGFn g110) := by kernel_rfl

def g111 : GFn := ⟨8,
 .seq (.region [.one ⟨some 2, .p .move, [.c (.int .i64 0)], none⟩])
 (.seq (.cond (.c (.bool false))
 (.seq (.region [.one ⟨some 3, .p .move, [.t 0], none⟩,
 .one ⟨some 4, .p (.convInt .u32), [.t 3], none⟩,
 .one ⟨some 5, .call 138, [.t 4], none⟩,
 .one ⟨some 2, .p .move, [.t 5], none⟩])
 .ret)
 .skip)
 (.seq (.region [.one ⟨some 6, .p .move, [.t 0], none⟩,
 .one ⟨some 7, .call 139, [.t 6], none⟩,
 .one ⟨some 2, .p .move, [.t 7], none⟩])
 .ret)),
 [(2, 0)]⟩

theorem g111_ok : compFn Tryz.prog 111 = some (fromGFn g111) := by kernel_rfl

def g118 : GFn := ⟨9,
 .seq (.region [.one ⟨some 4, .p .move, [.c (.bool false)], none⟩])
 (.seq (.region [.one ⟨some 5, .p .move, [.t 0], none⟩,
 .one ⟨some 6, .p .move, [.t 1], none⟩,
 .one ⟨some 7, .call 144, [.t 5, .t 6], none⟩,
 .one ⟨some 8, .p (.bin .geq), [.t 7, .c (.int .i64 0)], none⟩,
 .one ⟨some 4, .p .move, [.t 8], none⟩])
 .ret),
 [(4, 0)]⟩

theorem g118_ok : compFn Tryz.prog 118 = some (fromGFn g118) := by kernel_rfl

def g122 : GFn := ⟨16,
 .seq (.region [.one ⟨some 2, .p .move, [.c (.string ByteArray.empty)], none⟩,
 .one ⟨some 3, .p .move, [.c (.string ByteArray.empty)], none⟩])
 (.seq (.seq (.region [.one ⟨some 5, .p .move, [.t 0], none⟩,
 .one ⟨some 6, .call 148, [.t 5, .c (.string ⟨#[32, 61]⟩)], none⟩,
 .one ⟨some 4, .p .move, [.t 6], none⟩])
 (.seq (.region [.one ⟨some 7, .p .move, [.t 4], none⟩,
 .one ⟨some 8, .p (.bin .geq), [.t 7, .c (.int .i64 0)], none⟩])
 (.cond (.t 8)
 (.seq (.region [.one ⟨some 9, .p .move, [.t 0], none⟩,
 .one ⟨some 10, .p .move, [.t 4], none⟩,
 .one ⟨some 11, .p (.slStr false true), [.t 9, .t 10], none⟩,
 .one ⟨some 12, .p .move, [.t 0], none⟩,
 .one ⟨some 13, .p .move, [.t 4], none⟩,
 .one ⟨some 14, .p (.slStr true false), [.t 12, .t 13], none⟩,
 .one ⟨some 2, .p .move, [.t 11], none⟩,
 .one ⟨some 3, .p .move, [.t 14], none⟩])
 .ret)
 .skip)))
 (.seq (.region [.one ⟨some 15, .p .move, [.t 0], none⟩,
 .one ⟨some 2, .p .move, [.t 15], none⟩,
 .one ⟨some 3, .p .move, [.c (.string ByteArray.empty)], none⟩])
 .ret)),
 [(2, 0), (3, 0)]⟩

theorem g122_ok : compFn Tryz.prog 122 = some (fromGFn g122) := by kernel_rfl

def g123 : GFn := ⟨19,
 .seq (.region [.one ⟨some 0, .p .move, [.c (.map none)], none⟩])
 (.seq (.region [.one ⟨some 1, .w .mkMap, [], none⟩,
 .one ⟨some 2, .p (.build [.string ByteArray.empty, .nilFunc] [(0, 1), (1, 1)]), [.c (.string ⟨#[116, 101, 120, 116, 47, 102]⟩), .c (.func (.func 149) #[] #[])], none⟩,
 .one ⟨none, .w (.mapSet .str), [.t 1, .c (.string ⟨#[101, 99, 104, 111]⟩), .t 2], none⟩,
 .one ⟨some 3, .p (.build [.string ByteArray.empty, .nilFunc] [(0, 1), (1, 1)]), [.c (.string ⟨#[102, 105, 108, 101, 47, 97, 44, 110, 47, 115]⟩), .c (.func (.func 150) #[] #[])], none⟩,
 .one ⟨none, .w (.mapSet .str), [.t 1, .c (.string ⟨#[116, 121, 112, 101]⟩), .t 3], none⟩,
 .one ⟨some 4, .p (.build [.string ByteArray.empty, .nilFunc] [(0, 1), (1, 1)]), [.c (.string ⟨#[102, 114, 111, 109, 47, 97, 44, 116, 111, 47, 97]⟩), .c (.func (.func 151) #[] #[])], none⟩,
 .one ⟨none, .w (.mapSet .str), [.t 1, .c (.string ⟨#[99, 111, 112, 121]⟩), .t 4], none⟩,
 .one ⟨some 5, .p (.build [.string ByteArray.empty, .nilFunc] [(0, 1), (1, 1)]), [.c (.string ⟨#[102, 105, 108, 101, 115, 47, 109, 44, 116, 111, 47, 107, 47, 97]⟩), .c (.func (.func 152) #[] #[])], none⟩,
 .one ⟨none, .w (.mapSet .str), [.t 1, .c (.string ⟨#[106, 111, 105, 110]⟩), .t 5], none⟩,
 .one ⟨some 6, .p (.build [.string ByteArray.empty, .nilFunc] [(0, 1), (1, 1)]), [.c (.string ⟨#[102, 105, 108, 101, 115, 47, 109]⟩), .c (.func (.func 153) #[] #[])], none⟩,
 .one ⟨none, .w (.mapSet .str), [.t 1, .c (.string ⟨#[100, 101, 108, 101, 116, 101]⟩), .t 6], none⟩,
 .one ⟨some 7, .p (.build [.string ByteArray.empty, .nilFunc] [(0, 1), (1, 1)]), [.c (.string ByteArray.empty), .c (.func (.func 154) #[] #[])], none⟩,
 .one ⟨none, .w (.mapSet .str), [.t 1, .c (.string ⟨#[108, 105, 115, 116]⟩), .t 7], none⟩,
 .one ⟨some 8, .p (.build [.string ByteArray.empty, .nilFunc] [(0, 1), (1, 1)]), [.c (.string ⟨#[110, 97, 109, 101, 44, 116, 111, 44, 114, 101, 109, 111, 118, 101, 47, 115]⟩), .c (.func (.func 155) #[] #[])], none⟩,
 .one ⟨none, .w (.mapSet .str), [.t 1, .c (.string ⟨#[97, 115, 115, 105, 103, 110]⟩), .t 8], none⟩,
 .one ⟨some 9, .p (.build [.string ByteArray.empty, .nilFunc] [(0, 1), (1, 1)]), [.c (.string ByteArray.empty), .c (.func (.func 156) #[] #[])], none⟩,
 .one ⟨none, .w (.mapSet .str), [.t 1, .c (.string ⟨#[115, 111, 114, 116]⟩), .t 9], none⟩,
 .one ⟨some 10, .p (.build [.string ByteArray.empty, .nilFunc] [(0, 1), (1, 1)]), [.c (.string ByteArray.empty), .c (.func (.func 157) #[] #[])], none⟩,
 .one ⟨none, .w (.mapSet .str), [.t 1, .c (.string ⟨#[99, 111, 117, 110, 116]⟩), .t 10], none⟩,
 .one ⟨some 11, .p (.build [.string ByteArray.empty, .nilFunc] [(0, 1), (1, 1)]), [.c (.string ⟨#[116, 101, 120, 116, 47, 97]⟩), .c (.func (.func 158) #[] #[])], none⟩,
 .one ⟨none, .w (.mapSet .str), [.t 1, .c (.string ⟨#[102, 105, 110, 100]⟩), .t 11], none⟩,
 .one ⟨some 12, .p (.build [.string ByteArray.empty, .nilFunc] [(0, 1), (1, 1)]), [.c (.string ⟨#[102, 105, 108, 101, 47, 97, 44, 110, 111, 116, 47, 115, 44, 100, 111, 47, 102]⟩), .c (.func (.func 159) #[] #[])], none⟩,
 .one ⟨none, .w (.mapSet .str), [.t 1, .c (.string ⟨#[105, 102]⟩), .t 12], none⟩,
 .one ⟨some 13, .p (.build [.string ByteArray.empty, .nilFunc] [(0, 1), (1, 1)]), [.c (.string ⟨#[99, 111, 100, 101, 47, 110]⟩), .c (.func (.func 160) #[] #[])], none⟩,
 .one ⟨none, .w (.mapSet .str), [.t 1, .c (.string ⟨#[113, 117, 105, 116]⟩), .t 13], none⟩,
 .one ⟨some 14, .p (.build [.string ByteArray.empty, .nilFunc] [(0, 1), (1, 1)]), [.c (.string ⟨#[99, 111, 100, 101, 47, 110, 47, 97]⟩), .c (.func (.func 161) #[] #[])], none⟩,
 .one ⟨none, .w (.mapSet .str), [.t 1, .c (.string ⟨#[102, 97, 105, 108]⟩), .t 14], none⟩,
 .one ⟨some 15, .p (.build [.string ByteArray.empty, .nilFunc] [(0, 1), (1, 1)]), [.c (.string ⟨#[99, 111, 100, 101, 47, 110, 47, 97]⟩), .c (.func (.func 162) #[] #[])], none⟩,
 .one ⟨none, .w (.mapSet .str), [.t 1, .c (.string ⟨#[102, 97, 105, 108, 97, 116]⟩), .t 15], none⟩,
 .one ⟨some 16, .p (.build [.string ByteArray.empty, .nilFunc] [(0, 1), (1, 1)]), [.c (.string ⟨#[102, 105, 108, 101, 47, 97, 44, 97, 114, 103, 115, 47, 102]⟩), .c (.func (.func 163) #[] #[])], none⟩,
 .one ⟨none, .w (.mapSet .str), [.t 1, .c (.string ⟨#[101, 120, 101, 99, 117, 116, 101]⟩), .t 16], none⟩,
 .one ⟨some 17, .p (.build [.string ByteArray.empty, .nilFunc] [(0, 1), (1, 1)]), [.c (.string ⟨#[110, 97, 109, 101, 47, 97, 44, 118, 97, 108, 117, 101, 47, 102]⟩), .c (.func (.func 164) #[] #[])], none⟩,
 .one ⟨none, .w (.mapSet .str), [.t 1, .c (.string ⟨#[115, 101, 116]⟩), .t 17], none⟩,
 .one ⟨some 18, .p .move, [.t 1], none⟩,
 .one ⟨some 0, .p .move, [.t 18], none⟩])
 .ret),
 [(0, 0)]⟩

theorem g123_ok : compFn Tryz.prog 123 = some (fromGFn g123) := by kernel_rfl

def g124 : GFn := ⟨100,
 .seq (.region [.one ⟨some 4, .p .move, [.c (.slice none 0 0)], none⟩,
 .one ⟨some 5, .p .move, [.c (.int .i64 0)], none⟩])
 (.seq (.seq (.region [.one ⟨some 15, .p .move, [.t 1], none⟩,
 .one ⟨some 16, .p .lenStr, [.t 15], none⟩,
 .one ⟨some 17, .p (.bin .gtr), [.t 16, .c (.int .i64 1000)], none⟩])
 (.cond (.t 17)
 (.seq (.region [.one ⟨some 4, .p .move, [.c (.slice none 0 0)], none⟩,
 .one ⟨some 5, .p .move, [.c (.int .i64 2)], none⟩])
 .ret)
 .skip))
 (.seq (.region [.one ⟨some 19, .p .move, [.t 0], none⟩,
 .one ⟨some 20, .call 165, [.t 19], none⟩,
 .one ⟨some 18, .p .move, [.t 20], none⟩,
 .one ⟨some 21, .p (.extract 0), [.t 18], none⟩,
 .one ⟨some 22, .p (.extract 1), [.t 18], none⟩,
 .one ⟨some 6, .p .move, [.t 21], none⟩,
 .one ⟨some 7, .p .move, [.t 22], none⟩])
 (.seq (.seq (.region [.one ⟨some 23, .p .move, [.t 7], none⟩,
 .one ⟨some 24, .p (.bin .neq), [.t 23, .c (.int .i64 0)], none⟩])
 (.cond (.t 24)
 (.seq (.region [.one ⟨some 25, .p .move, [.t 7], none⟩,
 .one ⟨some 4, .p .move, [.c (.slice none 0 0)], none⟩,
 .one ⟨some 5, .p .move, [.t 25], none⟩])
 .ret)
 .skip))
 (.seq (.seq (.region [.one ⟨some 26, .p .move, [.t 1], none⟩,
 .one ⟨some 27, .call 48, [.t 26], none⟩,
 .one ⟨some 8, .p .move, [.t 27], none⟩])
 (.seq (.region [.one ⟨some 28, .p .move, [.t 8], none⟩,
 .one ⟨some 29, .p (.bin .neq), [.t 28, .c (.int .i64 0)], none⟩])
 (.cond (.t 29)
 (.seq (.region [.one ⟨some 30, .p .move, [.t 8], none⟩,
 .one ⟨some 4, .p .move, [.c (.slice none 0 0)], none⟩,
 .one ⟨some 5, .p .move, [.t 30], none⟩])
 .ret)
 .skip)))
 (.seq (.region [.one ⟨some 31, .p .move, [.t 6], none⟩,
 .one ⟨some 32, .p .move, [.t 1], none⟩,
 .one ⟨some 33, .p .move, [.t 6], none⟩,
 .one ⟨some 34, .p .lenSl, [.t 33], none⟩,
 .one ⟨some 35, .w (.mkSlice [.bool false] 1), [.t 34, .t 34], none⟩,
 .one ⟨some 36, .p (.build [.slice none 0 0, .string ByteArray.empty, .int .i64 0, .slice none 0 0, .slice none 0 0] [(0, 1), (1, 1), (4, 1)]), [.t 31, .t 32, .t 35], none⟩,
 .one ⟨some 37, .w (.box 5), [.t 36], none⟩,
 .one ⟨some 9, .p .move, [.t 37], none⟩])
 (.seq (.seq (.region [.one ⟨some 38, .p .move, [.t 6], none⟩,
 .one ⟨some 39, .p .lenSl, [.t 38], none⟩,
 .one ⟨some 40, .p .move, [.c (.int .i64 0)], none⟩])
 (.block 0 (.loop (.seq (.region [.one ⟨some 41, .p (.bin .lss), [.t 40, .t 39], none⟩])
 (.seq (.cond (.t 41)
 .skip
 (.exit 0))
 (.seq (.block 1 (.seq (.region [.one ⟨some 42, .p (.indexAddr 7), [.t 38, .t 40], none⟩,
 .one ⟨some 43, .r (.loadN 7), [.t 42], none⟩,
 .one ⟨some 11, .w (.new [.slice none 0 0, .bool false, .bool false, .bool false, .bool false, .bool false, .bool false]), [], none⟩,
 .one ⟨none, .w (.store 7), [.t 11, .t 43], none⟩])
 (.region [.one ⟨some 44, .p .move, [.t 9], none⟩,
 .one ⟨some 45, .p .move, [.t 9], none⟩,
 .one ⟨some 46, .p .nilCheck, [.t 45], none⟩,
 .one ⟨some 47, .p (.fieldAddr 3), [.t 46], none⟩,
 .one ⟨some 48, .r .load1, [.t 47], none⟩,
 .one ⟨some 49, .p (.fieldAddr 0), [.t 11], none⟩,
 .one ⟨some 50, .r .load1, [.t 49], none⟩,
 .one ⟨some 51, .p (.indexAddr 1), [.t 50, .c (.int .i64 0)], none⟩,
 .one ⟨some 52, .r .load1, [.t 51], none⟩,
 .one ⟨some 53, .p (.build [.string ByteArray.empty, .slice none 0 0, .bool false] [(0, 1)]), [.t 52], none⟩,
 .one ⟨some 54, .w (.sliceLit [.string ByteArray.empty, .slice none 0 0, .bool false] 1 [(0, 3)]), [.t 53], none⟩,
 .one ⟨none, .r .same1, [.t 48, .t 47], none⟩,
 .one ⟨some 55, .w (.append 3 48), [.t 48, .t 54], none⟩,
 .one ⟨some 56, .p .nilCheck, [.t 44], none⟩,
 .one ⟨some 57, .p (.fieldAddr 3), [.t 56], none⟩,
 .one ⟨none, .w (.store 1), [.t 57, .t 55], none⟩])))
 (.region [.one ⟨some 58, .p (.bin .add), [.t 40, .c (.int .i64 1)], none⟩,
 .one ⟨some 40, .p .move, [.t 58], none⟩])))))))
 (.seq (.seq (.region [.one ⟨some 59, .p .move, [.t 9], none⟩,
 .one ⟨some 60, .call 166, [.t 59, .c (.int .i64 0)], none⟩,
 .one ⟨some 12, .p .move, [.t 60], none⟩])
 (.block 2 (.loop (.seq (.seq (.region [.one ⟨some 61, .p .move, [.t 12], none⟩,
 .one ⟨some 62, .p .move, [.t 1], none⟩,
 .one ⟨some 63, .p .lenStr, [.t 62], none⟩,
 .one ⟨some 64, .p (.bin .lss), [.t 61, .t 63], none⟩])
 (.cond (.t 64)
 .skip
 (.exit 2)))
 (.seq (.block 3 (.seq (.region [.one ⟨some 71, .p .move, [.t 9], none⟩,
 .one ⟨some 72, .p .move, [.t 12], none⟩,
 .one ⟨some 73, .call 167, [.t 71, .t 72], none⟩,
 .one ⟨some 74, .p (.un .not), [.t 73], none⟩])
 (.cond (.t 74)
 (.seq (.region [.one ⟨some 4, .p .move, [.c (.slice none 0 0)], none⟩,
 .one ⟨some 5, .p .move, [.c (.int .i64 250)], none⟩])
 .ret)
 .skip)))
 (.region [.one ⟨some 65, .p .move, [.t 9], none⟩,
 .one ⟨some 66, .p .move, [.t 9], none⟩,
 .one ⟨some 67, .p .nilCheck, [.t 66], none⟩,
 .one ⟨some 68, .p (.fieldAddr 2), [.t 67], none⟩,
 .one ⟨some 69, .r .load1, [.t 68], none⟩,
 .one ⟨some 70, .call 166, [.t 65, .t 69], none⟩,
 .one ⟨some 12, .p .move, [.t 70], none⟩]))))))
 (.seq (.seq (.region [.one ⟨some 75, .p .move, [.t 6], none⟩,
 .one ⟨some 76, .p .lenSl, [.t 75], none⟩,
 .one ⟨some 77, .p .move, [.c (.int .i64 0)], none⟩])
 (.block 4 (.loop (.seq (.region [.one ⟨some 78, .p (.bin .lss), [.t 77, .t 76], none⟩])
 (.seq (.cond (.t 78)
 .skip
 (.exit 4))
 (.seq (.block 5 (.seq (.region [.one ⟨some 79, .p .move, [.t 77], none⟩,
 .one ⟨some 80, .p (.indexAddr 7), [.t 75, .t 77], none⟩,
 .one ⟨some 81, .r (.loadN 7), [.t 80], none⟩,
 .one ⟨some 14, .w (.new [.slice none 0 0, .bool false, .bool false, .bool false, .bool false, .bool false, .bool false]), [], none⟩,
 .one ⟨some 13, .p .move, [.t 79], none⟩,
 .one ⟨none, .w (.store 7), [.t 14, .t 81], none⟩])
 (.seq (.region [.one ⟨some 82, .p (.fieldAddr 1), [.t 14], none⟩,
 .one ⟨some 83, .r .load1, [.t 82], none⟩,
 .one ⟨some 84, .p .move, [.t 83], none⟩,
 .grp 84 true [⟨some 85, .p .move, [.t 9], none⟩, ⟨some 86, .p .nilCheck, [.t 85], none⟩, ⟨some 87, .p (.fieldAddr 3), [.t 86], none⟩, ⟨some 88, .r .load1, [.t 87], none⟩, ⟨some 89, .p .move, [.t 13], none⟩, ⟨some 90, .p (.indexAddr 3), [.t 88, .t 89], none⟩, ⟨some 91, .p (.fieldAddr 2), [.t 90], none⟩, ⟨some 92, .r .load1, [.t 91], none⟩, ⟨some 93, .p (.un .not), [.t 92], none⟩],
 .one ⟨some 94, .p .pick, [.t 84, .t 93, .c (.bool false)], none⟩])
 (.cond (.t 94)
 (.seq (.region [.one ⟨some 4, .p .move, [.c (.slice none 0 0)], none⟩,
 .one ⟨some 5, .p .move, [.c (.int .i64 250)], none⟩])
 .ret)
 .skip))))
 (.region [.one ⟨some 95, .p (.bin .add), [.t 77, .c (.int .i64 1)], none⟩,
 .one ⟨some 77, .p .move, [.t 95], none⟩])))))))
 (.seq (.region [.one ⟨some 96, .p .move, [.t 9], none⟩,
 .one ⟨some 97, .p .nilCheck, [.t 96], none⟩,
 .one ⟨some 98, .p (.fieldAddr 3), [.t 97], none⟩,
 .one ⟨some 99, .r .load1, [.t 98], none⟩,
 .one ⟨some 4, .p .move, [.t 99], none⟩,
 .one ⟨some 5, .p .move, [.c (.int .i64 0)], none⟩])
 .ret))))))))),
 [(4, 0), (5, 0)]⟩

theorem g124_ok : compFn Tryz.prog 124 = some (fromGFn g124) := by kernel_rfl

def g127 : GFn := ⟨30,
 .seq (.region [.one ⟨some 4, .p .move, [.c (.slice none 0 0)], none⟩,
 .one ⟨some 5, .p .move, [.c (.int .i64 0)], none⟩])
 (.seq (.region [.one ⟨some 6, .p .move, [.c (.slice none 0 0)], none⟩])
 (.block 0 (.loop (.block 1 (.seq (.region [.one ⟨some 11, .p .move, [.t 0], none⟩,
 .one ⟨some 12, .p .nilCheck, [.t 11], none⟩,
 .one ⟨some 13, .p (.fieldAddr 0), [.t 12], none⟩,
 .one ⟨some 14, .r .load1, [.t 13], none⟩,
 .one ⟨some 15, .p .move, [.t 1], none⟩,
 .one ⟨some 16, .call 168, [.t 14, .t 15, .c (.int .i64 10000)], none⟩,
 .one ⟨some 10, .p .move, [.t 16], none⟩,
 .one ⟨some 17, .p (.extract 0), [.t 10], none⟩,
 .one ⟨some 18, .p (.extract 1), [.t 10], none⟩,
 .one ⟨some 19, .p (.extract 2), [.t 10], none⟩,
 .one ⟨some 7, .p .move, [.t 17], none⟩,
 .one ⟨some 8, .p .move, [.t 18], none⟩,
 .one ⟨some 9, .p .move, [.t 19], none⟩])
 (.seq (.seq (.region [.one ⟨some 20, .p .move, [.t 8], none⟩,
 .one ⟨some 21, .p .move, [.t 20], none⟩,
 .grp 21 false [⟨some 22, .p .move, [.t 9], none⟩, ⟨some 23, .p (.bin .neq), [.t 22, .c (.int .i64 0)], none⟩],
 .one ⟨some 24, .p .pick, [.t 21, .c (.bool true), .t 23], none⟩])
 (.cond (.t 24)
 (.seq (.region [.one ⟨some 25, .p .move, [.t 6], none⟩,
 .one ⟨some 26, .p .move, [.t 9], none⟩,
 .one ⟨some 4, .p .move, [.t 25], none⟩,
 .one ⟨some 5, .p .move, [.t 26], none⟩])
 .ret)
 .skip))
 (.region [.one ⟨some 27, .p .move, [.t 6], none⟩,
 .one ⟨some 28, .p .move, [.t 7], none⟩,
 .one ⟨some 29, .w (.append 1 1), [.t 27, .t 28], none⟩,
 .one ⟨some 6, .p .move, [.t 29], none⟩]))))))),
 [(4, 0), (5, 0)]⟩

theorem g127_ok : compFn Tryz.prog 127 = some (fromGFn g127) := by kernel_rfl

def g128 : GFn := ⟨10,
 .seq (.region [.one ⟨some 4, .p .move, [.c (.int .i64 0)], none⟩])
 (.seq (.region [.one ⟨some 5, .r .load1, [.t 1], none⟩,
 .one ⟨some 6, .r .load1, [.t 2], none⟩,
 .one ⟨some 7, .p .move, [.t 0], none⟩,
 .one ⟨some 8, .w .strToBytes, [.t 7], none⟩,
 .one ⟨some 9, .call 129, [.t 5, .t 6, .t 8], none⟩,
 .one ⟨some 4, .p .move, [.t 9], none⟩])
 .ret),
 [(4, 0)]⟩

theorem g128_ok : compFn Tryz.prog 128 = some (fromGFn g128) := by kernel_rfl

def g129 : GFn := ⟨32,
 .seq (.region [.one ⟨some 6, .p .move, [.c (.int .i64 0)], none⟩])
 (.seq (.seq (.region [.one ⟨some 7, .p .move, [.c (.bool true)], none⟩])
 (.block 0 (.loop (.seq (.seq (.region [.one ⟨some 10, .p .move, [.t 7], none⟩,
 .one ⟨some 11, .p .move, [.t 10], none⟩,
 .grp 11 false [⟨some 12, .p .move, [.t 2], none⟩, ⟨some 13, .p .lenSl, [.t 12], none⟩, ⟨some 14, .p (.bin .gtr), [.t 13, .c (.int .i64 0)], none⟩],
 .one ⟨some 15, .p .pick, [.t 11, .c (.bool true), .t 14], none⟩])
 (.cond (.t 15)
 .skip
 (.exit 0)))
 (.seq (.block 1 (.seq (.region [.one ⟨some 17, .p .move, [.t 0], none⟩,
 .one ⟨some 18, .p .nilCheck, [.t 17], none⟩,
 .one ⟨some 19, .p (.fieldAddr 0), [.t 18], none⟩,
 .one ⟨some 20, .r .load1, [.t 19], none⟩,
 .one ⟨some 21, .p .move, [.t 1], none⟩,
 .one ⟨some 22, .p .move, [.t 2], none⟩,
 .one ⟨some 23, .call 35, [.t 20, .t 21, .t 22], none⟩,
 .one ⟨some 16, .p .move, [.t 23], none⟩,
 .one ⟨some 24, .p (.extract 0), [.t 16], none⟩,
 .one ⟨some 25, .p (.extract 1), [.t 16], none⟩,
 .one ⟨some 8, .p .move, [.t 24], none⟩,
 .one ⟨some 9, .p .move, [.t 25], none⟩])
 (.seq (.seq (.region [.one ⟨some 26, .p .move, [.t 9], none⟩,
 .one ⟨some 27, .p (.bin .neq), [.t 26, .c (.int .i64 0)], none⟩])
 (.cond (.t 27)
 (.seq (.region [.one ⟨some 28, .p .move, [.t 9], none⟩,
 .one ⟨some 6, .p .move, [.t 28], none⟩])
 .ret)
 .skip))
 (.region [.one ⟨some 29, .p .move, [.t 2], none⟩,
 .one ⟨some 30, .p .move, [.t 8], none⟩,
 .one ⟨some 31, .r (.sl 1 true false), [.t 29, .t 30], none⟩,
 .one ⟨some 2, .p .move, [.t 31], none⟩]))))
 (.region [.one ⟨some 7, .p .move, [.c (.bool false)], none⟩]))))))
 (.seq (.region [.one ⟨some 6, .p .move, [.c (.int .i64 0)], none⟩])
 .ret)),
 [(6, 0)]⟩

theorem g129_ok : compFn Tryz.prog 129 = some (fromGFn g129) := by kernel_rfl

def g130 : GFn := ⟨53,
 .seq (.region [.one ⟨some 10, .p .move, [.t 1], none⟩,
 .one ⟨some 11, .p (.bin .add), [.t 10, .c (.int .i64 1)], none⟩,
 .one ⟨some 8, .p .move, [.t 11], none⟩])
 (.block 0 (.loop (.seq (.seq (.region [.one ⟨some 12, .p .move, [.t 8], none⟩,
 .one ⟨some 13, .p .move, [.t 2], none⟩,
 .one ⟨some 14, .p (.bin .lss), [.t 12, .t 13], none⟩])
 (.cond (.t 14)
 .skip
 (.exit 0)))
 (.seq (.block 1 (.seq (.region [.one ⟨some 17, .p .move, [.t 8], none⟩,
 .one ⟨some 9, .p .move, [.t 17], none⟩])
 (.block 2 (.loop (.seq (.seq (.region [.one ⟨some 18, .p .move, [.t 9], none⟩,
 .one ⟨some 19, .p .move, [.t 1], none⟩,
 .one ⟨some 20, .p (.bin .gtr), [.t 18, .t 19], none⟩,
 .one ⟨some 21, .p .move, [.t 20], none⟩,
 .grp 21 true [⟨some 22, .p .move, [.t 3], none⟩, ⟨some 23, .p .move, [.t 0], none⟩, ⟨some 24, .p .move, [.t 9], none⟩, ⟨some 25, .p (.indexAddr 2), [.t 23, .t 24], none⟩, ⟨some 26, .r (.loadN 2), [.t 25], none⟩, ⟨some 27, .p .move, [.t 0], none⟩, ⟨some 28, .p .move, [.t 9], none⟩, ⟨some 29, .p (.bin .sub), [.t 28, .c (.int .i64 1)], none⟩, ⟨some 30, .p (.indexAddr 2), [.t 27, .t 29], none⟩, ⟨some 31, .r (.loadN 2), [.t 30], none⟩, ⟨some 32, .callV, [.t 22, .t 26, .t 31], none⟩, ⟨some 33, .p (.bin .lss), [.t 32, .c (.int .i64 0)], none⟩],
 .one ⟨some 34, .p .pick, [.t 21, .t 33, .c (.bool false)], none⟩])
 (.cond (.t 34)
 .skip
 (.exit 2)))
 (.seq (.block 3 (.region [.one ⟨some 37, .p .move, [.t 0], none⟩,
 .one ⟨some 38, .p .move, [.t 9], none⟩,
 .one ⟨some 39, .p .move, [.t 0], none⟩,
 .one ⟨some 40, .p .move, [.t 9], none⟩,
 .one ⟨some 41, .p (.bin .sub), [.t 40, .c (.int .i64 1)], none⟩,
 .one ⟨some 42, .p .move, [.t 0], none⟩,
 .one ⟨some 43, .p .move, [.t 9], none⟩,
 .one ⟨some 44, .p (.bin .sub), [.t 43, .c (.int .i64 1)], none⟩,
 .one ⟨some 45, .p (.indexAddr 2), [.t 42, .t 44], none⟩,
 .one ⟨some 46, .r (.loadN 2), [.t 45], none⟩,
 .one ⟨some 47, .p .move, [.t 0], none⟩,
 .one ⟨some 48, .p .move, [.t 9], none⟩,
 .one ⟨some 49, .p (.indexAddr 2), [.t 47, .t 48], none⟩,
 .one ⟨some 50, .r (.loadN 2), [.t 49], none⟩,
 .one ⟨some 51, .p (.indexAddr 2), [.t 37, .t 38], none⟩,
 .one ⟨none, .w (.store 2), [.t 51, .t 46], none⟩,
 .one ⟨some 52, .p (.indexAddr 2), [.t 39, .t 41], none⟩,
 .one ⟨none, .w (.store 2), [.t 52, .t 50], none⟩]))
 (.region [.one ⟨some 35, .p .move, [.t 9], none⟩,
 .one ⟨some 36, .p (.bin .sub), [.t 35, .c (.int .i64 1)], none⟩,
 .one ⟨some 9, .p .move, [.t 36], none⟩])))))))
 (.region [.one ⟨some 15, .p .move, [.t 8], none⟩,
 .one ⟨some 16, .p (.bin .add), [.t 15, .c (.int .i64 1)], none⟩,
 .one ⟨some 8, .p .move, [.t 16], none⟩]))))),
 []⟩

theorem g130_ok : compFn Tryz.prog 130 = some (fromGFn g130) := by kernel_rfl

def g144 : GFn := ⟨8,
 .seq (.region [.one ⟨some 4, .p .move, [.c (.int .i64 0)], none⟩])
 (.seq (.region [.one ⟨some 5, .p .move, [.t 0], none⟩,
 .one ⟨some 6, .p .move, [.t 1], none⟩,
 .one ⟨some 7, .call 117, [.t 5, .t 6], none⟩,
 .one ⟨some 4, .p .move, [.t 7], none⟩])
 .ret),
 [(4, 0)]⟩

theorem g144_ok : compFn Tryz.prog 144 = some (fromGFn g144) := by kernel_rfl

def g148 : GFn := ⟨55,
 .seq (.region [.one ⟨some 4, .p .move, [.c (.int .i64 0)], none⟩])
 (.seq (.seq (.region [.one ⟨some 11, .p .move, [.t 1], none⟩,
 .one ⟨some 12, .p (.bin .eql), [.t 11, .c (.string ByteArray.empty)], none⟩])
 (.cond (.t 12)
 (.seq (.region [.one ⟨some 4, .p .move, [.c (.int .i64 (-1))], none⟩])
 .ret)
 .skip))
 (.seq (.seq (.region [.one ⟨some 13, .p .move, [.t 1], none⟩,
 .one ⟨some 14, .p .lenStr, [.t 13], none⟩,
 .one ⟨some 15, .p (.bin .eql), [.t 14, .c (.int .i64 1)], none⟩])
 (.cond (.t 15)
 (.seq (.region [.one ⟨some 16, .p .move, [.t 1], none⟩,
 .one ⟨some 17, .p .indexStr, [.t 16, .c (.int .i64 0)], none⟩,
 .one ⟨some 18, .p (.convInt .i32), [.t 17], none⟩,
 .one ⟨some 5, .p .move, [.t 18], none⟩])
 (.seq (.seq (.region [.one ⟨some 19, .p .move, [.t 5], none⟩,
 .one ⟨some 20, .p (.bin .geq), [.t 19, .c (.int .i32 128)], none⟩])
 (.cond (.t 20)
 (.region [.one ⟨some 5, .p .move, [.c (.int .i32 65533)], none⟩])
 .skip))
 (.seq (.region [.one ⟨some 21, .p .move, [.t 0], none⟩,
 .one ⟨some 22, .p .move, [.t 5], none⟩,
 .one ⟨some 23, .call 114, [.t 21, .t 22], none⟩,
 .one ⟨some 4, .p .move, [.t 23], none⟩])
 .ret)))
 .skip))
 (.seq (.seq (.region [.one ⟨some 24, .p .move, [.t 0], none⟩,
 .one ⟨some 25, .p .lenStr, [.t 24], none⟩,
 .one ⟨some 26, .call 181, [.t 25], none⟩])
 (.cond (.t 26)
 (.seq (.region [.one ⟨some 28, .p .move, [.t 1], none⟩,
 .one ⟨some 29, .call 43, [.t 28], none⟩,
 .one ⟨some 27, .p .move, [.t 29], none⟩,
 .one ⟨some 30, .p (.extract 0), [.t 27], none⟩,
 .one ⟨some 31, .p (.extract 1), [.t 27], none⟩,
 .one ⟨some 6, .w (.new (List.replicate 256 (.bool false))), [], none⟩,
 .one ⟨none, .w (.store 256), [.t 6, .t 30], none⟩,
 .one ⟨some 7, .p .move, [.t 31], none⟩])
 (.seq (.region [.one ⟨some 32, .p .move, [.t 7], none⟩])
 (.cond (.t 32)
 (.seq (.seq (.region [.one ⟨some 8, .p .move, [.c (.int .i64 0)], none⟩])
 (.block 0 (.loop (.seq (.seq (.region [.one ⟨some 33, .p .move, [.t 8], none⟩,
 .one ⟨some 34, .p .move, [.t 0], none⟩,
 .one ⟨some 35, .p .lenStr, [.t 34], none⟩,
 .one ⟨some 36, .p (.bin .lss), [.t 33, .t 35], none⟩])
 (.cond (.t 36)
 .skip
 (.exit 0)))
 (.seq (.block 1 (.seq (.region [.one ⟨some 39, .p .move, [.t 0], none⟩,
 .one ⟨some 40, .p .move, [.t 8], none⟩,
 .one ⟨some 41, .p .indexStr, [.t 39, .t 40], none⟩,
 .one ⟨some 42, .call 75, [.t 6, .t 41], none⟩])
 (.cond (.t 42)
 (.seq (.region [.one ⟨some 43, .p .move, [.t 8], none⟩,
 .one ⟨some 4, .p .move, [.t 43], none⟩])
 .ret)
 .skip)))
 (.region [.one ⟨some 37, .p .move, [.t 8], none⟩,
 .one ⟨some 38, .p (.bin .add), [.t 37, .c (.int .i64 1)], none⟩,
 .one ⟨some 8, .p .move, [.t 38], none⟩]))))))
 (.seq (.region [.one ⟨some 4, .p .move, [.c (.int .i64 (-1))], none⟩])
 .ret))
 .skip)))
 .skip))
 (.seq (.seq (.region [.one ⟨some 44, .p .move, [.t 0], none⟩,
 .one ⟨some 45, .w (.range true), [.t 44], none⟩])
 (.block 2 (.loop (.seq (.region [.one ⟨some 46, .next true, [.t 45], none⟩,
 .one ⟨some 47, .p (.extract 0), [.t 46], none⟩])
 (.seq (.cond (.t 47)
 .skip
 (.exit 2))
 (.block 3 (.seq (.region [.one ⟨some 48, .p (.extract 1), [.t 46], none⟩,
 .one ⟨some 49, .p (.extract 2), [.t 46], none⟩,
 .one ⟨some 9, .p .move, [.t 48], none⟩,
 .one ⟨some 10, .p .move, [.t 49], none⟩])
 (.seq (.region [.one ⟨some 50, .p .move, [.t 1], none⟩,
 .one ⟨some 51, .p .move, [.t 10], none⟩,
 .one ⟨some 52, .call 114, [.t 50, .t 51], none⟩,
 .one ⟨some 53, .p (.bin .geq), [.t 52, .c (.int .i64 0)], none⟩])
 (.cond (.t 53)
 (.seq (.region [.one ⟨some 54, .p .move, [.t 9], none⟩,
 .one ⟨some 4, .p .move, [.t 54], none⟩])
 .ret)
 .skip)))))))))
 (.seq (.region [.one ⟨some 4, .p .move, [.c (.int .i64 (-1))], none⟩])
 .ret))))),
 [(4, 0)]⟩

theorem g148_ok : compFn Tryz.prog 148 = some (fromGFn g148) := by kernel_rfl

def g149 : GFn := ⟨8,
 .seq (.region [.one ⟨some 2, .p .move, [.c (.int .i64 0)], none⟩])
 (.seq (.region [.one ⟨some 3, .p .move, [.t 0], none⟩,
 .one ⟨some 4, .p .move, [.t 0], none⟩,
 .one ⟨some 5, .call 183, [.t 4, .c (.string ⟨#[116, 101, 120, 116]⟩)], none⟩,
 .one ⟨some 6, .p (.bin .add), [.t 5, .c (.string ⟨#[10]⟩)], none⟩,
 .one ⟨some 7, .call 182, [.t 3, .t 6], none⟩,
 .one ⟨some 2, .p .move, [.t 7], none⟩])
 .ret),
 [(2, 0)]⟩

theorem g149_ok : compFn Tryz.prog 149 = some (fromGFn g149) := by kernel_rfl

def g150 : GFn := ⟨57,
 .seq (.region [.one ⟨some 2, .p .move, [.c (.int .i64 0)], none⟩])
 (.seq (.region [.one ⟨some 8, .p .move, [.t 0], none⟩,
 .one ⟨some 9, .p .nilCheck, [.t 8], none⟩,
 .one ⟨some 10, .p (.fieldAddr 0), [.t 9], none⟩,
 .one ⟨some 11, .r .load1, [.t 10], none⟩,
 .one ⟨some 12, .p .move, [.t 0], none⟩,
 .one ⟨some 13, .call 183, [.t 12, .c (.string ⟨#[102, 105, 108, 101]⟩)], none⟩,
 .one ⟨none, .r .same1, [.t 11, .t 10], none⟩,
 .one ⟨some 14, .call 184, [.t 11, .t 13], none⟩,
 .one ⟨some 7, .p .move, [.t 14], none⟩,
 .one ⟨some 15, .p (.extract 0), [.t 7], none⟩,
 .one ⟨some 16, .p (.extract 1), [.t 7], none⟩,
 .one ⟨some 3, .p .move, [.t 15], none⟩,
 .one ⟨some 4, .p .move, [.t 16], none⟩])
 (.seq (.seq (.region [.one ⟨some 17, .p .move, [.t 4], none⟩,
 .one ⟨some 18, .p (.bin .neq), [.t 17, .c (.int .i64 0)], none⟩])
 (.cond (.t 18)
 (.seq (.region [.one ⟨some 19, .p .move, [.t 0], none⟩,
 .one ⟨some 20, .p .nilCheck, [.t 19], none⟩,
 .one ⟨some 21, .p (.fieldAddr 1), [.t 20], none⟩,
 .one ⟨some 22, .r (.loadN 4), [.t 21], none⟩,
 .one ⟨some 23, .p .move, [.t 4], none⟩,
 .one ⟨some 24, .call 125, [.t 22, .t 23], none⟩,
 .one ⟨some 2, .p .move, [.t 24], none⟩])
 .ret)
 .skip))
 (.seq (.seq (.region [.one ⟨some 25, .p .move, [.t 0], none⟩,
 .one ⟨some 26, .call 185, [.t 25, .c (.string ⟨#[110]⟩)], none⟩,
 .one ⟨some 27, .p (.un .not), [.t 26], none⟩])
 (.cond (.t 27)
 (.seq (.region [.one ⟨some 28, .p .move, [.t 0], none⟩,
 .one ⟨some 29, .p .move, [.t 3], none⟩,
 .one ⟨some 30, .r .bytesToStr, [.t 29], none⟩,
 .one ⟨some 31, .call 182, [.t 28, .t 30], none⟩,
 .one ⟨some 2, .p .move, [.t 31], none⟩])
 .ret)
 .skip))
 (.seq (.region [.one ⟨some 32, .p .move, [.t 3], none⟩,
 .one ⟨some 33, .r .bytesToStr, [.t 32], none⟩,
 .one ⟨some 34, .call 186, [.t 33], none⟩,
 .one ⟨some 5, .p .move, [.t 34], none⟩])
 (.seq (.seq (.region [.one ⟨some 35, .p .move, [.t 5], none⟩,
 .one ⟨some 36, .p .lenSl, [.t 35], none⟩,
 .one ⟨some 37, .p .move, [.c (.int .i64 0)], none⟩])
 (.block 0 (.loop (.seq (.region [.one ⟨some 38, .p (.bin .lss), [.t 37, .t 36], none⟩])
 (.seq (.cond (.t 38)
 .skip
 (.exit 0))
 (.seq (.block 1 (.seq (.region [.one ⟨some 39, .p .move, [.t 37], none⟩,
 .one ⟨some 6, .p .move, [.t 39], none⟩])
 .bad))
 (.region [.one ⟨some 52, .p (.bin .add), [.t 37, .c (.int .i64 1)], none⟩,
 .one ⟨some 37, .p .move, [.t 52], none⟩])))))))
 (.seq (.region [.one ⟨some 53, .p .move, [.t 0], none⟩,
 .one ⟨some 54, .p .move, [.t 5], none⟩,
 .one ⟨some 55, .call 187, [.t 54], none⟩,
 .one ⟨some 56, .call 182, [.t 53, .t 55], none⟩,
 .one ⟨some 2, .p .move, [.t 56], none⟩])
 .ret)))))),
 [(2, 0)]⟩

theorem g150_ok : compFn Tryz.prog 150 = some (fromGFn g150) := by kernel_rfl

def g165 : GFn := ⟨74,
 .seq (.region [.one ⟨some 2, .p .move, [.c (.slice none 0 0)], none⟩,
 .one ⟨some 3, .p .move, [.c (.int .i64 0)], none⟩])
 (.seq (.seq (.region [.one ⟨some 14, .p .move, [.t 0], none⟩,
 .one ⟨some 15, .p (.bin .eql), [.t 14, .c (.string ByteArray.empty)], none⟩])
 (.cond (.t 15)
 (.seq (.region [.one ⟨some 2, .p .move, [.c (.slice none 0 0)], none⟩,
 .one ⟨some 3, .p .move, [.c (.int .i64 0)], none⟩])
 .ret)
 .skip))
 (.seq (.region [.one ⟨some 4, .p .move, [.c (.slice none 0 0)], none⟩])
 (.seq (.region [.one ⟨some 16, .w .mkMap, [], none⟩,
 .one ⟨some 5, .p .move, [.t 16], none⟩])
 (.seq (.region [.one ⟨some 17, .p .move, [.t 0], none⟩,
 .one ⟨some 18, .call 207, [.t 17, .c (.string ⟨#[44]⟩)], none⟩,
 .one ⟨some 6, .p .move, [.t 18], none⟩])
 (.seq (.region [.one ⟨some 7, .p .move, [.c (.int .i64 0)], none⟩])
 (.seq (.seq (.region [.one ⟨some 19, .p .move, [.t 6], none⟩,
 .one ⟨some 20, .p .lenSl, [.t 19], none⟩,
 .one ⟨some 21, .p .move, [.c (.int .i64 0)], none⟩])
 (.block 0 (.loop (.seq (.region [.one ⟨some 22, .p (.bin .lss), [.t 21, .t 20], none⟩])
 (.seq (.cond (.t 22)
 .skip
 (.exit 0))
 (.seq (.block 1 (.seq (.region [.one ⟨some 23, .p .move, [.t 21], none⟩,
 .one ⟨some 24, .p (.indexAddr 1), [.t 19, .t 21], none⟩,
 .one ⟨some 25, .r .load1, [.t 24], none⟩,
 .one ⟨some 8, .p .move, [.t 23], none⟩,
 .one ⟨some 9, .p .move, [.t 25], none⟩])
 (.seq (.region [.one ⟨some 27, .p .move, [.t 9], none⟩,
 .one ⟨some 28, .call 208, [.t 27], none⟩,
 .one ⟨some 26, .p .move, [.t 28], none⟩,
 .one ⟨some 29, .p (.extract 0), [.t 26], none⟩,
 .one ⟨some 30, .p (.extract 1), [.t 26], none⟩,
 .one ⟨some 10, .w (.new [.slice none 0 0, .bool false, .bool false, .bool false, .bool false, .bool false, .bool false]), [], none⟩,
 .one ⟨none, .w (.store 7), [.t 10, .t 29], none⟩,
 .one ⟨some 11, .p .move, [.t 30], none⟩])
 (.seq (.seq (.region [.one ⟨some 31, .p .move, [.t 11], none⟩,
 .one ⟨some 32, .p (.un .not), [.t 31], none⟩,
 .one ⟨some 33, .p .move, [.t 32], none⟩,
 .grp 33 false [⟨some 34, .p (.fieldAddr 6), [.t 10], none⟩, ⟨some 35, .r .load1, [.t 34], none⟩, ⟨some 36, .p .move, [.t 35], none⟩],
 .grp 36 true [⟨some 37, .p .move, [.t 8], none⟩, ⟨some 38, .p .move, [.t 6], none⟩, ⟨some 39, .p .lenSl, [.t 38], none⟩, ⟨some 40, .p (.bin .sub), [.t 39, .c (.int .i64 1)], none⟩, ⟨some 41, .p (.bin .lss), [.t 37, .t 40], none⟩],
 .grp 33 false [⟨some 42, .p .pick, [.t 36, .t 41, .c (.bool false)], none⟩],
 .one ⟨some 43, .p .pick, [.t 33, .c (.bool true), .t 42], none⟩])
 (.cond (.t 43)
 (.seq (.region [.one ⟨some 2, .p .move, [.c (.slice none 0 0)], none⟩,
 .one ⟨some 3, .p .move, [.c (.int .i64 3)], none⟩])
 .ret)
 .skip))
 (.seq (.seq (.region [.one ⟨some 44, .p (.fieldAddr 0), [.t 10], none⟩,
 .one ⟨some 45, .r .load1, [.t 44], none⟩,
 .one ⟨some 46, .p .lenSl, [.t 45], none⟩,
 .one ⟨some 47, .p .move, [.c (.int .i64 0)], none⟩])
 (.block 2 (.loop (.seq (.region [.one ⟨some 48, .p (.bin .lss), [.t 47, .t 46], none⟩])
 (.seq (.cond (.t 48)
 .skip
 (.exit 2))
 (.seq (.block 3 (.seq (.region [.one ⟨some 49, .p (.indexAddr 1), [.t 45, .t 47], none⟩,
 .one ⟨some 50, .r .load1, [.t 49], none⟩,
 .one ⟨some 13, .p .move, [.t 50], none⟩])
 (.seq (.seq (.region [.one ⟨some 51, .p .move, [.t 5], none⟩,
 .one ⟨some 52, .p .move, [.t 13], none⟩,
 .one ⟨some 53, .r (.lookup .str (.bool false) false), [.t 51, .t 52], none⟩])
 (.cond (.t 53)
 (.seq (.region [.one ⟨some 2, .p .move, [.c (.slice none 0 0)], none⟩,
 .one ⟨some 3, .p .move, [.c (.int .i64 3)], none⟩])
 .ret)
 .skip))
 (.region [.one ⟨some 54, .p .move, [.t 5], none⟩,
 .one ⟨some 55, .p .move, [.t 13], none⟩,
 .one ⟨none, .w (.mapSet .str), [.t 54, .t 55, .c (.bool true)], none⟩]))))
 (.region [.one ⟨some 56, .p (.bin .add), [.t 47, .c (.int .i64 1)], none⟩,
 .one ⟨some 47, .p .move, [.t 56], none⟩])))))))
 (.seq (.seq (.region [.one ⟨some 57, .p (.fieldAddr 5), [.t 10], none⟩,
 .one ⟨some 58, .r .load1, [.t 57], none⟩])
 (.cond (.t 58)
 (.region [.one ⟨some 59, .p .move, [.t 7], none⟩,
 .one ⟨some 60, .p (.bin .add), [.t 59, .c (.int .i64 1)], none⟩,
 .one ⟨some 7, .p .move, [.t 60], none⟩])
 .skip))
 (.region [.one ⟨some 61, .p .move, [.t 4], none⟩,
 .one ⟨some 62, .r (.loadN 7), [.t 10], none⟩,
 .one ⟨some 63, .w (.sliceLit [.slice none 0 0, .bool false, .bool false, .bool false, .bool false, .bool false, .bool false] 1 [(0, 7)]), [.t 62], none⟩,
 .one ⟨some 64, .w (.append 7 32), [.t 61, .t 63], none⟩,
 .one ⟨some 4, .p .move, [.t 64], none⟩])))))))
 (.region [.one ⟨some 65, .p (.bin .add), [.t 21, .c (.int .i64 1)], none⟩,
 .one ⟨some 21, .p .move, [.t 65], none⟩])))))))
 (.seq (.block 4 (.seq (.region [.one ⟨some 67, .p .move, [.t 7], none⟩,
 .one ⟨some 68, .p (.bin .gtr), [.t 67, .c (.int .i64 1)], none⟩,
 .one ⟨some 66, .p .move, [.t 68], none⟩])
 (.cond (.t 66)
 (.seq (.region [.one ⟨some 2, .p .move, [.c (.slice none 0 0)], none⟩,
 .one ⟨some 3, .p .move, [.c (.int .i64 3)], none⟩])
 .ret)
 (.seq (.region [.one ⟨some 70, .p .move, [.t 4], none⟩,
 .one ⟨some 71, .p .lenSl, [.t 70], none⟩,
 .one ⟨some 72, .p (.bin .gtr), [.t 71, .c (.int .i64 20)], none⟩,
 .one ⟨some 69, .p .move, [.t 72], none⟩])
 (.cond (.t 69)
 (.seq (.region [.one ⟨some 2, .p .move, [.c (.slice none 0 0)], none⟩,
 .one ⟨some 3, .p .move, [.c (.int .i64 2)], none⟩])
 .ret)
 .skip)))))
 (.seq (.region [.one ⟨some 73, .p .move, [.t 4], none⟩,
 .one ⟨some 2, .p .move, [.t 73], none⟩,
 .one ⟨some 3, .p .move, [.c (.int .i64 0)], none⟩])
 .ret)))))))),
 [(2, 0), (3, 0)]⟩

theorem g165_ok : compFn Tryz.prog 165 = some (fromGFn g165) := by kernel_rfl

def g166 : GFn := ⟨24,
 .seq (.region [.one ⟨some 4, .p .move, [.c (.int .i64 0)], none⟩])
 (.seq (.block 0 (.loop (.seq (.seq (.region [.one ⟨some 5, .p .move, [.t 1], none⟩,
 .one ⟨some 6, .p .move, [.t 0], none⟩,
 .one ⟨some 7, .p .nilCheck, [.t 6], none⟩,
 .one ⟨some 8, .p (.fieldAddr 1), [.t 7], none⟩,
 .one ⟨some 9, .r .load1, [.t 8], none⟩,
 .one ⟨some 10, .p .lenStr, [.t 9], none⟩,
 .one ⟨some 11, .p (.bin .lss), [.t 5, .t 10], none⟩,
 .one ⟨some 12, .p .move, [.t 11], none⟩,
 .grp 12 true [⟨some 13, .p .move, [.t 0], none⟩, ⟨some 14, .p .nilCheck, [.t 13], none⟩, ⟨some 15, .p (.fieldAddr 1), [.t 14], none⟩, ⟨some 16, .r .load1, [.t 15], none⟩, ⟨some 17, .p .move, [.t 1], none⟩, ⟨some 18, .p .indexStr, [.t 16, .t 17], none⟩, ⟨some 19, .p (.bin .eql), [.t 18, .c (.int .u8 32)], none⟩],
 .one ⟨some 20, .p .pick, [.t 12, .t 19, .c (.bool false)], none⟩])
 (.cond (.t 20)
 .skip
 (.exit 0)))
 (.block 1 (.region [.one ⟨some 21, .p .move, [.t 1], none⟩,
 .one ⟨some 22, .p (.bin .add), [.t 21, .c (.int .i64 1)], none⟩,
 .one ⟨some 1, .p .move, [.t 22], none⟩])))))
 (.seq (.region [.one ⟨some 23, .p .move, [.t 1], none⟩,
 .one ⟨some 4, .p .move, [.t 23], none⟩])
 .ret)),
 [(4, 0)]⟩

theorem g166_ok : compFn Tryz.prog 166 = some (fromGFn g166) := by kernel_rfl

def g167 : GFn := ⟨76,
 .seq (.region [.one ⟨some 4, .p .move, [.c (.bool false)], none⟩])
 (.seq (.region [.one ⟨some 10, .p .move, [.t 0], none⟩,
 .one ⟨some 11, .p .nilCheck, [.t 10], none⟩,
 .one ⟨some 12, .p (.fieldAddr 1), [.t 11], none⟩,
 .one ⟨some 13, .r .load1, [.t 12], none⟩,
 .one ⟨some 14, .p .move, [.t 1], none⟩,
 .one ⟨some 15, .call 80, [.t 13, .t 14], none⟩,
 .one ⟨some 9, .p .move, [.t 15], none⟩,
 .one ⟨some 16, .p (.extract 0), [.t 9], none⟩,
 .one ⟨some 17, .p (.extract 1), [.t 9], none⟩,
 .one ⟨some 5, .w (.new [.string ByteArray.empty, .int .i64 0, .bool false]), [], none⟩,
 .one ⟨none, .w (.store 3), [.t 5, .t 16], none⟩,
 .one ⟨some 6, .p .move, [.t 17], none⟩])
 (.seq (.seq (.region [.one ⟨some 18, .p (.fieldAddr 2), [.t 5], none⟩,
 .one ⟨some 19, .r .load1, [.t 18], none⟩,
 .one ⟨some 20, .p (.un .not), [.t 19], none⟩])
 (.cond (.t 20)
 (.seq (.region [.one ⟨some 21, .p .move, [.t 0], none⟩,
 .one ⟨some 22, .p .nilCheck, [.t 21], none⟩,
 .one ⟨some 23, .p (.fieldAddr 0), [.t 22], none⟩,
 .one ⟨some 24, .r .load1, [.t 23], none⟩,
 .one ⟨some 25, .p (.fieldAddr 0), [.t 5], none⟩,
 .one ⟨some 26, .r .load1, [.t 25], none⟩,
 .one ⟨some 27, .call 209, [.t 24, .t 26], none⟩,
 .one ⟨some 7, .p .move, [.t 27], none⟩])
 (.seq (.region [.one ⟨some 28, .p .move, [.t 7], none⟩,
 .one ⟨some 29, .p (.bin .geq), [.t 28, .c (.int .i64 0)], none⟩])
 (.cond (.t 29)
 (.seq (.region [.one ⟨some 30, .p .move, [.t 0], none⟩,
 .one ⟨some 31, .p .move, [.t 6], none⟩,
 .one ⟨some 32, .p .nilCheck, [.t 30], none⟩,
 .one ⟨some 33, .p (.fieldAddr 2), [.t 32], none⟩,
 .one ⟨none, .w (.store 1), [.t 33, .t 31], none⟩])
 (.seq (.region [.one ⟨some 34, .p .move, [.t 0], none⟩,
 .one ⟨some 35, .p .move, [.t 7], none⟩,
 .one ⟨some 36, .call 210, [.t 34, .t 35], none⟩,
 .one ⟨some 4, .p .move, [.t 36], none⟩])
 .ret))
 .skip)))
 .skip))
 (.seq (.region [.one ⟨some 37, .p .move, [.t 0], none⟩,
 .one ⟨some 38, .call 211, [.t 37], none⟩,
 .one ⟨some 8, .p .move, [.t 38], none⟩])
 (.seq (.block 0 (.seq (.region [.one ⟨some 40, .p .move, [.t 8], none⟩,
 .one ⟨some 41, .p (.bin .geq), [.t 40, .c (.int .i64 0)], none⟩,
 .one ⟨some 42, .p .move, [.t 41], none⟩,
 .grp 42 true [⟨some 43, .p .move, [.t 0], none⟩, ⟨some 44, .p .nilCheck, [.t 43], none⟩, ⟨some 45, .p (.fieldAddr 0), [.t 44], none⟩, ⟨some 46, .r .load1, [.t 45], none⟩, ⟨some 47, .p .move, [.t 8], none⟩, ⟨some 48, .p (.indexAddr 7), [.t 46, .t 47], none⟩, ⟨some 49, .p (.fieldAddr 6), [.t 48], none⟩, ⟨some 50, .r .load1, [.t 49], none⟩],
 .one ⟨some 51, .p .pick, [.t 42, .t 50, .c (.bool false)], none⟩,
 .one ⟨some 39, .p .move, [.t 51], none⟩])
 (.cond (.t 39)
 (.seq (.region [.one ⟨some 52, .p .move, [.t 0], none⟩,
 .one ⟨some 53, .p .move, [.t 8], none⟩,
 .one ⟨some 54, .p .move, [.t 1], none⟩,
 .one ⟨some 55, .call 212, [.t 52, .t 53, .t 54], none⟩,
 .one ⟨some 4, .p .move, [.t 55], none⟩])
 .ret)
 (.seq (.region [.one ⟨some 57, .p .move, [.t 8], none⟩,
 .one ⟨some 58, .p (.bin .lss), [.t 57, .c (.int .i64 0)], none⟩,
 .one ⟨some 59, .p .move, [.t 58], none⟩,
 .grp 59 false [⟨some 60, .p .move, [.t 6], none⟩, ⟨some 61, .p (.bin .lss), [.t 60, .c (.int .i64 0)], none⟩],
 .one ⟨some 62, .p .pick, [.t 59, .c (.bool true), .t 61], none⟩,
 .one ⟨some 63, .p .move, [.t 62], none⟩,
 .grp 63 false [⟨some 64, .r (.loadN 3), [.t 5], none⟩, ⟨some 65, .call 213, [.t 64], none⟩],
 .one ⟨some 66, .p .pick, [.t 63, .c (.bool true), .t 65], none⟩,
 .one ⟨some 56, .p .move, [.t 66], none⟩])
 (.cond (.t 56)
 (.seq (.region [.one ⟨some 4, .p .move, [.c (.bool false)], none⟩])
 .ret)
 .skip)))))
 (.seq (.region [.one ⟨some 67, .p .move, [.t 0], none⟩,
 .one ⟨some 68, .p .move, [.t 6], none⟩,
 .one ⟨some 69, .p .nilCheck, [.t 67], none⟩,
 .one ⟨some 70, .p (.fieldAddr 2), [.t 69], none⟩,
 .one ⟨none, .w (.store 1), [.t 70, .t 68], none⟩])
 (.seq (.region [.one ⟨some 71, .p .move, [.t 0], none⟩,
 .one ⟨some 72, .p .move, [.t 8], none⟩,
 .one ⟨some 73, .p (.fieldAddr 0), [.t 5], none⟩,
 .one ⟨some 74, .r .load1, [.t 73], none⟩,
 .one ⟨some 75, .call 214, [.t 71, .t 72, .t 74], none⟩,
 .one ⟨some 4, .p .move, [.t 75], none⟩])
 .ret)))))),
 [(4, 0)]⟩

theorem g167_ok : compFn Tryz.prog 167 = some (fromGFn g167) := by kernel_rfl

def g168 : GFn := ⟨103,
 .seq (.region [.one ⟨some 6, .p .move, [.c (.slice none 0 0)], none⟩,
 .one ⟨some 7, .p .move, [.c (.bool false)], none⟩,
 .one ⟨some 8, .p .move, [.c (.int .i64 0)], none⟩])
 (.seq (.seq (.region [.one ⟨some 16, .p .move, [.t 0], none⟩,
 .one ⟨some 17, .p (.nilEq .ptr false), [.t 16, .c (.pointer none)], none⟩])
 (.cond (.t 17)
 (.seq (.region [.one ⟨some 6, .p .move, [.c (.slice none 0 0)], none⟩,
 .one ⟨some 7, .p .move, [.c (.bool false)], none⟩,
 .one ⟨some 8, .p .move, [.c (.int .i64 3)], none⟩])
 .ret)
 .skip))
 (.seq (.region [.one ⟨some 19, .p .move, [.t 0], none⟩,
 .one ⟨some 20, .p .nilCheck, [.t 19], none⟩,
 .one ⟨some 21, .p (.fieldAddr 3), [.t 20], none⟩,
 .one ⟨some 22, .r .load1, [.t 21], none⟩,
 .one ⟨some 23, .p .move, [.t 1], none⟩,
 .one ⟨some 24, .r (.lookup .int .nilIface true), [.t 22, .t 23], none⟩,
 .one ⟨some 18, .p .move, [.t 24], none⟩,
 .one ⟨some 25, .p (.extract 0), [.t 18], none⟩,
 .one ⟨some 26, .p (.extract 1), [.t 18], none⟩,
 .one ⟨some 9, .p .move, [.t 25], none⟩,
 .one ⟨some 10, .p .move, [.t 26], none⟩])
 (.seq (.seq (.region [.one ⟨some 27, .p .move, [.t 10], none⟩,
 .one ⟨some 28, .p (.un .not), [.t 27], none⟩])
 (.cond (.t 28)
 (.seq (.region [.one ⟨some 6, .p .move, [.c (.slice none 0 0)], none⟩,
 .one ⟨some 7, .p .move, [.c (.bool false)], none⟩,
 .one ⟨some 8, .p .move, [.c (.int .i64 4)], none⟩])
 .ret)
 .skip))
 (.seq (.region [.one ⟨some 11, .p .move, [.c (.pointer none)], none⟩])
 (.seq (.region [.one ⟨some 12, .p .move, [.c (.bool false)], none⟩])
 (.seq (.seq (.region [.one ⟨some 29, .p .move, [.t 9], none⟩])
 (.block 0 (.seq (.region [.one ⟨some 30, .p (.assertT 167 (.pointer none) true), [.t 29], none⟩,
 .one ⟨some 31, .p (.extract 1), [.t 30], none⟩,
 .one ⟨some 32, .p (.extract 0), [.t 30], none⟩])
 (.cond (.t 31)
 (.seq (.region [.one ⟨some 13, .p .move, [.t 32], none⟩])
 (.region [.one ⟨some 33, .p .move, [.t 13], none⟩,
 .one ⟨some 34, .p .nilCheck, [.t 33], none⟩,
 .one ⟨some 35, .p (.fieldAddr 1), [.t 34], none⟩,
 .one ⟨some 11, .p .move, [.t 35], none⟩]))
 (.seq (.region [.one ⟨some 36, .p (.assertT 127 (.pointer none) true), [.t 29], none⟩,
 .one ⟨some 37, .p (.extract 1), [.t 36], none⟩,
 .one ⟨some 38, .p (.extract 0), [.t 36], none⟩])
 (.cond (.t 37)
 (.seq (.region [.one ⟨some 14, .p .move, [.t 38], none⟩])
 (.seq (.region [.one ⟨some 39, .p .move, [.t 14], none⟩,
 .one ⟨some 40, .p .nilCheck, [.t 39], none⟩,
 .one ⟨some 41, .p (.fieldAddr 2), [.t 40], none⟩,
 .one ⟨some 42, .r .load1, [.t 41], none⟩])
 (.cond (.t 42)
 (.region [.one ⟨some 43, .p .move, [.t 14], none⟩,
 .one ⟨some 44, .p .nilCheck, [.t 43], none⟩,
 .one ⟨some 45, .p (.fieldAddr 1), [.t 44], none⟩,
 .one ⟨some 46, .r .load1, [.t 45], none⟩,
 .one ⟨some 47, .p .nilCheck, [.t 46], none⟩,
 .one ⟨some 48, .p (.fieldAddr 0), [.t 47], none⟩,
 .one ⟨some 49, .p .move, [.t 14], none⟩,
 .one ⟨some 50, .p .nilCheck, [.t 49], none⟩,
 .one ⟨some 51, .p (.fieldAddr 1), [.t 50], none⟩,
 .one ⟨some 52, .r .load1, [.t 51], none⟩,
 .one ⟨some 53, .p .nilCheck, [.t 52], none⟩,
 .one ⟨some 54, .p (.fieldAddr 2), [.t 53], none⟩,
 .one ⟨some 55, .r .load1, [.t 54], none⟩,
 .one ⟨some 56, .p (.un .not), [.t 55], none⟩,
 .one ⟨some 57, .p .move, [.t 56], none⟩,
 .grp 57 false [⟨some 58, .p .move, [.t 14], none⟩, ⟨some 59, .p .nilCheck, [.t 58], none⟩, ⟨some 60, .p (.fieldAddr 1), [.t 59], none⟩, ⟨some 61, .r .load1, [.t 60], none⟩, ⟨some 62, .p .nilCheck, [.t 61], none⟩, ⟨some 63, .p (.fieldAddr 3), [.t 62], none⟩, ⟨some 64, .r .load1, [.t 63], none⟩],
 .one ⟨some 65, .p .pick, [.t 57, .c (.bool true), .t 64], none⟩,
 .one ⟨some 11, .p .move, [.t 48], none⟩,
 .one ⟨some 12, .p .move, [.t 65], none⟩])
 .skip)))
 (.seq (.region [.one ⟨some 66, .p (.assertT 125 (.agg #[.bool false]) true), [.t 29], none⟩,
 .one ⟨some 67, .p (.extract 1), [.t 66], none⟩,
 .one ⟨some 68, .p (.extract 0), [.t 66], none⟩])
 (.cond (.t 67)
 (.seq (.region [.one ⟨some 15, .w (.new [.bool false]), [], none⟩,
 .one ⟨none, .w (.store 1), [.t 15, .t 68], none⟩])
 (.seq (.region [.one ⟨some 69, .p (.fieldAddr 0), [.t 15], none⟩,
 .one ⟨some 70, .r .load1, [.t 69], none⟩])
 (.cond (.t 70)
 (.region [.one ⟨some 71, .p (.build [.slice none 0 0, .int .i64 0] []), [], none⟩,
 .one ⟨some 72, .w (.box 2), [.t 71], none⟩,
 .one ⟨some 11, .p .move, [.t 72], none⟩])
 .skip)))
 .skip))))))))
 (.seq (.block 1 (.seq (.region [.one ⟨some 74, .p .move, [.t 11], none⟩,
 .one ⟨some 75, .p (.nilEq .ptr false), [.t 74, .c (.pointer none)], none⟩,
 .one ⟨some 73, .p .move, [.t 75], none⟩])
 (.cond (.t 73)
 (.seq (.region [.one ⟨some 6, .p .move, [.c (.slice none 0 0)], none⟩,
 .one ⟨some 7, .p .move, [.c (.bool false)], none⟩,
 .one ⟨some 8, .p .move, [.c (.int .i64 221)], none⟩])
 .ret)
 (.seq (.region [.one ⟨some 77, .p .move, [.t 2], none⟩,
 .one ⟨some 78, .p (.bin .lss), [.t 77, .c (.int .i64 1)], none⟩,
 .one ⟨some 79, .p .move, [.t 78], none⟩,
 .grp 79 false [⟨some 80, .p .move, [.t 2], none⟩, ⟨some 81, .p (.bin .gtr), [.t 80, .c (.int .i64 10000)], none⟩],
 .one ⟨some 82, .p .pick, [.t 79, .c (.bool true), .t 81], none⟩,
 .one ⟨some 76, .p .move, [.t 82], none⟩])
 (.cond (.t 76)
 (.seq (.region [.one ⟨some 6, .p .move, [.c (.slice none 0 0)], none⟩,
 .one ⟨some 7, .p .move, [.c (.bool false)], none⟩,
 .one ⟨some 8, .p .move, [.c (.int .i64 1)], none⟩])
 .ret)
 (.seq (.region [.one ⟨some 84, .p .move, [.t 11], none⟩,
 .one ⟨some 85, .p .nilCheck, [.t 84], none⟩,
 .one ⟨some 86, .p (.fieldAddr 0), [.t 85], none⟩,
 .one ⟨some 87, .r .load1, [.t 86], none⟩,
 .one ⟨some 88, .p .lenSl, [.t 87], none⟩,
 .one ⟨some 89, .p (.bin .eql), [.t 88, .c (.int .i64 0)], none⟩,
 .one ⟨some 90, .p .move, [.t 89], none⟩,
 .grp 90 true [⟨some 91, .p .move, [.t 12], none⟩],
 .one ⟨some 92, .p .pick, [.t 90, .t 91, .c (.bool false)], none⟩,
 .one ⟨some 83, .p .move, [.t 92], none⟩])
 (.cond (.t 83)
 (.seq (.region [.one ⟨some 6, .p .move, [.c (.slice none 0 0)], none⟩,
 .one ⟨some 7, .p .move, [.c (.bool false)], none⟩,
 .one ⟨some 8, .p .move, [.c (.int .i64 5)], none⟩])
 .ret)
 (.seq (.region [.one ⟨some 94, .p .move, [.t 11], none⟩,
 .one ⟨some 95, .p .nilCheck, [.t 94], none⟩,
 .one ⟨some 96, .p (.fieldAddr 0), [.t 95], none⟩,
 .one ⟨some 97, .r .load1, [.t 96], none⟩,
 .one ⟨some 98, .p .lenSl, [.t 97], none⟩,
 .one ⟨some 99, .p (.bin .eql), [.t 98, .c (.int .i64 0)], none⟩,
 .one ⟨some 93, .p .move, [.t 99], none⟩])
 (.cond (.t 93)
 (.seq (.region [.one ⟨some 6, .p .move, [.c (.slice none 0 0)], none⟩,
 .one ⟨some 7, .p .move, [.c (.bool true)], none⟩,
 .one ⟨some 8, .p .move, [.c (.int .i64 0)], none⟩])
 .ret)
 .skip)))))))))
 (.seq (.region [.one ⟨some 100, .p .move, [.t 11], none⟩,
 .one ⟨some 101, .p .move, [.t 2], none⟩,
 .one ⟨some 102, .call 215, [.t 100, .t 101], none⟩,
 .one ⟨some 6, .p .move, [.t 102], none⟩,
 .one ⟨some 7, .p .move, [.c (.bool false)], none⟩,
 .one ⟨some 8, .p .move, [.c (.int .i64 0)], none⟩])
 .ret)))))))),
 [(6, 0), (7, 0), (8, 0)]⟩

theorem g168_ok : compFn Tryz.prog 168 = some (fromGFn g168) := by kernel_rfl

def g182 : GFn := ⟨14,
 .seq (.region [.one ⟨some 4, .p .move, [.c (.int .i64 0)], none⟩])
 (.seq (.region [.one ⟨some 5, .p .move, [.t 0], none⟩,
 .one ⟨some 6, .p .move, [.t 0], none⟩,
 .one ⟨some 7, .p .nilCheck, [.t 6], none⟩,
 .one ⟨some 8, .p (.fieldAddr 1), [.t 7], none⟩,
 .one ⟨some 9, .p (.fieldAddr 1), [.t 8], none⟩,
 .one ⟨some 10, .r .load1, [.t 9], none⟩,
 .one ⟨some 11, .p .move, [.t 1], none⟩,
 .one ⟨some 12, .callV, [.t 10, .t 11], none⟩,
 .one ⟨some 13, .call 188, [.t 5, .t 12], none⟩,
 .one ⟨some 4, .p .move, [.t 13], none⟩])
 .ret),
 [(4, 0)]⟩

theorem g182_ok : compFn Tryz.prog 182 = some (fromGFn g182) := by kernel_rfl

def g183 : GFn := ⟨24,
 .seq (.region [.one ⟨some 4, .p .move, [.c (.string ByteArray.empty)], none⟩])
 (.seq (.region [.one ⟨some 8, .p .move, [.t 0], none⟩,
 .one ⟨some 9, .p .nilCheck, [.t 8], none⟩,
 .one ⟨some 10, .p (.fieldAddr 5), [.t 9], none⟩,
 .one ⟨some 11, .r .load1, [.t 10], none⟩,
 .one ⟨some 12, .p .move, [.t 1], none⟩,
 .one ⟨some 13, .call 54, [.t 11, .t 12], none⟩,
 .one ⟨some 7, .p .move, [.t 13], none⟩,
 .one ⟨some 14, .p (.extract 0), [.t 7], none⟩,
 .one ⟨some 15, .p (.extract 1), [.t 7], none⟩,
 .one ⟨some 5, .w (.new [.string ByteArray.empty, .slice none 0 0, .bool false]), [], none⟩,
 .one ⟨none, .w (.store 3), [.t 5, .t 14], none⟩,
 .one ⟨some 6, .p .move, [.t 15], none⟩])
 (.seq (.seq (.region [.one ⟨some 16, .p (.fieldAddr 1), [.t 5], none⟩,
 .one ⟨some 17, .r .load1, [.t 16], none⟩,
 .one ⟨some 18, .p .lenSl, [.t 17], none⟩,
 .one ⟨some 19, .p (.bin .eql), [.t 18, .c (.int .i64 0)], none⟩])
 (.cond (.t 19)
 (.seq (.region [.one ⟨some 4, .p .move, [.c (.string ByteArray.empty)], none⟩])
 .ret)
 .skip))
 (.seq (.region [.one ⟨some 20, .p (.fieldAddr 1), [.t 5], none⟩,
 .one ⟨some 21, .r .load1, [.t 20], none⟩,
 .one ⟨some 22, .p (.indexAddr 1), [.t 21, .c (.int .i64 0)], none⟩,
 .one ⟨some 23, .r .load1, [.t 22], none⟩,
 .one ⟨some 4, .p .move, [.t 23], none⟩])
 .ret))),
 [(4, 0)]⟩

theorem g183_ok : compFn Tryz.prog 183 = some (fromGFn g183) := by kernel_rfl

def g184 : GFn := ⟨30,
 .seq (.region [.one ⟨some 4, .p .move, [.c (.slice none 0 0)], none⟩,
 .one ⟨some 5, .p .move, [.c (.int .i64 0)], none⟩])
 (.seq (.region [.one ⟨some 9, .p .move, [.t 0], none⟩,
 .one ⟨some 10, .p .nilCheck, [.t 9], none⟩,
 .one ⟨some 11, .p (.fieldAddr 0), [.t 10], none⟩,
 .one ⟨some 12, .r .load1, [.t 11], none⟩,
 .one ⟨some 13, .p .move, [.t 1], none⟩,
 .one ⟨some 14, .call 34, [.t 12, .t 13, .c (.int .i64 0)], none⟩,
 .one ⟨some 8, .p .move, [.t 14], none⟩,
 .one ⟨some 15, .p (.extract 0), [.t 8], none⟩,
 .one ⟨some 16, .p (.extract 1), [.t 8], none⟩,
 .one ⟨some 6, .p .move, [.t 15], none⟩,
 .one ⟨some 7, .p .move, [.t 16], none⟩])
 (.seq (.seq (.region [.one ⟨some 17, .p .move, [.t 7], none⟩,
 .one ⟨some 18, .p (.bin .neq), [.t 17, .c (.int .i64 0)], none⟩])
 (.cond (.t 18)
 (.seq (.region [.one ⟨some 19, .p .move, [.t 7], none⟩,
 .one ⟨some 4, .p .move, [.c (.slice none 0 0)], none⟩,
 .one ⟨some 5, .p .move, [.t 19], none⟩])
 .ret)
 .skip))
 (.seq (.region [.one ⟨some 20, .p .move, [.t 0], none⟩,
 .one ⟨some 21, .p .nilCheck, [.t 20], none⟩,
 .one ⟨some 22, .p (.fieldAddr 0), [.t 21], none⟩,
 .one ⟨some 23, .r .load1, [.t 22], none⟩,
 .one ⟨some 24, .p .move, [.t 6], none⟩,
 .one ⟨some 30, .p .push, [.t 30, .c (.func (.func 36) #[] #[]), .t 23, .t 24], none⟩])
 (.seq (.region [.one ⟨some 25, .p .move, [.t 0], none⟩,
 .one ⟨some 26, .p .move, [.t 6], none⟩,
 .one ⟨some 27, .call 127, [.t 25, .t 26], none⟩,
 .one ⟨some 28, .p (.extract 0), [.t 27], none⟩,
 .one ⟨some 29, .p (.extract 1), [.t 27], none⟩,
 .one ⟨some 4, .p .move, [.t 28], none⟩,
 .one ⟨some 5, .p .move, [.t 29], none⟩])
 .ret)))),
 [(4, 0), (5, 0)]⟩

theorem g184_ok : compFn Tryz.prog 184 = some (fromGFn g184) := by kernel_rfl

def g185 : GFn := ⟨18,
 .seq (.region [.one ⟨some 4, .p .move, [.c (.bool false)], none⟩])
 (.seq (.region [.one ⟨some 8, .p .move, [.t 0], none⟩,
 .one ⟨some 9, .p .nilCheck, [.t 8], none⟩,
 .one ⟨some 10, .p (.fieldAddr 5), [.t 9], none⟩,
 .one ⟨some 11, .r .load1, [.t 10], none⟩,
 .one ⟨some 12, .p .move, [.t 1], none⟩,
 .one ⟨some 13, .call 54, [.t 11, .t 12], none⟩,
 .one ⟨some 7, .p .move, [.t 13], none⟩,
 .one ⟨some 14, .p (.extract 0), [.t 7], none⟩,
 .one ⟨some 15, .p (.extract 1), [.t 7], none⟩,
 .one ⟨some 5, .w (.new [.string ByteArray.empty, .slice none 0 0, .bool false]), [], none⟩,
 .one ⟨none, .w (.store 3), [.t 5, .t 14], none⟩,
 .one ⟨some 6, .p .move, [.t 15], none⟩])
 (.seq (.region [.one ⟨some 16, .p (.fieldAddr 2), [.t 5], none⟩,
 .one ⟨some 17, .r .load1, [.t 16], none⟩,
 .one ⟨some 4, .p .move, [.t 17], none⟩])
 .ret)),
 [(4, 0)]⟩

theorem g185_ok : compFn Tryz.prog 185 = some (fromGFn g185) := by kernel_rfl

def g188 : GFn := ⟨13,
 .seq (.region [.one ⟨some 4, .p .move, [.c (.int .i64 0)], none⟩])
 (.seq (.seq (.region [.one ⟨some 5, .p .move, [.t 1], none⟩,
 .one ⟨some 6, .p (.bin .neq), [.t 5, .c (.int .i64 0)], none⟩])
 (.cond (.t 6)
 (.seq (.region [.one ⟨some 7, .p .move, [.t 0], none⟩,
 .one ⟨some 8, .p .nilCheck, [.t 7], none⟩,
 .one ⟨some 9, .p (.fieldAddr 1), [.t 8], none⟩,
 .one ⟨some 10, .r (.loadN 4), [.t 9], none⟩,
 .one ⟨some 11, .p .move, [.t 1], none⟩,
 .one ⟨some 12, .call 125, [.t 10, .t 11], none⟩,
 .one ⟨some 4, .p .move, [.t 12], none⟩])
 .ret)
 .skip))
 (.seq (.region [.one ⟨some 4, .p .move, [.c (.int .i64 0)], none⟩])
 .ret)),
 [(4, 0)]⟩

theorem g188_ok : compFn Tryz.prog 188 = some (fromGFn g188) := by kernel_rfl

def g207 : GFn := ⟨8,
 .seq (.region [.one ⟨some 4, .p .move, [.c (.slice none 0 0)], none⟩])
 (.seq (.region [.one ⟨some 5, .p .move, [.t 0], none⟩,
 .one ⟨some 6, .p .move, [.t 1], none⟩,
 .one ⟨some 7, .call 120, [.t 5, .t 6, .c (.int .i64 0), .c (.int .i64 (-1))], none⟩,
 .one ⟨some 4, .p .move, [.t 7], none⟩])
 .ret),
 [(4, 0)]⟩

theorem g207_ok : compFn Tryz.prog 207 = some (fromGFn g207) := by kernel_rfl

def g208 : GFn := ⟨99,
 .seq (.region [.one ⟨some 2, .w (.new [.slice none 0 0, .bool false, .bool false, .bool false, .bool false, .bool false, .bool false]), [], none⟩,
 .one ⟨some 3, .p .move, [.c (.bool false)], none⟩])
 (.seq (.region [.one ⟨some 11, .p .move, [.t 0], none⟩,
 .one ⟨some 12, .call 207, [.t 11, .c (.string ⟨#[47]⟩)], none⟩,
 .one ⟨some 4, .p .move, [.t 12], none⟩])
 (.seq (.region [.one ⟨some 5, .p .move, [.c (.int .i64 0)], none⟩])
 (.seq (.seq (.region [.one ⟨some 13, .p .move, [.t 4], none⟩,
 .one ⟨some 14, .r (.sl 1 true false), [.t 13, .c (.int .i64 1)], none⟩,
 .one ⟨some 15, .p .lenSl, [.t 14], none⟩,
 .one ⟨some 16, .p .move, [.c (.int .i64 0)], none⟩])
 (.block 0 (.loop (.seq (.region [.one ⟨some 17, .p (.bin .lss), [.t 16, .t 15], none⟩])
 (.seq (.cond (.t 17)
 .skip
 (.exit 0))
 (.seq (.block 1 (.seq (.region [.one ⟨some 18, .p (.indexAddr 1), [.t 14, .t 16], none⟩,
 .one ⟨some 19, .r .load1, [.t 18], none⟩,
 .one ⟨some 7, .p .move, [.t 19], none⟩])
 (.seq (.region [.one ⟨some 20, .p .move, [.t 7], none⟩,
 .one ⟨some 21, .call 144, [.c (.string ⟨#[97, 107, 115, 110, 109, 102]⟩), .t 20], none⟩,
 .one ⟨some 8, .p .move, [.t 21], none⟩])
 (.seq (.seq (.region [.one ⟨some 22, .p .move, [.t 7], none⟩,
 .one ⟨some 23, .p .lenStr, [.t 22], none⟩,
 .one ⟨some 24, .p (.bin .neq), [.t 23, .c (.int .i64 1)], none⟩,
 .one ⟨some 25, .p .move, [.t 24], none⟩,
 .grp 25 false [⟨some 26, .p .move, [.t 8], none⟩, ⟨some 27, .p (.bin .lss), [.t 26, .c (.int .i64 0)], none⟩],
 .one ⟨some 28, .p .pick, [.t 25, .c (.bool true), .t 27], none⟩,
 .one ⟨some 29, .p .move, [.t 28], none⟩,
 .grp 29 false [⟨some 30, .p .move, [.t 5], none⟩, ⟨some 31, .p .move, [.t 8], none⟩, ⟨some 32, .p (.bin .shl), [.c (.int .i64 1), .t 31], none⟩, ⟨some 33, .p (.bin .and), [.t 30, .t 32], none⟩, ⟨some 34, .p (.bin .neq), [.t 33, .c (.int .i64 0)], none⟩],
 .one ⟨some 35, .p .pick, [.t 29, .c (.bool true), .t 34], none⟩])
 (.cond (.t 35)
 (.seq (.region [.one ⟨some 36, .p (.build [.slice none 0 0, .bool false, .bool false, .bool false, .bool false, .bool false, .bool false] []), [], none⟩,
 .one ⟨none, .w (.store 7), [.t 2, .t 36], none⟩,
 .one ⟨some 3, .p .move, [.c (.bool false)], none⟩])
 .ret)
 .skip))
 (.region [.one ⟨some 37, .p .move, [.t 5], none⟩,
 .one ⟨some 38, .p .move, [.t 8], none⟩,
 .one ⟨some 39, .p (.bin .shl), [.c (.int .i64 1), .t 38], none⟩,
 .one ⟨some 40, .p (.bin .or), [.t 37, .t 39], none⟩,
 .one ⟨some 5, .p .move, [.t 40], none⟩])))))
 (.region [.one ⟨some 41, .p (.bin .add), [.t 16, .c (.int .i64 1)], none⟩,
 .one ⟨some 16, .p .move, [.t 41], none⟩])))))))
 (.seq (.region [.one ⟨some 42, .p .move, [.t 4], none⟩,
 .one ⟨some 43, .p (.indexAddr 1), [.t 42, .c (.int .i64 0)], none⟩,
 .one ⟨some 44, .r .load1, [.t 43], none⟩,
 .one ⟨some 45, .call 207, [.t 44, .c (.string ⟨#[61]⟩)], none⟩,
 .one ⟨some 9, .p .move, [.t 45], none⟩])
 (.seq (.region [.one ⟨some 46, .p .move, [.t 9], none⟩,
 .one ⟨some 47, .call 227, [.t 46, .c (.func (.func 228) #[] #[])], none⟩,
 .one ⟨some 10, .p .move, [.t 47], none⟩])
 (.seq (.seq (.region [.one ⟨some 48, .p .move, [.t 10], none⟩,
 .one ⟨some 49, .p .move, [.t 48], none⟩,
 .grp 49 false [⟨some 50, .p .move, [.t 5], none⟩, ⟨some 51, .p (.bin .and), [.t 50, .c (.int .i64 4)], none⟩, ⟨some 52, .p (.bin .neq), [.t 51, .c (.int .i64 0)], none⟩, ⟨some 53, .p .move, [.t 52], none⟩],
 .grp 53 true [⟨some 54, .p .move, [.t 5], none⟩, ⟨some 55, .p (.bin .neq), [.t 54, .c (.int .i64 4)], none⟩],
 .grp 49 false [⟨some 56, .p .pick, [.t 53, .t 55, .c (.bool false)], none⟩],
 .one ⟨some 57, .p .pick, [.t 49, .c (.bool true), .t 56], none⟩,
 .one ⟨some 58, .p .move, [.t 57], none⟩,
 .grp 58 false [⟨some 59, .p .move, [.t 5], none⟩, ⟨some 60, .p (.bin .and), [.t 59, .c (.int .i64 16)], none⟩, ⟨some 61, .p (.bin .neq), [.t 60, .c (.int .i64 0)], none⟩, ⟨some 62, .p .move, [.t 61], none⟩],
 .grp 62 true [⟨some 63, .p .move, [.t 5], none⟩, ⟨some 64, .p (.bin .and), [.t 63, .c (.int .i64 2)], none⟩, ⟨some 65, .p (.bin .neq), [.t 64, .c (.int .i64 0)], none⟩],
 .grp 58 false [⟨some 66, .p .pick, [.t 62, .t 65, .c (.bool false)], none⟩],
 .one ⟨some 67, .p .pick, [.t 58, .c (.bool true), .t 66], none⟩,
 .one ⟨some 68, .p .move, [.t 67], none⟩,
 .grp 68 false [⟨some 69, .p .move, [.t 5], none⟩, ⟨some 70, .p (.bin .and), [.t 69, .c (.int .i64 32)], none⟩, ⟨some 71, .p (.bin .neq), [.t 70, .c (.int .i64 0)], none⟩, ⟨some 72, .p .move, [.t 71], none⟩],
 .grp 72 true [⟨some 73, .p .move, [.t 5], none⟩, ⟨some 74, .p (.bin .andNot), [.t 73, .c (.int .i64 1)], none⟩, ⟨some 75, .p (.bin .neq), [.t 74, .c (.int .i64 32)], none⟩],
 .grp 68 false [⟨some 76, .p .pick, [.t 72, .t 75, .c (.bool false)], none⟩],
 .one ⟨some 77, .p .pick, [.t 68, .c (.bool true), .t 76], none⟩])
 (.cond (.t 77)
 (.seq (.region [.one ⟨some 78, .p (.build [.slice none 0 0, .bool false, .bool false, .bool false, .bool false, .bool false, .bool false] []), [], none⟩,
 .one ⟨none, .w (.store 7), [.t 2, .t 78], none⟩,
 .one ⟨some 3, .p .move, [.c (.bool false)], none⟩])
 .ret)
 .skip))
 (.seq (.region [.one ⟨some 79, .p .move, [.t 9], none⟩,
 .one ⟨some 80, .p .move, [.t 5], none⟩,
 .one ⟨some 81, .p (.bin .and), [.t 80, .c (.int .i64 1)], none⟩,
 .one ⟨some 82, .p (.bin .neq), [.t 81, .c (.int .i64 0)], none⟩,
 .one ⟨some 83, .p .move, [.t 5], none⟩,
 .one ⟨some 84, .p (.bin .and), [.t 83, .c (.int .i64 2)], none⟩,
 .one ⟨some 85, .p (.bin .neq), [.t 84, .c (.int .i64 0)], none⟩,
 .one ⟨some 86, .p .move, [.t 5], none⟩,
 .one ⟨some 87, .p (.bin .and), [.t 86, .c (.int .i64 4)], none⟩,
 .one ⟨some 88, .p (.bin .neq), [.t 87, .c (.int .i64 0)], none⟩,
 .one ⟨some 89, .p .move, [.t 5], none⟩,
 .one ⟨some 90, .p (.bin .and), [.t 89, .c (.int .i64 8)], none⟩,
 .one ⟨some 91, .p (.bin .neq), [.t 90, .c (.int .i64 0)], none⟩,
 .one ⟨some 92, .p .move, [.t 5], none⟩,
 .one ⟨some 93, .p (.bin .and), [.t 92, .c (.int .i64 16)], none⟩,
 .one ⟨some 94, .p (.bin .neq), [.t 93, .c (.int .i64 0)], none⟩,
 .one ⟨some 95, .p .move, [.t 5], none⟩,
 .one ⟨some 96, .p (.bin .and), [.t 95, .c (.int .i64 32)], none⟩,
 .one ⟨some 97, .p (.bin .neq), [.t 96, .c (.int .i64 0)], none⟩,
 .one ⟨some 98, .p (.build [.slice none 0 0, .bool false, .bool false, .bool false, .bool false, .bool false, .bool false] [(0, 1), (1, 1), (2, 1), (3, 1), (4, 1), (5, 1), (6, 1)]), [.t 79, .t 82, .t 85, .t 88, .t 91, .t 94, .t 97], none⟩,
 .one ⟨none, .w (.store 7), [.t 2, .t 98], none⟩,
 .one ⟨some 3, .p .move, [.c (.bool true)], none⟩])
 .ret))))))),
 [(2, 9), (3, 0)]⟩

theorem g208_ok : compFn Tryz.prog 208 = some (fromGFn g208) := by kernel_rfl

def g209 : GFn := ⟨21,
 .seq (.region [.one ⟨some 3, .w (.box 1), [.t 1], none⟩,
 .one ⟨some 4, .p .move, [.c (.int .i64 0)], none⟩])
 (.seq (.seq (.region [.one ⟨some 6, .r .load1, [.t 3], none⟩,
 .one ⟨some 7, .p .lenStr, [.t 6], none⟩,
 .one ⟨some 8, .p .move, [.c (.int .i64 0)], none⟩])
 (.block 0 (.loop (.seq (.region [.one ⟨some 9, .p (.bin .lss), [.t 8, .t 7], none⟩])
 (.seq (.cond (.t 9)
 .skip
 (.exit 0))
 (.seq (.block 1 (.seq (.region [.one ⟨some 10, .p .move, [.t 8], none⟩,
 .one ⟨some 5, .p .move, [.t 10], none⟩])
 (.seq (.region [.one ⟨some 11, .r .load1, [.t 3], none⟩,
 .one ⟨some 12, .p .move, [.t 5], none⟩,
 .one ⟨some 13, .p .indexStr, [.t 11, .t 12], none⟩,
 .one ⟨some 14, .p (.bin .geq), [.t 13, .c (.int .u8 128)], none⟩])
 (.cond (.t 14)
 (.seq (.region [.one ⟨some 4, .p .move, [.c (.int .i64 (-1))], none⟩])
 .ret)
 .skip))))
 (.region [.one ⟨some 15, .p (.bin .add), [.t 8, .c (.int .i64 1)], none⟩,
 .one ⟨some 8, .p .move, [.t 15], none⟩])))))))
 (.seq (.region [.one ⟨some 16, .r .load1, [.t 3], none⟩,
 .one ⟨some 17, .call 229, [.t 16], none⟩,
 .one ⟨none, .w (.store 1), [.t 3, .t 17], none⟩])
 (.seq (.region [.one ⟨some 18, .p .move, [.t 0], none⟩,
 .one ⟨some 19, .p (.mkFunc (.func 231) 0), [.t 3], none⟩,
 .one ⟨some 20, .call 230, [.t 18, .t 19], none⟩,
 .one ⟨some 4, .p .move, [.t 20], none⟩])
 .ret))),
 [(4, 0)]⟩

theorem g209_ok : compFn Tryz.prog 209 = some (fromGFn g209) := by kernel_rfl

def g211 : GFn := ⟨37,
 .seq (.region [.one ⟨some 2, .p .move, [.c (.int .i64 0)], none⟩])
 (.seq (.region [.one ⟨some 3, .p .move, [.c (.int .i64 (-1))], none⟩])
 (.seq (.seq (.region [.one ⟨some 6, .p .move, [.t 0], none⟩,
 .one ⟨some 7, .p .nilCheck, [.t 6], none⟩,
 .one ⟨some 8, .p (.fieldAddr 0), [.t 7], none⟩,
 .one ⟨some 9, .r .load1, [.t 8], none⟩,
 .one ⟨some 10, .p .lenSl, [.t 9], none⟩,
 .one ⟨some 11, .p .move, [.c (.int .i64 0)], none⟩])
 (.block 0 (.loop (.seq (.region [.one ⟨some 12, .p (.bin .lss), [.t 11, .t 10], none⟩])
 (.seq (.cond (.t 12)
 .skip
 (.exit 0))
 (.seq (.block 1 (.seq (.region [.one ⟨some 13, .p .move, [.t 11], none⟩,
 .one ⟨some 14, .p (.indexAddr 7), [.t 9, .t 11], none⟩,
 .one ⟨some 15, .r (.loadN 7), [.t 14], none⟩,
 .one ⟨some 5, .w (.new [.slice none 0 0, .bool false, .bool false, .bool false, .bool false, .bool false, .bool false]), [], none⟩,
 .one ⟨some 4, .p .move, [.t 13], none⟩,
 .one ⟨none, .w (.store 7), [.t 5, .t 15], none⟩])
 (.block 2 (.seq (.region [.one ⟨some 17, .r (.loadN 7), [.t 5], none⟩,
 .one ⟨some 18, .call 233, [.t 17], none⟩,
 .one ⟨some 19, .p (.un .not), [.t 18], none⟩,
 .one ⟨some 16, .p .move, [.t 19], none⟩])
 (.cond (.t 16)
 .skip
 (.seq (.region [.one ⟨some 21, .p (.fieldAddr 5), [.t 5], none⟩,
 .one ⟨some 22, .r .load1, [.t 21], none⟩,
 .one ⟨some 20, .p .move, [.t 22], none⟩])
 (.cond (.t 20)
 (.region [.one ⟨some 23, .p .move, [.t 4], none⟩,
 .one ⟨some 3, .p .move, [.t 23], none⟩])
 (.seq (.region [.one ⟨some 25, .p .move, [.t 0], none⟩,
 .one ⟨some 26, .p .nilCheck, [.t 25], none⟩,
 .one ⟨some 27, .p (.fieldAddr 3), [.t 26], none⟩,
 .one ⟨some 28, .r .load1, [.t 27], none⟩,
 .one ⟨some 29, .p .move, [.t 4], none⟩,
 .one ⟨some 30, .p (.indexAddr 3), [.t 28, .t 29], none⟩,
 .one ⟨some 31, .p (.fieldAddr 2), [.t 30], none⟩,
 .one ⟨some 32, .r .load1, [.t 31], none⟩,
 .one ⟨some 33, .p (.un .not), [.t 32], none⟩,
 .one ⟨some 24, .p .move, [.t 33], none⟩])
 (.cond (.t 24)
 (.seq (.region [.one ⟨some 34, .p .move, [.t 4], none⟩,
 .one ⟨some 2, .p .move, [.t 34], none⟩])
 .ret)
 .skip)))))))))
 (.region [.one ⟨some 35, .p (.bin .add), [.t 11, .c (.int .i64 1)], none⟩,
 .one ⟨some 11, .p .move, [.t 35], none⟩])))))))
 (.seq (.region [.one ⟨some 36, .p .move, [.t 3], none⟩,
 .one ⟨some 2, .p .move, [.t 36], none⟩])
 .ret))),
 [(2, 0)]⟩

theorem g211_ok : compFn Tryz.prog 211 = some (fromGFn g211) := by kernel_rfl

def g212 : GFn := ⟨31,
 .seq (.region [.one ⟨some 6, .p .move, [.c (.bool false)], none⟩])
 (.seq (.region [.one ⟨some 8, .p .move, [.t 0], none⟩,
 .one ⟨some 9, .p .nilCheck, [.t 8], none⟩,
 .one ⟨some 10, .p (.fieldAddr 1), [.t 9], none⟩,
 .one ⟨some 11, .r .load1, [.t 10], none⟩,
 .one ⟨some 12, .p .move, [.t 2], none⟩,
 .one ⟨some 13, .p (.slStr true false), [.t 11, .t 12], none⟩,
 .one ⟨some 14, .call 234, [.t 13, .c (.string ⟨#[32]⟩)], none⟩,
 .one ⟨some 7, .p .move, [.t 14], none⟩])
 (.seq (.region [.one ⟨some 15, .p .move, [.t 0], none⟩,
 .one ⟨some 16, .p .move, [.t 0], none⟩,
 .one ⟨some 17, .p .nilCheck, [.t 16], none⟩,
 .one ⟨some 18, .p (.fieldAddr 1), [.t 17], none⟩,
 .one ⟨some 19, .r .load1, [.t 18], none⟩,
 .one ⟨some 20, .p .lenStr, [.t 19], none⟩,
 .one ⟨some 21, .p .nilCheck, [.t 15], none⟩,
 .one ⟨some 22, .p (.fieldAddr 2), [.t 21], none⟩,
 .one ⟨none, .w (.store 1), [.t 22, .t 20], none⟩])
 (.seq (.region [.one ⟨some 23, .p .move, [.t 7], none⟩,
 .one ⟨some 24, .p (.bin .neq), [.t 23, .c (.string ByteArray.empty)], none⟩,
 .one ⟨some 25, .p .move, [.t 24], none⟩,
 .grp 25 true [⟨some 26, .p .move, [.t 0], none⟩, ⟨some 27, .p .move, [.t 1], none⟩, ⟨some 28, .p .move, [.t 7], none⟩, ⟨some 29, .call 214, [.t 26, .t 27, .t 28], none⟩],
 .one ⟨some 30, .p .pick, [.t 25, .t 29, .c (.bool false)], none⟩,
 .one ⟨some 6, .p .move, [.t 30], none⟩])
 .ret))),
 [(6, 0)]⟩

theorem g212_ok : compFn Tryz.prog 212 = some (fromGFn g212) := by kernel_rfl

def g213 : GFn := ⟨11,
 .seq (.region [.one ⟨some 1, .w (.box 3), [.t 0], none⟩,
 .one ⟨some 2, .p .move, [.c (.bool false)], none⟩])
 (.seq (.region [.one ⟨some 3, .p (.fieldAddr 0), [.t 1], none⟩,
 .one ⟨some 4, .r .load1, [.t 3], none⟩,
 .one ⟨some 5, .p (.bin .eql), [.t 4, .c (.string ⟨#[61]⟩)], none⟩,
 .one ⟨some 6, .p .move, [.t 5], none⟩,
 .grp 6 true [⟨some 7, .p (.fieldAddr 2), [.t 1], none⟩, ⟨some 8, .r .load1, [.t 7], none⟩, ⟨some 9, .p (.un .not), [.t 8], none⟩],
 .one ⟨some 10, .p .pick, [.t 6, .t 9, .c (.bool false)], none⟩,
 .one ⟨some 2, .p .move, [.t 10], none⟩])
 .ret),
 [(2, 0)]⟩

theorem g213_ok : compFn Tryz.prog 213 = some (fromGFn g213) := by kernel_rfl

def g214 : GFn := ⟨66,
 .seq (.region [.one ⟨some 6, .p .move, [.c (.bool false)], none⟩])
 (.seq (.region [.one ⟨some 10, .p .move, [.t 0], none⟩,
 .one ⟨some 11, .p .nilCheck, [.t 10], none⟩,
 .one ⟨some 12, .p (.fieldAddr 0), [.t 11], none⟩,
 .one ⟨some 13, .r .load1, [.t 12], none⟩,
 .one ⟨some 14, .p .move, [.t 1], none⟩,
 .one ⟨some 15, .p (.indexAddr 7), [.t 13, .t 14], none⟩,
 .one ⟨some 16, .r (.loadN 7), [.t 15], none⟩,
 .one ⟨some 7, .w (.new [.slice none 0 0, .bool false, .bool false, .bool false, .bool false, .bool false, .bool false]), [], none⟩,
 .one ⟨none, .w (.store 7), [.t 7, .t 16], none⟩])
 (.seq (.seq (.region [.one ⟨some 17, .p .move, [.t 0], none⟩,
 .one ⟨some 18, .p .nilCheck, [.t 17], none⟩,
 .one ⟨some 19, .p (.fieldAddr 3), [.t 18], none⟩,
 .one ⟨some 20, .r .load1, [.t 19], none⟩,
 .one ⟨some 21, .p .move, [.t 1], none⟩,
 .one ⟨some 22, .p (.indexAddr 3), [.t 20, .t 21], none⟩,
 .one ⟨some 23, .p (.fieldAddr 2), [.t 22], none⟩,
 .one ⟨some 24, .r .load1, [.t 23], none⟩,
 .one ⟨some 25, .p .move, [.t 24], none⟩,
 .grp 25 true [⟨some 26, .p (.fieldAddr 5), [.t 7], none⟩, ⟨some 27, .r .load1, [.t 26], none⟩, ⟨some 28, .p (.un .not), [.t 27], none⟩],
 .one ⟨some 29, .p .pick, [.t 25, .t 28, .c (.bool false)], none⟩])
 (.cond (.t 29)
 (.seq (.region [.one ⟨some 6, .p .move, [.c (.bool false)], none⟩])
 .ret)
 .skip))
 (.seq (.seq (.region [.one ⟨some 31, .p .move, [.t 2], none⟩,
 .one ⟨some 32, .call 225, [.t 31], none⟩,
 .one ⟨some 30, .p .move, [.t 32], none⟩,
 .one ⟨some 33, .p (.extract 0), [.t 30], none⟩,
 .one ⟨some 34, .p (.extract 1), [.t 30], none⟩,
 .one ⟨some 8, .p .move, [.t 33], none⟩,
 .one ⟨some 9, .p .move, [.t 34], none⟩])
 (.seq (.region [.one ⟨some 35, .p (.fieldAddr 4), [.t 7], none⟩,
 .one ⟨some 36, .r .load1, [.t 35], none⟩,
 .one ⟨some 37, .p .move, [.t 36], none⟩,
 .grp 37 true [⟨some 38, .p .move, [.t 9], none⟩, ⟨some 39, .p (.bin .neq), [.t 38, .c (.int .i64 0)], none⟩],
 .one ⟨some 40, .p .pick, [.t 37, .t 39, .c (.bool false)], none⟩])
 (.cond (.t 40)
 (.seq (.region [.one ⟨some 6, .p .move, [.c (.bool false)], none⟩])
 .ret)
 .skip)))
 (.seq (.region [.one ⟨some 41, .p .move, [.t 0], none⟩,
 .one ⟨some 42, .p .nilCheck, [.t 41], none⟩,
 .one ⟨some 43, .p (.fieldAddr 3), [.t 42], none⟩,
 .one ⟨some 44, .r .load1, [.t 43], none⟩,
 .one ⟨some 45, .p .move, [.t 1], none⟩,
 .one ⟨some 46, .p (.indexAddr 3), [.t 44, .t 45], none⟩,
 .one ⟨some 47, .p (.fieldAddr 2), [.t 46], none⟩,
 .one ⟨none, .w (.store 1), [.t 47, .c (.bool true)], none⟩])
 (.seq (.region [.one ⟨some 48, .p .move, [.t 0], none⟩,
 .one ⟨some 49, .p .nilCheck, [.t 48], none⟩,
 .one ⟨some 50, .p (.fieldAddr 3), [.t 49], none⟩,
 .one ⟨some 51, .r .load1, [.t 50], none⟩,
 .one ⟨some 52, .p .move, [.t 1], none⟩,
 .one ⟨some 53, .p .move, [.t 0], none⟩,
 .one ⟨some 54, .p .nilCheck, [.t 53], none⟩,
 .one ⟨some 55, .p (.fieldAddr 3), [.t 54], none⟩,
 .one ⟨some 56, .r .load1, [.t 55], none⟩,
 .one ⟨some 57, .p .move, [.t 1], none⟩,
 .one ⟨some 58, .p (.indexAddr 3), [.t 56, .t 57], none⟩,
 .one ⟨some 59, .p (.fieldAddr 1), [.t 58], none⟩,
 .one ⟨some 60, .r .load1, [.t 59], none⟩,
 .one ⟨some 61, .p .move, [.t 2], none⟩,
 .one ⟨some 62, .w (.sliceLit [.string ByteArray.empty] 1 [(0, 1)]), [.t 61], none⟩,
 .one ⟨none, .r .same1, [.t 51, .t 50], none⟩,
 .one ⟨none, .r .same1, [.t 56, .t 55], none⟩,
 .one ⟨none, .r .same1, [.t 60, .t 59], none⟩,
 .one ⟨some 63, .w (.append 1 16), [.t 60, .t 62], none⟩,
 .one ⟨none, .r .same1, [.t 51, .t 50], none⟩,
 .one ⟨some 64, .p (.indexAddr 3), [.t 51, .t 52], none⟩,
 .one ⟨some 65, .p (.fieldAddr 1), [.t 64], none⟩,
 .one ⟨none, .w (.store 1), [.t 65, .t 63], none⟩])
 (.seq (.region [.one ⟨some 6, .p .move, [.c (.bool true)], none⟩])
 .ret)))))),
 [(6, 0)]⟩

theorem g214_ok : compFn Tryz.prog 214 = some (fromGFn g214) := by kernel_rfl

def g215 : GFn := ⟨30,
 .seq (.region [.one ⟨some 4, .p .move, [.c (.slice none 0 0)], none⟩])
 (.seq (.region [.one ⟨some 6, .p .move, [.t 1], none⟩,
 .one ⟨some 7, .p .move, [.t 0], none⟩,
 .one ⟨some 8, .p .nilCheck, [.t 7], none⟩,
 .one ⟨some 9, .p (.fieldAddr 0), [.t 8], none⟩,
 .one ⟨some 10, .r .load1, [.t 9], none⟩,
 .one ⟨some 11, .p .lenSl, [.t 10], none⟩,
 .one ⟨some 12, .p .min, [.t 6, .t 11], none⟩,
 .one ⟨some 1, .p .move, [.t 12], none⟩])
 (.seq (.region [.one ⟨some 13, .p .move, [.t 0], none⟩,
 .one ⟨some 14, .p .nilCheck, [.t 13], none⟩,
 .one ⟨some 15, .p (.fieldAddr 0), [.t 14], none⟩,
 .one ⟨some 16, .r .load1, [.t 15], none⟩,
 .one ⟨some 17, .p .move, [.t 1], none⟩,
 .one ⟨some 18, .r (.sl 1 false true), [.t 16, .t 17], none⟩,
 .one ⟨some 19, .call 95, [.t 18], none⟩,
 .one ⟨some 5, .p .move, [.t 19], none⟩])
 (.seq (.region [.one ⟨some 20, .p .move, [.t 0], none⟩,
 .one ⟨some 21, .p .move, [.t 0], none⟩,
 .one ⟨some 22, .p .nilCheck, [.t 21], none⟩,
 .one ⟨some 23, .p (.fieldAddr 0), [.t 22], none⟩,
 .one ⟨some 24, .r .load1, [.t 23], none⟩,
 .one ⟨some 25, .p .move, [.t 1], none⟩,
 .one ⟨some 26, .r (.sl 1 true false), [.t 24, .t 25], none⟩,
 .one ⟨some 27, .p .nilCheck, [.t 20], none⟩,
 .one ⟨some 28, .p (.fieldAddr 0), [.t 27], none⟩,
 .one ⟨none, .w (.store 1), [.t 28, .t 26], none⟩])
 (.seq (.region [.one ⟨some 29, .p .move, [.t 5], none⟩,
 .one ⟨some 4, .p .move, [.t 29], none⟩])
 .ret)))),
 [(4, 0)]⟩

theorem g215_ok : compFn Tryz.prog 215 = some (fromGFn g215) := by kernel_rfl

def g222 : GFn := ⟨19,
 .seq (.region [.one ⟨some 4, .p .move, [.c (.int .i64 0)], none⟩])
 (.seq (.seq (.region [.one ⟨some 6, .p .move, [.t 0], none⟩,
 .one ⟨some 7, .p .lenSl, [.t 6], none⟩,
 .one ⟨some 8, .p .move, [.c (.int .i64 0)], none⟩])
 (.block 0 (.loop (.seq (.region [.one ⟨some 9, .p (.bin .lss), [.t 8, .t 7], none⟩])
 (.seq (.cond (.t 9)
 .skip
 (.exit 0))
 (.seq (.block 1 (.seq (.region [.one ⟨some 10, .p .move, [.t 8], none⟩,
 .one ⟨some 5, .p .move, [.t 10], none⟩])
 (.seq (.region [.one ⟨some 11, .p .move, [.t 1], none⟩,
 .one ⟨some 12, .p .move, [.t 0], none⟩,
 .one ⟨some 13, .p .move, [.t 5], none⟩,
 .one ⟨some 14, .p (.indexAddr 1), [.t 12, .t 13], none⟩,
 .one ⟨some 15, .r .load1, [.t 14], none⟩,
 .one ⟨some 16, .callV, [.t 11, .t 15], none⟩])
 (.cond (.t 16)
 (.seq (.region [.one ⟨some 17, .p .move, [.t 5], none⟩,
 .one ⟨some 4, .p .move, [.t 17], none⟩])
 .ret)
 .skip))))
 (.region [.one ⟨some 18, .p (.bin .add), [.t 8, .c (.int .i64 1)], none⟩,
 .one ⟨some 8, .p .move, [.t 18], none⟩])))))))
 (.seq (.region [.one ⟨some 4, .p .move, [.c (.int .i64 (-1))], none⟩])
 .ret)),
 [(4, 0)]⟩

theorem g222_ok : compFn Tryz.prog 222 = some (fromGFn g222) := by kernel_rfl

def g225 : GFn := ⟨24,
 .seq (.region [.one ⟨some 2, .p .move, [.c (.int .i64 0)], none⟩,
 .one ⟨some 3, .p .move, [.c (.int .i64 0)], none⟩])
 (.seq (.region [.one ⟨some 7, .p .move, [.t 0], none⟩,
 .one ⟨some 8, .call 247, [.t 7, .c (.string ⟨#[45]⟩)], none⟩,
 .one ⟨some 4, .p .move, [.t 8], none⟩])
 (.seq (.seq (.region [.one ⟨some 9, .p .move, [.t 4], none⟩,
 .one ⟨some 10, .p (.bin .eql), [.t 9, .c (.string ByteArray.empty)], none⟩,
 .one ⟨some 11, .p .move, [.t 10], none⟩,
 .grp 11 false [⟨some 12, .p .move, [.t 4], none⟩, ⟨some 13, .call 15, [.t 12, .c (.string ⟨#[48, 49, 50, 51, 52, 53, 54, 55, 56, 57]⟩)], none⟩, ⟨some 14, .p (.bin .neq), [.t 13, .c (.string ByteArray.empty)], none⟩],
 .one ⟨some 15, .p .pick, [.t 11, .c (.bool true), .t 14], none⟩])
 (.cond (.t 15)
 (.seq (.region [.one ⟨some 2, .p .move, [.c (.int .i64 0)], none⟩,
 .one ⟨some 3, .p .move, [.c (.int .i64 250)], none⟩])
 .ret)
 .skip))
 (.seq (.region [.one ⟨some 17, .p .move, [.t 0], none⟩,
 .one ⟨some 18, .call 248, [.t 17, .c (.int .i64 10), .c (.int .i64 32)], none⟩,
 .one ⟨some 16, .p .move, [.t 18], none⟩,
 .one ⟨some 19, .p (.extract 0), [.t 16], none⟩,
 .one ⟨some 20, .p (.extract 1), [.t 16], none⟩,
 .one ⟨some 5, .p .move, [.t 19], none⟩,
 .one ⟨some 6, .p .move, [.t 20], none⟩])
 (.seq (.seq (.region [.one ⟨some 21, .p .move, [.t 6], none⟩,
 .one ⟨some 22, .p (.nilEq .iface true), [.t 21, .c .nilIface], none⟩])
 (.cond (.t 22)
 (.seq (.region [.one ⟨some 2, .p .move, [.c (.int .i64 0)], none⟩,
 .one ⟨some 3, .p .move, [.c (.int .i64 250)], none⟩])
 .ret)
 .skip))
 (.seq (.region [.one ⟨some 23, .p .move, [.t 5], none⟩,
 .one ⟨some 2, .p .move, [.t 23], none⟩,
 .one ⟨some 3, .p .move, [.c (.int .i64 0)], none⟩])
 .ret))))),
 [(2, 0), (3, 0)]⟩

theorem g225_ok : compFn Tryz.prog 225 = some (fromGFn g225) := by kernel_rfl

def g227 : GFn := ⟨9,
 .seq (.region [.one ⟨some 4, .p .move, [.c (.bool false)], none⟩])
 (.seq (.region [.one ⟨some 5, .p .move, [.t 0], none⟩,
 .one ⟨some 6, .p .move, [.t 1], none⟩,
 .one ⟨some 7, .call 222, [.t 5, .t 6], none⟩,
 .one ⟨some 8, .p (.bin .geq), [.t 7, .c (.int .i64 0)], none⟩,
 .one ⟨some 4, .p .move, [.t 8], none⟩])
 .ret),
 [(4, 0)]⟩

theorem g227_ok : compFn Tryz.prog 227 = some (fromGFn g227) := by kernel_rfl

def g228 : GFn := ⟨15,
 .seq (.region [.one ⟨some 2, .p .move, [.c (.bool false)], none⟩])
 (.seq (.region [.one ⟨some 3, .p .move, [.t 0], none⟩,
 .one ⟨some 4, .p (.bin .eql), [.t 3, .c (.string ByteArray.empty)], none⟩,
 .one ⟨some 5, .p .move, [.t 4], none⟩,
 .grp 5 false [⟨some 6, .p .move, [.t 0], none⟩, ⟨some 7, .p .lenStr, [.t 6], none⟩, ⟨some 8, .p (.bin .gtr), [.t 7, .c (.int .i64 16)], none⟩],
 .one ⟨some 9, .p .pick, [.t 5, .c (.bool true), .t 8], none⟩,
 .one ⟨some 10, .p .move, [.t 9], none⟩,
 .grp 10 false [⟨some 11, .p .move, [.t 0], none⟩, ⟨some 12, .call 15, [.t 11, .c (.string ⟨#[97, 98, 99, 100, 101, 102, 103, 104, 105, 106, 107, 108, 109, 110, 111, 112, 113, 114, 115, 116, 117, 118, 119, 120, 121, 122]⟩)], none⟩, ⟨some 13, .p (.bin .neq), [.t 12, .c (.string ByteArray.empty)], none⟩],
 .one ⟨some 14, .p .pick, [.t 10, .c (.bool true), .t 13], none⟩,
 .one ⟨some 2, .p .move, [.t 14], none⟩])
 .ret),
 [(2, 0)]⟩

theorem g228_ok : compFn Tryz.prog 228 = some (fromGFn g228) := by kernel_rfl

def g229 : GFn := ⟨78,
 .seq (.region [.one ⟨some 2, .p .move, [.c (.string ByteArray.empty)], none⟩])
 (.seq (.region [.one ⟨some 3, .p .move, [.c (.bool true)], none⟩,
 .one ⟨some 4, .p .move, [.c (.bool false)], none⟩])
 (.seq (.seq (.region [.one ⟨some 5, .p .move, [.c (.int .i64 0)], none⟩])
 (.block 0 (.loop (.seq (.seq (.region [.one ⟨some 11, .p .move, [.t 5], none⟩,
 .one ⟨some 12, .p .move, [.t 0], none⟩,
 .one ⟨some 13, .p .lenStr, [.t 12], none⟩,
 .one ⟨some 14, .p (.bin .lss), [.t 11, .t 13], none⟩])
 (.cond (.t 14)
 .skip
 (.exit 0)))
 (.seq (.block 1 (.seq (.region [.one ⟨some 17, .p .move, [.t 0], none⟩,
 .one ⟨some 18, .p .move, [.t 5], none⟩,
 .one ⟨some 19, .p .indexStr, [.t 17, .t 18], none⟩,
 .one ⟨some 6, .p .move, [.t 19], none⟩])
 (.seq (.seq (.region [.one ⟨some 20, .p .move, [.t 6], none⟩,
 .one ⟨some 21, .p (.bin .geq), [.t 20, .c (.int .u8 128)], none⟩])
 (.cond (.t 21)
 (.seq (.region [.one ⟨some 3, .p .move, [.c (.bool false)], none⟩])
 (.exit 0))
 .skip))
 (.region [.one ⟨some 22, .p .move, [.t 4], none⟩,
 .one ⟨some 23, .p .move, [.t 22], none⟩,
 .grp 23 false [⟨some 24, .p .move, [.t 6], none⟩, ⟨some 25, .p (.bin .leq), [.c (.int .u8 65), .t 24], none⟩, ⟨some 26, .p .move, [.t 25], none⟩],
 .grp 26 true [⟨some 27, .p .move, [.t 6], none⟩, ⟨some 28, .p (.bin .leq), [.t 27, .c (.int .u8 90)], none⟩],
 .grp 23 false [⟨some 29, .p .pick, [.t 26, .t 28, .c (.bool false)], none⟩],
 .one ⟨some 30, .p .pick, [.t 23, .c (.bool true), .t 29], none⟩,
 .one ⟨some 4, .p .move, [.t 30], none⟩]))))
 (.region [.one ⟨some 15, .p .move, [.t 5], none⟩,
 .one ⟨some 16, .p (.bin .add), [.t 15, .c (.int .i64 1)], none⟩,
 .one ⟨some 5, .p .move, [.t 16], none⟩]))))))
 (.seq (.seq (.region [.one ⟨some 31, .p .move, [.t 3], none⟩])
 (.cond (.t 31)
 (.seq (.seq (.region [.one ⟨some 32, .p .move, [.t 4], none⟩,
 .one ⟨some 33, .p (.un .not), [.t 32], none⟩])
 (.cond (.t 33)
 (.seq (.region [.one ⟨some 34, .p .move, [.t 0], none⟩,
 .one ⟨some 2, .p .move, [.t 34], none⟩])
 .ret)
 .skip))
 (.seq (.region [.one ⟨some 7, .w (.new [.pointer none, .slice none 0 0]), [], none⟩])
 (.seq (.region [.one ⟨some 8, .p .move, [.c (.int .i64 0)], none⟩])
 (.seq (.region [.one ⟨some 35, .p .move, [.t 0], none⟩,
 .one ⟨some 36, .p .lenStr, [.t 35], none⟩,
 .one ⟨some 37, .call 249, [.t 7, .t 36], none⟩])
 (.seq (.seq (.region [.one ⟨some 9, .p .move, [.c (.int .i64 0)], none⟩])
 (.block 2 (.loop (.seq (.seq (.region [.one ⟨some 38, .p .move, [.t 9], none⟩,
 .one ⟨some 39, .p .move, [.t 0], none⟩,
 .one ⟨some 40, .p .lenStr, [.t 39], none⟩,
 .one ⟨some 41, .p (.bin .lss), [.t 38, .t 40], none⟩])
 (.cond (.t 41)
 .skip
 (.exit 2)))
 (.seq (.block 3 (.seq (.region [.one ⟨some 44, .p .move, [.t 0], none⟩,
 .one ⟨some 45, .p .move, [.t 9], none⟩,
 .one ⟨some 46, .p .indexStr, [.t 44, .t 45], none⟩,
 .one ⟨some 10, .p .move, [.t 46], none⟩])
 (.seq (.region [.one ⟨some 47, .p .move, [.t 10], none⟩,
 .one ⟨some 48, .p (.bin .leq), [.c (.int .u8 65), .t 47], none⟩,
 .one ⟨some 49, .p .move, [.t 48], none⟩,
 .grp 49 true [⟨some 50, .p .move, [.t 10], none⟩, ⟨some 51, .p (.bin .leq), [.t 50, .c (.int .u8 90)], none⟩],
 .one ⟨some 52, .p .pick, [.t 49, .t 51, .c (.bool false)], none⟩])
 (.cond (.t 52)
 (.seq (.region [.one ⟨some 53, .p .move, [.t 10], none⟩,
 .one ⟨some 54, .p (.bin .add), [.t 53, .c (.int .u8 32)], none⟩,
 .one ⟨some 10, .p .move, [.t 54], none⟩])
 (.seq (.seq (.region [.one ⟨some 55, .p .move, [.t 8], none⟩,
 .one ⟨some 56, .p .move, [.t 9], none⟩,
 .one ⟨some 57, .p (.bin .lss), [.t 55, .t 56], none⟩])
 (.cond (.t 57)
 (.region [.one ⟨some 58, .p .move, [.t 0], none⟩,
 .one ⟨some 59, .p .move, [.t 8], none⟩,
 .one ⟨some 60, .p .move, [.t 9], none⟩,
 .one ⟨some 61, .p (.slStr true true), [.t 58, .t 59, .t 60], none⟩,
 .one ⟨some 62, .call 26, [.t 7, .t 61], none⟩])
 .skip))
 (.seq (.region [.one ⟨some 63, .p .move, [.t 10], none⟩,
 .one ⟨some 64, .call 96, [.t 7, .t 63], none⟩])
 (.region [.one ⟨some 65, .p .move, [.t 9], none⟩,
 .one ⟨some 66, .p (.bin .add), [.t 65, .c (.int .i64 1)], none⟩,
 .one ⟨some 8, .p .move, [.t 66], none⟩]))))
 .skip))))
 (.region [.one ⟨some 42, .p .move, [.t 9], none⟩,
 .one ⟨some 43, .p (.bin .add), [.t 42, .c (.int .i64 1)], none⟩,
 .one ⟨some 9, .p .move, [.t 43], none⟩]))))))
 (.seq (.seq (.region [.one ⟨some 67, .p .move, [.t 8], none⟩,
 .one ⟨some 68, .p .move, [.t 0], none⟩,
 .one ⟨some 69, .p .lenStr, [.t 68], none⟩,
 .one ⟨some 70, .p (.bin .lss), [.t 67, .t 69], none⟩])
 (.cond (.t 70)
 (.region [.one ⟨some 71, .p .move, [.t 0], none⟩,
 .one ⟨some 72, .p .move, [.t 8], none⟩,
 .one ⟨some 73, .p (.slStr true false), [.t 71, .t 72], none⟩,
 .one ⟨some 74, .call 26, [.t 7, .t 73], none⟩])
 .skip))
 (.seq (.region [.one ⟨some 75, .call 28, [.t 7], none⟩,
 .one ⟨some 2, .p .move, [.t 75], none⟩])
 .ret)))))))
 .skip))
 (.seq (.region [.one ⟨some 76, .p .move, [.t 0], none⟩,
 .one ⟨some 77, .call 250, [.c (.func (.func 251) #[] #[]), .t 76], none⟩,
 .one ⟨some 2, .p .move, [.t 77], none⟩])
 .ret)))),
 [(2, 0)]⟩

theorem g229_ok : compFn Tryz.prog 229 = some (fromGFn g229) := by kernel_rfl

def g230 : GFn := ⟨19,
 .seq (.region [.one ⟨some 4, .p .move, [.c (.int .i64 0)], none⟩])
 (.seq (.seq (.region [.one ⟨some 6, .p .move, [.t 0], none⟩,
 .one ⟨some 7, .p .lenSl, [.t 6], none⟩,
 .one ⟨some 8, .p .move, [.c (.int .i64 0)], none⟩])
 (.block 0 (.loop (.seq (.region [.one ⟨some 9, .p (.bin .lss), [.t 8, .t 7], none⟩])
 (.seq (.cond (.t 9)
 .skip
 (.exit 0))
 (.seq (.block 1 (.seq (.region [.one ⟨some 10, .p .move, [.t 8], none⟩,
 .one ⟨some 5, .p .move, [.t 10], none⟩])
 (.seq (.region [.one ⟨some 11, .p .move, [.t 1], none⟩,
 .one ⟨some 12, .p .move, [.t 0], none⟩,
 .one ⟨some 13, .p .move, [.t 5], none⟩,
 .one ⟨some 14, .p (.indexAddr 7), [.t 12, .t 13], none⟩,
 .one ⟨some 15, .r (.loadN 7), [.t 14], none⟩,
 .one ⟨some 16, .callV, [.t 11, .t 15], none⟩])
 (.cond (.t 16)
 (.seq (.region [.one ⟨some 17, .p .move, [.t 5], none⟩,
 .one ⟨some 4, .p .move, [.t 17], none⟩])
 .ret)
 .skip))))
 (.region [.one ⟨some 18, .p (.bin .add), [.t 8, .c (.int .i64 1)], none⟩,
 .one ⟨some 8, .p .move, [.t 18], none⟩])))))))
 (.seq (.region [.one ⟨some 4, .p .move, [.c (.int .i64 (-1))], none⟩])
 .ret)),
 [(4, 0)]⟩

theorem g230_ok : compFn Tryz.prog 230 = some (fromGFn g230) := by kernel_rfl

def g231 : GFn := ⟨8,
 .seq (.region [.one ⟨some 2, .w (.box 7), [.t 0], none⟩,
 .one ⟨some 3, .p .move, [.c (.bool false)], none⟩])
 (.seq (.region [.one ⟨some 4, .p (.fieldAddr 0), [.t 2], none⟩,
 .one ⟨some 5, .r .load1, [.t 4], none⟩,
 .one ⟨some 6, .r .load1, [.t 1], none⟩,
 .one ⟨some 7, .call 232, [.t 5, .t 6], none⟩,
 .one ⟨some 3, .p .move, [.t 7], none⟩])
 .ret),
 [(3, 0)]⟩

theorem g231_ok : compFn Tryz.prog 231 = some (fromGFn g231) := by kernel_rfl

def g232 : GFn := ⟨9,
 .seq (.region [.one ⟨some 4, .p .move, [.c (.bool false)], none⟩])
 (.seq (.region [.one ⟨some 5, .p .move, [.t 0], none⟩,
 .one ⟨some 6, .p .move, [.t 1], none⟩,
 .one ⟨some 7, .call 252, [.t 5, .t 6], none⟩,
 .one ⟨some 8, .p (.bin .geq), [.t 7, .c (.int .i64 0)], none⟩,
 .one ⟨some 4, .p .move, [.t 8], none⟩])
 .ret),
 [(4, 0)]⟩

theorem g232_ok : compFn Tryz.prog 232 = some (fromGFn g232) := by kernel_rfl

def g233 : GFn := ⟨11,
 .seq (.region [.one ⟨some 1, .w (.box 7), [.t 0], none⟩,
 .one ⟨some 2, .p .move, [.c (.bool false)], none⟩])
 (.seq (.region [.one ⟨some 3, .p (.fieldAddr 3), [.t 1], none⟩,
 .one ⟨some 4, .r .load1, [.t 3], none⟩,
 .one ⟨some 5, .p (.un .not), [.t 4], none⟩,
 .one ⟨some 6, .p .move, [.t 5], none⟩,
 .grp 6 true [⟨some 7, .p (.fieldAddr 2), [.t 1], none⟩, ⟨some 8, .r .load1, [.t 7], none⟩, ⟨some 9, .p (.un .not), [.t 8], none⟩],
 .one ⟨some 10, .p .pick, [.t 6, .t 9, .c (.bool false)], none⟩,
 .one ⟨some 2, .p .move, [.t 10], none⟩])
 .ret),
 [(2, 0)]⟩

theorem g233_ok : compFn Tryz.prog 233 = some (fromGFn g233) := by kernel_rfl

def g234 : GFn := ⟨37,
 .seq (.region [.one ⟨some 4, .p .move, [.c (.string ByteArray.empty)], none⟩])
 (.seq (.seq (.region [.one ⟨some 7, .p .move, [.t 0], none⟩,
 .one ⟨some 8, .p (.bin .eql), [.t 7, .c (.string ByteArray.empty)], none⟩,
 .one ⟨some 9, .p .move, [.t 8], none⟩,
 .grp 9 false [⟨some 10, .p .move, [.t 1], none⟩, ⟨some 11, .p (.bin .eql), [.t 10, .c (.string ByteArray.empty)], none⟩],
 .one ⟨some 12, .p .pick, [.t 9, .c (.bool true), .t 11], none⟩])
 (.cond (.t 12)
 (.seq (.region [.one ⟨some 13, .p .move, [.t 0], none⟩,
 .one ⟨some 4, .p .move, [.t 13], none⟩])
 .ret)
 .skip))
 (.seq (.seq (.region [.one ⟨some 14, .p .move, [.t 1], none⟩,
 .one ⟨some 15, .p .lenStr, [.t 14], none⟩,
 .one ⟨some 16, .p (.bin .eql), [.t 15, .c (.int .i64 1)], none⟩,
 .one ⟨some 17, .p .move, [.t 16], none⟩,
 .grp 17 true [⟨some 18, .p .move, [.t 1], none⟩, ⟨some 19, .p .indexStr, [.t 18, .c (.int .i64 0)], none⟩, ⟨some 20, .p (.bin .lss), [.t 19, .c (.int .u8 128)], none⟩],
 .one ⟨some 21, .p .pick, [.t 17, .t 20, .c (.bool false)], none⟩])
 (.cond (.t 21)
 (.seq (.region [.one ⟨some 22, .p .move, [.t 0], none⟩,
 .one ⟨some 23, .p .move, [.t 1], none⟩,
 .one ⟨some 24, .p .indexStr, [.t 23, .c (.int .i64 0)], none⟩,
 .one ⟨some 25, .call 42, [.t 22, .t 24], none⟩,
 .one ⟨some 4, .p .move, [.t 25], none⟩])
 .ret)
 .skip))
 (.seq (.seq (.region [.one ⟨some 27, .p .move, [.t 1], none⟩,
 .one ⟨some 28, .call 43, [.t 27], none⟩,
 .one ⟨some 26, .p .move, [.t 28], none⟩,
 .one ⟨some 29, .p (.extract 0), [.t 26], none⟩,
 .one ⟨some 30, .p (.extract 1), [.t 26], none⟩,
 .one ⟨some 5, .w (.new (List.replicate 256 (.bool false))), [], none⟩,
 .one ⟨none, .w (.store 256), [.t 5, .t 29], none⟩,
 .one ⟨some 6, .p .move, [.t 30], none⟩])
 (.seq (.region [.one ⟨some 31, .p .move, [.t 6], none⟩])
 (.cond (.t 31)
 (.seq (.region [.one ⟨some 32, .p .move, [.t 0], none⟩,
 .one ⟨some 33, .call 45, [.t 32, .t 5], none⟩,
 .one ⟨some 4, .p .move, [.t 33], none⟩])
 .ret)
 .skip)))
 (.seq (.region [.one ⟨some 34, .p .move, [.t 0], none⟩,
 .one ⟨some 35, .p .move, [.t 1], none⟩,
 .one ⟨some 36, .call 47, [.t 34, .t 35], none⟩,
 .one ⟨some 4, .p .move, [.t 36], none⟩])
 .ret)))),
 [(4, 0)]⟩

theorem g234_ok : compFn Tryz.prog 234 = some (fromGFn g234) := by kernel_rfl

def g247 : GFn := ⟨8,
 .seq (.region [.one ⟨some 4, .p .move, [.c (.string ByteArray.empty)], none⟩])
 (.seq (.region [.one ⟨some 5, .p .move, [.t 0], none⟩,
 .one ⟨some 6, .p .move, [.t 1], none⟩,
 .one ⟨some 7, .call 256, [.t 5, .t 6], none⟩,
 .one ⟨some 4, .p .move, [.t 7], none⟩])
 .ret),
 [(4, 0)]⟩

theorem g247_ok : compFn Tryz.prog 247 = some (fromGFn g247) := by kernel_rfl

def g252 : GFn := ⟨19,
 .seq (.region [.one ⟨some 4, .p .move, [.c (.int .i64 0)], none⟩])
 (.seq (.seq (.region [.one ⟨some 6, .p .move, [.t 0], none⟩,
 .one ⟨some 7, .p .lenSl, [.t 6], none⟩,
 .one ⟨some 8, .p .move, [.c (.int .i64 0)], none⟩])
 (.block 0 (.loop (.seq (.region [.one ⟨some 9, .p (.bin .lss), [.t 8, .t 7], none⟩])
 (.seq (.cond (.t 9)
 .skip
 (.exit 0))
 (.seq (.block 1 (.seq (.region [.one ⟨some 10, .p .move, [.t 8], none⟩,
 .one ⟨some 5, .p .move, [.t 10], none⟩])
 (.seq (.region [.one ⟨some 11, .p .move, [.t 1], none⟩,
 .one ⟨some 12, .p .move, [.t 0], none⟩,
 .one ⟨some 13, .p .move, [.t 5], none⟩,
 .one ⟨some 14, .p (.indexAddr 1), [.t 12, .t 13], none⟩,
 .one ⟨some 15, .r .load1, [.t 14], none⟩,
 .one ⟨some 16, .p (.bin .eql), [.t 11, .t 15], none⟩])
 (.cond (.t 16)
 (.seq (.region [.one ⟨some 17, .p .move, [.t 5], none⟩,
 .one ⟨some 4, .p .move, [.t 17], none⟩])
 .ret)
 .skip))))
 (.region [.one ⟨some 18, .p (.bin .add), [.t 8, .c (.int .i64 1)], none⟩,
 .one ⟨some 8, .p .move, [.t 18], none⟩])))))))
 (.seq (.region [.one ⟨some 4, .p .move, [.c (.int .i64 (-1))], none⟩])
 .ret)),
 [(4, 0)]⟩

theorem g252_ok : compFn Tryz.prog 252 = some (fromGFn g252) := by kernel_rfl

def g297 : GFn := ⟨17,
 .region [.one ⟨some 4, .p .move, [.t 1], none⟩,
 .one ⟨some 5, .p .nilCheck, [.t 4], none⟩,
 .one ⟨some 6, .p (.fieldAddr 0), [.t 5], none⟩,
 .one ⟨some 7, .r .load1, [.t 6], none⟩,
 .one ⟨some 8, .p .move, [.t 0], none⟩,
 .one ⟨some 9, .p .nilCheck, [.t 8], none⟩,
 .one ⟨some 10, .p (.fieldAddr 0), [.t 9], none⟩,
 .one ⟨some 11, .r .load1, [.t 10], none⟩,
 .one ⟨some 12, .p .move, [.t 0], none⟩,
 .one ⟨some 13, .p .nilCheck, [.t 12], none⟩,
 .one ⟨some 14, .p (.fieldAddr 1), [.t 13], none⟩,
 .one ⟨some 15, .p (.fieldAddr 0), [.t 14], none⟩,
 .one ⟨some 16, .r .load1, [.t 15], none⟩,
 .one ⟨none, .w (.mapSet .str), [.t 7, .t 11, .t 16], none⟩],
 []⟩

theorem g297_ok : compFn Tryz.prog 297 = some (fromGFn g297) := by kernel_rfl

def g300 : GFn := ⟨4,
 .skip,
 []⟩

theorem g300_ok : compFn Tryz.prog 300 = some (fromGFn g300) := by kernel_rfl

/-- the functions whose text is run -/
def tbl : List (Nat × GFn) := [(5, g5), (6, g6), (8, g8), (12, g12), (13, g13), (14, g14), (20, g20), (21, g21), (27, g27), (29, g29), (30, g30), (31, g31), (32, g32), (33, g33), (34, g34), (35, g35), (36, g36), (37, g37), (38, g38), (39, g39), (40, g40), (48, g48), (54, g54), (55, g55), (56, g56), (57, g57), (59, g59), (60, g60), (64, g64), (65, g65), (66, g66), (67, g67), (68, g68), (71, g71), (72, g72), (80, g80), (84, g84), (85, g85), (86, g86), (87, g87), (89, g89), (91, g91), (93, g93), (95, g95), (100, g100), (104, g104), (108, g108), (110, g110), (111, g111), (118, g118), (122, g122), (123, g123), (124, g124), (127, g127), (128, g128), (129, g129), (130, g130), (149, g149), (165, g165), (166, g166), (167, g167), (168, g168), (182, g182), (183, g183), (184, g184), (185, g185), (188, g188), (208, g208), (209, g209), (211, g211), (212, g212), (213, g213), (214, g214), (215, g215), (222, g222), (225, g225), (227, g227), (228, g228), (230, g230), (231, g231), (232, g232), (233, g233), (252, g252), (297, g297), (300, g300)]

abbrev fns : FuncId → Option AFn := lookFn tbl

theorem fns_ok : AllOk Tryz.prog tbl := ⟨g5_ok, g6_ok, g8_ok, g12_ok, g13_ok, g14_ok, g20_ok, g21_ok, g27_ok, g29_ok, g30_ok, g31_ok, g32_ok, g33_ok, g34_ok, g35_ok, g36_ok, g37_ok, g38_ok, g39_ok, g40_ok, g48_ok, g54_ok, g55_ok, g56_ok, g57_ok, g59_ok, g60_ok, g64_ok, g65_ok, g66_ok, g67_ok, g68_ok, g71_ok, g72_ok, g80_ok, g84_ok, g85_ok, g86_ok, g87_ok, g89_ok, g91_ok, g93_ok, g95_ok, g100_ok, g104_ok, g108_ok, g110_ok, g111_ok, g118_ok, g122_ok, g123_ok, g124_ok, g127_ok, g128_ok, g129_ok, g130_ok, g149_ok, g165_ok, g166_ok, g167_ok, g168_ok, g182_ok, g183_ok, g184_ok, g185_ok, g188_ok, g208_ok, g209_ok, g211_ok, g212_ok, g213_ok, g214_ok, g215_ok, g222_ok, g225_ok, g227_ok, g228_ok, g230_ok, g231_ok, g232_ok, g233_ok, g252_ok, g297_ok, g300_ok, trivial⟩

end Go.Proofs.YtjomiadmminhfaaGreatDoor
