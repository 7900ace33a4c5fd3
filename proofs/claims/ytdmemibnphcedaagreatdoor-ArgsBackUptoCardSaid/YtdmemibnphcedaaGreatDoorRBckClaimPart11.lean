/-
  The program's functions as texts of the second machine, each as the compiler makes it (checked by the kernel).
-/
import Derived.Test.YtdmemibnphcedaaGreatDoorRBckClaimPart5
import Derived.Test.YtdmemibnphcedaaGreatDoorProg
namespace Go.Proofs.YtdmemibnphcedaaGreatDoor
open Go.Am

def g7 : GFn := ⟨39,
 .seq (.region [.one ⟨some 4, .p .move, [.c (.bool false)], none⟩])
 (.seq (.seq (.region [.one ⟨some 9, .p .move, [.t 0], none⟩,
 .one ⟨some 10, .w (.sliceLit [.string ByteArray.empty] 1 [(0, 1)]), [.t 9], none⟩,
 .one ⟨some 11, .call 9, [.t 10], none⟩,
 .one ⟨some 12, .p .move, [.t 11], none⟩,
 .grp 12 false [⟨some 13, .p .move, [.t 1], none⟩, ⟨some 14, .call 28, [.t 13], none⟩],
 .one ⟨some 15, .p .pick, [.t 12, .c (.bool true), .t 14], none⟩])
 (.cond (.t 15)
 (.seq (.region [.one ⟨some 4, .p .move, [.c (.bool true)], none⟩])
 .ret)
 .skip))
 (.seq (.region [.one ⟨some 17, .p .move, [.t 0], none⟩,
 .one ⟨some 18, .p .move, [.t 1], none⟩,
 .one ⟨some 19, .call 29, [.t 17, .t 18], none⟩,
 .one ⟨some 16, .p .move, [.t 19], none⟩,
 .one ⟨some 20, .p (.extract 0), [.t 16], none⟩,
 .one ⟨some 21, .p (.extract 1), [.t 16], none⟩,
 .one ⟨some 5, .p .move, [.t 20], none⟩,
 .one ⟨some 6, .p .move, [.t 21], none⟩])
 (.seq (.region [.one ⟨some 23, .p .move, [.t 0], none⟩,
 .one ⟨some 24, .p .move, [.t 1], none⟩,
 .one ⟨some 25, .call 30, [.t 23, .t 24], none⟩,
 .one ⟨some 22, .p .move, [.t 25], none⟩,
 .one ⟨some 26, .p (.extract 0), [.t 22], none⟩,
 .one ⟨some 27, .p (.extract 1), [.t 22], none⟩,
 .one ⟨some 7, .p .move, [.t 26], none⟩,
 .one ⟨some 8, .p .move, [.t 27], none⟩])
 (.seq (.region [.one ⟨some 28, .p .move, [.t 5], none⟩,
 .one ⟨some 29, .p .move, [.t 7], none⟩,
 .one ⟨some 30, .p (.bin .eql), [.t 28, .t 29], none⟩,
 .one ⟨some 31, .p .move, [.t 30], none⟩,
 .grp 31 true [⟨some 32, .p .move, [.t 6], none⟩, ⟨some 33, .p .move, [.t 8], none⟩, ⟨some 34, .p (.bin .eql), [.t 32, .t 33], none⟩],
 .one ⟨some 35, .p .pick, [.t 31, .t 34, .c (.bool false)], none⟩,
 .one ⟨some 36, .p .move, [.t 35], none⟩,
 .grp 36 true [⟨some 37, .call 15, [], none⟩],
 .one ⟨some 38, .p .pick, [.t 36, .t 37, .c (.bool false)], none⟩,
 .one ⟨some 4, .p .move, [.t 38], none⟩])
 .ret)))),
 [(4, 0)]⟩

theorem g7_ok : compFn Tryz.prog 7 = some (fromGFn g7) := by kernel_rfl

def g8 : GFn := ⟨114,
 .seq (.region [.one ⟨some 6, .p .move, [.c (.bool false)], none⟩])
 (.seq (.seq (.region [.one ⟨some 16, .p .move, [.t 0], none⟩,
 .one ⟨some 17, .p .lenStr, [.t 16], none⟩,
 .one ⟨some 18, .p (.bin .gtr), [.t 17, .c (.int .i64 600)], none⟩,
 .one ⟨some 19, .p .move, [.t 18], none⟩,
 .grp 19 false [⟨some 20, .p .move, [.t 1], none⟩, ⟨some 21, .p .lenStr, [.t 20], none⟩, ⟨some 22, .p (.bin .gtr), [.t 21, .c (.int .i64 600)], none⟩],
 .one ⟨some 23, .p .pick, [.t 19, .c (.bool true), .t 22], none⟩,
 .one ⟨some 24, .p .move, [.t 23], none⟩,
 .grp 24 false [⟨some 25, .p .move, [.t 2], none⟩, ⟨some 26, .call 28, [.t 25], none⟩],
 .one ⟨some 27, .p .pick, [.t 24, .c (.bool true), .t 26], none⟩])
 (.cond (.t 27)
 (.seq (.region [.one ⟨some 6, .p .move, [.c (.bool true)], none⟩])
 .ret)
 .skip))
 (.seq (.region [.one ⟨some 29, .p .move, [.t 0], none⟩,
 .one ⟨some 30, .p .move, [.t 2], none⟩,
 .one ⟨some 31, .call 29, [.t 29, .t 30], none⟩,
 .one ⟨some 28, .p .move, [.t 31], none⟩,
 .one ⟨some 32, .p (.extract 0), [.t 28], none⟩,
 .one ⟨some 33, .p (.extract 1), [.t 28], none⟩,
 .one ⟨some 7, .p .move, [.t 32], none⟩,
 .one ⟨some 8, .p .move, [.t 33], none⟩])
 (.seq (.seq (.region [.one ⟨some 34, .p .move, [.t 8], none⟩,
 .one ⟨some 35, .p (.bin .eql), [.t 34, .c (.int .i64 0)], none⟩,
 .one ⟨some 36, .p .move, [.t 35], none⟩,
 .grp 36 true [⟨some 37, .p .move, [.t 7], none⟩, ⟨some 38, .p .lenStr, [.t 37], none⟩, ⟨some 39, .p (.bin .lss), [.t 38, .c (.int .i64 990)], none⟩],
 .one ⟨some 40, .p .pick, [.t 36, .t 39, .c (.bool false)], none⟩])
 (.cond (.t 40)
 (.seq (.region [.one ⟨some 42, .p .move, [.t 0], none⟩,
 .one ⟨some 43, .p .move, [.t 7], none⟩,
 .one ⟨some 44, .call 10, [.t 42, .t 43], none⟩,
 .one ⟨some 41, .p .move, [.t 44], none⟩,
 .one ⟨some 45, .p (.extract 0), [.t 41], none⟩,
 .one ⟨some 46, .p (.extract 1), [.t 41], none⟩,
 .one ⟨some 9, .p .move, [.t 45], none⟩,
 .one ⟨some 10, .p .move, [.t 46], none⟩])
 (.seq (.region [.one ⟨some 48, .p .move, [.t 0], none⟩,
 .one ⟨some 49, .p .move, [.t 7], none⟩,
 .one ⟨some 50, .p (.bin .add), [.c (.string ⟨#[32, 32, 32]⟩), .t 49], none⟩,
 .one ⟨some 51, .call 10, [.t 48, .t 50], none⟩,
 .one ⟨some 47, .p .move, [.t 51], none⟩,
 .one ⟨some 52, .p (.extract 0), [.t 47], none⟩,
 .one ⟨some 53, .p (.extract 1), [.t 47], none⟩,
 .one ⟨some 11, .p .move, [.t 52], none⟩,
 .one ⟨some 12, .p .move, [.t 53], none⟩])
 (.seq (.region [.one ⟨some 54, .p .move, [.t 10], none⟩,
 .one ⟨some 55, .p (.bin .neq), [.t 54, .c (.int .i64 0)], none⟩,
 .one ⟨some 56, .p .move, [.t 55], none⟩,
 .grp 56 false [⟨some 57, .p .move, [.t 12], none⟩, ⟨some 58, .p (.bin .neq), [.t 57, .c (.int .i64 0)], none⟩],
 .one ⟨some 59, .p .pick, [.t 56, .c (.bool true), .t 58], none⟩,
 .one ⟨some 60, .p .move, [.t 59], none⟩,
 .grp 60 false [⟨some 61, .p .move, [.t 9], none⟩, ⟨some 62, .p .move, [.t 2], none⟩, ⟨some 63, .call 14, [.t 61, .t 62], none⟩, ⟨some 64, .p (.un .not), [.t 63], none⟩],
 .one ⟨some 65, .p .pick, [.t 60, .c (.bool true), .t 64], none⟩,
 .one ⟨some 66, .p .move, [.t 65], none⟩,
 .grp 66 false [⟨some 67, .p .move, [.t 11], none⟩, ⟨some 68, .p .move, [.t 2], none⟩, ⟨some 69, .call 14, [.t 67, .t 68], none⟩, ⟨some 70, .p (.un .not), [.t 69], none⟩],
 .one ⟨some 71, .p .pick, [.t 66, .c (.bool true), .t 70], none⟩])
 (.cond (.t 71)
 (.seq (.region [.one ⟨some 6, .p .move, [.c (.bool false)], none⟩])
 .ret)
 .skip))))
 .skip))
 (.seq (.region [.one ⟨some 73, .p .move, [.t 0], none⟩,
 .one ⟨some 74, .p .move, [.t 1], none⟩,
 .one ⟨some 75, .call 10, [.t 73, .t 74], none⟩,
 .one ⟨some 72, .p .move, [.t 75], none⟩,
 .one ⟨some 76, .p (.extract 0), [.t 72], none⟩,
 .one ⟨some 77, .p (.extract 1), [.t 72], none⟩,
 .one ⟨some 13, .p .move, [.t 76], none⟩,
 .one ⟨some 8, .p .move, [.t 77], none⟩])
 (.seq (.seq (.region [.one ⟨some 78, .p .move, [.t 8], none⟩,
 .one ⟨some 79, .p (.bin .neq), [.t 78, .c (.int .i64 0)], none⟩])
 (.cond (.t 79)
 (.seq (.region [.one ⟨some 80, .call 15, [], none⟩,
 .one ⟨some 6, .p .move, [.t 80], none⟩])
 .ret)
 .skip))
 (.seq (.region [.one ⟨some 82, .p .move, [.t 0], none⟩,
 .one ⟨some 83, .p .move, [.t 13], none⟩,
 .one ⟨some 84, .call 29, [.t 82, .t 83], none⟩,
 .one ⟨some 81, .p .move, [.t 84], none⟩,
 .one ⟨some 85, .p (.extract 0), [.t 81], none⟩,
 .one ⟨some 86, .p (.extract 1), [.t 81], none⟩,
 .one ⟨some 7, .p .move, [.t 85], none⟩,
 .one ⟨some 8, .p .move, [.t 86], none⟩])
 (.seq (.seq (.region [.one ⟨some 87, .p .move, [.t 8], none⟩,
 .one ⟨some 88, .p (.bin .neq), [.t 87, .c (.int .i64 0)], none⟩])
 (.cond (.t 88)
 (.seq (.region [.one ⟨some 89, .p .move, [.t 8], none⟩,
 .one ⟨some 90, .p (.bin .eql), [.t 89, .c (.int .i64 3)], none⟩,
 .one ⟨some 91, .p .move, [.t 90], none⟩,
 .grp 91 false [⟨some 92, .p .move, [.t 8], none⟩, ⟨some 93, .p (.bin .eql), [.t 92, .c (.int .i64 2)], none⟩],
 .one ⟨some 94, .p .pick, [.t 91, .c (.bool true), .t 93], none⟩,
 .one ⟨some 95, .p .move, [.t 94], none⟩,
 .grp 95 true [⟨some 96, .call 15, [], none⟩],
 .one ⟨some 97, .p .pick, [.t 95, .t 96, .c (.bool false)], none⟩,
 .one ⟨some 6, .p .move, [.t 97], none⟩])
 .ret)
 .skip))
 (.seq (.region [.one ⟨some 99, .p .move, [.t 0], none⟩,
 .one ⟨some 100, .p .move, [.t 7], none⟩,
 .one ⟨some 101, .call 10, [.t 99, .t 100], none⟩,
 .one ⟨some 98, .p .move, [.t 101], none⟩,
 .one ⟨some 102, .p (.extract 0), [.t 98], none⟩,
 .one ⟨some 103, .p (.extract 1), [.t 98], none⟩,
 .one ⟨some 14, .p .move, [.t 102], none⟩,
 .one ⟨some 15, .p .move, [.t 103], none⟩])
 (.seq (.region [.one ⟨some 104, .p .move, [.t 15], none⟩,
 .one ⟨some 105, .p (.bin .eql), [.t 104, .c (.int .i64 0)], none⟩,
 .one ⟨some 106, .p .move, [.t 105], none⟩,
 .grp 106 true [⟨some 107, .p .move, [.t 14], none⟩, ⟨some 108, .p .move, [.t 13], none⟩, ⟨some 109, .call 14, [.t 107, .t 108], none⟩],
 .one ⟨some 110, .p .pick, [.t 106, .t 109, .c (.bool false)], none⟩,
 .one ⟨some 111, .p .move, [.t 110], none⟩,
 .grp 111 true [⟨some 112, .call 15, [], none⟩],
 .one ⟨some 113, .p .pick, [.t 111, .t 112, .c (.bool false)], none⟩,
 .one ⟨some 6, .p .move, [.t 113], none⟩])
 .ret))))))))),
 [(6, 0)]⟩

theorem g8_ok : compFn Tryz.prog 8 = some (fromGFn g8) := by kernel_rfl

def g10 : GFn := ⟨100,
 .seq (.region [.one ⟨some 4, .p .move, [.c (.slice none 0 0)], none⟩,
 .one ⟨some 5, .p .move, [.c (.int .i64 0)], none⟩])
 (.seq (.seq (.region [.one ⟨some 15, .p .move, [.t 1], none⟩,
 .one ⟨some 16, .p .lenStr, [.t 15], none⟩,
 .one ⟨some 17, .p (.bin .gtr), [.t 16, .c (.int .i64 1000)], none⟩])
 (.cond (.t 17)
 (.seq (.region [.one ⟨some 4, .p .move, [.c (.slice none 0 0)], none⟩,
 .one ⟨some 5, .p .move, [.c (.int .i64 2)], none⟩])
 .ret)
 .skip))
 (.seq (.region [.one ⟨some 19, .p .move, [.t 0], none⟩,
 .one ⟨some 20, .call 16, [.t 19], none⟩,
 .one ⟨some 18, .p .move, [.t 20], none⟩,
 .one ⟨some 21, .p (.extract 0), [.t 18], none⟩,
 .one ⟨some 22, .p (.extract 1), [.t 18], none⟩,
 .one ⟨some 6, .p .move, [.t 21], none⟩,
 .one ⟨some 7, .p .move, [.t 22], none⟩])
 (.seq (.seq (.region [.one ⟨some 23, .p .move, [.t 7], none⟩,
 .one ⟨some 24, .p (.bin .neq), [.t 23, .c (.int .i64 0)], none⟩])
 (.cond (.t 24)
 (.seq (.region [.one ⟨some 25, .p .move, [.t 7], none⟩,
 .one ⟨some 4, .p .move, [.c (.slice none 0 0)], none⟩,
 .one ⟨some 5, .p .move, [.t 25], none⟩])
 .ret)
 .skip))
 (.seq (.seq (.region [.one ⟨some 26, .p .move, [.t 1], none⟩,
 .one ⟨some 27, .call 31, [.t 26], none⟩,
 .one ⟨some 8, .p .move, [.t 27], none⟩])
 (.seq (.region [.one ⟨some 28, .p .move, [.t 8], none⟩,
 .one ⟨some 29, .p (.bin .neq), [.t 28, .c (.int .i64 0)], none⟩])
 (.cond (.t 29)
 (.seq (.region [.one ⟨some 30, .p .move, [.t 8], none⟩,
 .one ⟨some 4, .p .move, [.c (.slice none 0 0)], none⟩,
 .one ⟨some 5, .p .move, [.t 30], none⟩])
 .ret)
 .skip)))
 (.seq (.region [.one ⟨some 31, .p .move, [.t 6], none⟩,
 .one ⟨some 32, .p .move, [.t 1], none⟩,
 .one ⟨some 33, .p .move, [.t 6], none⟩,
 .one ⟨some 34, .p .lenSl, [.t 33], none⟩,
 .one ⟨some 35, .w (.mkSlice [.bool false] 1), [.t 34, .t 34], none⟩,
 .one ⟨some 36, .p (.build [.slice none 0 0, .string ByteArray.empty, .int .i64 0, .slice none 0 0, .slice none 0 0] [(0, 1), (1, 1), (4, 1)]), [.t 31, .t 32, .t 35], none⟩,
 .one ⟨some 37, .w (.box 5), [.t 36], none⟩,
 .one ⟨some 9, .p .move, [.t 37], none⟩])
 (.seq (.seq (.region [.one ⟨some 38, .p .move, [.t 6], none⟩,
 .one ⟨some 39, .p .lenSl, [.t 38], none⟩,
 .one ⟨some 40, .p .move, [.c (.int .i64 0)], none⟩])
 (.block 0 (.loop (.seq (.region [.one ⟨some 41, .p (.bin .lss), [.t 40, .t 39], none⟩])
 (.seq (.cond (.t 41)
 .skip
 (.exit 0))
 (.seq (.block 1 (.seq (.region [.one ⟨some 42, .p (.indexAddr 7), [.t 38, .t 40], none⟩,
 .one ⟨some 43, .r (.loadN 7), [.t 42], none⟩,
 .one ⟨some 11, .w (.new [.slice none 0 0, .bool false, .bool false, .bool false, .bool false, .bool false, .bool false]), [], none⟩,
 .one ⟨none, .w (.store 7), [.t 11, .t 43], none⟩])
 (.region [.one ⟨some 44, .p .move, [.t 9], none⟩,
 .one ⟨some 45, .p .move, [.t 9], none⟩,
 .one ⟨some 46, .p .nilCheck, [.t 45], none⟩,
 .one ⟨some 47, .p (.fieldAddr 3), [.t 46], none⟩,
 .one ⟨some 48, .r .load1, [.t 47], none⟩,
 .one ⟨some 49, .p (.fieldAddr 0), [.t 11], none⟩,
 .one ⟨some 50, .r .load1, [.t 49], none⟩,
 .one ⟨some 51, .p (.indexAddr 1), [.t 50, .c (.int .i64 0)], none⟩,
 .one ⟨some 52, .r .load1, [.t 51], none⟩,
 .one ⟨some 53, .p (.build [.string ByteArray.empty, .slice none 0 0, .bool false] [(0, 1)]), [.t 52], none⟩,
 .one ⟨some 54, .w (.sliceLit [.string ByteArray.empty, .slice none 0 0, .bool false] 1 [(0, 3)]), [.t 53], none⟩,
 .one ⟨none, .r .same1, [.t 48, .t 47], none⟩,
 .one ⟨some 55, .w (.append 3 48), [.t 48, .t 54], none⟩,
 .one ⟨some 56, .p .nilCheck, [.t 44], none⟩,
 .one ⟨some 57, .p (.fieldAddr 3), [.t 56], none⟩,
 .one ⟨none, .w (.store 1), [.t 57, .t 55], none⟩])))
 (.region [.one ⟨some 58, .p (.bin .add), [.t 40, .c (.int .i64 1)], none⟩,
 .one ⟨some 40, .p .move, [.t 58], none⟩])))))))
 (.seq (.seq (.region [.one ⟨some 59, .p .move, [.t 9], none⟩,
 .one ⟨some 60, .call 32, [.t 59, .c (.int .i64 0)], none⟩,
 .one ⟨some 12, .p .move, [.t 60], none⟩])
 (.block 2 (.loop (.seq (.seq (.region [.one ⟨some 61, .p .move, [.t 12], none⟩,
 .one ⟨some 62, .p .move, [.t 1], none⟩,
 .one ⟨some 63, .p .lenStr, [.t 62], none⟩,
 .one ⟨some 64, .p (.bin .lss), [.t 61, .t 63], none⟩])
 (.cond (.t 64)
 .skip
 (.exit 2)))
 (.seq (.block 3 (.seq (.region [.one ⟨some 71, .p .move, [.t 9], none⟩,
 .one ⟨some 72, .p .move, [.t 12], none⟩,
 .one ⟨some 73, .call 33, [.t 71, .t 72], none⟩,
 .one ⟨some 74, .p (.un .not), [.t 73], none⟩])
 (.cond (.t 74)
 (.seq (.region [.one ⟨some 4, .p .move, [.c (.slice none 0 0)], none⟩,
 .one ⟨some 5, .p .move, [.c (.int .i64 250)], none⟩])
 .ret)
 .skip)))
 (.region [.one ⟨some 65, .p .move, [.t 9], none⟩,
 .one ⟨some 66, .p .move, [.t 9], none⟩,
 .one ⟨some 67, .p .nilCheck, [.t 66], none⟩,
 .one ⟨some 68, .p (.fieldAddr 2), [.t 67], none⟩,
 .one ⟨some 69, .r .load1, [.t 68], none⟩,
 .one ⟨some 70, .call 32, [.t 65, .t 69], none⟩,
 .one ⟨some 12, .p .move, [.t 70], none⟩]))))))
 (.seq (.seq (.region [.one ⟨some 75, .p .move, [.t 6], none⟩,
 .one ⟨some 76, .p .lenSl, [.t 75], none⟩,
 .one ⟨some 77, .p .move, [.c (.int .i64 0)], none⟩])
 (.block 4 (.loop (.seq (.region [.one ⟨some 78, .p (.bin .lss), [.t 77, .t 76], none⟩])
 (.seq (.cond (.t 78)
 .skip
 (.exit 4))
 (.seq (.block 5 (.seq (.region [.one ⟨some 79, .p .move, [.t 77], none⟩,
 .one ⟨some 80, .p (.indexAddr 7), [.t 75, .t 77], none⟩,
 .one ⟨some 81, .r (.loadN 7), [.t 80], none⟩,
 .one ⟨some 14, .w (.new [.slice none 0 0, .bool false, .bool false, .bool false, .bool false, .bool false, .bool false]), [], none⟩,
 .one ⟨some 13, .p .move, [.t 79], none⟩,
 .one ⟨none, .w (.store 7), [.t 14, .t 81], none⟩])
 (.seq (.region [.one ⟨some 82, .p (.fieldAddr 1), [.t 14], none⟩,
 .one ⟨some 83, .r .load1, [.t 82], none⟩,
 .one ⟨some 84, .p .move, [.t 83], none⟩,
 .grp 84 true [⟨some 85, .p .move, [.t 9], none⟩, ⟨some 86, .p .nilCheck, [.t 85], none⟩, ⟨some 87, .p (.fieldAddr 3), [.t 86], none⟩, ⟨some 88, .r .load1, [.t 87], none⟩, ⟨some 89, .p .move, [.t 13], none⟩, ⟨some 90, .p (.indexAddr 3), [.t 88, .t 89], none⟩, ⟨some 91, .p (.fieldAddr 2), [.t 90], none⟩, ⟨some 92, .r .load1, [.t 91], none⟩, ⟨some 93, .p (.un .not), [.t 92], none⟩],
 .one ⟨some 94, .p .pick, [.t 84, .t 93, .c (.bool false)], none⟩])
 (.cond (.t 94)
 (.seq (.region [.one ⟨some 4, .p .move, [.c (.slice none 0 0)], none⟩,
 .one ⟨some 5, .p .move, [.c (.int .i64 250)], none⟩])
 .ret)
 .skip))))
 (.region [.one ⟨some 95, .p (.bin .add), [.t 77, .c (.int .i64 1)], none⟩,
 .one ⟨some 77, .p .move, [.t 95], none⟩])))))))
 (.seq (.region [.one ⟨some 96, .p .move, [.t 9], none⟩,
 .one ⟨some 97, .p .nilCheck, [.t 96], none⟩,
 .one ⟨some 98, .p (.fieldAddr 3), [.t 97], none⟩,
 .one ⟨some 99, .r .load1, [.t 98], none⟩,
 .one ⟨some 4, .p .move, [.t 99], none⟩,
 .one ⟨some 5, .p .move, [.c (.int .i64 0)], none⟩])
 .ret))))))))),
 [(4, 0), (5, 0)]⟩

theorem g10_ok : compFn Tryz.prog 10 = some (fromGFn g10) := by kernel_rfl

def g14 : GFn := ⟨55,
 .seq (.region [.one ⟨some 4, .p .move, [.c (.bool false)], none⟩])
 (.seq (.seq (.region [.one ⟨some 6, .p .move, [.t 0], none⟩,
 .one ⟨some 7, .p .lenSl, [.t 6], none⟩,
 .one ⟨some 8, .p .move, [.t 1], none⟩,
 .one ⟨some 9, .p .lenSl, [.t 8], none⟩,
 .one ⟨some 10, .p (.bin .neq), [.t 7, .t 9], none⟩])
 (.cond (.t 10)
 (.seq (.region [.one ⟨some 4, .p .move, [.c (.bool false)], none⟩])
 .ret)
 .skip))
 (.seq (.seq (.region [.one ⟨some 5, .p .move, [.c (.int .i64 0)], none⟩])
 (.block 0 (.loop (.seq (.seq (.region [.one ⟨some 11, .p .move, [.t 5], none⟩,
 .one ⟨some 12, .p .move, [.t 0], none⟩,
 .one ⟨some 13, .p .lenSl, [.t 12], none⟩,
 .one ⟨some 14, .p (.bin .lss), [.t 11, .t 13], none⟩])
 (.cond (.t 14)
 .skip
 (.exit 0)))
 (.seq (.block 1 (.seq (.region [.one ⟨some 17, .p .move, [.t 0], none⟩,
 .one ⟨some 18, .p .move, [.t 5], none⟩,
 .one ⟨some 19, .p (.indexAddr 3), [.t 17, .t 18], none⟩,
 .one ⟨some 20, .p (.fieldAddr 0), [.t 19], none⟩,
 .one ⟨some 21, .r .load1, [.t 20], none⟩,
 .one ⟨some 22, .p .move, [.t 1], none⟩,
 .one ⟨some 23, .p .move, [.t 5], none⟩,
 .one ⟨some 24, .p (.indexAddr 3), [.t 22, .t 23], none⟩,
 .one ⟨some 25, .p (.fieldAddr 0), [.t 24], none⟩,
 .one ⟨some 26, .r .load1, [.t 25], none⟩,
 .one ⟨some 27, .p (.bin .neq), [.t 21, .t 26], none⟩,
 .one ⟨some 28, .p .move, [.t 27], none⟩,
 .grp 28 false [⟨some 29, .p .move, [.t 0], none⟩, ⟨some 30, .p .move, [.t 5], none⟩, ⟨some 31, .p (.indexAddr 3), [.t 29, .t 30], none⟩, ⟨some 32, .p (.fieldAddr 2), [.t 31], none⟩, ⟨some 33, .r .load1, [.t 32], none⟩, ⟨some 34, .p .move, [.t 1], none⟩, ⟨some 35, .p .move, [.t 5], none⟩, ⟨some 36, .p (.indexAddr 3), [.t 34, .t 35], none⟩, ⟨some 37, .p (.fieldAddr 2), [.t 36], none⟩, ⟨some 38, .r .load1, [.t 37], none⟩, ⟨some 39, .p (.binB true), [.t 33, .t 38], none⟩],
 .one ⟨some 40, .p .pick, [.t 28, .c (.bool true), .t 39], none⟩,
 .one ⟨some 41, .p .move, [.t 40], none⟩,
 .grp 41 false [⟨some 42, .p .move, [.t 0], none⟩, ⟨some 43, .p .move, [.t 5], none⟩, ⟨some 44, .p (.indexAddr 3), [.t 42, .t 43], none⟩, ⟨some 45, .p (.fieldAddr 1), [.t 44], none⟩, ⟨some 46, .r .load1, [.t 45], none⟩, ⟨some 47, .p .move, [.t 1], none⟩, ⟨some 48, .p .move, [.t 5], none⟩, ⟨some 49, .p (.indexAddr 3), [.t 47, .t 48], none⟩, ⟨some 50, .p (.fieldAddr 1), [.t 49], none⟩, ⟨some 51, .r .load1, [.t 50], none⟩, ⟨some 52, .call 23, [.t 46, .t 51], none⟩, ⟨some 53, .p (.un .not), [.t 52], none⟩],
 .one ⟨some 54, .p .pick, [.t 41, .c (.bool true), .t 53], none⟩])
 (.cond (.t 54)
 (.seq (.region [.one ⟨some 4, .p .move, [.c (.bool false)], none⟩])
 .ret)
 .skip)))
 (.region [.one ⟨some 15, .p .move, [.t 5], none⟩,
 .one ⟨some 16, .p (.bin .add), [.t 15, .c (.int .i64 1)], none⟩,
 .one ⟨some 5, .p .move, [.t 16], none⟩]))))))
 (.seq (.region [.one ⟨some 4, .p .move, [.c (.bool true)], none⟩])
 .ret))),
 [(4, 0)]⟩

theorem g14_ok : compFn Tryz.prog 14 = some (fromGFn g14) := by kernel_rfl

def g15 : GFn := ⟨43,
 .seq (.region [.one ⟨some 0, .p .move, [.c (.bool false)], none⟩])
 (.seq (.region [.one ⟨some 4, .call 10, [.c (.string ⟨#[102, 114, 111, 109, 47, 97, 44, 116, 111, 47, 107, 44, 113, 117, 105, 101, 116, 47, 115]⟩), .c (.string ⟨#[120, 32, 116, 111, 32, 121]⟩)], none⟩,
 .one ⟨some 3, .p .move, [.t 4], none⟩,
 .one ⟨some 5, .p (.extract 0), [.t 3], none⟩,
 .one ⟨some 6, .p (.extract 1), [.t 3], none⟩,
 .one ⟨some 1, .p .move, [.t 5], none⟩,
 .one ⟨some 2, .p .move, [.t 6], none⟩])
 (.seq (.region [.one ⟨some 7, .p .move, [.t 2], none⟩,
 .one ⟨some 8, .p (.bin .eql), [.t 7, .c (.int .i64 0)], none⟩,
 .one ⟨some 9, .p .move, [.t 8], none⟩,
 .grp 9 true [⟨some 10, .p .move, [.t 1], none⟩, ⟨some 11, .p .lenSl, [.t 10], none⟩, ⟨some 12, .p (.bin .eql), [.t 11, .c (.int .i64 3)], none⟩],
 .one ⟨some 13, .p .pick, [.t 9, .t 12, .c (.bool false)], none⟩,
 .one ⟨some 14, .p .move, [.t 13], none⟩,
 .grp 14 true [⟨some 15, .p .move, [.t 1], none⟩, ⟨some 16, .p (.indexAddr 3), [.t 15, .c (.int .i64 0)], none⟩, ⟨some 17, .p (.fieldAddr 1), [.t 16], none⟩, ⟨some 18, .r .load1, [.t 17], none⟩, ⟨some 19, .w (.sliceLit [.string ByteArray.empty] 1 [(0, 1)]), [.c (.string ⟨#[120]⟩)], none⟩, ⟨some 20, .call 23, [.t 18, .t 19], none⟩],
 .one ⟨some 21, .p .pick, [.t 14, .t 20, .c (.bool false)], none⟩,
 .one ⟨some 22, .p .move, [.t 21], none⟩,
 .grp 22 true [⟨some 23, .p .move, [.t 1], none⟩, ⟨some 24, .p (.indexAddr 3), [.t 23, .c (.int .i64 1)], none⟩, ⟨some 25, .p (.fieldAddr 1), [.t 24], none⟩, ⟨some 26, .r .load1, [.t 25], none⟩, ⟨some 27, .w (.sliceLit [.string ByteArray.empty] 1 [(0, 1)]), [.c (.string ⟨#[121]⟩)], none⟩, ⟨some 28, .call 23, [.t 26, .t 27], none⟩],
 .one ⟨some 29, .p .pick, [.t 22, .t 28, .c (.bool false)], none⟩,
 .one ⟨some 30, .p .move, [.t 29], none⟩,
 .grp 30 true [⟨some 31, .p .move, [.t 1], none⟩, ⟨some 32, .p (.indexAddr 3), [.t 31, .c (.int .i64 1)], none⟩, ⟨some 33, .p (.fieldAddr 2), [.t 32], none⟩, ⟨some 34, .r .load1, [.t 33], none⟩],
 .one ⟨some 35, .p .pick, [.t 30, .t 34, .c (.bool false)], none⟩,
 .one ⟨some 36, .p .move, [.t 35], none⟩,
 .grp 36 true [⟨some 37, .p .move, [.t 1], none⟩, ⟨some 38, .p (.indexAddr 3), [.t 37, .c (.int .i64 2)], none⟩, ⟨some 39, .p (.fieldAddr 2), [.t 38], none⟩, ⟨some 40, .r .load1, [.t 39], none⟩, ⟨some 41, .p (.un .not), [.t 40], none⟩],
 .one ⟨some 42, .p .pick, [.t 36, .t 41, .c (.bool false)], none⟩,
 .one ⟨some 0, .p .move, [.t 42], none⟩])
 .ret)),
 [(0, 0)]⟩

theorem g15_ok : compFn Tryz.prog 15 = some (fromGFn g15) := by kernel_rfl

def g16 : GFn := ⟨74,
 .seq (.region [.one ⟨some 2, .p .move, [.c (.slice none 0 0)], none⟩,
 .one ⟨some 3, .p .move, [.c (.int .i64 0)], none⟩])
 (.seq (.seq (.region [.one ⟨some 14, .p .move, [.t 0], none⟩,
 .one ⟨some 15, .p (.bin .eql), [.t 14, .c (.string ByteArray.empty)], none⟩])
 (.cond (.t 15)
 (.seq (.region [.one ⟨some 2, .p .move, [.c (.slice none 0 0)], none⟩,
 .one ⟨some 3, .p .move, [.c (.int .i64 0)], none⟩])
 .ret)
 .skip))
 (.seq (.region [.one ⟨some 4, .p .move, [.c (.slice none 0 0)], none⟩])
 (.seq (.region [.one ⟨some 16, .w .mkMap, [], none⟩,
 .one ⟨some 5, .p .move, [.t 16], none⟩])
 (.seq (.region [.one ⟨some 17, .p .move, [.t 0], none⟩,
 .one ⟨some 18, .call 37, [.t 17, .c (.string ⟨#[44]⟩)], none⟩,
 .one ⟨some 6, .p .move, [.t 18], none⟩])
 (.seq (.region [.one ⟨some 7, .p .move, [.c (.int .i64 0)], none⟩])
 (.seq (.seq (.region [.one ⟨some 19, .p .move, [.t 6], none⟩,
 .one ⟨some 20, .p .lenSl, [.t 19], none⟩,
 .one ⟨some 21, .p .move, [.c (.int .i64 0)], none⟩])
 (.block 0 (.loop (.seq (.region [.one ⟨some 22, .p (.bin .lss), [.t 21, .t 20], none⟩])
 (.seq (.cond (.t 22)
 .skip
 (.exit 0))
 (.seq (.block 1 (.seq (.region [.one ⟨some 23, .p .move, [.t 21], none⟩,
 .one ⟨some 24, .p (.indexAddr 1), [.t 19, .t 21], none⟩,
 .one ⟨some 25, .r .load1, [.t 24], none⟩,
 .one ⟨some 8, .p .move, [.t 23], none⟩,
 .one ⟨some 9, .p .move, [.t 25], none⟩])
 (.seq (.region [.one ⟨some 27, .p .move, [.t 9], none⟩,
 .one ⟨some 28, .call 38, [.t 27], none⟩,
 .one ⟨some 26, .p .move, [.t 28], none⟩,
 .one ⟨some 29, .p (.extract 0), [.t 26], none⟩,
 .one ⟨some 30, .p (.extract 1), [.t 26], none⟩,
 .one ⟨some 10, .w (.new [.slice none 0 0, .bool false, .bool false, .bool false, .bool false, .bool false, .bool false]), [], none⟩,
 .one ⟨none, .w (.store 7), [.t 10, .t 29], none⟩,
 .one ⟨some 11, .p .move, [.t 30], none⟩])
 (.seq (.seq (.region [.one ⟨some 31, .p .move, [.t 11], none⟩,
 .one ⟨some 32, .p (.un .not), [.t 31], none⟩,
 .one ⟨some 33, .p .move, [.t 32], none⟩,
 .grp 33 false [⟨some 34, .p (.fieldAddr 6), [.t 10], none⟩, ⟨some 35, .r .load1, [.t 34], none⟩, ⟨some 36, .p .move, [.t 35], none⟩],
 .grp 36 true [⟨some 37, .p .move, [.t 8], none⟩, ⟨some 38, .p .move, [.t 6], none⟩, ⟨some 39, .p .lenSl, [.t 38], none⟩, ⟨some 40, .p (.bin .sub), [.t 39, .c (.int .i64 1)], none⟩, ⟨some 41, .p (.bin .lss), [.t 37, .t 40], none⟩],
 .grp 33 false [⟨some 42, .p .pick, [.t 36, .t 41, .c (.bool false)], none⟩],
 .one ⟨some 43, .p .pick, [.t 33, .c (.bool true), .t 42], none⟩])
 (.cond (.t 43)
 (.seq (.region [.one ⟨some 2, .p .move, [.c (.slice none 0 0)], none⟩,
 .one ⟨some 3, .p .move, [.c (.int .i64 3)], none⟩])
 .ret)
 .skip))
 (.seq (.seq (.region [.one ⟨some 44, .p (.fieldAddr 0), [.t 10], none⟩,
 .one ⟨some 45, .r .load1, [.t 44], none⟩,
 .one ⟨some 46, .p .lenSl, [.t 45], none⟩,
 .one ⟨some 47, .p .move, [.c (.int .i64 0)], none⟩])
 (.block 2 (.loop (.seq (.region [.one ⟨some 48, .p (.bin .lss), [.t 47, .t 46], none⟩])
 (.seq (.cond (.t 48)
 .skip
 (.exit 2))
 (.seq (.block 3 (.seq (.region [.one ⟨some 49, .p (.indexAddr 1), [.t 45, .t 47], none⟩,
 .one ⟨some 50, .r .load1, [.t 49], none⟩,
 .one ⟨some 13, .p .move, [.t 50], none⟩])
 (.seq (.seq (.region [.one ⟨some 51, .p .move, [.t 5], none⟩,
 .one ⟨some 52, .p .move, [.t 13], none⟩,
 .one ⟨some 53, .r (.lookup .str (.bool false) false), [.t 51, .t 52], none⟩])
 (.cond (.t 53)
 (.seq (.region [.one ⟨some 2, .p .move, [.c (.slice none 0 0)], none⟩,
 .one ⟨some 3, .p .move, [.c (.int .i64 3)], none⟩])
 .ret)
 .skip))
 (.region [.one ⟨some 54, .p .move, [.t 5], none⟩,
 .one ⟨some 55, .p .move, [.t 13], none⟩,
 .one ⟨none, .w (.mapSet .str), [.t 54, .t 55, .c (.bool true)], none⟩]))))
 (.region [.one ⟨some 56, .p (.bin .add), [.t 47, .c (.int .i64 1)], none⟩,
 .one ⟨some 47, .p .move, [.t 56], none⟩])))))))
 (.seq (.seq (.region [.one ⟨some 57, .p (.fieldAddr 5), [.t 10], none⟩,
 .one ⟨some 58, .r .load1, [.t 57], none⟩])
 (.cond (.t 58)
 (.region [.one ⟨some 59, .p .move, [.t 7], none⟩,
 .one ⟨some 60, .p (.bin .add), [.t 59, .c (.int .i64 1)], none⟩,
 .one ⟨some 7, .p .move, [.t 60], none⟩])
 .skip))
 (.region [.one ⟨some 61, .p .move, [.t 4], none⟩,
 .one ⟨some 62, .r (.loadN 7), [.t 10], none⟩,
 .one ⟨some 63, .w (.sliceLit [.slice none 0 0, .bool false, .bool false, .bool false, .bool false, .bool false, .bool false] 1 [(0, 7)]), [.t 62], none⟩,
 .one ⟨some 64, .w (.append 7 32), [.t 61, .t 63], none⟩,
 .one ⟨some 4, .p .move, [.t 64], none⟩])))))))
 (.region [.one ⟨some 65, .p (.bin .add), [.t 21, .c (.int .i64 1)], none⟩,
 .one ⟨some 21, .p .move, [.t 65], none⟩])))))))
 (.seq (.block 4 (.seq (.region [.one ⟨some 67, .p .move, [.t 7], none⟩,
 .one ⟨some 68, .p (.bin .gtr), [.t 67, .c (.int .i64 1)], none⟩,
 .one ⟨some 66, .p .move, [.t 68], none⟩])
 (.cond (.t 66)
 (.seq (.region [.one ⟨some 2, .p .move, [.c (.slice none 0 0)], none⟩,
 .one ⟨some 3, .p .move, [.c (.int .i64 3)], none⟩])
 .ret)
 (.seq (.region [.one ⟨some 70, .p .move, [.t 4], none⟩,
 .one ⟨some 71, .p .lenSl, [.t 70], none⟩,
 .one ⟨some 72, .p (.bin .gtr), [.t 71, .c (.int .i64 20)], none⟩,
 .one ⟨some 69, .p .move, [.t 72], none⟩])
 (.cond (.t 69)
 (.seq (.region [.one ⟨some 2, .p .move, [.c (.slice none 0 0)], none⟩,
 .one ⟨some 3, .p .move, [.c (.int .i64 2)], none⟩])
 .ret)
 .skip)))))
 (.seq (.region [.one ⟨some 73, .p .move, [.t 4], none⟩,
 .one ⟨some 2, .p .move, [.t 73], none⟩,
 .one ⟨some 3, .p .move, [.c (.int .i64 0)], none⟩])
 .ret)))))))),
 [(2, 0), (3, 0)]⟩

theorem g16_ok : compFn Tryz.prog 16 = some (fromGFn g16) := by kernel_rfl

def g23 : GFn := ⟨26,
 .seq (.region [.one ⟨some 4, .p .move, [.c (.bool false)], none⟩])
 (.seq (.seq (.region [.one ⟨some 6, .p .move, [.t 0], none⟩,
 .one ⟨some 7, .p .lenSl, [.t 6], none⟩,
 .one ⟨some 8, .p .move, [.t 1], none⟩,
 .one ⟨some 9, .p .lenSl, [.t 8], none⟩,
 .one ⟨some 10, .p (.bin .neq), [.t 7, .t 9], none⟩])
 (.cond (.t 10)
 (.seq (.region [.one ⟨some 4, .p .move, [.c (.bool false)], none⟩])
 .ret)
 .skip))
 (.seq (.seq (.region [.one ⟨some 5, .p .move, [.c (.int .i64 0)], none⟩])
 (.block 0 (.loop (.seq (.seq (.region [.one ⟨some 11, .p .move, [.t 5], none⟩,
 .one ⟨some 12, .p .move, [.t 0], none⟩,
 .one ⟨some 13, .p .lenSl, [.t 12], none⟩,
 .one ⟨some 14, .p (.bin .lss), [.t 11, .t 13], none⟩])
 (.cond (.t 14)
 .skip
 (.exit 0)))
 (.seq (.block 1 (.seq (.region [.one ⟨some 17, .p .move, [.t 0], none⟩,
 .one ⟨some 18, .p .move, [.t 5], none⟩,
 .one ⟨some 19, .p (.indexAddr 1), [.t 17, .t 18], none⟩,
 .one ⟨some 20, .r .load1, [.t 19], none⟩,
 .one ⟨some 21, .p .move, [.t 1], none⟩,
 .one ⟨some 22, .p .move, [.t 5], none⟩,
 .one ⟨some 23, .p (.indexAddr 1), [.t 21, .t 22], none⟩,
 .one ⟨some 24, .r .load1, [.t 23], none⟩,
 .one ⟨some 25, .p (.bin .neq), [.t 20, .t 24], none⟩])
 (.cond (.t 25)
 (.seq (.region [.one ⟨some 4, .p .move, [.c (.bool false)], none⟩])
 .ret)
 .skip)))
 (.region [.one ⟨some 15, .p .move, [.t 5], none⟩,
 .one ⟨some 16, .p (.bin .add), [.t 15, .c (.int .i64 1)], none⟩,
 .one ⟨some 5, .p .move, [.t 16], none⟩]))))))
 (.seq (.region [.one ⟨some 4, .p .move, [.c (.bool true)], none⟩])
 .ret))),
 [(4, 0)]⟩

theorem g23_ok : compFn Tryz.prog 23 = some (fromGFn g23) := by kernel_rfl

def g26 : GFn := ⟨41,
 .seq (.region [.one ⟨some 2, .p .move, [.c (.string ByteArray.empty)], none⟩])
 (.seq (.region [.one ⟨some 6, .p .move, [.t 0], none⟩,
 .one ⟨some 7, .w .strToBytes, [.t 6], none⟩,
 .one ⟨some 3, .p .move, [.t 7], none⟩])
 (.seq (.seq (.region [.one ⟨some 8, .p .move, [.t 3], none⟩,
 .one ⟨some 9, .p .lenSl, [.t 8], none⟩,
 .one ⟨some 10, .p .move, [.c (.int .i64 0)], none⟩])
 (.block 0 (.loop (.seq (.region [.one ⟨some 11, .p (.bin .lss), [.t 10, .t 9], none⟩])
 (.seq (.cond (.t 11)
 .skip
 (.exit 0))
 (.seq (.block 1 (.seq (.region [.one ⟨some 12, .p .move, [.t 10], none⟩,
 .one ⟨some 13, .p (.indexAddr 1), [.t 8, .t 10], none⟩,
 .one ⟨some 14, .r .load1, [.t 13], none⟩,
 .one ⟨some 4, .p .move, [.t 12], none⟩,
 .one ⟨some 5, .p .move, [.t 14], none⟩])
 (.seq (.region [.one ⟨some 15, .p .move, [.t 5], none⟩,
 .one ⟨some 16, .p (.bin .neq), [.t 15, .c (.int .u8 10)], none⟩,
 .one ⟨some 17, .p .move, [.t 16], none⟩,
 .grp 17 true [⟨some 18, .p .move, [.t 5], none⟩, ⟨some 19, .p (.bin .lss), [.t 18, .c (.int .u8 32)], none⟩, ⟨some 20, .p .move, [.t 19], none⟩],
 .grp 20 false [⟨some 21, .p .move, [.t 5], none⟩, ⟨some 22, .p (.bin .gtr), [.t 21, .c (.int .u8 126)], none⟩],
 .grp 17 true [⟨some 23, .p .pick, [.t 20, .c (.bool true), .t 22], none⟩],
 .one ⟨some 24, .p .pick, [.t 17, .t 23, .c (.bool false)], none⟩])
 (.cond (.t 24)
 (.region [.one ⟨some 25, .p .move, [.t 3], none⟩,
 .one ⟨some 26, .p .move, [.t 4], none⟩,
 .one ⟨some 27, .p (.indexAddr 1), [.t 25, .t 26], none⟩,
 .one ⟨none, .w (.store 1), [.t 27, .c (.int .u8 63)], none⟩])
 .skip))))
 (.region [.one ⟨some 28, .p (.bin .add), [.t 10, .c (.int .i64 1)], none⟩,
 .one ⟨some 10, .p .move, [.t 28], none⟩])))))))
 (.seq (.region [.one ⟨some 29, .p .move, [.t 3], none⟩,
 .one ⟨some 30, .r .bytesToStr, [.t 29], none⟩,
 .one ⟨some 0, .p .move, [.t 30], none⟩])
 (.seq (.seq (.region [.one ⟨some 31, .p .move, [.t 0], none⟩,
 .one ⟨some 32, .p (.bin .neq), [.t 31, .c (.string ByteArray.empty)], none⟩,
 .one ⟨some 33, .p .move, [.t 32], none⟩,
 .grp 33 true [⟨some 34, .p .move, [.t 0], none⟩, ⟨some 35, .call 49, [.t 34, .c (.string ⟨#[32, 34, 61, 42, 10]⟩)], none⟩, ⟨some 36, .p (.un .not), [.t 35], none⟩],
 .one ⟨some 37, .p .pick, [.t 33, .t 36, .c (.bool false)], none⟩])
 (.cond (.t 37)
 (.seq (.region [.one ⟨some 38, .p .move, [.t 0], none⟩,
 .one ⟨some 2, .p .move, [.t 38], none⟩])
 .ret)
 .skip))
 (.seq (.region [.one ⟨some 39, .p .move, [.t 0], none⟩,
 .one ⟨some 40, .call 50, [.t 39], none⟩,
 .one ⟨some 2, .p .move, [.t 40], none⟩])
 .ret))))),
 [(2, 0)]⟩

theorem g26_ok : compFn Tryz.prog 26 = some (fromGFn g26) := by kernel_rfl

def g28 : GFn := ⟨49,
 .seq (.region [.one ⟨some 2, .p .move, [.c (.bool false)], none⟩])
 (.seq (.region [.one ⟨some 3, .p .move, [.c (.int .i64 0)], none⟩])
 (.seq (.seq (.region [.one ⟨some 4, .p .move, [.c (.int .i64 0)], none⟩])
 (.block 0 (.loop (.seq (.seq (.region [.one ⟨some 6, .p .move, [.t 4], none⟩,
 .one ⟨some 7, .p .move, [.t 0], none⟩,
 .one ⟨some 8, .p .lenSl, [.t 7], none⟩,
 .one ⟨some 9, .p (.bin .lss), [.t 6, .t 8], none⟩,
 .one ⟨some 10, .p .move, [.t 9], none⟩,
 .grp 10 true [⟨some 11, .p .move, [.t 3], none⟩, ⟨some 12, .p (.bin .leq), [.t 11, .c (.int .i64 3000)], none⟩],
 .one ⟨some 13, .p .pick, [.t 10, .t 12, .c (.bool false)], none⟩])
 (.cond (.t 13)
 .skip
 (.exit 0)))
 (.seq (.block 1 (.seq (.region [.one ⟨some 16, .p .move, [.t 3], none⟩,
 .one ⟨some 17, .p (.bin .add), [.t 16, .c (.int .i64 1)], none⟩,
 .one ⟨some 18, .p .move, [.t 0], none⟩,
 .one ⟨some 19, .p .move, [.t 4], none⟩,
 .one ⟨some 20, .p (.indexAddr 3), [.t 18, .t 19], none⟩,
 .one ⟨some 21, .p (.fieldAddr 0), [.t 20], none⟩,
 .one ⟨some 22, .r .load1, [.t 21], none⟩,
 .one ⟨some 23, .p .lenStr, [.t 22], none⟩,
 .one ⟨some 24, .p (.bin .add), [.t 17, .t 23], none⟩,
 .one ⟨some 3, .p .move, [.t 24], none⟩])
 (.seq (.region [.one ⟨some 5, .p .move, [.c (.int .i64 0)], none⟩])
 (.block 2 (.loop (.seq (.seq (.region [.one ⟨some 25, .p .move, [.t 5], none⟩,
 .one ⟨some 26, .p .move, [.t 0], none⟩,
 .one ⟨some 27, .p .move, [.t 4], none⟩,
 .one ⟨some 28, .p (.indexAddr 3), [.t 26, .t 27], none⟩,
 .one ⟨some 29, .p (.fieldAddr 1), [.t 28], none⟩,
 .one ⟨some 30, .r .load1, [.t 29], none⟩,
 .one ⟨some 31, .p .lenSl, [.t 30], none⟩,
 .one ⟨some 32, .p (.bin .lss), [.t 25, .t 31], none⟩])
 (.cond (.t 32)
 .skip
 (.exit 2)))
 (.seq (.block 3 (.region [.one ⟨some 35, .p .move, [.t 3], none⟩,
 .one ⟨some 36, .p (.bin .add), [.t 35, .c (.int .i64 1)], none⟩,
 .one ⟨some 37, .p .move, [.t 0], none⟩,
 .one ⟨some 38, .p .move, [.t 4], none⟩,
 .one ⟨some 39, .p (.indexAddr 3), [.t 37, .t 38], none⟩,
 .one ⟨some 40, .p (.fieldAddr 1), [.t 39], none⟩,
 .one ⟨some 41, .r .load1, [.t 40], none⟩,
 .one ⟨some 42, .p .move, [.t 5], none⟩,
 .one ⟨some 43, .p (.indexAddr 1), [.t 41, .t 42], none⟩,
 .one ⟨some 44, .r .load1, [.t 43], none⟩,
 .one ⟨some 45, .p .lenStr, [.t 44], none⟩,
 .one ⟨some 46, .p (.bin .add), [.t 36, .t 45], none⟩,
 .one ⟨some 3, .p .move, [.t 46], none⟩]))
 (.region [.one ⟨some 33, .p .move, [.t 5], none⟩,
 .one ⟨some 34, .p (.bin .add), [.t 33, .c (.int .i64 1)], none⟩,
 .one ⟨some 5, .p .move, [.t 34], none⟩]))))))))
 (.region [.one ⟨some 14, .p .move, [.t 4], none⟩,
 .one ⟨some 15, .p (.bin .add), [.t 14, .c (.int .i64 1)], none⟩,
 .one ⟨some 4, .p .move, [.t 15], none⟩]))))))
 (.seq (.region [.one ⟨some 47, .p .move, [.t 3], none⟩,
 .one ⟨some 48, .p (.bin .gtr), [.t 47, .c (.int .i64 3000)], none⟩,
 .one ⟨some 2, .p .move, [.t 48], none⟩])
 .ret))),
 [(2, 0)]⟩

theorem g28_ok : compFn Tryz.prog 28 = some (fromGFn g28) := by kernel_rfl

def g29 : GFn := ⟨153,
 .seq (.region [.one ⟨some 4, .p .move, [.c (.string ByteArray.empty)], none⟩,
 .one ⟨some 5, .p .move, [.c (.int .i64 0)], none⟩])
 (.seq (.region [.one ⟨some 20, .p .move, [.t 0], none⟩,
 .one ⟨some 21, .call 16, [.t 20], none⟩,
 .one ⟨some 19, .p .move, [.t 21], none⟩,
 .one ⟨some 22, .p (.extract 0), [.t 19], none⟩,
 .one ⟨some 23, .p (.extract 1), [.t 19], none⟩,
 .one ⟨some 6, .p .move, [.t 22], none⟩,
 .one ⟨some 7, .p .move, [.t 23], none⟩])
 (.seq (.seq (.region [.one ⟨some 24, .p .move, [.t 7], none⟩,
 .one ⟨some 25, .p (.bin .neq), [.t 24, .c (.int .i64 0)], none⟩])
 (.cond (.t 25)
 (.seq (.region [.one ⟨some 26, .p .move, [.t 7], none⟩,
 .one ⟨some 4, .p .move, [.c (.string ByteArray.empty)], none⟩,
 .one ⟨some 5, .p .move, [.t 26], none⟩])
 .ret)
 .skip))
 (.seq (.seq (.region [.one ⟨some 27, .p .move, [.t 1], none⟩,
 .one ⟨some 28, .p .lenSl, [.t 27], none⟩,
 .one ⟨some 29, .p .move, [.t 6], none⟩,
 .one ⟨some 30, .p .lenSl, [.t 29], none⟩,
 .one ⟨some 31, .p (.bin .neq), [.t 28, .t 30], none⟩])
 (.cond (.t 31)
 (.seq (.region [.one ⟨some 4, .p .move, [.c (.string ByteArray.empty)], none⟩,
 .one ⟨some 5, .p .move, [.c (.int .i64 3)], none⟩])
 .ret)
 .skip))
 (.seq (.region [.one ⟨some 8, .p .move, [.c (.slice none 0 0)], none⟩,
 .one ⟨some 9, .p .move, [.c (.slice none 0 0)], none⟩])
 (.seq (.region [.one ⟨some 10, .p .move, [.c (.bool true)], none⟩])
 (.seq (.region [.one ⟨some 11, .p .move, [.c (.slice none 0 0)], none⟩])
 (.seq (.region [.one ⟨some 12, .p .move, [.c (.string ByteArray.empty)], none⟩])
 (.seq (.seq (.region [.one ⟨some 32, .p .move, [.t 6], none⟩,
 .one ⟨some 33, .p .lenSl, [.t 32], none⟩,
 .one ⟨some 34, .p .move, [.c (.int .i64 0)], none⟩])
 (.block 0 (.loop (.seq (.region [.one ⟨some 35, .p (.bin .lss), [.t 34, .t 33], none⟩])
 (.seq (.cond (.t 35)
 .skip
 (.exit 0))
 (.seq (.block 1 (.seq (.region [.one ⟨some 36, .p .move, [.t 34], none⟩,
 .one ⟨some 37, .p (.indexAddr 7), [.t 32, .t 34], none⟩,
 .one ⟨some 38, .r (.loadN 7), [.t 37], none⟩,
 .one ⟨some 14, .w (.new [.slice none 0 0, .bool false, .bool false, .bool false, .bool false, .bool false, .bool false]), [], none⟩,
 .one ⟨some 13, .p .move, [.t 36], none⟩,
 .one ⟨none, .w (.store 7), [.t 14, .t 38], none⟩])
 (.seq (.region [.one ⟨some 39, .p .move, [.t 1], none⟩,
 .one ⟨some 40, .p .move, [.t 13], none⟩,
 .one ⟨some 41, .p (.indexAddr 3), [.t 39, .t 40], none⟩,
 .one ⟨some 42, .r (.loadN 3), [.t 41], none⟩,
 .one ⟨some 15, .w (.new [.string ByteArray.empty, .slice none 0 0, .bool false]), [], none⟩,
 .one ⟨none, .w (.store 3), [.t 15, .t 42], none⟩])
 (.seq (.seq (.region [.one ⟨some 43, .r (.loadN 7), [.t 14], none⟩,
 .one ⟨some 44, .r (.loadN 3), [.t 15], none⟩,
 .one ⟨some 45, .call 51, [.t 43, .t 44], none⟩,
 .one ⟨some 46, .p (.un .not), [.t 45], none⟩])
 (.cond (.t 46)
 (.seq (.region [.one ⟨some 4, .p .move, [.c (.string ByteArray.empty)], none⟩,
 .one ⟨some 5, .p .move, [.c (.int .i64 3)], none⟩])
 .ret)
 .skip))
 (.seq (.region [.one ⟨some 47, .p .move, [.t 10], none⟩,
 .one ⟨some 48, .p .move, [.t 47], none⟩,
 .grp 48 true [⟨some 49, .r (.loadN 7), [.t 14], none⟩, ⟨some 50, .call 52, [.t 49], none⟩, ⟨some 51, .p (.un .not), [.t 50], none⟩, ⟨some 52, .p .move, [.t 51], none⟩],
 .grp 52 false [⟨some 53, .p (.fieldAddr 5), [.t 14], none⟩, ⟨some 54, .r .load1, [.t 53], none⟩],
 .grp 48 true [⟨some 55, .p .pick, [.t 52, .c (.bool true), .t 54], none⟩, ⟨some 56, .p .move, [.t 55], none⟩],
 .grp 56 false [⟨some 57, .p (.fieldAddr 6), [.t 14], none⟩, ⟨some 58, .r .load1, [.t 57], none⟩, ⟨some 59, .p (.un .not), [.t 58], none⟩, ⟨some 60, .p .move, [.t 59], none⟩],
 .grp 60 true [⟨some 61, .p (.fieldAddr 2), [.t 15], none⟩, ⟨some 62, .r .load1, [.t 61], none⟩],
 .grp 56 false [⟨some 63, .p .pick, [.t 60, .t 62, .c (.bool false)], none⟩],
 .grp 48 true [⟨some 64, .p .pick, [.t 56, .c (.bool true), .t 63], none⟩],
 .one ⟨some 65, .p .pick, [.t 48, .t 64, .c (.bool false)], none⟩,
 .one ⟨some 10, .p .move, [.t 65], none⟩])
 (.block 2 (.seq (.region [.one ⟨some 77, .p (.fieldAddr 2), [.t 15], none⟩,
 .one ⟨some 78, .r .load1, [.t 77], none⟩,
 .one ⟨some 79, .p (.un .not), [.t 78], none⟩,
 .one ⟨some 76, .p .move, [.t 79], none⟩])
 (.cond (.t 76)
 .skip
 (.seq (.region [.one ⟨some 81, .p (.fieldAddr 3), [.t 14], none⟩,
 .one ⟨some 82, .r .load1, [.t 81], none⟩,
 .one ⟨some 80, .p .move, [.t 82], none⟩])
 (.cond (.t 80)
 (.region [.one ⟨some 83, .p .move, [.t 8], none⟩,
 .one ⟨some 84, .p (.fieldAddr 0), [.t 15], none⟩,
 .one ⟨some 85, .r .load1, [.t 84], none⟩,
 .one ⟨some 86, .w (.sliceLit [.string ByteArray.empty] 1 [(0, 1)]), [.t 85], none⟩,
 .one ⟨some 87, .w (.append 1 16), [.t 83, .t 86], none⟩,
 .one ⟨some 8, .p .move, [.t 87], none⟩])
 (.seq (.region [.one ⟨some 89, .p (.fieldAddr 5), [.t 14], none⟩,
 .one ⟨some 90, .r .load1, [.t 89], none⟩,
 .one ⟨some 88, .p .move, [.t 90], none⟩])
 (.cond (.t 88)
 (.region [.one ⟨some 91, .p (.fieldAddr 0), [.t 15], none⟩,
 .one ⟨some 92, .r .load1, [.t 91], none⟩,
 .one ⟨some 93, .p (.fieldAddr 1), [.t 15], none⟩,
 .one ⟨some 94, .r .load1, [.t 93], none⟩,
 .one ⟨some 12, .p .move, [.t 92], none⟩,
 .one ⟨some 11, .p .move, [.t 94], none⟩])
 (.seq (.region [.one ⟨some 96, .p (.fieldAddr 6), [.t 14], none⟩,
 .one ⟨some 97, .r .load1, [.t 96], none⟩,
 .one ⟨some 95, .p .move, [.t 97], none⟩])
 (.cond (.t 95)
 (.region [.one ⟨some 98, .p (.fieldAddr 0), [.t 15], none⟩,
 .one ⟨some 99, .r .load1, [.t 98], none⟩,
 .one ⟨some 100, .p (.fieldAddr 1), [.t 15], none⟩,
 .one ⟨some 101, .r .load1, [.t 100], none⟩,
 .one ⟨some 102, .p (.indexAddr 1), [.t 101, .c (.int .i64 0)], none⟩,
 .one ⟨some 103, .r .load1, [.t 102], none⟩,
 .one ⟨some 104, .w (.sliceLit [.string ByteArray.empty, .string ByteArray.empty] 2 [(0, 1), (1, 1)]), [.t 99, .t 103], none⟩,
 .one ⟨some 9, .p .move, [.t 104], none⟩])
 (.region [.one ⟨some 66, .p .move, [.t 8], none⟩,
 .one ⟨some 67, .p (.fieldAddr 0), [.t 15], none⟩,
 .one ⟨some 68, .r .load1, [.t 67], none⟩,
 .one ⟨some 69, .p (.fieldAddr 1), [.t 15], none⟩,
 .one ⟨some 70, .r .load1, [.t 69], none⟩,
 .one ⟨some 71, .p (.indexAddr 1), [.t 70, .c (.int .i64 0)], none⟩,
 .one ⟨some 72, .r .load1, [.t 71], none⟩,
 .one ⟨some 73, .call 26, [.t 72], none⟩,
 .one ⟨none, .r .same1, [.t 68, .t 67], none⟩,
 .one ⟨some 74, .w (.sliceLit [.string ByteArray.empty, .string ByteArray.empty] 2 [(0, 1), (1, 1)]), [.t 68, .t 73], none⟩,
 .one ⟨some 75, .w (.append 1 16), [.t 66, .t 74], none⟩,
 .one ⟨some 8, .p .move, [.t 75], none⟩])))))))))))))))
 (.region [.one ⟨some 105, .p (.bin .add), [.t 34, .c (.int .i64 1)], none⟩,
 .one ⟨some 34, .p .move, [.t 105], none⟩])))))))
 (.seq (.block 3 (.seq (.region [.one ⟨some 107, .p .move, [.t 10], none⟩,
 .one ⟨some 106, .p .move, [.t 107], none⟩])
 (.cond (.t 106)
 (.seq (.region [.one ⟨some 108, .p .move, [.t 11], none⟩,
 .one ⟨some 109, .p .lenSl, [.t 108], none⟩,
 .one ⟨some 110, .p .move, [.c (.int .i64 0)], none⟩])
 (.block 4 (.loop (.seq (.region [.one ⟨some 111, .p (.bin .lss), [.t 110, .t 109], none⟩])
 (.seq (.cond (.t 111)
 .skip
 (.exit 4))
 (.seq (.block 5 (.seq (.region [.one ⟨some 112, .p (.indexAddr 1), [.t 108, .t 110], none⟩,
 .one ⟨some 113, .r .load1, [.t 112], none⟩,
 .one ⟨some 17, .p .move, [.t 113], none⟩])
 (.seq (.region [.one ⟨some 114, .p .move, [.t 6], none⟩,
 .one ⟨some 115, .p .move, [.t 17], none⟩,
 .one ⟨some 116, .call 53, [.t 114, .t 115], none⟩,
 .one ⟨some 117, .p (.bin .geq), [.t 116, .c (.int .i64 0)], none⟩])
 (.cond (.t 117)
 (.region [.one ⟨some 118, .p .move, [.t 8], none⟩,
 .one ⟨some 119, .p .move, [.t 17], none⟩,
 .one ⟨some 120, .call 50, [.t 119], none⟩,
 .one ⟨some 121, .w (.sliceLit [.string ByteArray.empty] 1 [(0, 1)]), [.t 120], none⟩,
 .one ⟨some 122, .w (.append 1 16), [.t 118, .t 121], none⟩,
 .one ⟨some 8, .p .move, [.t 122], none⟩])
 (.region [.one ⟨some 123, .p .move, [.t 8], none⟩,
 .one ⟨some 124, .p .move, [.t 17], none⟩,
 .one ⟨some 125, .call 26, [.t 124], none⟩,
 .one ⟨some 126, .w (.sliceLit [.string ByteArray.empty] 1 [(0, 1)]), [.t 125], none⟩,
 .one ⟨some 127, .w (.append 1 16), [.t 123, .t 126], none⟩,
 .one ⟨some 8, .p .move, [.t 127], none⟩])))))
 (.region [.one ⟨some 128, .p (.bin .add), [.t 110, .c (.int .i64 1)], none⟩,
 .one ⟨some 110, .p .move, [.t 128], none⟩])))))))
 (.seq (.region [.one ⟨some 130, .p .move, [.t 11], none⟩,
 .one ⟨some 131, .p .lenSl, [.t 130], none⟩,
 .one ⟨some 132, .p (.bin .gtr), [.t 131, .c (.int .i64 1)], none⟩,
 .one ⟨some 129, .p .move, [.t 132], none⟩])
 (.cond (.t 129)
 (.seq (.region [.one ⟨some 4, .p .move, [.c (.string ByteArray.empty)], none⟩,
 .one ⟨some 5, .p .move, [.c (.int .i64 3)], none⟩])
 .ret)
 (.seq (.region [.one ⟨some 134, .p .move, [.t 11], none⟩,
 .one ⟨some 135, .p .lenSl, [.t 134], none⟩,
 .one ⟨some 136, .p (.bin .eql), [.t 135, .c (.int .i64 1)], none⟩,
 .one ⟨some 133, .p .move, [.t 136], none⟩])
 (.cond (.t 133)
 (.region [.one ⟨some 137, .p .move, [.t 8], none⟩,
 .one ⟨some 138, .p .move, [.t 12], none⟩,
 .one ⟨some 139, .p .move, [.t 11], none⟩,
 .one ⟨some 140, .p (.indexAddr 1), [.t 139, .c (.int .i64 0)], none⟩,
 .one ⟨some 141, .r .load1, [.t 140], none⟩,
 .one ⟨some 142, .call 26, [.t 141], none⟩,
 .one ⟨some 143, .w (.sliceLit [.string ByteArray.empty, .string ByteArray.empty] 2 [(0, 1), (1, 1)]), [.t 138, .t 142], none⟩,
 .one ⟨some 144, .w (.append 1 16), [.t 137, .t 143], none⟩,
 .one ⟨some 8, .p .move, [.t 144], none⟩])
 .skip)))))))
 (.seq (.region [.one ⟨some 145, .p .move, [.t 8], none⟩,
 .one ⟨some 146, .p .move, [.t 9], none⟩,
 .one ⟨some 147, .w (.append 1 16), [.t 145, .t 146], none⟩,
 .one ⟨some 148, .call 42, [.t 147, .c (.string ⟨#[32]⟩)], none⟩,
 .one ⟨some 18, .p .move, [.t 148], none⟩])
 (.seq (.seq (.region [.one ⟨some 149, .p .move, [.t 18], none⟩,
 .one ⟨some 150, .p .lenStr, [.t 149], none⟩,
 .one ⟨some 151, .p (.bin .gtr), [.t 150, .c (.int .i64 1000)], none⟩])
 (.cond (.t 151)
 (.seq (.region [.one ⟨some 4, .p .move, [.c (.string ByteArray.empty)], none⟩,
 .one ⟨some 5, .p .move, [.c (.int .i64 2)], none⟩])
 .ret)
 .skip))
 (.seq (.region [.one ⟨some 152, .p .move, [.t 18], none⟩,
 .one ⟨some 4, .p .move, [.t 152], none⟩,
 .one ⟨some 5, .p .move, [.c (.int .i64 0)], none⟩])
 .ret)))))))))))),
 [(4, 0), (5, 0)]⟩

theorem g29_ok : compFn Tryz.prog 29 = some (fromGFn g29) := by kernel_rfl

def g31 : GFn := ⟨23,
 .seq (.region [.one ⟨some 2, .p .move, [.c (.int .i64 0)], none⟩])
 (.seq (.seq (.region [.one ⟨some 4, .p .move, [.t 0], none⟩,
 .one ⟨some 5, .p .lenStr, [.t 4], none⟩,
 .one ⟨some 6, .p (.bin .gtr), [.t 5, .c (.int .i64 1000)], none⟩])
 (.cond (.t 6)
 (.seq (.region [.one ⟨some 2, .p .move, [.c (.int .i64 2)], none⟩])
 .ret)
 .skip))
 (.seq (.seq (.region [.one ⟨some 7, .p .move, [.t 0], none⟩,
 .one ⟨some 8, .p .lenStr, [.t 7], none⟩,
 .one ⟨some 9, .p .move, [.c (.int .i64 0)], none⟩])
 (.block 0 (.loop (.seq (.region [.one ⟨some 10, .p (.bin .lss), [.t 9, .t 8], none⟩])
 (.seq (.cond (.t 10)
 .skip
 (.exit 0))
 (.seq (.block 1 (.seq (.region [.one ⟨some 11, .p .move, [.t 9], none⟩,
 .one ⟨some 3, .p .move, [.t 11], none⟩])
 (.seq (.region [.one ⟨some 12, .p .move, [.t 0], none⟩,
 .one ⟨some 13, .p .move, [.t 3], none⟩,
 .one ⟨some 14, .p .indexStr, [.t 12, .t 13], none⟩,
 .one ⟨some 15, .p (.bin .lss), [.t 14, .c (.int .u8 32)], none⟩,
 .one ⟨some 16, .p .move, [.t 15], none⟩,
 .grp 16 false [⟨some 17, .p .move, [.t 0], none⟩, ⟨some 18, .p .move, [.t 3], none⟩, ⟨some 19, .p .indexStr, [.t 17, .t 18], none⟩, ⟨some 20, .p (.bin .gtr), [.t 19, .c (.int .u8 126)], none⟩],
 .one ⟨some 21, .p .pick, [.t 16, .c (.bool true), .t 20], none⟩])
 (.cond (.t 21)
 (.seq (.region [.one ⟨some 2, .p .move, [.c (.int .i64 250)], none⟩])
 .ret)
 .skip))))
 (.region [.one ⟨some 22, .p (.bin .add), [.t 9, .c (.int .i64 1)], none⟩,
 .one ⟨some 9, .p .move, [.t 22], none⟩])))))))
 (.seq (.region [.one ⟨some 2, .p .move, [.c (.int .i64 0)], none⟩])
 .ret))),
 [(2, 0)]⟩

theorem g31_ok : compFn Tryz.prog 31 = some (fromGFn g31) := by kernel_rfl

def g32 : GFn := ⟨24,
 .seq (.region [.one ⟨some 4, .p .move, [.c (.int .i64 0)], none⟩])
 (.seq (.block 0 (.loop (.seq (.seq (.region [.one ⟨some 5, .p .move, [.t 1], none⟩,
 .one ⟨some 6, .p .move, [.t 0], none⟩,
 .one ⟨some 7, .p .nilCheck, [.t 6], none⟩,
 .one ⟨some 8, .p (.fieldAddr 1), [.t 7], none⟩,
 .one ⟨some 9, .r .load1, [.t 8], none⟩,
 .one ⟨some 10, .p .lenStr, [.t 9], none⟩,
 .one ⟨some 11, .p (.bin .lss), [.t 5, .t 10], none⟩,
 .one ⟨some 12, .p .move, [.t 11], none⟩,
 .grp 12 true [⟨some 13, .p .move, [.t 0], none⟩, ⟨some 14, .p .nilCheck, [.t 13], none⟩, ⟨some 15, .p (.fieldAddr 1), [.t 14], none⟩, ⟨some 16, .r .load1, [.t 15], none⟩, ⟨some 17, .p .move, [.t 1], none⟩, ⟨some 18, .p .indexStr, [.t 16, .t 17], none⟩, ⟨some 19, .p (.bin .eql), [.t 18, .c (.int .u8 32)], none⟩],
 .one ⟨some 20, .p .pick, [.t 12, .t 19, .c (.bool false)], none⟩])
 (.cond (.t 20)
 .skip
 (.exit 0)))
 (.block 1 (.region [.one ⟨some 21, .p .move, [.t 1], none⟩,
 .one ⟨some 22, .p (.bin .add), [.t 21, .c (.int .i64 1)], none⟩,
 .one ⟨some 1, .p .move, [.t 22], none⟩])))))
 (.seq (.region [.one ⟨some 23, .p .move, [.t 1], none⟩,
 .one ⟨some 4, .p .move, [.t 23], none⟩])
 .ret)),
 [(4, 0)]⟩

theorem g32_ok : compFn Tryz.prog 32 = some (fromGFn g32) := by kernel_rfl

def g33 : GFn := ⟨76,
 .seq (.region [.one ⟨some 4, .p .move, [.c (.bool false)], none⟩])
 (.seq (.region [.one ⟨some 10, .p .move, [.t 0], none⟩,
 .one ⟨some 11, .p .nilCheck, [.t 10], none⟩,
 .one ⟨some 12, .p (.fieldAddr 1), [.t 11], none⟩,
 .one ⟨some 13, .r .load1, [.t 12], none⟩,
 .one ⟨some 14, .p .move, [.t 1], none⟩,
 .one ⟨some 15, .call 56, [.t 13, .t 14], none⟩,
 .one ⟨some 9, .p .move, [.t 15], none⟩,
 .one ⟨some 16, .p (.extract 0), [.t 9], none⟩,
 .one ⟨some 17, .p (.extract 1), [.t 9], none⟩,
 .one ⟨some 5, .w (.new [.string ByteArray.empty, .int .i64 0, .bool false]), [], none⟩,
 .one ⟨none, .w (.store 3), [.t 5, .t 16], none⟩,
 .one ⟨some 6, .p .move, [.t 17], none⟩])
 (.seq (.seq (.region [.one ⟨some 18, .p (.fieldAddr 2), [.t 5], none⟩,
 .one ⟨some 19, .r .load1, [.t 18], none⟩,
 .one ⟨some 20, .p (.un .not), [.t 19], none⟩])
 (.cond (.t 20)
 (.seq (.region [.one ⟨some 21, .p .move, [.t 0], none⟩,
 .one ⟨some 22, .p .nilCheck, [.t 21], none⟩,
 .one ⟨some 23, .p (.fieldAddr 0), [.t 22], none⟩,
 .one ⟨some 24, .r .load1, [.t 23], none⟩,
 .one ⟨some 25, .p (.fieldAddr 0), [.t 5], none⟩,
 .one ⟨some 26, .r .load1, [.t 25], none⟩,
 .one ⟨some 27, .call 53, [.t 24, .t 26], none⟩,
 .one ⟨some 7, .p .move, [.t 27], none⟩])
 (.seq (.region [.one ⟨some 28, .p .move, [.t 7], none⟩,
 .one ⟨some 29, .p (.bin .geq), [.t 28, .c (.int .i64 0)], none⟩])
 (.cond (.t 29)
 (.seq (.region [.one ⟨some 30, .p .move, [.t 0], none⟩,
 .one ⟨some 31, .p .move, [.t 6], none⟩,
 .one ⟨some 32, .p .nilCheck, [.t 30], none⟩,
 .one ⟨some 33, .p (.fieldAddr 2), [.t 32], none⟩,
 .one ⟨none, .w (.store 1), [.t 33, .t 31], none⟩])
 (.seq (.region [.one ⟨some 34, .p .move, [.t 0], none⟩,
 .one ⟨some 35, .p .move, [.t 7], none⟩,
 .one ⟨some 36, .call 57, [.t 34, .t 35], none⟩,
 .one ⟨some 4, .p .move, [.t 36], none⟩])
 .ret))
 .skip)))
 .skip))
 (.seq (.region [.one ⟨some 37, .p .move, [.t 0], none⟩,
 .one ⟨some 38, .call 58, [.t 37], none⟩,
 .one ⟨some 8, .p .move, [.t 38], none⟩])
 (.seq (.block 0 (.seq (.region [.one ⟨some 40, .p .move, [.t 8], none⟩,
 .one ⟨some 41, .p (.bin .geq), [.t 40, .c (.int .i64 0)], none⟩,
 .one ⟨some 42, .p .move, [.t 41], none⟩,
 .grp 42 true [⟨some 43, .p .move, [.t 0], none⟩, ⟨some 44, .p .nilCheck, [.t 43], none⟩, ⟨some 45, .p (.fieldAddr 0), [.t 44], none⟩, ⟨some 46, .r .load1, [.t 45], none⟩, ⟨some 47, .p .move, [.t 8], none⟩, ⟨some 48, .p (.indexAddr 7), [.t 46, .t 47], none⟩, ⟨some 49, .p (.fieldAddr 6), [.t 48], none⟩, ⟨some 50, .r .load1, [.t 49], none⟩],
 .one ⟨some 51, .p .pick, [.t 42, .t 50, .c (.bool false)], none⟩,
 .one ⟨some 39, .p .move, [.t 51], none⟩])
 (.cond (.t 39)
 (.seq (.region [.one ⟨some 52, .p .move, [.t 0], none⟩,
 .one ⟨some 53, .p .move, [.t 8], none⟩,
 .one ⟨some 54, .p .move, [.t 1], none⟩,
 .one ⟨some 55, .call 59, [.t 52, .t 53, .t 54], none⟩,
 .one ⟨some 4, .p .move, [.t 55], none⟩])
 .ret)
 (.seq (.region [.one ⟨some 57, .p .move, [.t 8], none⟩,
 .one ⟨some 58, .p (.bin .lss), [.t 57, .c (.int .i64 0)], none⟩,
 .one ⟨some 59, .p .move, [.t 58], none⟩,
 .grp 59 false [⟨some 60, .p .move, [.t 6], none⟩, ⟨some 61, .p (.bin .lss), [.t 60, .c (.int .i64 0)], none⟩],
 .one ⟨some 62, .p .pick, [.t 59, .c (.bool true), .t 61], none⟩,
 .one ⟨some 63, .p .move, [.t 62], none⟩,
 .grp 63 false [⟨some 64, .r (.loadN 3), [.t 5], none⟩, ⟨some 65, .call 60, [.t 64], none⟩],
 .one ⟨some 66, .p .pick, [.t 63, .c (.bool true), .t 65], none⟩,
 .one ⟨some 56, .p .move, [.t 66], none⟩])
 (.cond (.t 56)
 (.seq (.region [.one ⟨some 4, .p .move, [.c (.bool false)], none⟩])
 .ret)
 .skip)))))
 (.seq (.region [.one ⟨some 67, .p .move, [.t 0], none⟩,
 .one ⟨some 68, .p .move, [.t 6], none⟩,
 .one ⟨some 69, .p .nilCheck, [.t 67], none⟩,
 .one ⟨some 70, .p (.fieldAddr 2), [.t 69], none⟩,
 .one ⟨none, .w (.store 1), [.t 70, .t 68], none⟩])
 (.seq (.region [.one ⟨some 71, .p .move, [.t 0], none⟩,
 .one ⟨some 72, .p .move, [.t 8], none⟩,
 .one ⟨some 73, .p (.fieldAddr 0), [.t 5], none⟩,
 .one ⟨some 74, .r .load1, [.t 73], none⟩,
 .one ⟨some 75, .call 61, [.t 71, .t 72, .t 74], none⟩,
 .one ⟨some 4, .p .move, [.t 75], none⟩])
 .ret)))))),
 [(4, 0)]⟩

theorem g33_ok : compFn Tryz.prog 33 = some (fromGFn g33) := by kernel_rfl

def g38 : GFn := ⟨99,
 .seq (.region [.one ⟨some 2, .w (.new [.slice none 0 0, .bool false, .bool false, .bool false, .bool false, .bool false, .bool false]), [], none⟩,
 .one ⟨some 3, .p .move, [.c (.bool false)], none⟩])
 (.seq (.region [.one ⟨some 11, .p .move, [.t 0], none⟩,
 .one ⟨some 12, .call 37, [.t 11, .c (.string ⟨#[47]⟩)], none⟩,
 .one ⟨some 4, .p .move, [.t 12], none⟩])
 (.seq (.region [.one ⟨some 5, .p .move, [.c (.int .i64 0)], none⟩])
 (.seq (.seq (.region [.one ⟨some 13, .p .move, [.t 4], none⟩,
 .one ⟨some 14, .r (.sl 1 true false), [.t 13, .c (.int .i64 1)], none⟩,
 .one ⟨some 15, .p .lenSl, [.t 14], none⟩,
 .one ⟨some 16, .p .move, [.c (.int .i64 0)], none⟩])
 (.block 0 (.loop (.seq (.region [.one ⟨some 17, .p (.bin .lss), [.t 16, .t 15], none⟩])
 (.seq (.cond (.t 17)
 .skip
 (.exit 0))
 (.seq (.block 1 (.seq (.region [.one ⟨some 18, .p (.indexAddr 1), [.t 14, .t 16], none⟩,
 .one ⟨some 19, .r .load1, [.t 18], none⟩,
 .one ⟨some 7, .p .move, [.t 19], none⟩])
 (.seq (.region [.one ⟨some 20, .p .move, [.t 7], none⟩,
 .one ⟨some 21, .call 65, [.c (.string ⟨#[97, 107, 115, 110, 109, 102]⟩), .t 20], none⟩,
 .one ⟨some 8, .p .move, [.t 21], none⟩])
 (.seq (.seq (.region [.one ⟨some 22, .p .move, [.t 7], none⟩,
 .one ⟨some 23, .p .lenStr, [.t 22], none⟩,
 .one ⟨some 24, .p (.bin .neq), [.t 23, .c (.int .i64 1)], none⟩,
 .one ⟨some 25, .p .move, [.t 24], none⟩,
 .grp 25 false [⟨some 26, .p .move, [.t 8], none⟩, ⟨some 27, .p (.bin .lss), [.t 26, .c (.int .i64 0)], none⟩],
 .one ⟨some 28, .p .pick, [.t 25, .c (.bool true), .t 27], none⟩,
 .one ⟨some 29, .p .move, [.t 28], none⟩,
 .grp 29 false [⟨some 30, .p .move, [.t 5], none⟩, ⟨some 31, .p .move, [.t 8], none⟩, ⟨some 32, .p (.bin .shl), [.c (.int .i64 1), .t 31], none⟩, ⟨some 33, .p (.bin .and), [.t 30, .t 32], none⟩, ⟨some 34, .p (.bin .neq), [.t 33, .c (.int .i64 0)], none⟩],
 .one ⟨some 35, .p .pick, [.t 29, .c (.bool true), .t 34], none⟩])
 (.cond (.t 35)
 (.seq (.region [.one ⟨some 36, .p (.build [.slice none 0 0, .bool false, .bool false, .bool false, .bool false, .bool false, .bool false] []), [], none⟩,
 .one ⟨none, .w (.store 7), [.t 2, .t 36], none⟩,
 .one ⟨some 3, .p .move, [.c (.bool false)], none⟩])
 .ret)
 .skip))
 (.region [.one ⟨some 37, .p .move, [.t 5], none⟩,
 .one ⟨some 38, .p .move, [.t 8], none⟩,
 .one ⟨some 39, .p (.bin .shl), [.c (.int .i64 1), .t 38], none⟩,
 .one ⟨some 40, .p (.bin .or), [.t 37, .t 39], none⟩,
 .one ⟨some 5, .p .move, [.t 40], none⟩])))))
 (.region [.one ⟨some 41, .p (.bin .add), [.t 16, .c (.int .i64 1)], none⟩,
 .one ⟨some 16, .p .move, [.t 41], none⟩])))))))
 (.seq (.region [.one ⟨some 42, .p .move, [.t 4], none⟩,
 .one ⟨some 43, .p (.indexAddr 1), [.t 42, .c (.int .i64 0)], none⟩,
 .one ⟨some 44, .r .load1, [.t 43], none⟩,
 .one ⟨some 45, .call 37, [.t 44, .c (.string ⟨#[61]⟩)], none⟩,
 .one ⟨some 9, .p .move, [.t 45], none⟩])
 (.seq (.region [.one ⟨some 46, .p .move, [.t 9], none⟩,
 .one ⟨some 47, .call 66, [.t 46, .c (.func (.func 67) #[] #[])], none⟩,
 .one ⟨some 10, .p .move, [.t 47], none⟩])
 (.seq (.seq (.region [.one ⟨some 48, .p .move, [.t 10], none⟩,
 .one ⟨some 49, .p .move, [.t 48], none⟩,
 .grp 49 false [⟨some 50, .p .move, [.t 5], none⟩, ⟨some 51, .p (.bin .and), [.t 50, .c (.int .i64 4)], none⟩, ⟨some 52, .p (.bin .neq), [.t 51, .c (.int .i64 0)], none⟩, ⟨some 53, .p .move, [.t 52], none⟩],
 .grp 53 true [⟨some 54, .p .move, [.t 5], none⟩, ⟨some 55, .p (.bin .neq), [.t 54, .c (.int .i64 4)], none⟩],
 .grp 49 false [⟨some 56, .p .pick, [.t 53, .t 55, .c (.bool false)], none⟩],
 .one ⟨some 57, .p .pick, [.t 49, .c (.bool true), .t 56], none⟩,
 .one ⟨some 58, .p .move, [.t 57], none⟩,
 .grp 58 false [⟨some 59, .p .move, [.t 5], none⟩, ⟨some 60, .p (.bin .and), [.t 59, .c (.int .i64 16)], none⟩, ⟨some 61, .p (.bin .neq), [.t 60, .c (.int .i64 0)], none⟩, ⟨some 62, .p .move, [.t 61], none⟩],
 .grp 62 true [⟨some 63, .p .move, [.t 5], none⟩, ⟨some 64, .p (.bin .and), [.t 63, .c (.int .i64 2)], none⟩, ⟨some 65, .p (.bin .neq), [.t 64, .c (.int .i64 0)], none⟩],
 .grp 58 false [⟨some 66, .p .pick, [.t 62, .t 65, .c (.bool false)], none⟩],
 .one ⟨some 67, .p .pick, [.t 58, .c (.bool true), .t 66], none⟩,
 .one ⟨some 68, .p .move, [.t 67], none⟩,
 .grp 68 false [⟨some 69, .p .move, [.t 5], none⟩, ⟨some 70, .p (.bin .and), [.t 69, .c (.int .i64 32)], none⟩, ⟨some 71, .p (.bin .neq), [.t 70, .c (.int .i64 0)], none⟩, ⟨some 72, .p .move, [.t 71], none⟩],
 .grp 72 true [⟨some 73, .p .move, [.t 5], none⟩, ⟨some 74, .p (.bin .andNot), [.t 73, .c (.int .i64 1)], none⟩, ⟨some 75, .p (.bin .neq), [.t 74, .c (.int .i64 32)], none⟩],
 .grp 68 false [⟨some 76, .p .pick, [.t 72, .t 75, .c (.bool false)], none⟩],
 .one ⟨some 77, .p .pick, [.t 68, .c (.bool true), .t 76], none⟩])
 (.cond (.t 77)
 (.seq (.region [.one ⟨some 78, .p (.build [.slice none 0 0, .bool false, .bool false, .bool false, .bool false, .bool false, .bool false] []), [], none⟩,
 .one ⟨none, .w (.store 7), [.t 2, .t 78], none⟩,
 .one ⟨some 3, .p .move, [.c (.bool false)], none⟩])
 .ret)
 .skip))
 (.seq (.region [.one ⟨some 79, .p .move, [.t 9], none⟩,
 .one ⟨some 80, .p .move, [.t 5], none⟩,
 .one ⟨some 81, .p (.bin .and), [.t 80, .c (.int .i64 1)], none⟩,
 .one ⟨some 82, .p (.bin .neq), [.t 81, .c (.int .i64 0)], none⟩,
 .one ⟨some 83, .p .move, [.t 5], none⟩,
 .one ⟨some 84, .p (.bin .and), [.t 83, .c (.int .i64 2)], none⟩,
 .one ⟨some 85, .p (.bin .neq), [.t 84, .c (.int .i64 0)], none⟩,
 .one ⟨some 86, .p .move, [.t 5], none⟩,
 .one ⟨some 87, .p (.bin .and), [.t 86, .c (.int .i64 4)], none⟩,
 .one ⟨some 88, .p (.bin .neq), [.t 87, .c (.int .i64 0)], none⟩,
 .one ⟨some 89, .p .move, [.t 5], none⟩,
 .one ⟨some 90, .p (.bin .and), [.t 89, .c (.int .i64 8)], none⟩,
 .one ⟨some 91, .p (.bin .neq), [.t 90, .c (.int .i64 0)], none⟩,
 .one ⟨some 92, .p .move, [.t 5], none⟩,
 .one ⟨some 93, .p (.bin .and), [.t 92, .c (.int .i64 16)], none⟩,
 .one ⟨some 94, .p (.bin .neq), [.t 93, .c (.int .i64 0)], none⟩,
 .one ⟨some 95, .p .move, [.t 5], none⟩,
 .one ⟨some 96, .p (.bin .and), [.t 95, .c (.int .i64 32)], none⟩,
 .one ⟨some 97, .p (.bin .neq), [.t 96, .c (.int .i64 0)], none⟩,
 .one ⟨some 98, .p (.build [.slice none 0 0, .bool false, .bool false, .bool false, .bool false, .bool false, .bool false] [(0, 1), (1, 1), (2, 1), (3, 1), (4, 1), (5, 1), (6, 1)]), [.t 79, .t 82, .t 85, .t 88, .t 91, .t 94, .t 97], none⟩,
 .one ⟨none, .w (.store 7), [.t 2, .t 98], none⟩,
 .one ⟨some 3, .p .move, [.c (.bool true)], none⟩])
 .ret))))))),
 [(2, 9), (3, 0)]⟩

theorem g38_ok : compFn Tryz.prog 38 = some (fromGFn g38) := by kernel_rfl

def g50 : GFn := ⟨9,
 .seq (.region [.one ⟨some 2, .p .move, [.c (.string ByteArray.empty)], none⟩])
 (.seq (.region [.one ⟨some 3, .w (.sliceLit [.string ByteArray.empty, .string ByteArray.empty, .string ByteArray.empty, .string ByteArray.empty, .string ByteArray.empty, .string ByteArray.empty] 6 [(0, 1), (1, 1), (2, 1), (3, 1), (4, 1), (5, 1)]), [.c (.string ⟨#[42]⟩), .c (.string ⟨#[42, 42]⟩), .c (.string ⟨#[34]⟩), .c (.string ⟨#[42, 34]⟩), .c (.string ⟨#[10]⟩), .c (.string ⟨#[42, 110]⟩)], none⟩,
 .one ⟨some 4, .call 84, [.t 3], none⟩,
 .one ⟨some 5, .p .move, [.t 0], none⟩,
 .one ⟨some 6, .call 85, [.t 4, .t 5], none⟩,
 .one ⟨some 7, .p (.bin .add), [.c (.string ⟨#[34]⟩), .t 6], none⟩,
 .one ⟨some 8, .p (.bin .add), [.t 7, .c (.string ⟨#[34]⟩)], none⟩,
 .one ⟨some 2, .p .move, [.t 8], none⟩])
 .ret),
 [(2, 0)]⟩

theorem g50_ok : compFn Tryz.prog 50 = some (fromGFn g50) := by kernel_rfl

def g51 : GFn := ⟨86,
 .seq (.region [.one ⟨some 2, .w (.box 7), [.t 0], none⟩,
 .one ⟨some 3, .w (.box 3), [.t 1], none⟩,
 .one ⟨some 4, .p .move, [.c (.bool false)], none⟩])
 (.seq (.region [.one ⟨some 7, .p (.mkFunc (.func 86) 0), [.t 2], none⟩,
 .one ⟨some 5, .p .move, [.t 7], none⟩])
 (.seq (.block 0 (.seq (.region [.one ⟨some 9, .p (.fieldAddr 0), [.t 3], none⟩,
 .one ⟨some 10, .r .load1, [.t 9], none⟩,
 .one ⟨some 11, .p (.fieldAddr 0), [.t 2], none⟩,
 .one ⟨some 12, .r .load1, [.t 11], none⟩,
 .one ⟨some 13, .p (.indexAddr 1), [.t 12, .c (.int .i64 0)], none⟩,
 .one ⟨some 14, .r .load1, [.t 13], none⟩,
 .one ⟨some 15, .p (.bin .neq), [.t 10, .t 14], none⟩,
 .one ⟨some 16, .p .move, [.t 15], none⟩,
 .grp 16 false [⟨some 17, .p (.fieldAddr 1), [.t 2], none⟩, ⟨some 18, .r .load1, [.t 17], none⟩, ⟨some 19, .p .move, [.t 18], none⟩],
 .grp 19 true [⟨some 20, .p (.fieldAddr 2), [.t 3], none⟩, ⟨some 21, .r .load1, [.t 20], none⟩, ⟨some 22, .p (.un .not), [.t 21], none⟩],
 .grp 16 false [⟨some 23, .p .pick, [.t 19, .t 22, .c (.bool false)], none⟩],
 .one ⟨some 24, .p .pick, [.t 16, .c (.bool true), .t 23], none⟩,
 .one ⟨some 25, .p .move, [.t 24], none⟩,
 .grp 25 false [⟨some 26, .p (.fieldAddr 1), [.t 3], none⟩, ⟨some 27, .r .load1, [.t 26], none⟩, ⟨some 28, .p .move, [.t 5], none⟩, ⟨some 29, .call 66, [.t 27, .t 28], none⟩],
 .one ⟨some 30, .p .pick, [.t 25, .c (.bool true), .t 29], none⟩,
 .one ⟨some 8, .p .move, [.t 30], none⟩])
 (.cond (.t 8)
 (.seq (.region [.one ⟨some 4, .p .move, [.c (.bool false)], none⟩])
 .ret)
 (.seq (.region [.one ⟨some 32, .p (.fieldAddr 3), [.t 2], none⟩,
 .one ⟨some 33, .r .load1, [.t 32], none⟩,
 .one ⟨some 31, .p .move, [.t 33], none⟩])
 (.cond (.t 31)
 (.seq (.region [.one ⟨some 34, .p (.fieldAddr 1), [.t 3], none⟩,
 .one ⟨some 35, .r .load1, [.t 34], none⟩,
 .one ⟨some 36, .p .lenSl, [.t 35], none⟩,
 .one ⟨some 37, .p (.bin .eql), [.t 36, .c (.int .i64 0)], none⟩,
 .one ⟨some 4, .p .move, [.t 37], none⟩])
 .ret)
 (.seq (.region [.one ⟨some 39, .p (.fieldAddr 2), [.t 3], none⟩,
 .one ⟨some 40, .r .load1, [.t 39], none⟩,
 .one ⟨some 41, .p (.fieldAddr 1), [.t 3], none⟩,
 .one ⟨some 42, .r .load1, [.t 41], none⟩,
 .one ⟨some 43, .p .lenSl, [.t 42], none⟩,
 .one ⟨some 44, .p (.bin .gtr), [.t 43, .c (.int .i64 0)], none⟩,
 .one ⟨some 45, .p (.binB true), [.t 40, .t 44], none⟩,
 .one ⟨some 46, .p .move, [.t 45], none⟩,
 .grp 46 false [⟨some 47, .p (.fieldAddr 5), [.t 2], none⟩, ⟨some 48, .r .load1, [.t 47], none⟩, ⟨some 49, .p (.un .not), [.t 48], none⟩, ⟨some 50, .p .move, [.t 49], none⟩],
 .grp 50 true [⟨some 51, .p (.fieldAddr 1), [.t 3], none⟩, ⟨some 52, .r .load1, [.t 51], none⟩, ⟨some 53, .p .lenSl, [.t 52], none⟩, ⟨some 54, .p (.bin .gtr), [.t 53, .c (.int .i64 1)], none⟩],
 .grp 46 false [⟨some 55, .p .pick, [.t 50, .t 54, .c (.bool false)], none⟩],
 .one ⟨some 56, .p .pick, [.t 46, .c (.bool true), .t 55], none⟩,
 .one ⟨some 38, .p .move, [.t 56], none⟩])
 (.cond (.t 38)
 (.seq (.region [.one ⟨some 4, .p .move, [.c (.bool false)], none⟩])
 .ret)
 (.seq (.region [.one ⟨some 58, .p (.fieldAddr 6), [.t 2], none⟩,
 .one ⟨some 59, .r .load1, [.t 58], none⟩,
 .one ⟨some 60, .p .move, [.t 59], none⟩,
 .grp 60 true [⟨some 61, .p (.fieldAddr 2), [.t 3], none⟩, ⟨some 62, .r .load1, [.t 61], none⟩],
 .one ⟨some 63, .p .pick, [.t 60, .t 62, .c (.bool false)], none⟩,
 .one ⟨some 57, .p .move, [.t 63], none⟩])
 (.cond (.t 57)
 (.seq (.region [.one ⟨some 64, .p (.fieldAddr 1), [.t 3], none⟩,
 .one ⟨some 65, .r .load1, [.t 64], none⟩,
 .one ⟨some 66, .p (.indexAddr 1), [.t 65, .c (.int .i64 0)], none⟩,
 .one ⟨some 67, .r .load1, [.t 66], none⟩,
 .one ⟨some 6, .p .move, [.t 67], none⟩])
 (.seq (.region [.one ⟨some 68, .p .move, [.t 6], none⟩,
 .one ⟨some 69, .p (.bin .neq), [.t 68, .c (.string ByteArray.empty)], none⟩,
 .one ⟨some 70, .p .move, [.t 69], none⟩,
 .grp 70 true [⟨some 71, .p .move, [.t 6], none⟩, ⟨some 72, .call 47, [.t 71, .c (.string ⟨#[32]⟩)], none⟩, ⟨some 73, .p .move, [.t 6], none⟩, ⟨some 74, .p (.bin .eql), [.t 72, .t 73], none⟩],
 .one ⟨some 75, .p .pick, [.t 70, .t 74, .c (.bool false)], none⟩,
 .one ⟨some 76, .p .move, [.t 75], none⟩,
 .grp 76 true [⟨some 77, .p .move, [.t 6], none⟩, ⟨some 78, .p .indexStr, [.t 77, .c (.int .i64 0)], none⟩, ⟨some 79, .p (.bin .neq), [.t 78, .c (.int .u8 61)], none⟩],
 .one ⟨some 80, .p .pick, [.t 76, .t 79, .c (.bool false)], none⟩,
 .one ⟨some 81, .p .move, [.t 80], none⟩,
 .grp 81 true [⟨some 82, .p .move, [.t 6], none⟩, ⟨some 83, .call 89, [.t 82, .c (.string ⟨#[10]⟩)], none⟩, ⟨some 84, .p (.un .not), [.t 83], none⟩],
 .one ⟨some 85, .p .pick, [.t 81, .t 84, .c (.bool false)], none⟩,
 .one ⟨some 4, .p .move, [.t 85], none⟩])
 .ret))
 .skip)))))))))
 (.seq (.region [.one ⟨some 4, .p .move, [.c (.bool true)], none⟩])
 .ret))),
 [(4, 0)]⟩

theorem g51_ok : compFn Tryz.prog 51 = some (fromGFn g51) := by kernel_rfl

def g52 : GFn := ⟨11,
 .seq (.region [.one ⟨some 1, .w (.box 7), [.t 0], none⟩,
 .one ⟨some 2, .p .move, [.c (.bool false)], none⟩])
 (.seq (.region [.one ⟨some 3, .p (.fieldAddr 3), [.t 1], none⟩,
 .one ⟨some 4, .r .load1, [.t 3], none⟩,
 .one ⟨some 5, .p (.un .not), [.t 4], none⟩,
 .one ⟨some 6, .p .move, [.t 5], none⟩,
 .grp 6 true [⟨some 7, .p (.fieldAddr 2), [.t 1], none⟩, ⟨some 8, .r .load1, [.t 7], none⟩, ⟨some 9, .p (.un .not), [.t 8], none⟩],
 .one ⟨some 10, .p .pick, [.t 6, .t 9, .c (.bool false)], none⟩,
 .one ⟨some 2, .p .move, [.t 10], none⟩])
 .ret),
 [(2, 0)]⟩

theorem g52_ok : compFn Tryz.prog 52 = some (fromGFn g52) := by kernel_rfl

def g53 : GFn := ⟨21,
 .seq (.region [.one ⟨some 3, .w (.box 1), [.t 1], none⟩,
 .one ⟨some 4, .p .move, [.c (.int .i64 0)], none⟩])
 (.seq (.seq (.region [.one ⟨some 6, .r .load1, [.t 3], none⟩,
 .one ⟨some 7, .p .lenStr, [.t 6], none⟩,
 .one ⟨some 8, .p .move, [.c (.int .i64 0)], none⟩])
 (.block 0 (.loop (.seq (.region [.one ⟨some 9, .p (.bin .lss), [.t 8, .t 7], none⟩])
 (.seq (.cond (.t 9)
 .skip
 (.exit 0))
 (.seq (.block 1 (.seq (.region [.one ⟨some 10, .p .move, [.t 8], none⟩,
 .one ⟨some 5, .p .move, [.t 10], none⟩])
 (.seq (.region [.one ⟨some 11, .r .load1, [.t 3], none⟩,
 .one ⟨some 12, .p .move, [.t 5], none⟩,
 .one ⟨some 13, .p .indexStr, [.t 11, .t 12], none⟩,
 .one ⟨some 14, .p (.bin .geq), [.t 13, .c (.int .u8 128)], none⟩])
 (.cond (.t 14)
 (.seq (.region [.one ⟨some 4, .p .move, [.c (.int .i64 (-1))], none⟩])
 .ret)
 .skip))))
 (.region [.one ⟨some 15, .p (.bin .add), [.t 8, .c (.int .i64 1)], none⟩,
 .one ⟨some 8, .p .move, [.t 15], none⟩])))))))
 (.seq (.region [.one ⟨some 16, .r .load1, [.t 3], none⟩,
 .one ⟨some 17, .call 90, [.t 16], none⟩,
 .one ⟨none, .w (.store 1), [.t 3, .t 17], none⟩])
 (.seq (.region [.one ⟨some 18, .p .move, [.t 0], none⟩,
 .one ⟨some 19, .p (.mkFunc (.func 92) 0), [.t 3], none⟩,
 .one ⟨some 20, .call 91, [.t 18, .t 19], none⟩,
 .one ⟨some 4, .p .move, [.t 20], none⟩])
 .ret))),
 [(4, 0)]⟩

theorem g53_ok : compFn Tryz.prog 53 = some (fromGFn g53) := by kernel_rfl

def g56 : GFn := ⟨77,
 .seq (.region [.one ⟨some 4, .w (.new [.string ByteArray.empty, .int .i64 0, .bool false]), [], none⟩,
 .one ⟨some 5, .p .move, [.c (.int .i64 0)], none⟩])
 (.seq (.block 0 (.loop (.seq (.seq (.region [.one ⟨some 9, .p .move, [.t 1], none⟩,
 .one ⟨some 10, .p .move, [.t 0], none⟩,
 .one ⟨some 11, .p .lenStr, [.t 10], none⟩,
 .one ⟨some 12, .p (.bin .lss), [.t 9, .t 11], none⟩,
 .one ⟨some 13, .p .move, [.t 12], none⟩,
 .grp 13 true [⟨some 14, .p .move, [.t 0], none⟩, ⟨some 15, .p .move, [.t 1], none⟩, ⟨some 16, .p .indexStr, [.t 14, .t 15], none⟩, ⟨some 17, .p (.bin .eql), [.t 16, .c (.int .u8 32)], none⟩],
 .one ⟨some 18, .p .pick, [.t 13, .t 17, .c (.bool false)], none⟩])
 (.cond (.t 18)
 .skip
 (.exit 0)))
 (.block 1 (.region [.one ⟨some 19, .p .move, [.t 1], none⟩,
 .one ⟨some 20, .p (.bin .add), [.t 19, .c (.int .i64 1)], none⟩,
 .one ⟨some 1, .p .move, [.t 20], none⟩])))))
 (.seq (.block 2 (.seq (.region [.one ⟨some 22, .p .move, [.t 1], none⟩,
 .one ⟨some 23, .p .move, [.t 0], none⟩,
 .one ⟨some 24, .p .lenStr, [.t 23], none⟩,
 .one ⟨some 25, .p (.bin .eql), [.t 22, .t 24], none⟩,
 .one ⟨some 21, .p .move, [.t 25], none⟩])
 (.cond (.t 21)
 (.seq (.region [.one ⟨some 26, .p (.build [.string ByteArray.empty, .int .i64 0, .bool false] []), [], none⟩,
 .one ⟨none, .w (.store 3), [.t 4, .t 26], none⟩,
 .one ⟨some 5, .p .move, [.c (.int .i64 0)], none⟩])
 .ret)
 (.seq (.region [.one ⟨some 28, .p .move, [.t 0], none⟩,
 .one ⟨some 29, .p .move, [.t 1], none⟩,
 .one ⟨some 30, .p .indexStr, [.t 28, .t 29], none⟩,
 .one ⟨some 31, .p (.bin .eql), [.t 30, .c (.int .u8 61)], none⟩,
 .one ⟨some 27, .p .move, [.t 31], none⟩])
 (.cond (.t 27)
 (.seq (.region [.one ⟨some 32, .p .move, [.t 1], none⟩,
 .one ⟨some 33, .p (.build [.string ByteArray.empty, .int .i64 0, .bool false] [(0, 1), (1, 1)]), [.c (.string ⟨#[61]⟩), .t 32], none⟩,
 .one ⟨some 34, .p .move, [.t 1], none⟩,
 .one ⟨some 35, .p (.bin .add), [.t 34, .c (.int .i64 1)], none⟩,
 .one ⟨none, .w (.store 3), [.t 4, .t 33], none⟩,
 .one ⟨some 5, .p .move, [.t 35], none⟩])
 .ret)
 (.seq (.region [.one ⟨some 37, .p .move, [.t 0], none⟩,
 .one ⟨some 38, .p .move, [.t 1], none⟩,
 .one ⟨some 39, .p .indexStr, [.t 37, .t 38], none⟩,
 .one ⟨some 40, .p (.bin .eql), [.t 39, .c (.int .u8 34)], none⟩,
 .one ⟨some 36, .p .move, [.t 40], none⟩])
 (.cond (.t 36)
 (.seq (.region [.one ⟨some 42, .p .move, [.t 0], none⟩,
 .one ⟨some 43, .p .move, [.t 1], none⟩,
 .one ⟨some 44, .call 96, [.t 42, .t 43], none⟩,
 .one ⟨some 41, .p .move, [.t 44], none⟩,
 .one ⟨some 45, .p (.extract 0), [.t 41], none⟩,
 .one ⟨some 46, .p (.extract 1), [.t 41], none⟩,
 .one ⟨some 6, .p .move, [.t 45], none⟩,
 .one ⟨some 7, .p .move, [.t 46], none⟩])
 (.seq (.region [.one ⟨some 47, .p .move, [.t 6], none⟩,
 .one ⟨some 48, .p .move, [.t 1], none⟩,
 .one ⟨some 49, .p (.build [.string ByteArray.empty, .int .i64 0, .bool false] [(0, 1), (1, 1), (2, 1)]), [.t 47, .t 48, .c (.bool true)], none⟩,
 .one ⟨some 50, .p .move, [.t 7], none⟩,
 .one ⟨none, .w (.store 3), [.t 4, .t 49], none⟩,
 .one ⟨some 5, .p .move, [.t 50], none⟩])
 .ret))
 .skip)))))))
 (.seq (.region [.one ⟨some 51, .p .move, [.t 1], none⟩,
 .one ⟨some 8, .p .move, [.t 51], none⟩])
 (.seq (.block 3 (.loop (.seq (.seq (.region [.one ⟨some 52, .p .move, [.t 8], none⟩,
 .one ⟨some 53, .p .move, [.t 0], none⟩,
 .one ⟨some 54, .p .lenStr, [.t 53], none⟩,
 .one ⟨some 55, .p (.bin .lss), [.t 52, .t 54], none⟩,
 .one ⟨some 56, .p .move, [.t 55], none⟩,
 .grp 56 true [⟨some 57, .p .move, [.t 0], none⟩, ⟨some 58, .p .move, [.t 8], none⟩, ⟨some 59, .p .indexStr, [.t 57, .t 58], none⟩, ⟨some 60, .p (.bin .neq), [.t 59, .c (.int .u8 32)], none⟩],
 .one ⟨some 61, .p .pick, [.t 56, .t 60, .c (.bool false)], none⟩,
 .one ⟨some 62, .p .move, [.t 61], none⟩,
 .grp 62 true [⟨some 63, .p .move, [.t 0], none⟩, ⟨some 64, .p .move, [.t 8], none⟩, ⟨some 65, .p .indexStr, [.t 63, .t 64], none⟩, ⟨some 66, .p (.bin .neq), [.t 65, .c (.int .u8 61)], none⟩],
 .one ⟨some 67, .p .pick, [.t 62, .t 66, .c (.bool false)], none⟩])
 (.cond (.t 67)
 .skip
 (.exit 3)))
 (.block 4 (.region [.one ⟨some 68, .p .move, [.t 8], none⟩,
 .one ⟨some 69, .p (.bin .add), [.t 68, .c (.int .i64 1)], none⟩,
 .one ⟨some 8, .p .move, [.t 69], none⟩])))))
 (.seq (.region [.one ⟨some 70, .p .move, [.t 0], none⟩,
 .one ⟨some 71, .p .move, [.t 1], none⟩,
 .one ⟨some 72, .p .move, [.t 8], none⟩,
 .one ⟨some 73, .p (.slStr true true), [.t 70, .t 71, .t 72], none⟩,
 .one ⟨some 74, .p .move, [.t 1], none⟩,
 .one ⟨some 75, .p (.build [.string ByteArray.empty, .int .i64 0, .bool false] [(0, 1), (1, 1)]), [.t 73, .t 74], none⟩,
 .one ⟨some 76, .p .move, [.t 8], none⟩,
 .one ⟨none, .w (.store 3), [.t 4, .t 75], none⟩,
 .one ⟨some 5, .p .move, [.t 76], none⟩])
 .ret))))),
 [(4, 5), (5, 0)]⟩

theorem g56_ok : compFn Tryz.prog 56 = some (fromGFn g56) := by kernel_rfl

def g57 : GFn := ⟨108,
 .seq (.region [.one ⟨some 4, .p .move, [.c (.bool false)], none⟩])
 (.seq (.region [.one ⟨some 9, .p .move, [.t 0], none⟩,
 .one ⟨some 10, .p .nilCheck, [.t 9], none⟩,
 .one ⟨some 11, .p (.fieldAddr 0), [.t 10], none⟩,
 .one ⟨some 12, .r .load1, [.t 11], none⟩,
 .one ⟨some 13, .p .move, [.t 1], none⟩,
 .one ⟨some 14, .p (.indexAddr 7), [.t 12, .t 13], none⟩,
 .one ⟨some 15, .r (.loadN 7), [.t 14], none⟩,
 .one ⟨some 5, .w (.new [.slice none 0 0, .bool false, .bool false, .bool false, .bool false, .bool false, .bool false]), [], none⟩,
 .one ⟨none, .w (.store 7), [.t 5, .t 15], none⟩])
 (.seq (.seq (.region [.one ⟨some 16, .p .move, [.t 0], none⟩,
 .one ⟨some 17, .p .nilCheck, [.t 16], none⟩,
 .one ⟨some 18, .p (.fieldAddr 4), [.t 17], none⟩,
 .one ⟨some 19, .r .load1, [.t 18], none⟩,
 .one ⟨some 20, .p .move, [.t 1], none⟩,
 .one ⟨some 21, .p (.indexAddr 1), [.t 19, .t 20], none⟩,
 .one ⟨some 22, .r .load1, [.t 21], none⟩,
 .one ⟨some 23, .p .move, [.t 22], none⟩,
 .grp 23 false [⟨some 24, .p (.fieldAddr 3), [.t 5], none⟩, ⟨some 25, .r .load1, [.t 24], none⟩, ⟨some 26, .p .move, [.t 25], none⟩],
 .grp 26 true [⟨some 27, .p .move, [.t 0], none⟩, ⟨some 28, .p .nilCheck, [.t 27], none⟩, ⟨some 29, .p (.fieldAddr 3), [.t 28], none⟩, ⟨some 30, .r .load1, [.t 29], none⟩, ⟨some 31, .p .move, [.t 1], none⟩, ⟨some 32, .p (.indexAddr 3), [.t 30, .t 31], none⟩, ⟨some 33, .p (.fieldAddr 2), [.t 32], none⟩, ⟨some 34, .r .load1, [.t 33], none⟩],
 .grp 23 false [⟨some 35, .p .pick, [.t 26, .t 34, .c (.bool false)], none⟩],
 .one ⟨some 36, .p .pick, [.t 23, .c (.bool true), .t 35], none⟩])
 (.cond (.t 36)
 (.seq (.region [.one ⟨some 4, .p .move, [.c (.bool false)], none⟩])
 .ret)
 .skip))
 (.seq (.region [.one ⟨some 37, .p .move, [.t 0], none⟩,
 .one ⟨some 38, .p .nilCheck, [.t 37], none⟩,
 .one ⟨some 39, .p (.fieldAddr 4), [.t 38], none⟩,
 .one ⟨some 40, .r .load1, [.t 39], none⟩,
 .one ⟨some 41, .p .move, [.t 1], none⟩,
 .one ⟨some 42, .p (.indexAddr 1), [.t 40, .t 41], none⟩,
 .one ⟨none, .w (.store 1), [.t 42, .c (.bool true)], none⟩])
 (.seq (.seq (.region [.one ⟨some 43, .p (.fieldAddr 3), [.t 5], none⟩,
 .one ⟨some 44, .r .load1, [.t 43], none⟩])
 (.cond (.t 44)
 (.seq (.region [.one ⟨some 45, .p .move, [.t 0], none⟩,
 .one ⟨some 46, .p .nilCheck, [.t 45], none⟩,
 .one ⟨some 47, .p (.fieldAddr 3), [.t 46], none⟩,
 .one ⟨some 48, .r .load1, [.t 47], none⟩,
 .one ⟨some 49, .p .move, [.t 1], none⟩,
 .one ⟨some 50, .p (.indexAddr 3), [.t 48, .t 49], none⟩,
 .one ⟨some 51, .p (.fieldAddr 2), [.t 50], none⟩,
 .one ⟨none, .w (.store 1), [.t 51, .c (.bool true)], none⟩])
 (.seq (.region [.one ⟨some 4, .p .move, [.c (.bool true)], none⟩])
 .ret))
 .skip))
 (.seq (.region [.one ⟨some 52, .p .move, [.t 0], none⟩,
 .one ⟨some 53, .p .move, [.t 0], none⟩,
 .one ⟨some 54, .p .nilCheck, [.t 53], none⟩,
 .one ⟨some 55, .p (.fieldAddr 2), [.t 54], none⟩,
 .one ⟨some 56, .r .load1, [.t 55], none⟩,
 .one ⟨some 57, .call 32, [.t 52, .t 56], none⟩,
 .one ⟨some 6, .p .move, [.t 57], none⟩])
 (.seq (.seq (.region [.one ⟨some 58, .p .move, [.t 6], none⟩,
 .one ⟨some 59, .p .move, [.t 0], none⟩,
 .one ⟨some 60, .p .nilCheck, [.t 59], none⟩,
 .one ⟨some 61, .p (.fieldAddr 1), [.t 60], none⟩,
 .one ⟨some 62, .r .load1, [.t 61], none⟩,
 .one ⟨some 63, .p .lenStr, [.t 62], none⟩,
 .one ⟨some 64, .p (.bin .lss), [.t 58, .t 63], none⟩,
 .one ⟨some 65, .p .move, [.t 64], none⟩,
 .grp 65 true [⟨some 66, .p .move, [.t 0], none⟩, ⟨some 67, .p .nilCheck, [.t 66], none⟩, ⟨some 68, .p (.fieldAddr 1), [.t 67], none⟩, ⟨some 69, .r .load1, [.t 68], none⟩, ⟨some 70, .p .move, [.t 6], none⟩, ⟨some 71, .p .indexStr, [.t 69, .t 70], none⟩, ⟨some 72, .p (.bin .eql), [.t 71, .c (.int .u8 61)], none⟩],
 .one ⟨some 73, .p .pick, [.t 65, .t 72, .c (.bool false)], none⟩])
 (.cond (.t 73)
 (.region [.one ⟨some 74, .p .move, [.t 0], none⟩,
 .one ⟨some 75, .p .move, [.t 6], none⟩,
 .one ⟨some 76, .p (.bin .add), [.t 75, .c (.int .i64 1)], none⟩,
 .one ⟨some 77, .call 32, [.t 74, .t 76], none⟩,
 .one ⟨some 6, .p .move, [.t 77], none⟩])
 .skip))
 (.seq (.seq (.region [.one ⟨some 78, .p (.fieldAddr 6), [.t 5], none⟩,
 .one ⟨some 79, .r .load1, [.t 78], none⟩])
 (.cond (.t 79)
 (.seq (.region [.one ⟨some 80, .p .move, [.t 0], none⟩,
 .one ⟨some 81, .p .move, [.t 1], none⟩,
 .one ⟨some 82, .p .move, [.t 6], none⟩,
 .one ⟨some 83, .call 59, [.t 80, .t 81, .t 82], none⟩,
 .one ⟨some 4, .p .move, [.t 83], none⟩])
 .ret)
 .skip))
 (.seq (.region [.one ⟨some 85, .p .move, [.t 0], none⟩,
 .one ⟨some 86, .p .nilCheck, [.t 85], none⟩,
 .one ⟨some 87, .p (.fieldAddr 1), [.t 86], none⟩,
 .one ⟨some 88, .r .load1, [.t 87], none⟩,
 .one ⟨some 89, .p .move, [.t 6], none⟩,
 .one ⟨some 90, .call 56, [.t 88, .t 89], none⟩,
 .one ⟨some 84, .p .move, [.t 90], none⟩,
 .one ⟨some 91, .p (.extract 0), [.t 84], none⟩,
 .one ⟨some 92, .p (.extract 1), [.t 84], none⟩,
 .one ⟨some 7, .w (.new [.string ByteArray.empty, .int .i64 0, .bool false]), [], none⟩,
 .one ⟨none, .w (.store 3), [.t 7, .t 91], none⟩,
 .one ⟨some 8, .p .move, [.t 92], none⟩])
 (.seq (.seq (.region [.one ⟨some 93, .p .move, [.t 8], none⟩,
 .one ⟨some 94, .p (.bin .leq), [.t 93, .c (.int .i64 0)], none⟩,
 .one ⟨some 95, .p .move, [.t 94], none⟩,
 .grp 95 false [⟨some 96, .r (.loadN 3), [.t 7], none⟩, ⟨some 97, .call 60, [.t 96], none⟩],
 .one ⟨some 98, .p .pick, [.t 95, .c (.bool true), .t 97], none⟩])
 (.cond (.t 98)
 (.seq (.region [.one ⟨some 4, .p .move, [.c (.bool false)], none⟩])
 .ret)
 .skip))
 (.seq (.region [.one ⟨some 99, .p .move, [.t 0], none⟩,
 .one ⟨some 100, .p .move, [.t 8], none⟩,
 .one ⟨some 101, .p .nilCheck, [.t 99], none⟩,
 .one ⟨some 102, .p (.fieldAddr 2), [.t 101], none⟩,
 .one ⟨none, .w (.store 1), [.t 102, .t 100], none⟩])
 (.seq (.region [.one ⟨some 103, .p .move, [.t 0], none⟩,
 .one ⟨some 104, .p .move, [.t 1], none⟩,
 .one ⟨some 105, .p (.fieldAddr 0), [.t 7], none⟩,
 .one ⟨some 106, .r .load1, [.t 105], none⟩,
 .one ⟨some 107, .call 61, [.t 103, .t 104, .t 106], none⟩,
 .one ⟨some 4, .p .move, [.t 107], none⟩])
 .ret))))))))))),
 [(4, 0)]⟩

theorem g57_ok : compFn Tryz.prog 57 = some (fromGFn g57) := by kernel_rfl

def g58 : GFn := ⟨37,
 .seq (.region [.one ⟨some 2, .p .move, [.c (.int .i64 0)], none⟩])
 (.seq (.region [.one ⟨some 3, .p .move, [.c (.int .i64 (-1))], none⟩])
 (.seq (.seq (.region [.one ⟨some 6, .p .move, [.t 0], none⟩,
 .one ⟨some 7, .p .nilCheck, [.t 6], none⟩,
 .one ⟨some 8, .p (.fieldAddr 0), [.t 7], none⟩,
 .one ⟨some 9, .r .load1, [.t 8], none⟩,
 .one ⟨some 10, .p .lenSl, [.t 9], none⟩,
 .one ⟨some 11, .p .move, [.c (.int .i64 0)], none⟩])
 (.block 0 (.loop (.seq (.region [.one ⟨some 12, .p (.bin .lss), [.t 11, .t 10], none⟩])
 (.seq (.cond (.t 12)
 .skip
 (.exit 0))
 (.seq (.block 1 (.seq (.region [.one ⟨some 13, .p .move, [.t 11], none⟩,
 .one ⟨some 14, .p (.indexAddr 7), [.t 9, .t 11], none⟩,
 .one ⟨some 15, .r (.loadN 7), [.t 14], none⟩,
 .one ⟨some 5, .w (.new [.slice none 0 0, .bool false, .bool false, .bool false, .bool false, .bool false, .bool false]), [], none⟩,
 .one ⟨some 4, .p .move, [.t 13], none⟩,
 .one ⟨none, .w (.store 7), [.t 5, .t 15], none⟩])
 (.block 2 (.seq (.region [.one ⟨some 17, .r (.loadN 7), [.t 5], none⟩,
 .one ⟨some 18, .call 52, [.t 17], none⟩,
 .one ⟨some 19, .p (.un .not), [.t 18], none⟩,
 .one ⟨some 16, .p .move, [.t 19], none⟩])
 (.cond (.t 16)
 .skip
 (.seq (.region [.one ⟨some 21, .p (.fieldAddr 5), [.t 5], none⟩,
 .one ⟨some 22, .r .load1, [.t 21], none⟩,
 .one ⟨some 20, .p .move, [.t 22], none⟩])
 (.cond (.t 20)
 (.region [.one ⟨some 23, .p .move, [.t 4], none⟩,
 .one ⟨some 3, .p .move, [.t 23], none⟩])
 (.seq (.region [.one ⟨some 25, .p .move, [.t 0], none⟩,
 .one ⟨some 26, .p .nilCheck, [.t 25], none⟩,
 .one ⟨some 27, .p (.fieldAddr 3), [.t 26], none⟩,
 .one ⟨some 28, .r .load1, [.t 27], none⟩,
 .one ⟨some 29, .p .move, [.t 4], none⟩,
 .one ⟨some 30, .p (.indexAddr 3), [.t 28, .t 29], none⟩,
 .one ⟨some 31, .p (.fieldAddr 2), [.t 30], none⟩,
 .one ⟨some 32, .r .load1, [.t 31], none⟩,
 .one ⟨some 33, .p (.un .not), [.t 32], none⟩,
 .one ⟨some 24, .p .move, [.t 33], none⟩])
 (.cond (.t 24)
 (.seq (.region [.one ⟨some 34, .p .move, [.t 4], none⟩,
 .one ⟨some 2, .p .move, [.t 34], none⟩])
 .ret)
 .skip)))))))))
 (.region [.one ⟨some 35, .p (.bin .add), [.t 11, .c (.int .i64 1)], none⟩,
 .one ⟨some 11, .p .move, [.t 35], none⟩])))))))
 (.seq (.region [.one ⟨some 36, .p .move, [.t 3], none⟩,
 .one ⟨some 2, .p .move, [.t 36], none⟩])
 .ret))),
 [(2, 0)]⟩

theorem g58_ok : compFn Tryz.prog 58 = some (fromGFn g58) := by kernel_rfl

def g59 : GFn := ⟨31,
 .seq (.region [.one ⟨some 6, .p .move, [.c (.bool false)], none⟩])
 (.seq (.region [.one ⟨some 8, .p .move, [.t 0], none⟩,
 .one ⟨some 9, .p .nilCheck, [.t 8], none⟩,
 .one ⟨some 10, .p (.fieldAddr 1), [.t 9], none⟩,
 .one ⟨some 11, .r .load1, [.t 10], none⟩,
 .one ⟨some 12, .p .move, [.t 2], none⟩,
 .one ⟨some 13, .p (.slStr true false), [.t 11, .t 12], none⟩,
 .one ⟨some 14, .call 97, [.t 13, .c (.string ⟨#[32]⟩)], none⟩,
 .one ⟨some 7, .p .move, [.t 14], none⟩])
 (.seq (.region [.one ⟨some 15, .p .move, [.t 0], none⟩,
 .one ⟨some 16, .p .move, [.t 0], none⟩,
 .one ⟨some 17, .p .nilCheck, [.t 16], none⟩,
 .one ⟨some 18, .p (.fieldAddr 1), [.t 17], none⟩,
 .one ⟨some 19, .r .load1, [.t 18], none⟩,
 .one ⟨some 20, .p .lenStr, [.t 19], none⟩,
 .one ⟨some 21, .p .nilCheck, [.t 15], none⟩,
 .one ⟨some 22, .p (.fieldAddr 2), [.t 21], none⟩,
 .one ⟨none, .w (.store 1), [.t 22, .t 20], none⟩])
 (.seq (.region [.one ⟨some 23, .p .move, [.t 7], none⟩,
 .one ⟨some 24, .p (.bin .neq), [.t 23, .c (.string ByteArray.empty)], none⟩,
 .one ⟨some 25, .p .move, [.t 24], none⟩,
 .grp 25 true [⟨some 26, .p .move, [.t 0], none⟩, ⟨some 27, .p .move, [.t 1], none⟩, ⟨some 28, .p .move, [.t 7], none⟩, ⟨some 29, .call 61, [.t 26, .t 27, .t 28], none⟩],
 .one ⟨some 30, .p .pick, [.t 25, .t 29, .c (.bool false)], none⟩,
 .one ⟨some 6, .p .move, [.t 30], none⟩])
 .ret))),
 [(6, 0)]⟩

theorem g59_ok : compFn Tryz.prog 59 = some (fromGFn g59) := by kernel_rfl

def g60 : GFn := ⟨11,
 .seq (.region [.one ⟨some 1, .w (.box 3), [.t 0], none⟩,
 .one ⟨some 2, .p .move, [.c (.bool false)], none⟩])
 (.seq (.region [.one ⟨some 3, .p (.fieldAddr 0), [.t 1], none⟩,
 .one ⟨some 4, .r .load1, [.t 3], none⟩,
 .one ⟨some 5, .p (.bin .eql), [.t 4, .c (.string ⟨#[61]⟩)], none⟩,
 .one ⟨some 6, .p .move, [.t 5], none⟩,
 .grp 6 true [⟨some 7, .p (.fieldAddr 2), [.t 1], none⟩, ⟨some 8, .r .load1, [.t 7], none⟩, ⟨some 9, .p (.un .not), [.t 8], none⟩],
 .one ⟨some 10, .p .pick, [.t 6, .t 9, .c (.bool false)], none⟩,
 .one ⟨some 2, .p .move, [.t 10], none⟩])
 .ret),
 [(2, 0)]⟩

theorem g60_ok : compFn Tryz.prog 60 = some (fromGFn g60) := by kernel_rfl

def g61 : GFn := ⟨66,
 .seq (.region [.one ⟨some 6, .p .move, [.c (.bool false)], none⟩])
 (.seq (.region [.one ⟨some 10, .p .move, [.t 0], none⟩,
 .one ⟨some 11, .p .nilCheck, [.t 10], none⟩,
 .one ⟨some 12, .p (.fieldAddr 0), [.t 11], none⟩,
 .one ⟨some 13, .r .load1, [.t 12], none⟩,
 .one ⟨some 14, .p .move, [.t 1], none⟩,
 .one ⟨some 15, .p (.indexAddr 7), [.t 13, .t 14], none⟩,
 .one ⟨some 16, .r (.loadN 7), [.t 15], none⟩,
 .one ⟨some 7, .w (.new [.slice none 0 0, .bool false, .bool false, .bool false, .bool false, .bool false, .bool false]), [], none⟩,
 .one ⟨none, .w (.store 7), [.t 7, .t 16], none⟩])
 (.seq (.seq (.region [.one ⟨some 17, .p .move, [.t 0], none⟩,
 .one ⟨some 18, .p .nilCheck, [.t 17], none⟩,
 .one ⟨some 19, .p (.fieldAddr 3), [.t 18], none⟩,
 .one ⟨some 20, .r .load1, [.t 19], none⟩,
 .one ⟨some 21, .p .move, [.t 1], none⟩,
 .one ⟨some 22, .p (.indexAddr 3), [.t 20, .t 21], none⟩,
 .one ⟨some 23, .p (.fieldAddr 2), [.t 22], none⟩,
 .one ⟨some 24, .r .load1, [.t 23], none⟩,
 .one ⟨some 25, .p .move, [.t 24], none⟩,
 .grp 25 true [⟨some 26, .p (.fieldAddr 5), [.t 7], none⟩, ⟨some 27, .r .load1, [.t 26], none⟩, ⟨some 28, .p (.un .not), [.t 27], none⟩],
 .one ⟨some 29, .p .pick, [.t 25, .t 28, .c (.bool false)], none⟩])
 (.cond (.t 29)
 (.seq (.region [.one ⟨some 6, .p .move, [.c (.bool false)], none⟩])
 .ret)
 .skip))
 (.seq (.seq (.region [.one ⟨some 31, .p .move, [.t 2], none⟩,
 .one ⟨some 32, .call 24, [.t 31], none⟩,
 .one ⟨some 30, .p .move, [.t 32], none⟩,
 .one ⟨some 33, .p (.extract 0), [.t 30], none⟩,
 .one ⟨some 34, .p (.extract 1), [.t 30], none⟩,
 .one ⟨some 8, .p .move, [.t 33], none⟩,
 .one ⟨some 9, .p .move, [.t 34], none⟩])
 (.seq (.region [.one ⟨some 35, .p (.fieldAddr 4), [.t 7], none⟩,
 .one ⟨some 36, .r .load1, [.t 35], none⟩,
 .one ⟨some 37, .p .move, [.t 36], none⟩,
 .grp 37 true [⟨some 38, .p .move, [.t 9], none⟩, ⟨some 39, .p (.bin .neq), [.t 38, .c (.int .i64 0)], none⟩],
 .one ⟨some 40, .p .pick, [.t 37, .t 39, .c (.bool false)], none⟩])
 (.cond (.t 40)
 (.seq (.region [.one ⟨some 6, .p .move, [.c (.bool false)], none⟩])
 .ret)
 .skip)))
 (.seq (.region [.one ⟨some 41, .p .move, [.t 0], none⟩,
 .one ⟨some 42, .p .nilCheck, [.t 41], none⟩,
 .one ⟨some 43, .p (.fieldAddr 3), [.t 42], none⟩,
 .one ⟨some 44, .r .load1, [.t 43], none⟩,
 .one ⟨some 45, .p .move, [.t 1], none⟩,
 .one ⟨some 46, .p (.indexAddr 3), [.t 44, .t 45], none⟩,
 .one ⟨some 47, .p (.fieldAddr 2), [.t 46], none⟩,
 .one ⟨none, .w (.store 1), [.t 47, .c (.bool true)], none⟩])
 (.seq (.region [.one ⟨some 48, .p .move, [.t 0], none⟩,
 .one ⟨some 49, .p .nilCheck, [.t 48], none⟩,
 .one ⟨some 50, .p (.fieldAddr 3), [.t 49], none⟩,
 .one ⟨some 51, .r .load1, [.t 50], none⟩,
 .one ⟨some 52, .p .move, [.t 1], none⟩,
 .one ⟨some 53, .p .move, [.t 0], none⟩,
 .one ⟨some 54, .p .nilCheck, [.t 53], none⟩,
 .one ⟨some 55, .p (.fieldAddr 3), [.t 54], none⟩,
 .one ⟨some 56, .r .load1, [.t 55], none⟩,
 .one ⟨some 57, .p .move, [.t 1], none⟩,
 .one ⟨some 58, .p (.indexAddr 3), [.t 56, .t 57], none⟩,
 .one ⟨some 59, .p (.fieldAddr 1), [.t 58], none⟩,
 .one ⟨some 60, .r .load1, [.t 59], none⟩,
 .one ⟨some 61, .p .move, [.t 2], none⟩,
 .one ⟨some 62, .w (.sliceLit [.string ByteArray.empty] 1 [(0, 1)]), [.t 61], none⟩,
 .one ⟨none, .r .same1, [.t 51, .t 50], none⟩,
 .one ⟨none, .r .same1, [.t 56, .t 55], none⟩,
 .one ⟨none, .r .same1, [.t 60, .t 59], none⟩,
 .one ⟨some 63, .w (.append 1 16), [.t 60, .t 62], none⟩,
 .one ⟨none, .r .same1, [.t 51, .t 50], none⟩,
 .one ⟨some 64, .p (.indexAddr 3), [.t 51, .t 52], none⟩,
 .one ⟨some 65, .p (.fieldAddr 1), [.t 64], none⟩,
 .one ⟨none, .w (.store 1), [.t 65, .t 63], none⟩])
 (.seq (.region [.one ⟨some 6, .p .move, [.c (.bool true)], none⟩])
 .ret)))))),
 [(6, 0)]⟩

theorem g61_ok : compFn Tryz.prog 61 = some (fromGFn g61) := by kernel_rfl

def g66 : GFn := ⟨9,
 .seq (.region [.one ⟨some 4, .p .move, [.c (.bool false)], none⟩])
 (.seq (.region [.one ⟨some 5, .p .move, [.t 0], none⟩,
 .one ⟨some 6, .p .move, [.t 1], none⟩,
 .one ⟨some 7, .call 101, [.t 5, .t 6], none⟩,
 .one ⟨some 8, .p (.bin .geq), [.t 7, .c (.int .i64 0)], none⟩,
 .one ⟨some 4, .p .move, [.t 8], none⟩])
 .ret),
 [(4, 0)]⟩

theorem g66_ok : compFn Tryz.prog 66 = some (fromGFn g66) := by kernel_rfl

def g67 : GFn := ⟨15,
 .seq (.region [.one ⟨some 2, .p .move, [.c (.bool false)], none⟩])
 (.seq (.region [.one ⟨some 3, .p .move, [.t 0], none⟩,
 .one ⟨some 4, .p (.bin .eql), [.t 3, .c (.string ByteArray.empty)], none⟩,
 .one ⟨some 5, .p .move, [.t 4], none⟩,
 .grp 5 false [⟨some 6, .p .move, [.t 0], none⟩, ⟨some 7, .p .lenStr, [.t 6], none⟩, ⟨some 8, .p (.bin .gtr), [.t 7, .c (.int .i64 16)], none⟩],
 .one ⟨some 9, .p .pick, [.t 5, .c (.bool true), .t 8], none⟩,
 .one ⟨some 10, .p .move, [.t 9], none⟩,
 .grp 10 false [⟨some 11, .p .move, [.t 0], none⟩, ⟨some 12, .call 47, [.t 11, .c (.string ⟨#[97, 98, 99, 100, 101, 102, 103, 104, 105, 106, 107, 108, 109, 110, 111, 112, 113, 114, 115, 116, 117, 118, 119, 120, 121, 122]⟩)], none⟩, ⟨some 13, .p (.bin .neq), [.t 12, .c (.string ByteArray.empty)], none⟩],
 .one ⟨some 14, .p .pick, [.t 10, .c (.bool true), .t 13], none⟩,
 .one ⟨some 2, .p .move, [.t 14], none⟩])
 .ret),
 [(2, 0)]⟩

theorem g67_ok : compFn Tryz.prog 67 = some (fromGFn g67) := by kernel_rfl

def g84 : GFn := ⟨12,
 .seq (.region [.one ⟨some 2, .p .move, [.c (.pointer none)], none⟩])
 (.seq (.seq (.region [.one ⟨some 3, .p .move, [.t 0], none⟩,
 .one ⟨some 4, .p .lenSl, [.t 3], none⟩,
 .one ⟨some 5, .p (.bin .rem), [.t 4, .c (.int .i64 2)], none⟩,
 .one ⟨some 6, .p (.bin .eql), [.t 5, .c (.int .i64 1)], none⟩])
 (.cond (.t 6)
 .bad
 .skip))
 (.seq (.region [.one ⟨some 8, .p .move, [.t 0], none⟩,
 .one ⟨some 9, .w (.append 1 16), [.c (.slice none 0 0), .t 8], none⟩,
 .one ⟨some 10, .p (.build [.int .u32 0, .int .i32 0, .int .u32 0, .nilIface, .slice none 0 0] [(4, 1)]), [.t 9], none⟩,
 .one ⟨some 11, .w (.box 5), [.t 10], none⟩,
 .one ⟨some 2, .p .move, [.t 11], none⟩])
 .ret)),
 [(2, 0)]⟩

theorem g84_ok : compFn Tryz.prog 84 = some (fromGFn g84) := by kernel_rfl

def g85 : GFn := ⟨17,
 .seq (.region [.one ⟨some 4, .p .move, [.c (.string ByteArray.empty)], none⟩])
 (.seq (.region [.one ⟨some 5, .p .move, [.t 0], none⟩,
 .one ⟨some 6, .p .nilCheck, [.t 5], none⟩,
 .one ⟨some 7, .p (.fieldAddr 0), [.t 6], none⟩,
 .one ⟨some 8, .p .move, [.t 0], none⟩,
 .one ⟨some 9, .p (.mkFunc (.func 117) 1), [.t 8], none⟩,
 .one ⟨some 10, .call 116, [.t 7, .t 9], none⟩])
 (.seq (.region [.one ⟨some 11, .p .move, [.t 0], none⟩,
 .one ⟨some 12, .p .nilCheck, [.t 11], none⟩,
 .one ⟨some 13, .p (.fieldAddr 3), [.t 12], none⟩,
 .one ⟨some 14, .r .load1, [.t 13], none⟩,
 .one ⟨some 15, .p .move, [.t 1], none⟩,
 .one ⟨some 16, .invoke "Replace", [.t 14, .t 15], none⟩,
 .one ⟨some 4, .p .move, [.t 16], none⟩])
 .ret)),
 [(4, 0)]⟩

theorem g85_ok : compFn Tryz.prog 85 = some (fromGFn g85) := by kernel_rfl

def g86 : GFn := ⟨21,
 .seq (.region [.one ⟨some 3, .p .move, [.c (.bool false)], none⟩])
 (.seq (.region [.one ⟨some 7, .p .move, [.t 0], none⟩,
 .one ⟨some 8, .call 24, [.t 7], none⟩,
 .one ⟨some 6, .p .move, [.t 8], none⟩,
 .one ⟨some 9, .p (.extract 0), [.t 6], none⟩,
 .one ⟨some 10, .p (.extract 1), [.t 6], none⟩,
 .one ⟨some 4, .p .move, [.t 9], none⟩,
 .one ⟨some 5, .p .move, [.t 10], none⟩])
 (.seq (.region [.one ⟨some 11, .p (.fieldAddr 4), [.t 1], none⟩,
 .one ⟨some 12, .r .load1, [.t 11], none⟩,
 .one ⟨some 13, .p .move, [.t 12], none⟩,
 .grp 13 true [⟨some 14, .p .move, [.t 5], none⟩, ⟨some 15, .p (.bin .neq), [.t 14, .c (.int .i64 0)], none⟩],
 .one ⟨some 16, .p .pick, [.t 13, .t 15, .c (.bool false)], none⟩,
 .one ⟨some 17, .p .move, [.t 16], none⟩,
 .grp 17 false [⟨some 18, .p .move, [.t 0], none⟩, ⟨some 19, .call 87, [.t 18, .c (.func (.func 88) #[] #[])], none⟩],
 .one ⟨some 20, .p .pick, [.t 17, .c (.bool true), .t 19], none⟩,
 .one ⟨some 3, .p .move, [.t 20], none⟩])
 .ret)),
 [(3, 0)]⟩

theorem g86_ok : compFn Tryz.prog 86 = some (fromGFn g86) := by kernel_rfl

def g87 : GFn := ⟨9,
 .seq (.region [.one ⟨some 4, .p .move, [.c (.bool false)], none⟩])
 (.seq (.region [.one ⟨some 5, .p .move, [.t 0], none⟩,
 .one ⟨some 6, .p .move, [.t 1], none⟩,
 .one ⟨some 7, .call 118, [.t 5, .t 6], none⟩,
 .one ⟨some 8, .p (.bin .geq), [.t 7, .c (.int .i64 0)], none⟩,
 .one ⟨some 4, .p .move, [.t 8], none⟩])
 .ret),
 [(4, 0)]⟩

theorem g87_ok : compFn Tryz.prog 87 = some (fromGFn g87) := by kernel_rfl

def g88 : GFn := ⟨13,
 .seq (.region [.one ⟨some 2, .p .move, [.c (.bool false)], none⟩])
 (.seq (.region [.one ⟨some 3, .p .move, [.t 0], none⟩,
 .one ⟨some 4, .p (.bin .neq), [.t 3, .c (.int .i32 10)], none⟩,
 .one ⟨some 5, .p .move, [.t 4], none⟩,
 .grp 5 true [⟨some 6, .p .move, [.t 0], none⟩, ⟨some 7, .p (.bin .lss), [.t 6, .c (.int .i32 32)], none⟩, ⟨some 8, .p .move, [.t 7], none⟩],
 .grp 8 false [⟨some 9, .p .move, [.t 0], none⟩, ⟨some 10, .p (.bin .gtr), [.t 9, .c (.int .i32 126)], none⟩],
 .grp 5 true [⟨some 11, .p .pick, [.t 8, .c (.bool true), .t 10], none⟩],
 .one ⟨some 12, .p .pick, [.t 5, .t 11, .c (.bool false)], none⟩,
 .one ⟨some 2, .p .move, [.t 12], none⟩])
 .ret),
 [(2, 0)]⟩

theorem g88_ok : compFn Tryz.prog 88 = some (fromGFn g88) := by kernel_rfl

def g89 : GFn := ⟨9,
 .seq (.region [.one ⟨some 4, .p .move, [.c (.bool false)], none⟩])
 (.seq (.region [.one ⟨some 5, .p .move, [.t 0], none⟩,
 .one ⟨some 6, .p .move, [.t 1], none⟩,
 .one ⟨some 7, .call 65, [.t 5, .t 6], none⟩,
 .one ⟨some 8, .p (.bin .geq), [.t 7, .c (.int .i64 0)], none⟩,
 .one ⟨some 4, .p .move, [.t 8], none⟩])
 .ret),
 [(4, 0)]⟩

theorem g89_ok : compFn Tryz.prog 89 = some (fromGFn g89) := by kernel_rfl

def g91 : GFn := ⟨19,
 .seq (.region [.one ⟨some 4, .p .move, [.c (.int .i64 0)], none⟩])
 (.seq (.seq (.region [.one ⟨some 6, .p .move, [.t 0], none⟩,
 .one ⟨some 7, .p .lenSl, [.t 6], none⟩,
 .one ⟨some 8, .p .move, [.c (.int .i64 0)], none⟩])
 (.block 0 (.loop (.seq (.region [.one ⟨some 9, .p (.bin .lss), [.t 8, .t 7], none⟩])
 (.seq (.cond (.t 9)
 .skip
 (.exit 0))
 (.seq (.block 1 (.seq (.region [.one ⟨some 10, .p .move, [.t 8], none⟩,
 .one ⟨some 5, .p .move, [.t 10], none⟩])
 (.seq (.region [.one ⟨some 11, .p .move, [.t 1], none⟩,
 .one ⟨some 12, .p .move, [.t 0], none⟩,
 .one ⟨some 13, .p .move, [.t 5], none⟩,
 .one ⟨some 14, .p (.indexAddr 7), [.t 12, .t 13], none⟩,
 .one ⟨some 15, .r (.loadN 7), [.t 14], none⟩,
 .one ⟨some 16, .callV, [.t 11, .t 15], none⟩])
 (.cond (.t 16)
 (.seq (.region [.one ⟨some 17, .p .move, [.t 5], none⟩,
 .one ⟨some 4, .p .move, [.t 17], none⟩])
 .ret)
 .skip))))
 (.region [.one ⟨some 18, .p (.bin .add), [.t 8, .c (.int .i64 1)], none⟩,
 .one ⟨some 8, .p .move, [.t 18], none⟩])))))))
 (.seq (.region [.one ⟨some 4, .p .move, [.c (.int .i64 (-1))], none⟩])
 .ret)),
 [(4, 0)]⟩

theorem g91_ok : compFn Tryz.prog 91 = some (fromGFn g91) := by kernel_rfl

def g92 : GFn := ⟨8,
 .seq (.region [.one ⟨some 2, .w (.box 7), [.t 0], none⟩,
 .one ⟨some 3, .p .move, [.c (.bool false)], none⟩])
 (.seq (.region [.one ⟨some 4, .p (.fieldAddr 0), [.t 2], none⟩,
 .one ⟨some 5, .r .load1, [.t 4], none⟩,
 .one ⟨some 6, .r .load1, [.t 1], none⟩,
 .one ⟨some 7, .call 93, [.t 5, .t 6], none⟩,
 .one ⟨some 3, .p .move, [.t 7], none⟩])
 .ret),
 [(3, 0)]⟩

theorem g92_ok : compFn Tryz.prog 92 = some (fromGFn g92) := by kernel_rfl

def g93 : GFn := ⟨9,
 .seq (.region [.one ⟨some 4, .p .move, [.c (.bool false)], none⟩])
 (.seq (.region [.one ⟨some 5, .p .move, [.t 0], none⟩,
 .one ⟨some 6, .p .move, [.t 1], none⟩,
 .one ⟨some 7, .call 122, [.t 5, .t 6], none⟩,
 .one ⟨some 8, .p (.bin .geq), [.t 7, .c (.int .i64 0)], none⟩,
 .one ⟨some 4, .p .move, [.t 8], none⟩])
 .ret),
 [(4, 0)]⟩

theorem g93_ok : compFn Tryz.prog 93 = some (fromGFn g93) := by kernel_rfl

def g101 : GFn := ⟨19,
 .seq (.region [.one ⟨some 4, .p .move, [.c (.int .i64 0)], none⟩])
 (.seq (.seq (.region [.one ⟨some 6, .p .move, [.t 0], none⟩,
 .one ⟨some 7, .p .lenSl, [.t 6], none⟩,
 .one ⟨some 8, .p .move, [.c (.int .i64 0)], none⟩])
 (.block 0 (.loop (.seq (.region [.one ⟨some 9, .p (.bin .lss), [.t 8, .t 7], none⟩])
 (.seq (.cond (.t 9)
 .skip
 (.exit 0))
 (.seq (.block 1 (.seq (.region [.one ⟨some 10, .p .move, [.t 8], none⟩,
 .one ⟨some 5, .p .move, [.t 10], none⟩])
 (.seq (.region [.one ⟨some 11, .p .move, [.t 1], none⟩,
 .one ⟨some 12, .p .move, [.t 0], none⟩,
 .one ⟨some 13, .p .move, [.t 5], none⟩,
 .one ⟨some 14, .p (.indexAddr 1), [.t 12, .t 13], none⟩,
 .one ⟨some 15, .r .load1, [.t 14], none⟩,
 .one ⟨some 16, .callV, [.t 11, .t 15], none⟩])
 (.cond (.t 16)
 (.seq (.region [.one ⟨some 17, .p .move, [.t 5], none⟩,
 .one ⟨some 4, .p .move, [.t 17], none⟩])
 .ret)
 .skip))))
 (.region [.one ⟨some 18, .p (.bin .add), [.t 8, .c (.int .i64 1)], none⟩,
 .one ⟨some 8, .p .move, [.t 18], none⟩])))))))
 (.seq (.region [.one ⟨some 4, .p .move, [.c (.int .i64 (-1))], none⟩])
 .ret)),
 [(4, 0)]⟩

theorem g101_ok : compFn Tryz.prog 101 = some (fromGFn g101) := by kernel_rfl

def g116 : GFn := ⟨12,
 .seq (.region [.one ⟨some 4, .p .move, [.t 0], none⟩,
 .one ⟨some 5, .p .nilCheck, [.t 4], none⟩,
 .one ⟨some 6, .p (.fieldAddr 0), [.t 5], none⟩,
 .one ⟨some 7, .call 140, [.t 6], none⟩,
 .one ⟨some 8, .p (.un .not), [.t 7], none⟩])
 (.cond (.t 8)
 (.region [.one ⟨some 9, .p .move, [.t 0], none⟩,
 .one ⟨some 10, .p .move, [.t 1], none⟩,
 .one ⟨some 11, .call 141, [.t 9, .t 10], none⟩])
 .skip),
 []⟩

theorem g116_ok : compFn Tryz.prog 116 = some (fromGFn g116) := by kernel_rfl

def g117 : GFn := ⟨10,
 .seq (.region [.one ⟨some 2, .p .move, [.t 0], none⟩,
 .one ⟨some 3, .p .move, [.t 0], none⟩,
 .one ⟨some 4, .call 142, [.t 3], none⟩,
 .one ⟨some 5, .p .nilCheck, [.t 2], none⟩,
 .one ⟨some 6, .p (.fieldAddr 3), [.t 5], none⟩,
 .one ⟨none, .w (.store 1), [.t 6, .t 4], none⟩])
 (.region [.one ⟨some 7, .p .move, [.t 0], none⟩,
 .one ⟨some 8, .p .nilCheck, [.t 7], none⟩,
 .one ⟨some 9, .p (.fieldAddr 4), [.t 8], none⟩,
 .one ⟨none, .w (.store 1), [.t 9, .c (.slice none 0 0)], none⟩]),
 []⟩

theorem g117_ok : compFn Tryz.prog 117 = some (fromGFn g117) := by kernel_rfl

def g118 : GFn := ⟨8,
 .seq (.region [.one ⟨some 4, .p .move, [.c (.int .i64 0)], none⟩])
 (.seq (.region [.one ⟨some 5, .p .move, [.t 0], none⟩,
 .one ⟨some 6, .p .move, [.t 1], none⟩,
 .one ⟨some 7, .call 143, [.t 5, .t 6, .c (.bool true)], none⟩,
 .one ⟨some 4, .p .move, [.t 7], none⟩])
 .ret),
 [(4, 0)]⟩

theorem g118_ok : compFn Tryz.prog 118 = some (fromGFn g118) := by kernel_rfl

def g122 : GFn := ⟨19,
 .seq (.region [.one ⟨some 4, .p .move, [.c (.int .i64 0)], none⟩])
 (.seq (.seq (.region [.one ⟨some 6, .p .move, [.t 0], none⟩,
 .one ⟨some 7, .p .lenSl, [.t 6], none⟩,
 .one ⟨some 8, .p .move, [.c (.int .i64 0)], none⟩])
 (.block 0 (.loop (.seq (.region [.one ⟨some 9, .p (.bin .lss), [.t 8, .t 7], none⟩])
 (.seq (.cond (.t 9)
 .skip
 (.exit 0))
 (.seq (.block 1 (.seq (.region [.one ⟨some 10, .p .move, [.t 8], none⟩,
 .one ⟨some 5, .p .move, [.t 10], none⟩])
 (.seq (.region [.one ⟨some 11, .p .move, [.t 1], none⟩,
 .one ⟨some 12, .p .move, [.t 0], none⟩,
 .one ⟨some 13, .p .move, [.t 5], none⟩,
 .one ⟨some 14, .p (.indexAddr 1), [.t 12, .t 13], none⟩,
 .one ⟨some 15, .r .load1, [.t 14], none⟩,
 .one ⟨some 16, .p (.bin .eql), [.t 11, .t 15], none⟩])
 (.cond (.t 16)
 (.seq (.region [.one ⟨some 17, .p .move, [.t 5], none⟩,
 .one ⟨some 4, .p .move, [.t 17], none⟩])
 .ret)
 .skip))))
 (.region [.one ⟨some 18, .p (.bin .add), [.t 8, .c (.int .i64 1)], none⟩,
 .one ⟨some 8, .p .move, [.t 18], none⟩])))))))
 (.seq (.region [.one ⟨some 4, .p .move, [.c (.int .i64 (-1))], none⟩])
 .ret)),
 [(4, 0)]⟩

theorem g122_ok : compFn Tryz.prog 122 = some (fromGFn g122) := by kernel_rfl

def g141 : GFn := ⟨21,
 .seq (.region [.one ⟨some 4, .p .move, [.t 0], none⟩,
 .one ⟨some 5, .p .nilCheck, [.t 4], none⟩,
 .one ⟨some 6, .p (.fieldAddr 1), [.t 5], none⟩,
 .one ⟨some 7, .call 152, [.t 6], none⟩])
 (.seq (.region [.one ⟨some 8, .p .move, [.t 0], none⟩,
 .one ⟨some 9, .p .nilCheck, [.t 8], none⟩,
 .one ⟨some 10, .p (.fieldAddr 1), [.t 9], none⟩,
 .one ⟨some 21, .p .push, [.t 21, .c (.func (.func 153) #[] #[]), .t 10], none⟩])
 (.seq (.region [.one ⟨some 11, .p .move, [.t 0], none⟩,
 .one ⟨some 12, .p .nilCheck, [.t 11], none⟩,
 .one ⟨some 13, .p (.fieldAddr 0), [.t 12], none⟩,
 .one ⟨some 14, .call 140, [.t 13], none⟩,
 .one ⟨some 15, .p (.un .not), [.t 14], none⟩])
 (.cond (.t 15)
 (.seq (.region [.one ⟨some 16, .p .move, [.t 0], none⟩,
 .one ⟨some 17, .p .nilCheck, [.t 16], none⟩,
 .one ⟨some 18, .p (.fieldAddr 0), [.t 17], none⟩,
 .one ⟨some 21, .p .push, [.t 21, .c (.func (.func 154) #[] #[]), .t 18, .c (.bool true)], none⟩])
 (.region [.one ⟨some 19, .p .move, [.t 1], none⟩,
 .one ⟨some 20, .callV, [.t 19], none⟩]))
 .skip))),
 []⟩

theorem g141_ok : compFn Tryz.prog 141 = some (fromGFn g141) := by kernel_rfl

def g142 : GFn := ⟨132,
 .seq (.region [.one ⟨some 2, .p .move, [.c .nilIface], none⟩])
 (.seq (.region [.one ⟨some 15, .p .move, [.t 0], none⟩,
 .one ⟨some 16, .p .nilCheck, [.t 15], none⟩,
 .one ⟨some 17, .p (.fieldAddr 4), [.t 16], none⟩,
 .one ⟨some 18, .r .load1, [.t 17], none⟩,
 .one ⟨some 3, .p .move, [.t 18], none⟩])
 (.seq (.seq (.region [.one ⟨some 19, .p .move, [.t 3], none⟩,
 .one ⟨some 20, .p .lenSl, [.t 19], none⟩,
 .one ⟨some 21, .p (.bin .eql), [.t 20, .c (.int .i64 2)], none⟩,
 .one ⟨some 22, .p .move, [.t 21], none⟩,
 .grp 22 true [⟨some 23, .p .move, [.t 3], none⟩, ⟨some 24, .p (.indexAddr 1), [.t 23, .c (.int .i64 0)], none⟩, ⟨some 25, .r .load1, [.t 24], none⟩, ⟨some 26, .p .lenStr, [.t 25], none⟩, ⟨some 27, .p (.bin .gtr), [.t 26, .c (.int .i64 1)], none⟩],
 .one ⟨some 28, .p .pick, [.t 22, .t 27, .c (.bool false)], none⟩])
 (.cond (.t 28)
 (.seq (.region [.one ⟨some 29, .p .move, [.t 3], none⟩,
 .one ⟨some 30, .p (.indexAddr 1), [.t 29, .c (.int .i64 0)], none⟩,
 .one ⟨some 31, .r .load1, [.t 30], none⟩,
 .one ⟨some 32, .p .move, [.t 3], none⟩,
 .one ⟨some 33, .p (.indexAddr 1), [.t 32, .c (.int .i64 1)], none⟩,
 .one ⟨some 34, .r .load1, [.t 33], none⟩,
 .one ⟨some 35, .call 155, [.t 31, .t 34], none⟩,
 .one ⟨some 36, .p (.mkIface 202), [.t 35], none⟩,
 .one ⟨some 2, .p .move, [.t 36], none⟩])
 .ret)
 .skip))
 (.seq (.region [.one ⟨some 4, .p .move, [.c (.bool true)], none⟩])
 (.seq (.seq (.region [.one ⟨some 5, .p .move, [.c (.int .i64 0)], none⟩])
 (.block 0 (.loop (.seq (.seq (.region [.one ⟨some 37, .p .move, [.t 5], none⟩,
 .one ⟨some 38, .p .move, [.t 3], none⟩,
 .one ⟨some 39, .p .lenSl, [.t 38], none⟩,
 .one ⟨some 40, .p (.bin .lss), [.t 37, .t 39], none⟩])
 (.cond (.t 40)
 .skip
 (.exit 0)))
 (.seq (.block 1 (.seq (.seq (.region [.one ⟨some 43, .p .move, [.t 3], none⟩,
 .one ⟨some 44, .p .move, [.t 5], none⟩,
 .one ⟨some 45, .p (.indexAddr 1), [.t 43, .t 44], none⟩,
 .one ⟨some 46, .r .load1, [.t 45], none⟩,
 .one ⟨some 47, .p .lenStr, [.t 46], none⟩,
 .one ⟨some 48, .p (.bin .neq), [.t 47, .c (.int .i64 1)], none⟩])
 (.cond (.t 48)
 (.seq (.region [.one ⟨some 49, .p .move, [.t 3], none⟩,
 .one ⟨some 50, .call 156, [.t 49], none⟩,
 .one ⟨some 51, .p (.mkIface 204), [.t 50], none⟩,
 .one ⟨some 2, .p .move, [.t 51], none⟩])
 .ret)
 .skip))
 (.seq (.region [.one ⟨some 52, .p .move, [.t 3], none⟩,
 .one ⟨some 53, .p .move, [.t 5], none⟩,
 .one ⟨some 54, .p (.bin .add), [.t 53, .c (.int .i64 1)], none⟩,
 .one ⟨some 55, .p (.indexAddr 1), [.t 52, .t 54], none⟩,
 .one ⟨some 56, .r .load1, [.t 55], none⟩,
 .one ⟨some 57, .p .lenStr, [.t 56], none⟩,
 .one ⟨some 58, .p (.bin .neq), [.t 57, .c (.int .i64 1)], none⟩])
 (.cond (.t 58)
 (.region [.one ⟨some 4, .p .move, [.c (.bool false)], none⟩])
 .skip))))
 (.region [.one ⟨some 41, .p .move, [.t 5], none⟩,
 .one ⟨some 42, .p (.bin .add), [.t 41, .c (.int .i64 2)], none⟩,
 .one ⟨some 5, .p .move, [.t 42], none⟩]))))))
 (.seq (.seq (.region [.one ⟨some 59, .p .move, [.t 4], none⟩])
 (.cond (.t 59)
 (.seq (.region [.one ⟨some 60, .p (.build (List.replicate 256 (.int .u8 0)) []), [], none⟩,
 .one ⟨some 6, .w (.new (List.replicate 256 (.int .u8 0))), [], none⟩,
 .one ⟨none, .w (.store 256), [.t 6, .t 60], none⟩])
 (.seq (.seq (.region [.one ⟨some 61, .p .move, [.c (.int .i64 0)], none⟩])
 (.block 2 (.loop (.seq (.region [.one ⟨some 62, .p (.bin .lss), [.t 61, .c (.int .i64 256)], none⟩])
 (.seq (.cond (.t 62)
 .skip
 (.exit 2))
 (.seq (.block 3 (.seq (.region [.one ⟨some 63, .p .move, [.t 61], none⟩,
 .one ⟨some 7, .p .move, [.t 63], none⟩])
 (.region [.one ⟨some 64, .p .move, [.t 7], none⟩,
 .one ⟨some 65, .p .move, [.t 7], none⟩,
 .one ⟨some 66, .p (.convInt .u8), [.t 65], none⟩,
 .one ⟨some 67, .p (.indexAddrArr 256 1), [.t 6, .t 64], none⟩,
 .one ⟨none, .w (.store 1), [.t 67, .t 66], none⟩])))
 (.region [.one ⟨some 68, .p (.bin .add), [.t 61, .c (.int .i64 1)], none⟩,
 .one ⟨some 61, .p .move, [.t 68], none⟩])))))))
 (.seq (.seq (.region [.one ⟨some 69, .p .move, [.t 3], none⟩,
 .one ⟨some 70, .p .lenSl, [.t 69], none⟩,
 .one ⟨some 71, .p (.bin .sub), [.t 70, .c (.int .i64 2)], none⟩,
 .one ⟨some 8, .p .move, [.t 71], none⟩])
 (.block 4 (.loop (.seq (.seq (.region [.one ⟨some 72, .p .move, [.t 8], none⟩,
 .one ⟨some 73, .p (.bin .geq), [.t 72, .c (.int .i64 0)], none⟩])
 (.cond (.t 73)
 .skip
 (.exit 4)))
 (.seq (.block 5 (.seq (.region [.one ⟨some 76, .p .move, [.t 3], none⟩,
 .one ⟨some 77, .p .move, [.t 8], none⟩,
 .one ⟨some 78, .p (.indexAddr 1), [.t 76, .t 77], none⟩,
 .one ⟨some 79, .r .load1, [.t 78], none⟩,
 .one ⟨some 80, .p .indexStr, [.t 79, .c (.int .i64 0)], none⟩,
 .one ⟨some 9, .p .move, [.t 80], none⟩])
 (.seq (.region [.one ⟨some 81, .p .move, [.t 3], none⟩,
 .one ⟨some 82, .p .move, [.t 8], none⟩,
 .one ⟨some 83, .p (.bin .add), [.t 82, .c (.int .i64 1)], none⟩,
 .one ⟨some 84, .p (.indexAddr 1), [.t 81, .t 83], none⟩,
 .one ⟨some 85, .r .load1, [.t 84], none⟩,
 .one ⟨some 86, .p .indexStr, [.t 85, .c (.int .i64 0)], none⟩,
 .one ⟨some 10, .p .move, [.t 86], none⟩])
 (.region [.one ⟨some 87, .p .move, [.t 9], none⟩,
 .one ⟨some 88, .p .move, [.t 10], none⟩,
 .one ⟨some 89, .p (.indexAddrArr 256 1), [.t 6, .t 87], none⟩,
 .one ⟨none, .w (.store 1), [.t 89, .t 88], none⟩]))))
 (.region [.one ⟨some 74, .p .move, [.t 8], none⟩,
 .one ⟨some 75, .p (.bin .sub), [.t 74, .c (.int .i64 2)], none⟩,
 .one ⟨some 8, .p .move, [.t 75], none⟩]))))))
 (.seq (.region [.one ⟨some 90, .p (.mkIface 207), [.t 6], none⟩,
 .one ⟨some 2, .p .move, [.t 90], none⟩])
 .ret))))
 .skip))
 (.seq (.region [.one ⟨some 91, .p .move, [.t 3], none⟩,
 .one ⟨some 92, .p .lenSl, [.t 91], none⟩,
 .one ⟨some 93, .p (.bin .quo), [.t 92, .c (.int .i64 2)], none⟩,
 .one ⟨some 94, .w (.mkSlice [.string ByteArray.empty] 16), [.c (.int .i64 0), .t 93], none⟩,
 .one ⟨some 95, .p (.build (List.replicate 257 (.slice none 0 0)) [(256, 1)]), [.t 94], none⟩,
 .one ⟨some 11, .w (.new (List.replicate 257 (.slice none 0 0))), [], none⟩,
 .one ⟨none, .w (.store 257), [.t 11, .t 95], none⟩])
 (.seq (.seq (.region [.one ⟨some 96, .p .move, [.t 3], none⟩,
 .one ⟨some 97, .p .lenSl, [.t 96], none⟩,
 .one ⟨some 98, .p (.bin .sub), [.t 97, .c (.int .i64 2)], none⟩,
 .one ⟨some 12, .p .move, [.t 98], none⟩])
 (.block 6 (.loop (.seq (.seq (.region [.one ⟨some 99, .p .move, [.t 12], none⟩,
 .one ⟨some 100, .p (.bin .geq), [.t 99, .c (.int .i64 0)], none⟩])
 (.cond (.t 100)
 .skip
 (.exit 6)))
 (.seq (.block 7 (.seq (.region [.one ⟨some 103, .p .move, [.t 3], none⟩,
 .one ⟨some 104, .p .move, [.t 12], none⟩,
 .one ⟨some 105, .p (.indexAddr 1), [.t 103, .t 104], none⟩,
 .one ⟨some 106, .r .load1, [.t 105], none⟩,
 .one ⟨some 107, .p .indexStr, [.t 106, .c (.int .i64 0)], none⟩,
 .one ⟨some 13, .p .move, [.t 107], none⟩])
 (.seq (.region [.one ⟨some 108, .p .move, [.t 3], none⟩,
 .one ⟨some 109, .p .move, [.t 12], none⟩,
 .one ⟨some 110, .p (.bin .add), [.t 109, .c (.int .i64 1)], none⟩,
 .one ⟨some 111, .p (.indexAddr 1), [.t 108, .t 110], none⟩,
 .one ⟨some 112, .r .load1, [.t 111], none⟩,
 .one ⟨some 14, .p .move, [.t 112], none⟩])
 (.seq (.seq (.region [.one ⟨some 113, .p .move, [.t 13], none⟩,
 .one ⟨some 114, .p (.fieldAddr 0), [.t 11], none⟩,
 .one ⟨some 115, .p (.indexAddrArr 256 1), [.t 114, .t 113], none⟩,
 .one ⟨some 116, .r .load1, [.t 115], none⟩,
 .one ⟨some 117, .p (.nilEq .slice false), [.t 116, .c (.slice none 0 0)], none⟩])
 (.cond (.t 117)
 (.region [.one ⟨some 118, .p (.fieldAddr 256), [.t 11], none⟩,
 .one ⟨some 119, .r .load1, [.t 118], none⟩,
 .one ⟨some 120, .p .move, [.t 13], none⟩,
 .one ⟨some 121, .w (.sliceLit [.int .u8 0] 1 [(0, 1)]), [.t 120], none⟩,
 .one ⟨some 122, .r .bytesToStr, [.t 121], none⟩,
 .one ⟨some 123, .w (.sliceLit [.string ByteArray.empty] 1 [(0, 1)]), [.t 122], none⟩,
 .one ⟨some 124, .w (.append 1 16), [.t 119, .t 123], none⟩,
 .one ⟨some 125, .p (.fieldAddr 256), [.t 11], none⟩,
 .one ⟨none, .w (.store 1), [.t 125, .t 124], none⟩])
 .skip))
 (.region [.one ⟨some 126, .p .move, [.t 13], none⟩,
 .one ⟨some 127, .p .move, [.t 14], none⟩,
 .one ⟨some 128, .w .strToBytes, [.t 127], none⟩,
 .one ⟨some 129, .p (.fieldAddr 0), [.t 11], none⟩,
 .one ⟨some 130, .p (.indexAddrArr 256 1), [.t 129, .t 126], none⟩,
 .one ⟨none, .w (.store 1), [.t 130, .t 128], none⟩])))))
 (.region [.one ⟨some 101, .p .move, [.t 12], none⟩,
 .one ⟨some 102, .p (.bin .sub), [.t 101, .c (.int .i64 2)], none⟩,
 .one ⟨some 12, .p .move, [.t 102], none⟩]))))))
 (.seq (.region [.one ⟨some 131, .p (.mkIface 211), [.t 11], none⟩,
 .one ⟨some 2, .p .move, [.t 131], none⟩])
 .ret)))))))),
 [(2, 0)]⟩

theorem g142_ok : compFn Tryz.prog 142 = some (fromGFn g142) := by kernel_rfl

def g143 : GFn := ⟨21,
 .seq (.region [.one ⟨some 6, .p .move, [.c (.int .i64 0)], none⟩])
 (.seq (.seq (.region [.one ⟨some 9, .p .move, [.t 0], none⟩,
 .one ⟨some 10, .w (.range true), [.t 9], none⟩])
 (.block 0 (.loop (.seq (.region [.one ⟨some 11, .next true, [.t 10], none⟩,
 .one ⟨some 12, .p (.extract 0), [.t 11], none⟩])
 (.seq (.cond (.t 12)
 .skip
 (.exit 0))
 (.block 1 (.seq (.region [.one ⟨some 13, .p (.extract 1), [.t 11], none⟩,
 .one ⟨some 14, .p (.extract 2), [.t 11], none⟩,
 .one ⟨some 7, .p .move, [.t 13], none⟩,
 .one ⟨some 8, .p .move, [.t 14], none⟩])
 (.seq (.region [.one ⟨some 15, .p .move, [.t 1], none⟩,
 .one ⟨some 16, .p .move, [.t 8], none⟩,
 .one ⟨some 17, .callV, [.t 15, .t 16], none⟩,
 .one ⟨some 18, .p .move, [.t 2], none⟩,
 .one ⟨some 19, .p (.binB false), [.t 17, .t 18], none⟩])
 (.cond (.t 19)
 (.seq (.region [.one ⟨some 20, .p .move, [.t 7], none⟩,
 .one ⟨some 6, .p .move, [.t 20], none⟩])
 .ret)
 .skip)))))))))
 (.seq (.region [.one ⟨some 6, .p .move, [.c (.int .i64 (-1))], none⟩])
 .ret)),
 [(6, 0)]⟩

theorem g143_ok : compFn Tryz.prog 143 = some (fromGFn g143) := by kernel_rfl

def g152 : GFn := ⟨6,
 .region [.one ⟨some 2, .p .move, [.t 0], none⟩,
 .one ⟨some 3, .p .nilCheck, [.t 2], none⟩,
 .one ⟨some 4, .p (.fieldAddr 0), [.t 3], none⟩,
 .one ⟨some 5, .call 160, [.t 4], none⟩],
 []⟩

theorem g152_ok : compFn Tryz.prog 152 = some (fromGFn g152) := by kernel_rfl

def g153 : GFn := ⟨6,
 .region [.one ⟨some 2, .p .move, [.t 0], none⟩,
 .one ⟨some 3, .p .nilCheck, [.t 2], none⟩,
 .one ⟨some 4, .p (.fieldAddr 0), [.t 3], none⟩,
 .one ⟨some 5, .call 161, [.t 4], none⟩],
 []⟩

theorem g153_ok : compFn Tryz.prog 153 = some (fromGFn g153) := by kernel_rfl

def g225 : GFn := ⟨122,
 .seq (.region [.one ⟨some 4, .p .move, [.c (.string ByteArray.empty)], none⟩])
 (.seq (.region [.one ⟨some 16, .p .move, [.t 1], none⟩,
 .one ⟨some 17, .p .lenStr, [.t 16], none⟩,
 .one ⟨some 5, .p .move, [.t 17], none⟩])
 (.seq (.region [.one ⟨some 6, .p .move, [.c (.bool false)], none⟩])
 (.seq (.seq (.region [.one ⟨some 18, .p .move, [.t 0], none⟩,
 .one ⟨some 19, .p .nilCheck, [.t 18], none⟩,
 .one ⟨some 20, .p (.fieldAddr 256), [.t 19], none⟩,
 .one ⟨some 21, .r .load1, [.t 20], none⟩,
 .one ⟨some 22, .p .lenSl, [.t 21], none⟩,
 .one ⟨some 23, .p (.bin .mul), [.t 22, .c (.int .i64 8)], none⟩,
 .one ⟨some 24, .p .move, [.t 1], none⟩,
 .one ⟨some 25, .p .lenStr, [.t 24], none⟩,
 .one ⟨some 26, .p (.bin .leq), [.t 23, .t 25], none⟩])
 (.cond (.t 26)
 (.seq (.region [.one ⟨some 27, .p .move, [.t 0], none⟩,
 .one ⟨some 28, .p .nilCheck, [.t 27], none⟩,
 .one ⟨some 29, .p (.fieldAddr 256), [.t 28], none⟩,
 .one ⟨some 30, .r .load1, [.t 29], none⟩,
 .one ⟨some 31, .p .lenSl, [.t 30], none⟩,
 .one ⟨some 32, .p .move, [.c (.int .i64 0)], none⟩])
 (.block 0 (.loop (.seq (.region [.one ⟨some 33, .p (.bin .lss), [.t 32, .t 31], none⟩])
 (.seq (.cond (.t 33)
 .skip
 (.exit 0))
 (.seq (.block 1 (.seq (.region [.one ⟨some 34, .p (.indexAddr 1), [.t 30, .t 32], none⟩,
 .one ⟨some 35, .r .load1, [.t 34], none⟩,
 .one ⟨some 8, .p .move, [.t 35], none⟩])
 (.seq (.region [.one ⟨some 36, .p .move, [.t 1], none⟩,
 .one ⟨some 37, .p .move, [.t 8], none⟩,
 .one ⟨some 38, .call 99, [.t 36, .t 37], none⟩,
 .one ⟨some 9, .p .move, [.t 38], none⟩])
 (.seq (.region [.one ⟨some 39, .p .move, [.t 9], none⟩,
 .one ⟨some 40, .p (.bin .neq), [.t 39, .c (.int .i64 0)], none⟩])
 (.cond (.t 40)
 (.seq (.region [.one ⟨some 41, .p .move, [.t 5], none⟩,
 .one ⟨some 42, .p .move, [.t 9], none⟩,
 .one ⟨some 43, .p .move, [.t 0], none⟩,
 .one ⟨some 44, .p .move, [.t 8], none⟩,
 .one ⟨some 45, .p .indexStr, [.t 44, .c (.int .i64 0)], none⟩,
 .one ⟨some 46, .p .nilCheck, [.t 43], none⟩,
 .one ⟨some 47, .p (.fieldAddr 0), [.t 46], none⟩,
 .one ⟨some 48, .p (.indexAddrArr 256 1), [.t 47, .t 45], none⟩,
 .one ⟨some 49, .r .load1, [.t 48], none⟩,
 .one ⟨some 50, .p .lenSl, [.t 49], none⟩,
 .one ⟨some 51, .p (.bin .sub), [.t 50, .c (.int .i64 1)], none⟩,
 .one ⟨some 52, .p (.bin .mul), [.t 42, .t 51], none⟩,
 .one ⟨some 53, .p (.bin .add), [.t 41, .t 52], none⟩,
 .one ⟨some 5, .p .move, [.t 53], none⟩])
 (.region [.one ⟨some 6, .p .move, [.c (.bool true)], none⟩]))
 .skip)))))
 (.region [.one ⟨some 54, .p (.bin .add), [.t 32, .c (.int .i64 1)], none⟩,
 .one ⟨some 32, .p .move, [.t 54], none⟩])))))))
 (.seq (.region [.one ⟨some 10, .p .move, [.c (.int .i64 0)], none⟩])
 (.block 2 (.loop (.seq (.seq (.region [.one ⟨some 55, .p .move, [.t 10], none⟩,
 .one ⟨some 56, .p .move, [.t 1], none⟩,
 .one ⟨some 57, .p .lenStr, [.t 56], none⟩,
 .one ⟨some 58, .p (.bin .lss), [.t 55, .t 57], none⟩])
 (.cond (.t 58)
 .skip
 (.exit 2)))
 (.seq (.block 3 (.seq (.region [.one ⟨some 61, .p .move, [.t 1], none⟩,
 .one ⟨some 62, .p .move, [.t 10], none⟩,
 .one ⟨some 63, .p .indexStr, [.t 61, .t 62], none⟩,
 .one ⟨some 11, .p .move, [.t 63], none⟩])
 (.seq (.region [.one ⟨some 64, .p .move, [.t 0], none⟩,
 .one ⟨some 65, .p .move, [.t 11], none⟩,
 .one ⟨some 66, .p .nilCheck, [.t 64], none⟩,
 .one ⟨some 67, .p (.fieldAddr 0), [.t 66], none⟩,
 .one ⟨some 68, .p (.indexAddrArr 256 1), [.t 67, .t 65], none⟩,
 .one ⟨some 69, .r .load1, [.t 68], none⟩,
 .one ⟨some 70, .p (.nilEq .slice true), [.t 69, .c (.slice none 0 0)], none⟩])
 (.cond (.t 70)
 (.seq (.region [.one ⟨some 71, .p .move, [.t 5], none⟩,
 .one ⟨some 72, .p .move, [.t 0], none⟩,
 .one ⟨some 73, .p .move, [.t 11], none⟩,
 .one ⟨some 74, .p .nilCheck, [.t 72], none⟩,
 .one ⟨some 75, .p (.fieldAddr 0), [.t 74], none⟩,
 .one ⟨some 76, .p (.indexAddrArr 256 1), [.t 75, .t 73], none⟩,
 .one ⟨some 77, .r .load1, [.t 76], none⟩,
 .one ⟨some 78, .p .lenSl, [.t 77], none⟩,
 .one ⟨some 79, .p (.bin .sub), [.t 78, .c (.int .i64 1)], none⟩,
 .one ⟨some 80, .p (.bin .add), [.t 71, .t 79], none⟩,
 .one ⟨some 5, .p .move, [.t 80], none⟩])
 (.region [.one ⟨some 6, .p .move, [.c (.bool true)], none⟩]))
 .skip))))
 (.region [.one ⟨some 59, .p .move, [.t 10], none⟩,
 .one ⟨some 60, .p (.bin .add), [.t 59, .c (.int .i64 1)], none⟩,
 .one ⟨some 10, .p .move, [.t 60], none⟩]))))))))
 (.seq (.seq (.region [.one ⟨some 81, .p .move, [.t 6], none⟩,
 .one ⟨some 82, .p (.un .not), [.t 81], none⟩])
 (.cond (.t 82)
 (.seq (.region [.one ⟨some 83, .p .move, [.t 1], none⟩,
 .one ⟨some 4, .p .move, [.t 83], none⟩])
 .ret)
 .skip))
 (.seq (.region [.one ⟨some 84, .p .move, [.t 5], none⟩,
 .one ⟨some 85, .w (.mkSlice [.int .u8 0] 1), [.t 84, .t 84], none⟩,
 .one ⟨some 12, .p .move, [.t 85], none⟩])
 (.seq (.region [.one ⟨some 13, .p .move, [.c (.int .i64 0)], none⟩])
 (.seq (.seq (.region [.one ⟨some 14, .p .move, [.c (.int .i64 0)], none⟩])
 (.block 4 (.loop (.seq (.seq (.region [.one ⟨some 86, .p .move, [.t 14], none⟩,
 .one ⟨some 87, .p .move, [.t 1], none⟩,
 .one ⟨some 88, .p .lenStr, [.t 87], none⟩,
 .one ⟨some 89, .p (.bin .lss), [.t 86, .t 88], none⟩])
 (.cond (.t 89)
 .skip
 (.exit 4)))
 (.seq (.block 5 (.seq (.region [.one ⟨some 92, .p .move, [.t 1], none⟩,
 .one ⟨some 93, .p .move, [.t 14], none⟩,
 .one ⟨some 94, .p .indexStr, [.t 92, .t 93], none⟩,
 .one ⟨some 15, .p .move, [.t 94], none⟩])
 (.seq (.region [.one ⟨some 95, .p .move, [.t 0], none⟩,
 .one ⟨some 96, .p .move, [.t 15], none⟩,
 .one ⟨some 97, .p .nilCheck, [.t 95], none⟩,
 .one ⟨some 98, .p (.fieldAddr 0), [.t 97], none⟩,
 .one ⟨some 99, .p (.indexAddrArr 256 1), [.t 98, .t 96], none⟩,
 .one ⟨some 100, .r .load1, [.t 99], none⟩,
 .one ⟨some 101, .p (.nilEq .slice true), [.t 100, .c (.slice none 0 0)], none⟩])
 (.cond (.t 101)
 (.region [.one ⟨some 102, .p .move, [.t 13], none⟩,
 .one ⟨some 103, .p .move, [.t 12], none⟩,
 .one ⟨some 104, .p .move, [.t 13], none⟩,
 .one ⟨some 105, .r (.sl 1 true false), [.t 103, .t 104], none⟩,
 .one ⟨some 106, .p .move, [.t 0], none⟩,
 .one ⟨some 107, .p .move, [.t 15], none⟩,
 .one ⟨some 108, .p .nilCheck, [.t 106], none⟩,
 .one ⟨some 109, .p (.fieldAddr 0), [.t 108], none⟩,
 .one ⟨some 110, .p (.indexAddrArr 256 1), [.t 109, .t 107], none⟩,
 .one ⟨some 111, .r .load1, [.t 110], none⟩,
 .one ⟨some 112, .w (.copy 1), [.t 105, .t 111], none⟩,
 .one ⟨some 113, .p (.bin .add), [.t 102, .t 112], none⟩,
 .one ⟨some 13, .p .move, [.t 113], none⟩])
 (.seq (.region [.one ⟨some 114, .p .move, [.t 12], none⟩,
 .one ⟨some 115, .p .move, [.t 13], none⟩,
 .one ⟨some 116, .p .move, [.t 15], none⟩,
 .one ⟨some 117, .p (.indexAddr 1), [.t 114, .t 115], none⟩,
 .one ⟨none, .w (.store 1), [.t 117, .t 116], none⟩])
 (.region [.one ⟨some 118, .p .move, [.t 13], none⟩,
 .one ⟨some 119, .p (.bin .add), [.t 118, .c (.int .i64 1)], none⟩,
 .one ⟨some 13, .p .move, [.t 119], none⟩]))))))
 (.region [.one ⟨some 90, .p .move, [.t 14], none⟩,
 .one ⟨some 91, .p (.bin .add), [.t 90, .c (.int .i64 1)], none⟩,
 .one ⟨some 14, .p .move, [.t 91], none⟩]))))))
 (.seq (.region [.one ⟨some 120, .p .move, [.t 12], none⟩,
 .one ⟨some 121, .r .bytesToStr, [.t 120], none⟩,
 .one ⟨some 4, .p .move, [.t 121], none⟩])
 .ret)))))))),
 [(4, 0)]⟩

theorem g225_ok : compFn Tryz.prog 225 = some (fromGFn g225) := by kernel_rfl

/-- the functions whose text is run -/
def tbl : List (Nat × GFn) := [(10, g10), (14, g14), (16, g16), (23, g23), (26, g26), (28, g28), (29, g29), (31, g31), (32, g32), (33, g33), (38, g38), (50, g50), (51, g51), (52, g52), (53, g53), (56, g56), (57, g57), (58, g58), (59, g59), (60, g60), (61, g61), (66, g66), (67, g67), (84, g84), (85, g85), (86, g86), (87, g87), (88, g88), (89, g89), (91, g91), (92, g92), (93, g93), (101, g101), (116, g116), (117, g117), (118, g118), (122, g122), (141, g141), (142, g142), (143, g143), (152, g152), (153, g153), (225, g225)]

abbrev fns : FuncId → Option AFn := lookFn tbl

theorem fns_ok : AllOk Tryz.prog tbl := ⟨g10_ok, g14_ok, g16_ok, g23_ok, g26_ok, g28_ok, g29_ok, g31_ok, g32_ok, g33_ok, g38_ok, g50_ok, g51_ok, g52_ok, g53_ok, g56_ok, g57_ok, g58_ok, g59_ok, g60_ok, g61_ok, g66_ok, g67_ok, g84_ok, g85_ok, g86_ok, g87_ok, g88_ok, g89_ok, g91_ok, g92_ok, g93_ok, g101_ok, g116_ok, g117_ok, g118_ok, g122_ok, g141_ok, g142_ok, g143_ok, g152_ok, g153_ok, g225_ok, trivial⟩

end Go.Proofs.YtdmemibnphcedaaGreatDoor
