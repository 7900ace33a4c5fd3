/-
  The program's functions as texts of the second machine, each as the compiler makes it (checked by the kernel).
-/
import Derived.Test.YtocofoiijfofaaaGreatDoorAmSx
import Derived.Test.YtocofoiijfofaaaGreatDoorProg
namespace Go.Proofs.YtocofoiijfofaaaGreatDoor
open Go.Am

def g3 : GFn := ⟨171,
  .seq (.region [.one ⟨(some 6), .p .move, [.c (.bool false)], none⟩])
  (.seq (.seq (.region [.one ⟨(some 22), .p .move, [.t 0], none⟩,
  .one ⟨(some 23), .p .lenSl, [.t 22], none⟩,
  .one ⟨(some 24), .p (.bin .gtr), [.t 23, .c (.int .i64 20000)], none⟩,
  .one ⟨(some 25), .p .move, [.t 24], none⟩,
  .grp 25 false [⟨(some 26), .p .move, [.t 1], none⟩, ⟨(some 27), .p .lenStr, [.t 26], none⟩, ⟨(some 28), .p (.bin .gtr), [.t 27, .c (.int .i64 100)], none⟩],
  .one ⟨(some 29), .p .pick, [.t 25, .c (.bool true), .t 28], none⟩,
  .one ⟨(some 30), .p .move, [.t 29], none⟩,
  .grp 30 false [⟨(some 31), .p .move, [.t 2], none⟩, ⟨(some 32), .p .lenStr, [.t 31], none⟩, ⟨(some 33), .p (.bin .gtr), [.t 32, .c (.int .i64 100)], none⟩],
  .one ⟨(some 34), .p .pick, [.t 30, .c (.bool true), .t 33], none⟩])
  (.cond (.t 34)
  (.seq (.region [.one ⟨(some 35), .call 6, [], none⟩,
  .one ⟨(some 6), .p .move, [.t 35], none⟩])
  .ret)
  .skip))
  (.seq (.region [.one ⟨(some 36), .call 7, [], none⟩,
  .one ⟨(some 7), .p .move, [.t 36], none⟩])
  (.seq (.region [.one ⟨(some 38), .p .move, [.t 7], none⟩,
  .one ⟨(some 39), .call 8, [.t 38, .c (.string ⟨#[111, 114, 105, 103]⟩), .c (.int .i64 1)], none⟩,
  .one ⟨(some 37), .p .move, [.t 39], none⟩,
  .one ⟨(some 40), .p (.extract 0), [.t 37], none⟩,
  .one ⟨(some 41), .p (.extract 1), [.t 37], none⟩,
  .one ⟨(some 8), .p .move, [.t 40], none⟩,
  .one ⟨(some 9), .p .move, [.t 41], none⟩])
  (.seq (.region [.one ⟨(some 43), .p .move, [.t 7], none⟩,
  .one ⟨(some 44), .p .move, [.t 8], none⟩,
  .one ⟨(some 45), .p .move, [.t 0], none⟩,
  .one ⟨(some 46), .call 9, [.t 43, .t 44, .t 45], none⟩,
  .one ⟨(some 42), .p .move, [.t 46], none⟩,
  .one ⟨(some 47), .p (.extract 0), [.t 42], none⟩,
  .one ⟨(some 48), .p (.extract 1), [.t 42], none⟩,
  .one ⟨(some 10), .p .move, [.t 47], none⟩,
  .one ⟨(some 11), .p .move, [.t 48], none⟩])
  (.seq (.seq (.region [.one ⟨(some 49), .p .move, [.t 9], none⟩,
  .one ⟨(some 50), .p (.bin .neq), [.t 49, .c (.int .i64 0)], none⟩,
  .one ⟨(some 51), .p .move, [.t 50], none⟩,
  .grp 51 false [⟨(some 52), .p .move, [.t 11], none⟩, ⟨(some 53), .p (.bin .neq), [.t 52, .c (.int .i64 0)], none⟩],
  .one ⟨(some 54), .p .pick, [.t 51, .c (.bool true), .t 53], none⟩,
  .one ⟨(some 55), .p .move, [.t 54], none⟩,
  .grp 55 false [⟨(some 56), .p .move, [.t 7], none⟩, ⟨(some 57), .p .move, [.t 8], none⟩, ⟨(some 58), .call 10, [.t 56, .t 57], none⟩, ⟨(some 59), .p (.bin .neq), [.t 58, .c (.int .i64 0)], none⟩],
  .one ⟨(some 60), .p .pick, [.t 55, .c (.bool true), .t 59], none⟩])
  (.cond (.t 60)
  (.seq (.region [.one ⟨(some 6), .p .move, [.c (.bool false)], none⟩])
  .ret)
  .skip))
  (.seq (.region [.one ⟨(some 62), .p .move, [.t 7], none⟩,
  .one ⟨(some 63), .p .move, [.t 1], none⟩,
  .one ⟨(some 64), .call 11, [.t 62, .c (.string ⟨#[111, 114, 105, 103]⟩), .t 63], none⟩,
  .one ⟨(some 61), .p .move, [.t 64], none⟩,
  .one ⟨(some 65), .p (.extract 0), [.t 61], none⟩,
  .one ⟨(some 66), .p (.extract 1), [.t 61], none⟩,
  .one ⟨(some 12), .p .move, [.t 65], none⟩,
  .one ⟨(some 13), .p .move, [.t 66], none⟩])
  (.seq (.region [.one ⟨(some 68), .p .move, [.t 7], none⟩,
  .one ⟨(some 69), .p .move, [.t 1], none⟩,
  .one ⟨(some 70), .call 12, [.t 68, .t 69], none⟩,
  .one ⟨(some 67), .p .move, [.t 70], none⟩,
  .one ⟨(some 71), .p (.extract 0), [.t 67], none⟩,
  .one ⟨(some 72), .p (.extract 1), [.t 67], none⟩,
  .one ⟨(some 14), .p .move, [.t 71], none⟩,
  .one ⟨(some 15), .p .move, [.t 72], none⟩])
  (.seq (.seq (.region [.one ⟨(some 73), .p .move, [.t 13], none⟩,
  .one ⟨(some 74), .p (.bin .neq), [.t 73, .c (.int .i64 0)], none⟩,
  .one ⟨(some 75), .p .move, [.t 74], none⟩,
  .grp 75 false [⟨(some 76), .p .move, [.t 15], none⟩, ⟨(some 77), .p (.bin .neq), [.t 76, .c (.int .i64 0)], none⟩],
  .one ⟨(some 78), .p .pick, [.t 75, .c (.bool true), .t 77], none⟩,
  .one ⟨(some 79), .p .move, [.t 78], none⟩,
  .grp 79 false [⟨(some 80), .p .move, [.t 14], none⟩, ⟨(some 81), .p .lenStr, [.t 80], none⟩, ⟨(some 82), .p (.bin .lss), [.t 81, .c (.int .i64 5)], none⟩],
  .one ⟨(some 83), .p .pick, [.t 79, .c (.bool true), .t 82], none⟩,
  .one ⟨(some 84), .p .move, [.t 83], none⟩,
  .grp 84 false [⟨(some 85), .p .move, [.t 14], none⟩, ⟨(some 86), .p (.slStr false true), [.t 85, .c (.int .i64 4)], none⟩, ⟨(some 87), .p (.bin .neq), [.t 86, .c (.string ⟨#[114, 97, 109, 58]⟩)], none⟩],
  .one ⟨(some 88), .p .pick, [.t 84, .c (.bool true), .t 87], none⟩])
  (.cond (.t 88)
  (.seq (.region [.one ⟨(some 89), .call 6, [], none⟩,
  .one ⟨(some 6), .p .move, [.t 89], none⟩])
  .ret)
  .skip))
  (.seq (.region [.one ⟨(some 91), .p .move, [.t 7], none⟩,
  .one ⟨(some 92), .p .move, [.t 1], none⟩,
  .one ⟨(some 93), .p .move, [.t 2], none⟩,
  .one ⟨(some 94), .call 11, [.t 91, .t 92, .t 93], none⟩,
  .one ⟨(some 90), .p .move, [.t 94], none⟩,
  .one ⟨(some 95), .p (.extract 0), [.t 90], none⟩,
  .one ⟨(some 96), .p (.extract 1), [.t 90], none⟩,
  .one ⟨(some 16), .p .move, [.t 95], none⟩,
  .one ⟨(some 17), .p .move, [.t 96], none⟩])
  (.seq (.region [.one ⟨(some 98), .p .move, [.t 7], none⟩,
  .one ⟨(some 99), .p .move, [.t 2], none⟩,
  .one ⟨(some 100), .call 12, [.t 98, .t 99], none⟩,
  .one ⟨(some 97), .p .move, [.t 100], none⟩,
  .one ⟨(some 101), .p (.extract 0), [.t 97], none⟩,
  .one ⟨(some 102), .p (.extract 1), [.t 97], none⟩,
  .one ⟨(some 18), .p .move, [.t 101], none⟩,
  .one ⟨(some 19), .p .move, [.t 102], none⟩])
  (.seq (.seq (.region [.one ⟨(some 103), .p .move, [.t 17], none⟩,
  .one ⟨(some 104), .p (.bin .neq), [.t 103, .c (.int .i64 0)], none⟩,
  .one ⟨(some 105), .p .move, [.t 104], none⟩,
  .grp 105 false [⟨(some 106), .p .move, [.t 19], none⟩, ⟨(some 107), .p (.bin .neq), [.t 106, .c (.int .i64 0)], none⟩],
  .one ⟨(some 108), .p .pick, [.t 105, .c (.bool true), .t 107], none⟩,
  .one ⟨(some 109), .p .move, [.t 108], none⟩,
  .grp 109 false [⟨(some 110), .p .move, [.t 18], none⟩, ⟨(some 111), .p .lenStr, [.t 110], none⟩, ⟨(some 112), .p (.bin .lss), [.t 111, .c (.int .i64 5)], none⟩],
  .one ⟨(some 113), .p .pick, [.t 109, .c (.bool true), .t 112], none⟩,
  .one ⟨(some 114), .p .move, [.t 113], none⟩,
  .grp 114 false [⟨(some 115), .p .move, [.t 18], none⟩, ⟨(some 116), .p (.slStr false true), [.t 115, .c (.int .i64 4)], none⟩, ⟨(some 117), .p (.bin .neq), [.t 116, .c (.string ⟨#[114, 97, 109, 58]⟩)], none⟩],
  .one ⟨(some 118), .p .pick, [.t 114, .c (.bool true), .t 117], none⟩])
  (.cond (.t 118)
  (.seq (.region [.one ⟨(some 119), .p .move, [.t 12], none⟩,
  .one ⟨(some 120), .p .move, [.t 0], none⟩,
  .one ⟨(some 121), .p .lenSl, [.t 120], none⟩,
  .one ⟨(some 122), .p (.bin .eql), [.t 119, .t 121], none⟩,
  .one ⟨(some 123), .p .move, [.t 122], none⟩,
  .grp 123 true [⟨(some 124), .call 6, [], none⟩],
  .one ⟨(some 125), .p .pick, [.t 123, .t 124, .c (.bool false)], none⟩,
  .one ⟨(some 6), .p .move, [.t 125], none⟩])
  .ret)
  .skip))
  (.seq (.region [.one ⟨(some 126), .p .move, [.t 7], none⟩,
  .one ⟨(some 127), .call 13, [.t 126], none⟩,
  .one ⟨(some 20), .p .move, [.t 127], none⟩])
  (.seq (.seq (.region [.one ⟨(some 21), .p .move, [.c (.int .i64 0)], none⟩])
  (.block 0 (.loop (.seq (.seq (.region [.one ⟨(some 128), .p .move, [.t 21], none⟩,
  .one ⟨(some 129), .p .move, [.t 20], none⟩,
  .one ⟨(some 130), .p .lenSl, [.t 129], none⟩,
  .one ⟨(some 131), .p (.bin .lss), [.t 128, .t 130], none⟩])
  (.cond (.t 131)
  .skip
  (.exit 0)))
  (.seq (.block 1 (.seq (.region [.one ⟨(some 134), .p .move, [.t 20], none⟩,
  .one ⟨(some 135), .p .move, [.t 21], none⟩,
  .one ⟨(some 136), .p (.indexAddr 2), [.t 134, .t 135], none⟩,
  .one ⟨(some 137), .p (.fieldAddr 0), [.t 136], none⟩,
  .one ⟨(some 138), .r .load1, [.t 137], none⟩,
  .one ⟨(some 139), .p .move, [.t 18], none⟩,
  .one ⟨(some 140), .p (.slStr true false), [.t 139, .c (.int .i64 4)], none⟩,
  .one ⟨(some 141), .p (.bin .eql), [.t 138, .t 140], none⟩,
  .one ⟨(some 142), .p .move, [.t 141], none⟩,
  .grp 142 true [⟨(some 143), .p .move, [.t 20], none⟩, ⟨(some 144), .p .move, [.t 21], none⟩, ⟨(some 145), .p (.indexAddr 2), [.t 143, .t 144], none⟩, ⟨(some 146), .p (.fieldAddr 1), [.t 145], none⟩, ⟨(some 147), .r .load1, [.t 146], none⟩, ⟨(some 148), .p .move, [.t 0], none⟩, ⟨(some 149), .call 14, [.t 147, .t 148], none⟩, ⟨(some 150), .p (.un .not), [.t 149], none⟩],
  .one ⟨(some 151), .p .pick, [.t 142, .t 150, .c (.bool false)], none⟩])
  (.cond (.t 151)
  (.seq (.region [.one ⟨(some 6), .p .move, [.c (.bool false)], none⟩])
  .ret)
  .skip)))
  (.region [.one ⟨(some 132), .p .move, [.t 21], none⟩,
  .one ⟨(some 133), .p (.bin .add), [.t 132, .c (.int .i64 1)], none⟩,
  .one ⟨(some 21), .p .move, [.t 133], none⟩]))))))
  (.seq (.region [.one ⟨(some 152), .p .move, [.t 12], none⟩,
  .one ⟨(some 153), .p .move, [.t 0], none⟩,
  .one ⟨(some 154), .p .lenSl, [.t 153], none⟩,
  .one ⟨(some 155), .p (.bin .eql), [.t 152, .t 154], none⟩,
  .one ⟨(some 156), .p .move, [.t 155], none⟩,
  .grp 156 true [⟨(some 157), .p .move, [.t 16], none⟩, ⟨(some 158), .p .move, [.t 0], none⟩, ⟨(some 159), .p .lenSl, [.t 158], none⟩, ⟨(some 160), .p (.bin .eql), [.t 157, .t 159], none⟩],
  .one ⟨(some 161), .p .pick, [.t 156, .t 160, .c (.bool false)], none⟩,
  .one ⟨(some 162), .p .move, [.t 161], none⟩,
  .grp 162 true [⟨(some 163), .p .move, [.t 7], none⟩, ⟨(some 164), .call 15, [.t 163], none⟩, ⟨(some 165), .p .lenSl, [.t 164], none⟩, ⟨(some 166), .p (.bin .eql), [.t 165, .c (.int .i64 0)], none⟩],
  .one ⟨(some 167), .p .pick, [.t 162, .t 166, .c (.bool false)], none⟩,
  .one ⟨(some 168), .p .move, [.t 167], none⟩,
  .grp 168 true [⟨(some 169), .call 6, [], none⟩],
  .one ⟨(some 170), .p .pick, [.t 168, .t 169, .c (.bool false)], none⟩,
  .one ⟨(some 6), .p .move, [.t 170], none⟩])
  .ret)))))))))))))),
  [(6, 0)]⟩

theorem g3_ok : compFn Tryz.prog 3 = some (fromGFn g3) := by kernel_rfl

def g6 : GFn := ⟨23,
  .seq (.region [.one ⟨(some 0), .p .move, [.c (.bool false)], none⟩])
  (.seq (.region [.one ⟨(some 5), .call 7, [], none⟩,
  .one ⟨(some 1), .p .move, [.t 5], none⟩])
  (.seq (.region [.one ⟨(some 6), .p .move, [.t 1], none⟩,
  .one ⟨(some 7), .call 25, [.t 6, .c (.string ⟨#[97]⟩), .c (.string ⟨#[114, 97, 109, 58, 100]⟩)], none⟩,
  .one ⟨(some 2), .p .move, [.t 7], none⟩])
  (.seq (.region [.one ⟨(some 9), .p .move, [.t 1], none⟩,
  .one ⟨(some 10), .call 12, [.t 9, .c (.string ⟨#[97, 58, 120]⟩)], none⟩,
  .one ⟨(some 8), .p .move, [.t 10], none⟩,
  .one ⟨(some 11), .p (.extract 0), [.t 8], none⟩,
  .one ⟨(some 12), .p (.extract 1), [.t 8], none⟩,
  .one ⟨(some 3), .p .move, [.t 11], none⟩,
  .one ⟨(some 4), .p .move, [.t 12], none⟩])
  (.seq (.region [.one ⟨(some 13), .p .move, [.t 2], none⟩,
  .one ⟨(some 14), .p (.bin .eql), [.t 13, .c (.int .i64 0)], none⟩,
  .one ⟨(some 15), .p .move, [.t 14], none⟩,
  .grp 15 true [⟨(some 16), .p .move, [.t 4], none⟩, ⟨(some 17), .p (.bin .eql), [.t 16, .c (.int .i64 0)], none⟩],
  .one ⟨(some 18), .p .pick, [.t 15, .t 17, .c (.bool false)], none⟩,
  .one ⟨(some 19), .p .move, [.t 18], none⟩,
  .grp 19 true [⟨(some 20), .p .move, [.t 3], none⟩, ⟨(some 21), .p (.bin .eql), [.t 20, .c (.string ⟨#[114, 97, 109, 58, 100, 47, 120]⟩)], none⟩],
  .one ⟨(some 22), .p .pick, [.t 19, .t 21, .c (.bool false)], none⟩,
  .one ⟨(some 0), .p .move, [.t 22], none⟩])
  .ret)))),
  [(0, 0)]⟩

theorem g6_ok : compFn Tryz.prog 6 = some (fromGFn g6) := by kernel_rfl

def g7 : GFn := ⟨7,
  .seq (.region [.one ⟨(some 0), .p .move, [.c (.pointer none)], none⟩])
  (.seq (.region [.one ⟨(some 2), .p (.build [.map none, .map none, .map none, .map none, .int .i64 0] []), [], none⟩,
  .one ⟨(some 3), .w (.box 5), [.t 2], none⟩,
  .one ⟨(some 1), .p .move, [.t 3], none⟩])
  (.seq (.region [.one ⟨(some 4), .p .move, [.t 1], none⟩,
  .one ⟨(some 5), .call 28, [.t 4], none⟩])
  (.seq (.region [.one ⟨(some 6), .p .move, [.t 1], none⟩,
  .one ⟨(some 0), .p .move, [.t 6], none⟩])
  .ret))),
  [(0, 0)]⟩

theorem g7_ok : compFn Tryz.prog 7 = some (fromGFn g7) := by kernel_rfl

def g8 : GFn := ⟨83,
  .seq (.region [.one ⟨(some 6), .p .move, [.c (.int .i64 0)], none⟩,
  .one ⟨(some 7), .p .move, [.c (.int .i64 0)], none⟩])
  (.seq (.region [.one ⟨(some 13), .p .move, [.t 0], none⟩,
  .one ⟨(some 14), .p .move, [.t 1], none⟩,
  .one ⟨(some 15), .call 12, [.t 13, .t 14], none⟩,
  .one ⟨(some 12), .p .move, [.t 15], none⟩,
  .one ⟨(some 16), .p (.extract 0), [.t 12], none⟩,
  .one ⟨(some 17), .p (.extract 1), [.t 12], none⟩,
  .one ⟨(some 8), .p .move, [.t 16], none⟩,
  .one ⟨(some 9), .p .move, [.t 17], none⟩])
  (.seq (.seq (.region [.one ⟨(some 18), .p .move, [.t 9], none⟩,
  .one ⟨(some 19), .p (.bin .neq), [.t 18, .c (.int .i64 0)], none⟩])
  (.cond (.t 19)
  (.seq (.region [.one ⟨(some 20), .p .move, [.t 9], none⟩,
  .one ⟨(some 6), .p .move, [.c (.int .i64 0)], none⟩,
  .one ⟨(some 7), .p .move, [.t 20], none⟩])
  .ret)
  .skip))
  (.seq (.block 0 (.seq (.region [.one ⟨(some 22), .p .move, [.t 8], none⟩,
  .one ⟨(some 23), .p (.bin .eql), [.t 22, .c (.string ⟨#[114, 97, 109, 58]⟩)], none⟩,
  .one ⟨(some 21), .p .move, [.t 23], none⟩])
  (.cond (.t 21)
  (.seq (.region [.one ⟨(some 6), .p .move, [.c (.int .i64 0)], none⟩,
  .one ⟨(some 7), .p .move, [.c (.int .i64 220)], none⟩])
  .ret)
  (.seq (.region [.one ⟨(some 25), .p .move, [.t 2], none⟩,
  .one ⟨(some 26), .p (.bin .lss), [.t 25, .c (.int .i64 0)], none⟩,
  .one ⟨(some 27), .p .move, [.t 26], none⟩,
  .grp 27 false [⟨(some 28), .p .move, [.t 2], none⟩, ⟨(some 29), .p (.bin .gtr), [.t 28, .c (.int .i64 2)], none⟩],
  .one ⟨(some 30), .p .pick, [.t 27, .c (.bool true), .t 29], none⟩,
  .one ⟨(some 24), .p .move, [.t 30], none⟩])
  (.cond (.t 24)
  (.seq (.region [.one ⟨(some 6), .p .move, [.c (.int .i64 0)], none⟩,
  .one ⟨(some 7), .p .move, [.c (.int .i64 1)], none⟩])
  .ret)
  (.seq (.region [.one ⟨(some 32), .p .move, [.t 2], none⟩,
  .one ⟨(some 33), .p (.bin .eql), [.t 32, .c (.int .i64 2)], none⟩,
  .one ⟨(some 34), .p .move, [.t 33], none⟩,
  .grp 34 true [⟨(some 35), .p .move, [.t 8], none⟩, ⟨(some 36), .call 29, [.t 35, .c (.string ⟨#[112, 105, 112, 101, 58]⟩)], none⟩],
  .one ⟨(some 37), .p .pick, [.t 34, .t 36, .c (.bool false)], none⟩,
  .one ⟨(some 31), .p .move, [.t 37], none⟩])
  (.cond (.t 31)
  (.seq (.region [.one ⟨(some 6), .p .move, [.c (.int .i64 0)], none⟩,
  .one ⟨(some 7), .p .move, [.c (.int .i64 221)], none⟩])
  .ret)
  .skip)))))))
  (.seq (.region [.one ⟨(some 38), .p .move, [.t 0], none⟩,
  .one ⟨(some 39), .call 28, [.t 38], none⟩])
  (.seq (.seq (.region [.one ⟨(some 40), .p .move, [.t 0], none⟩,
  .one ⟨(some 41), .p .nilCheck, [.t 40], none⟩,
  .one ⟨(some 42), .p (.fieldAddr 3), [.t 41], none⟩,
  .one ⟨(some 43), .r .load1, [.t 42], none⟩,
  .one ⟨(some 44), .r .lenMap, [.t 43], none⟩,
  .one ⟨(some 45), .p (.bin .eql), [.t 44, .c (.int .i64 20)], none⟩])
  (.cond (.t 45)
  (.seq (.seq (.region [.one ⟨(some 46), .p .move, [.t 0], none⟩,
  .one ⟨(some 47), .p .move, [.t 8], none⟩,
  .one ⟨(some 48), .p .move, [.t 2], none⟩,
  .one ⟨(some 49), .call 30, [.t 46, .t 47, .t 48], none⟩,
  .one ⟨(some 10), .p .move, [.t 49], none⟩])
  (.seq (.region [.one ⟨(some 50), .p .move, [.t 10], none⟩,
  .one ⟨(some 51), .p (.bin .neq), [.t 50, .c (.int .i64 0)], none⟩])
  (.cond (.t 51)
  (.seq (.region [.one ⟨(some 52), .p .move, [.t 10], none⟩,
  .one ⟨(some 6), .p .move, [.c (.int .i64 0)], none⟩,
  .one ⟨(some 7), .p .move, [.t 52], none⟩])
  .ret)
  .skip)))
  (.seq (.region [.one ⟨(some 6), .p .move, [.c (.int .i64 0)], none⟩,
  .one ⟨(some 7), .p .move, [.c (.int .i64 2)], none⟩])
  .ret))
  .skip))
  (.seq (.region [.one ⟨(some 54), .p .move, [.t 0], none⟩,
  .one ⟨(some 55), .p .move, [.t 8], none⟩,
  .one ⟨(some 56), .p .move, [.t 2], none⟩,
  .one ⟨(some 57), .call 31, [.t 54, .t 55, .t 56], none⟩,
  .one ⟨(some 53), .p .move, [.t 57], none⟩,
  .one ⟨(some 58), .p (.extract 0), [.t 53], none⟩,
  .one ⟨(some 59), .p (.extract 1), [.t 53], none⟩,
  .one ⟨(some 11), .p .move, [.t 58], none⟩,
  .one ⟨(some 9), .p .move, [.t 59], none⟩])
  (.seq (.seq (.region [.one ⟨(some 60), .p .move, [.t 9], none⟩,
  .one ⟨(some 61), .p (.bin .neq), [.t 60, .c (.int .i64 0)], none⟩])
  (.cond (.t 61)
  (.seq (.region [.one ⟨(some 62), .p .move, [.t 9], none⟩,
  .one ⟨(some 6), .p .move, [.c (.int .i64 0)], none⟩,
  .one ⟨(some 7), .p .move, [.t 62], none⟩])
  .ret)
  .skip))
  (.seq (.region [.one ⟨(some 63), .p .move, [.t 0], none⟩,
  .one ⟨(some 64), .p .nilCheck, [.t 63], none⟩,
  .one ⟨(some 65), .p (.fieldAddr 4), [.t 64], none⟩,
  .one ⟨(some 66), .r .load1, [.t 65], none⟩,
  .one ⟨(some 67), .p (.bin .add), [.t 66, .c (.int .i64 1)], none⟩,
  .one ⟨(some 68), .p .nilCheck, [.t 63], none⟩,
  .one ⟨(some 69), .p (.fieldAddr 4), [.t 68], none⟩,
  .one ⟨none, .w (.store 1), [.t 69, .t 67], none⟩])
  (.seq (.region [.one ⟨(some 70), .p .move, [.t 0], none⟩,
  .one ⟨(some 71), .p .nilCheck, [.t 70], none⟩,
  .one ⟨(some 72), .p (.fieldAddr 3), [.t 71], none⟩,
  .one ⟨(some 73), .r .load1, [.t 72], none⟩,
  .one ⟨(some 74), .p .move, [.t 0], none⟩,
  .one ⟨(some 75), .p .nilCheck, [.t 74], none⟩,
  .one ⟨(some 76), .p (.fieldAddr 4), [.t 75], none⟩,
  .one ⟨(some 77), .r .load1, [.t 76], none⟩,
  .one ⟨(some 78), .p .move, [.t 11], none⟩,
  .one ⟨none, .w (.mapSet .int), [.t 73, .t 77, .t 78], none⟩])
  (.seq (.region [.one ⟨(some 79), .p .move, [.t 0], none⟩,
  .one ⟨(some 80), .p .nilCheck, [.t 79], none⟩,
  .one ⟨(some 81), .p (.fieldAddr 4), [.t 80], none⟩,
  .one ⟨(some 82), .r .load1, [.t 81], none⟩,
  .one ⟨(some 6), .p .move, [.t 82], none⟩,
  .one ⟨(some 7), .p .move, [.c (.int .i64 0)], none⟩])
  .ret)))))))))),
  [(6, 0), (7, 0)]⟩

theorem g8_ok : compFn Tryz.prog 8 = some (fromGFn g8) := by kernel_rfl

def g9 : GFn := ⟨118,
  .seq (.region [.one ⟨(some 6), .p .move, [.c (.int .i64 0)], none⟩,
  .one ⟨(some 7), .p .move, [.c (.int .i64 0)], none⟩])
  (.seq (.seq (.region [.one ⟨(some 15), .p .move, [.t 0], none⟩,
  .one ⟨(some 16), .p (.nilEq .ptr false), [.t 15, .c (.pointer none)], none⟩])
  (.cond (.t 16)
  (.seq (.region [.one ⟨(some 6), .p .move, [.c (.int .i64 0)], none⟩,
  .one ⟨(some 7), .p .move, [.c (.int .i64 3)], none⟩])
  .ret)
  .skip))
  (.seq (.region [.one ⟨(some 18), .p .move, [.t 0], none⟩,
  .one ⟨(some 19), .p .nilCheck, [.t 18], none⟩,
  .one ⟨(some 20), .p (.fieldAddr 3), [.t 19], none⟩,
  .one ⟨(some 21), .r .load1, [.t 20], none⟩,
  .one ⟨(some 22), .p .move, [.t 1], none⟩,
  .one ⟨(some 23), .r (.lookup .int .nilIface true), [.t 21, .t 22], none⟩,
  .one ⟨(some 17), .p .move, [.t 23], none⟩,
  .one ⟨(some 24), .p (.extract 0), [.t 17], none⟩,
  .one ⟨(some 25), .p (.extract 1), [.t 17], none⟩,
  .one ⟨(some 8), .p .move, [.t 24], none⟩,
  .one ⟨(some 9), .p .move, [.t 25], none⟩])
  (.seq (.seq (.region [.one ⟨(some 26), .p .move, [.t 9], none⟩,
  .one ⟨(some 27), .p (.un .not), [.t 26], none⟩])
  (.cond (.t 27)
  (.seq (.region [.one ⟨(some 6), .p .move, [.c (.int .i64 0)], none⟩,
  .one ⟨(some 7), .p .move, [.c (.int .i64 4)], none⟩])
  .ret)
  .skip))
  (.seq (.seq (.region [.one ⟨(some 29), .p .move, [.t 8], none⟩,
  .one ⟨(some 30), .p (.assertT 76 (.pointer none) true), [.t 29], none⟩,
  .one ⟨(some 28), .p .move, [.t 30], none⟩,
  .one ⟨(some 31), .p (.extract 0), [.t 28], none⟩,
  .one ⟨(some 32), .p (.extract 1), [.t 28], none⟩,
  .one ⟨(some 10), .p .move, [.t 31], none⟩,
  .one ⟨(some 11), .p .move, [.t 32], none⟩])
  (.seq (.region [.one ⟨(some 33), .p .move, [.t 11], none⟩])
  (.cond (.t 33)
  (.seq (.seq (.region [.one ⟨(some 34), .p .move, [.t 2], none⟩,
  .one ⟨(some 35), .p .lenSl, [.t 34], none⟩,
  .one ⟨(some 36), .p .move, [.t 10], none⟩,
  .one ⟨(some 37), .p .nilCheck, [.t 36], none⟩,
  .one ⟨(some 38), .p (.fieldAddr 1), [.t 37], none⟩,
  .one ⟨(some 39), .p (.fieldAddr 0), [.t 38], none⟩,
  .one ⟨(some 40), .r .load1, [.t 39], none⟩,
  .one ⟨(some 41), .p .lenSl, [.t 40], none⟩,
  .one ⟨(some 42), .p (.bin .sub), [.c (.int .i64 20000), .t 41], none⟩,
  .one ⟨(some 43), .p (.bin .gtr), [.t 35, .t 42], none⟩])
  (.cond (.t 43)
  (.seq (.region [.one ⟨(some 6), .p .move, [.c (.int .i64 0)], none⟩,
  .one ⟨(some 7), .p .move, [.c (.int .i64 2)], none⟩])
  .ret)
  .skip))
  (.seq (.region [.one ⟨(some 44), .p .move, [.t 10], none⟩,
  .one ⟨(some 45), .p .nilCheck, [.t 44], none⟩,
  .one ⟨(some 46), .p (.fieldAddr 1), [.t 45], none⟩,
  .one ⟨(some 47), .p .move, [.t 2], none⟩,
  .one ⟨(some 48), .call 32, [.t 46, .t 47], none⟩,
  .one ⟨(some 6), .p .move, [.t 48], none⟩,
  .one ⟨(some 7), .p .move, [.c (.int .i64 0)], none⟩])
  .ret))
  .skip)))
  (.seq (.seq (.region [.one ⟨(some 50), .p .move, [.t 8], none⟩,
  .one ⟨(some 51), .p (.assertT 84 (.agg #[.bool false]) true), [.t 50], none⟩,
  .one ⟨(some 49), .p .move, [.t 51], none⟩,
  .one ⟨(some 52), .p (.extract 0), [.t 49], none⟩,
  .one ⟨(some 53), .p (.extract 1), [.t 49], none⟩,
  .one ⟨(some 12), .w (.new [.bool false]), [], none⟩,
  .one ⟨none, .w (.store 1), [.t 12, .t 52], none⟩,
  .one ⟨(some 13), .p .move, [.t 53], none⟩])
  (.seq (.region [.one ⟨(some 54), .p .move, [.t 13], none⟩,
  .one ⟨(some 55), .p .move, [.t 54], none⟩,
  .grp 55 true [⟨(some 56), .p (.fieldAddr 0), [.t 12], none⟩, ⟨(some 57), .r .load1, [.t 56], none⟩, ⟨(some 58), .p (.un .not), [.t 57], none⟩],
  .one ⟨(some 59), .p .pick, [.t 55, .t 58, .c (.bool false)], none⟩])
  (.cond (.t 59)
  (.seq (.region [.one ⟨(some 60), .p .move, [.t 2], none⟩,
  .one ⟨(some 61), .p .lenSl, [.t 60], none⟩,
  .one ⟨(some 6), .p .move, [.t 61], none⟩,
  .one ⟨(some 7), .p .move, [.c (.int .i64 0)], none⟩])
  .ret)
  .skip)))
  (.seq (.region [.one ⟨(some 63), .p .move, [.t 8], none⟩,
  .one ⟨(some 64), .p (.assertT 86 (.pointer none) true), [.t 63], none⟩,
  .one ⟨(some 62), .p .move, [.t 64], none⟩,
  .one ⟨(some 65), .p (.extract 0), [.t 62], none⟩,
  .one ⟨(some 66), .p (.extract 1), [.t 62], none⟩,
  .one ⟨(some 14), .p .move, [.t 65], none⟩,
  .one ⟨(some 9), .p .move, [.t 66], none⟩])
  (.seq (.block 0 (.seq (.region [.one ⟨(some 68), .p .move, [.t 9], none⟩,
  .one ⟨(some 69), .p (.un .not), [.t 68], none⟩,
  .one ⟨(some 70), .p .move, [.t 69], none⟩,
  .grp 70 false [⟨(some 71), .p .move, [.t 14], none⟩, ⟨(some 72), .p .nilCheck, [.t 71], none⟩, ⟨(some 73), .p (.fieldAddr 2), [.t 72], none⟩, ⟨(some 74), .r .load1, [.t 73], none⟩],
  .one ⟨(some 75), .p .pick, [.t 70, .c (.bool true), .t 74], none⟩,
  .one ⟨(some 67), .p .move, [.t 75], none⟩])
  (.cond (.t 67)
  (.seq (.region [.one ⟨(some 6), .p .move, [.c (.int .i64 0)], none⟩,
  .one ⟨(some 7), .p .move, [.c (.int .i64 221)], none⟩])
  .ret)
  (.seq (.region [.one ⟨(some 77), .p .move, [.t 14], none⟩,
  .one ⟨(some 78), .p .nilCheck, [.t 77], none⟩,
  .one ⟨(some 79), .p (.fieldAddr 1), [.t 78], none⟩,
  .one ⟨(some 80), .r .load1, [.t 79], none⟩,
  .one ⟨(some 81), .p .nilCheck, [.t 80], none⟩,
  .one ⟨(some 82), .p (.fieldAddr 4), [.t 81], none⟩,
  .one ⟨(some 83), .r .load1, [.t 82], none⟩,
  .one ⟨(some 84), .p .move, [.t 83], none⟩,
  .grp 84 true [⟨(some 85), .p .move, [.t 14], none⟩, ⟨(some 86), .p .nilCheck, [.t 85], none⟩, ⟨(some 87), .p (.fieldAddr 1), [.t 86], none⟩, ⟨(some 88), .r .load1, [.t 87], none⟩, ⟨(some 89), .p .nilCheck, [.t 88], none⟩, ⟨(some 90), .p (.fieldAddr 5), [.t 89], none⟩, ⟨(some 91), .r .load1, [.t 90], none⟩, ⟨(some 92), .p (.un .not), [.t 91], none⟩],
  .one ⟨(some 93), .p .pick, [.t 84, .t 92, .c (.bool false)], none⟩,
  .one ⟨(some 76), .p .move, [.t 93], none⟩])
  (.cond (.t 76)
  (.seq (.region [.one ⟨(some 6), .p .move, [.c (.int .i64 0)], none⟩,
  .one ⟨(some 7), .p .move, [.c (.int .i64 240)], none⟩])
  .ret)
  (.seq (.region [.one ⟨(some 95), .p .move, [.t 2], none⟩,
  .one ⟨(some 96), .p .lenSl, [.t 95], none⟩,
  .one ⟨(some 97), .p (.bin .gtr), [.t 96, .c (.int .i64 0)], none⟩,
  .one ⟨(some 98), .p .move, [.t 97], none⟩,
  .grp 98 true [⟨(some 99), .p .move, [.t 14], none⟩, ⟨(some 100), .p .nilCheck, [.t 99], none⟩, ⟨(some 101), .p (.fieldAddr 1), [.t 100], none⟩, ⟨(some 102), .r .load1, [.t 101], none⟩, ⟨(some 103), .p .nilCheck, [.t 102], none⟩, ⟨(some 104), .p (.fieldAddr 0), [.t 103], none⟩, ⟨(some 105), .p (.fieldAddr 0), [.t 104], none⟩, ⟨(some 106), .r .load1, [.t 105], none⟩, ⟨(some 107), .p .lenSl, [.t 106], none⟩, ⟨(some 108), .p (.bin .eql), [.t 107, .c (.int .i64 64)], none⟩],
  .one ⟨(some 109), .p .pick, [.t 98, .t 108, .c (.bool false)], none⟩,
  .one ⟨(some 94), .p .move, [.t 109], none⟩])
  (.cond (.t 94)
  (.seq (.region [.one ⟨(some 6), .p .move, [.c (.int .i64 0)], none⟩,
  .one ⟨(some 7), .p .move, [.c (.int .i64 5)], none⟩])
  .ret)
  .skip)))))))
  (.seq (.region [.one ⟨(some 110), .p .move, [.t 14], none⟩,
  .one ⟨(some 111), .p .nilCheck, [.t 110], none⟩,
  .one ⟨(some 112), .p (.fieldAddr 1), [.t 111], none⟩,
  .one ⟨(some 113), .r .load1, [.t 112], none⟩,
  .one ⟨(some 114), .p .nilCheck, [.t 113], none⟩,
  .one ⟨(some 115), .p (.fieldAddr 0), [.t 114], none⟩,
  .one ⟨(some 116), .p .move, [.t 2], none⟩,
  .one ⟨(some 117), .call 32, [.t 115, .t 116], none⟩,
  .one ⟨(some 6), .p .move, [.t 117], none⟩,
  .one ⟨(some 7), .p .move, [.c (.int .i64 0)], none⟩])
  .ret)))))))),
  [(6, 0), (7, 0)]⟩

theorem g9_ok : compFn Tryz.prog 9 = some (fromGFn g9) := by kernel_rfl

def g10 : GFn := ⟨28,
  .seq (.region [.one ⟨(some 4), .p .move, [.c (.int .i64 0)], none⟩])
  (.seq (.seq (.region [.one ⟨(some 7), .p .move, [.t 0], none⟩,
  .one ⟨(some 8), .p (.nilEq .ptr false), [.t 7, .c (.pointer none)], none⟩])
  (.cond (.t 8)
  (.seq (.region [.one ⟨(some 4), .p .move, [.c (.int .i64 3)], none⟩])
  .ret)
  .skip))
  (.seq (.region [.one ⟨(some 10), .p .move, [.t 0], none⟩,
  .one ⟨(some 11), .p .nilCheck, [.t 10], none⟩,
  .one ⟨(some 12), .p (.fieldAddr 3), [.t 11], none⟩,
  .one ⟨(some 13), .r .load1, [.t 12], none⟩,
  .one ⟨(some 14), .p .move, [.t 1], none⟩,
  .one ⟨(some 15), .r (.lookup .int .nilIface true), [.t 13, .t 14], none⟩,
  .one ⟨(some 9), .p .move, [.t 15], none⟩,
  .one ⟨(some 16), .p (.extract 0), [.t 9], none⟩,
  .one ⟨(some 17), .p (.extract 1), [.t 9], none⟩,
  .one ⟨(some 5), .p .move, [.t 16], none⟩,
  .one ⟨(some 6), .p .move, [.t 17], none⟩])
  (.seq (.seq (.region [.one ⟨(some 18), .p .move, [.t 6], none⟩,
  .one ⟨(some 19), .p (.un .not), [.t 18], none⟩])
  (.cond (.t 19)
  (.seq (.region [.one ⟨(some 4), .p .move, [.c (.int .i64 4)], none⟩])
  .ret)
  .skip))
  (.seq (.region [.one ⟨(some 20), .p .move, [.t 0], none⟩,
  .one ⟨(some 21), .p .nilCheck, [.t 20], none⟩,
  .one ⟨(some 22), .p (.fieldAddr 3), [.t 21], none⟩,
  .one ⟨(some 23), .r .load1, [.t 22], none⟩,
  .one ⟨(some 24), .p .move, [.t 1], none⟩,
  .one ⟨none, .w (.delete .int), [.t 23, .t 24], none⟩])
  (.seq (.region [.one ⟨(some 25), .p .move, [.t 5], none⟩,
  .one ⟨(some 26), .p .move, [.t 0], none⟩,
  .one ⟨(some 27), .invoke "bluebell/stream.close", [.t 25, .t 26], none⟩])
  (.seq (.region [.one ⟨(some 4), .p .move, [.c (.int .i64 0)], none⟩])
  .ret)))))),
  [(4, 0)]⟩

theorem g10_ok : compFn Tryz.prog 10 = some (fromGFn g10) := by kernel_rfl

def g11 : GFn := ⟨70,
  .seq (.region [.one ⟨(some 6), .p .move, [.c (.int .i64 0)], none⟩,
  .one ⟨(some 7), .p .move, [.c (.int .i64 0)], none⟩])
  (.seq (.region [.one ⟨(some 18), .p .move, [.t 0], none⟩,
  .one ⟨(some 19), .p .move, [.t 1], none⟩,
  .one ⟨(some 20), .call 8, [.t 18, .t 19, .c (.int .i64 0)], none⟩,
  .one ⟨(some 17), .p .move, [.t 20], none⟩,
  .one ⟨(some 21), .p (.extract 0), [.t 17], none⟩,
  .one ⟨(some 22), .p (.extract 1), [.t 17], none⟩,
  .one ⟨(some 8), .p .move, [.t 21], none⟩,
  .one ⟨(some 9), .p .move, [.t 22], none⟩])
  (.seq (.seq (.region [.one ⟨(some 23), .p .move, [.t 9], none⟩,
  .one ⟨(some 24), .p (.bin .neq), [.t 23, .c (.int .i64 0)], none⟩])
  (.cond (.t 24)
  (.seq (.region [.one ⟨(some 25), .p .move, [.t 9], none⟩,
  .one ⟨(some 6), .p .move, [.c (.int .i64 0)], none⟩,
  .one ⟨(some 7), .p .move, [.t 25], none⟩])
  .ret)
  .skip))
  (.seq (.region [.one ⟨(some 26), .p .move, [.t 0], none⟩,
  .one ⟨(some 27), .p .move, [.t 8], none⟩,
  .one ⟨(some 70), .p .push, [.t 70, .c (.func (.func 10) #[] #[]), .t 26, .t 27], none⟩])
  (.seq (.region [.one ⟨(some 29), .p .move, [.t 0], none⟩,
  .one ⟨(some 30), .p .move, [.t 2], none⟩,
  .one ⟨(some 31), .call 8, [.t 29, .t 30, .c (.int .i64 1)], none⟩,
  .one ⟨(some 28), .p .move, [.t 31], none⟩,
  .one ⟨(some 32), .p (.extract 0), [.t 28], none⟩,
  .one ⟨(some 33), .p (.extract 1), [.t 28], none⟩,
  .one ⟨(some 10), .p .move, [.t 32], none⟩,
  .one ⟨(some 9), .p .move, [.t 33], none⟩])
  (.seq (.seq (.region [.one ⟨(some 34), .p .move, [.t 9], none⟩,
  .one ⟨(some 35), .p (.bin .neq), [.t 34, .c (.int .i64 0)], none⟩])
  (.cond (.t 35)
  (.seq (.region [.one ⟨(some 36), .p .move, [.t 9], none⟩,
  .one ⟨(some 6), .p .move, [.c (.int .i64 0)], none⟩,
  .one ⟨(some 7), .p .move, [.t 36], none⟩])
  .ret)
  .skip))
  (.seq (.region [.one ⟨(some 37), .p .move, [.t 0], none⟩,
  .one ⟨(some 38), .p .move, [.t 10], none⟩,
  .one ⟨(some 70), .p .push, [.t 70, .c (.func (.func 10) #[] #[]), .t 37, .t 38], none⟩])
  (.seq (.region [.one ⟨(some 11), .p .move, [.c (.int .i64 0)], none⟩])
  (.block 0 (.loop (.block 1 (.seq (.region [.one ⟨(some 40), .p .move, [.t 0], none⟩,
  .one ⟨(some 41), .p .move, [.t 8], none⟩,
  .one ⟨(some 42), .call 24, [.t 40, .t 41, .c (.int .i64 50)], none⟩,
  .one ⟨(some 39), .p .move, [.t 42], none⟩,
  .one ⟨(some 43), .p (.extract 0), [.t 39], none⟩,
  .one ⟨(some 44), .p (.extract 1), [.t 39], none⟩,
  .one ⟨(some 45), .p (.extract 2), [.t 39], none⟩,
  .one ⟨(some 12), .p .move, [.t 43], none⟩,
  .one ⟨(some 13), .p .move, [.t 44], none⟩,
  .one ⟨(some 14), .p .move, [.t 45], none⟩])
  (.seq (.seq (.region [.one ⟨(some 46), .p .move, [.t 14], none⟩,
  .one ⟨(some 47), .p (.bin .neq), [.t 46, .c (.int .i64 0)], none⟩])
  (.cond (.t 47)
  (.seq (.region [.one ⟨(some 48), .p .move, [.t 14], none⟩,
  .one ⟨(some 6), .p .move, [.c (.int .i64 0)], none⟩,
  .one ⟨(some 7), .p .move, [.t 48], none⟩])
  .ret)
  .skip))
  (.seq (.seq (.region [.one ⟨(some 49), .p .move, [.t 13], none⟩])
  (.cond (.t 49)
  (.seq (.region [.one ⟨(some 50), .p .move, [.t 11], none⟩,
  .one ⟨(some 6), .p .move, [.t 50], none⟩,
  .one ⟨(some 7), .p .move, [.c (.int .i64 0)], none⟩])
  .ret)
  .skip))
  (.block 2 (.loop (.seq (.seq (.region [.one ⟨(some 51), .p .move, [.t 12], none⟩,
  .one ⟨(some 52), .p .lenSl, [.t 51], none⟩,
  .one ⟨(some 53), .p (.bin .gtr), [.t 52, .c (.int .i64 0)], none⟩])
  (.cond (.t 53)
  .skip
  (.exit 2)))
  (.block 3 (.seq (.region [.one ⟨(some 55), .p .move, [.t 0], none⟩,
  .one ⟨(some 56), .p .move, [.t 10], none⟩,
  .one ⟨(some 57), .p .move, [.t 12], none⟩,
  .one ⟨(some 58), .call 9, [.t 55, .t 56, .t 57], none⟩,
  .one ⟨(some 54), .p .move, [.t 58], none⟩,
  .one ⟨(some 59), .p (.extract 0), [.t 54], none⟩,
  .one ⟨(some 60), .p (.extract 1), [.t 54], none⟩,
  .one ⟨(some 15), .p .move, [.t 59], none⟩,
  .one ⟨(some 16), .p .move, [.t 60], none⟩])
  (.seq (.seq (.region [.one ⟨(some 61), .p .move, [.t 16], none⟩,
  .one ⟨(some 62), .p (.bin .neq), [.t 61, .c (.int .i64 0)], none⟩])
  (.cond (.t 62)
  (.seq (.region [.one ⟨(some 63), .p .move, [.t 16], none⟩,
  .one ⟨(some 6), .p .move, [.c (.int .i64 0)], none⟩,
  .one ⟨(some 7), .p .move, [.t 63], none⟩])
  .ret)
  .skip))
  (.seq (.region [.one ⟨(some 64), .p .move, [.t 11], none⟩,
  .one ⟨(some 65), .p .move, [.t 15], none⟩,
  .one ⟨(some 66), .p (.bin .add), [.t 64, .t 65], none⟩,
  .one ⟨(some 11), .p .move, [.t 66], none⟩])
  (.region [.one ⟨(some 67), .p .move, [.t 12], none⟩,
  .one ⟨(some 68), .p .move, [.t 15], none⟩,
  .one ⟨(some 69), .r (.sl 1 true false), [.t 67, .t 68], none⟩,
  .one ⟨(some 12), .p .move, [.t 69], none⟩]))))))))))))))))))))),
  [(6, 0), (7, 0)]⟩

theorem g11_ok : compFn Tryz.prog 11 = some (fromGFn g11) := by kernel_rfl

def g12 : GFn := ⟨65,
  .seq (.region [.one ⟨(some 4), .p .move, [.c (.string ByteArray.empty)], none⟩,
  .one ⟨(some 5), .p .move, [.c (.int .i64 0)], none⟩])
  (.seq (.seq (.region [.one ⟨(some 11), .p .move, [.t 0], none⟩,
  .one ⟨(some 12), .p (.nilEq .ptr false), [.t 11, .c (.pointer none)], none⟩])
  (.cond (.t 12)
  (.seq (.region [.one ⟨(some 4), .p .move, [.c (.string ByteArray.empty)], none⟩,
  .one ⟨(some 5), .p .move, [.c (.int .i64 3)], none⟩])
  .ret)
  .skip))
  (.seq (.region [.one ⟨(some 14), .p .move, [.t 1], none⟩,
  .one ⟨(some 15), .call 33, [.t 14], none⟩,
  .one ⟨(some 13), .p .move, [.t 15], none⟩,
  .one ⟨(some 16), .p (.extract 0), [.t 13], none⟩,
  .one ⟨(some 17), .p (.extract 1), [.t 13], none⟩,
  .one ⟨(some 6), .p .move, [.t 16], none⟩,
  .one ⟨(some 7), .p .move, [.t 17], none⟩])
  (.seq (.seq (.region [.one ⟨(some 8), .p .move, [.c (.int .i64 0)], none⟩])
  (.block 0 (.loop (.seq (.seq (.region [.one ⟨(some 18), .p .move, [.t 6], none⟩,
  .one ⟨(some 19), .call 34, [.t 18], none⟩,
  .one ⟨(some 20), .p (.un .not), [.t 19], none⟩])
  (.cond (.t 20)
  .skip
  (.exit 0)))
  (.seq (.block 1 (.seq (.seq (.region [.one ⟨(some 23), .p .move, [.t 6], none⟩,
  .one ⟨(some 24), .call 35, [.t 23], none⟩,
  .one ⟨(some 25), .p (.un .not), [.t 24], none⟩,
  .one ⟨(some 26), .p .move, [.t 25], none⟩,
  .grp 26 false [⟨(some 27), .p .move, [.t 7], none⟩, ⟨(some 28), .p (.bin .neq), [.t 27, .c (.string ByteArray.empty)], none⟩, ⟨(some 29), .p .move, [.t 28], none⟩],
  .grp 29 true [⟨(some 30), .p .move, [.t 7], none⟩, ⟨(some 31), .call 36, [.c (.string ⟨#[114, 97, 109]⟩), .t 30], none⟩, ⟨(some 32), .p (.un .not), [.t 31], none⟩],
  .grp 26 false [⟨(some 33), .p .pick, [.t 29, .t 32, .c (.bool false)], none⟩],
  .one ⟨(some 34), .p .pick, [.t 26, .c (.bool true), .t 33], none⟩])
  (.cond (.t 34)
  (.seq (.region [.one ⟨(some 4), .p .move, [.c (.string ByteArray.empty)], none⟩,
  .one ⟨(some 5), .p .move, [.c (.int .i64 220)], none⟩])
  .ret)
  .skip))
  (.seq (.region [.one ⟨(some 36), .p .move, [.t 0], none⟩,
  .one ⟨(some 37), .p .nilCheck, [.t 36], none⟩,
  .one ⟨(some 38), .p (.fieldAddr 2), [.t 37], none⟩,
  .one ⟨(some 39), .r .load1, [.t 38], none⟩,
  .one ⟨(some 40), .p .move, [.t 6], none⟩,
  .one ⟨(some 41), .r (.lookup .str (.string ByteArray.empty) true), [.t 39, .t 40], none⟩,
  .one ⟨(some 35), .p .move, [.t 41], none⟩,
  .one ⟨(some 42), .p (.extract 0), [.t 35], none⟩,
  .one ⟨(some 43), .p (.extract 1), [.t 35], none⟩,
  .one ⟨(some 9), .p .move, [.t 42], none⟩,
  .one ⟨(some 10), .p .move, [.t 43], none⟩])
  (.seq (.block 2 (.seq (.region [.one ⟨(some 45), .p .move, [.t 8], none⟩,
  .one ⟨(some 46), .p (.bin .eql), [.t 45, .c (.int .i64 10)], none⟩,
  .one ⟨(some 44), .p .move, [.t 46], none⟩])
  (.cond (.t 44)
  (.seq (.region [.one ⟨(some 4), .p .move, [.c (.string ByteArray.empty)], none⟩,
  .one ⟨(some 5), .p .move, [.c (.int .i64 241)], none⟩])
  .ret)
  (.seq (.region [.one ⟨(some 48), .p .move, [.t 10], none⟩,
  .one ⟨(some 49), .p (.un .not), [.t 48], none⟩,
  .one ⟨(some 47), .p .move, [.t 49], none⟩])
  (.cond (.t 47)
  (.seq (.region [.one ⟨(some 4), .p .move, [.c (.string ByteArray.empty)], none⟩,
  .one ⟨(some 5), .p .move, [.c (.int .i64 4)], none⟩])
  .ret)
  .skip)))))
  (.region [.one ⟨(some 51), .p .move, [.t 9], none⟩,
  .one ⟨(some 52), .p .move, [.t 7], none⟩,
  .one ⟨(some 53), .call 37, [.t 51, .t 52], none⟩,
  .one ⟨(some 54), .call 33, [.t 53], none⟩,
  .one ⟨(some 50), .p .move, [.t 54], none⟩,
  .one ⟨(some 55), .p (.extract 0), [.t 50], none⟩,
  .one ⟨(some 56), .p (.extract 1), [.t 50], none⟩,
  .one ⟨(some 6), .p .move, [.t 55], none⟩,
  .one ⟨(some 7), .p .move, [.t 56], none⟩])))))
  (.region [.one ⟨(some 21), .p .move, [.t 8], none⟩,
  .one ⟨(some 22), .p (.bin .add), [.t 21, .c (.int .i64 1)], none⟩,
  .one ⟨(some 8), .p .move, [.t 22], none⟩]))))))
  (.seq (.seq (.region [.one ⟨(some 57), .p .move, [.t 6], none⟩,
  .one ⟨(some 58), .p .move, [.t 7], none⟩,
  .one ⟨(some 59), .call 38, [.t 57, .t 58], none⟩,
  .one ⟨(some 60), .p (.un .not), [.t 59], none⟩])
  (.cond (.t 60)
  (.seq (.region [.one ⟨(some 4), .p .move, [.c (.string ByteArray.empty)], none⟩,
  .one ⟨(some 5), .p .move, [.c (.int .i64 220)], none⟩])
  .ret)
  .skip))
  (.seq (.region [.one ⟨(some 61), .p .move, [.t 6], none⟩,
  .one ⟨(some 62), .p (.bin .add), [.t 61, .c (.string ⟨#[58]⟩)], none⟩,
  .one ⟨(some 63), .p .move, [.t 7], none⟩,
  .one ⟨(some 64), .p (.bin .add), [.t 62, .t 63], none⟩,
  .one ⟨(some 4), .p .move, [.t 64], none⟩,
  .one ⟨(some 5), .p .move, [.c (.int .i64 0)], none⟩])
  .ret))))),
  [(4, 0), (5, 0)]⟩

theorem g12_ok : compFn Tryz.prog 12 = some (fromGFn g12) := by kernel_rfl

def g13 : GFn := ⟨28,
  .seq (.region [.one ⟨(some 2), .p .move, [.c (.slice none 0 0)], none⟩])
  (.seq (.seq (.region [.one ⟨(some 6), .p .move, [.t 0], none⟩,
  .one ⟨(some 7), .p (.nilEq .ptr false), [.t 6, .c (.pointer none)], none⟩])
  (.cond (.t 7)
  (.seq (.region [.one ⟨(some 2), .p .move, [.c (.slice none 0 0)], none⟩])
  .ret)
  .skip))
  (.seq (.region [.one ⟨(some 3), .p .move, [.c (.slice none 0 0)], none⟩])
  (.seq (.seq (.region [.one ⟨(some 8), .p .move, [.t 0], none⟩,
  .one ⟨(some 9), .p .nilCheck, [.t 8], none⟩,
  .one ⟨(some 10), .p (.fieldAddr 0), [.t 9], none⟩,
  .one ⟨(some 11), .r .load1, [.t 10], none⟩,
  .one ⟨(some 12), .w (.range false), [.t 11], none⟩])
  (.block 0 (.loop (.seq (.region [.one ⟨(some 13), .next false, [.t 12], none⟩,
  .one ⟨(some 14), .p (.extract 0), [.t 13], none⟩])
  (.seq (.cond (.t 14)
  .skip
  (.exit 0))
  (.block 1 (.seq (.region [.one ⟨(some 15), .r .entry, [.t 12], none⟩,
  .one ⟨(some 16), .p (.extract 0), [.t 15], none⟩,
  .one ⟨(some 17), .p (.extract 1), [.t 15], none⟩,
  .one ⟨(some 4), .p .move, [.t 16], none⟩,
  .one ⟨(some 5), .p .move, [.t 17], none⟩])
  (.region [.one ⟨(some 18), .p .move, [.t 3], none⟩,
  .one ⟨(some 19), .p .move, [.t 4], none⟩,
  .one ⟨(some 20), .p .move, [.t 5], none⟩,
  .one ⟨(some 21), .call 39, [.t 20], none⟩,
  .one ⟨(some 22), .p (.build [.string ByteArray.empty, .slice none 0 0] [(0, 1), (1, 1)]), [.t 19, .t 21], none⟩,
  .one ⟨(some 23), .w (.sliceLit [.string ByteArray.empty, .slice none 0 0] 1 [(0, 2)]), [.t 22], none⟩,
  .one ⟨(some 24), .w (.append 2 40), [.t 18, .t 23], none⟩,
  .one ⟨(some 3), .p .move, [.t 24], none⟩]))))))))
  (.seq (.region [.one ⟨(some 25), .p .move, [.t 3], none⟩,
  .one ⟨(some 26), .call 40, [.t 25, .c (.func (.func 41) #[] #[])], none⟩])
  (.seq (.region [.one ⟨(some 27), .p .move, [.t 3], none⟩,
  .one ⟨(some 2), .p .move, [.t 27], none⟩])
  .ret))))),
  [(2, 0)]⟩

theorem g13_ok : compFn Tryz.prog 13 = some (fromGFn g13) := by kernel_rfl

def g14 : GFn := ⟨26,
  .seq (.region [.one ⟨(some 4), .p .move, [.c (.bool false)], none⟩])
  (.seq (.seq (.region [.one ⟨(some 6), .p .move, [.t 0], none⟩,
  .one ⟨(some 7), .p .lenSl, [.t 6], none⟩,
  .one ⟨(some 8), .p .move, [.t 1], none⟩,
  .one ⟨(some 9), .p .lenSl, [.t 8], none⟩,
  .one ⟨(some 10), .p (.bin .neq), [.t 7, .t 9], none⟩])
  (.cond (.t 10)
  (.seq (.region [.one ⟨(some 4), .p .move, [.c (.bool false)], none⟩])
  .ret)
  .skip))
  (.seq (.seq (.region [.one ⟨(some 5), .p .move, [.c (.int .i64 0)], none⟩])
  (.block 0 (.loop (.seq (.seq (.region [.one ⟨(some 11), .p .move, [.t 5], none⟩,
  .one ⟨(some 12), .p .move, [.t 0], none⟩,
  .one ⟨(some 13), .p .lenSl, [.t 12], none⟩,
  .one ⟨(some 14), .p (.bin .lss), [.t 11, .t 13], none⟩])
  (.cond (.t 14)
  .skip
  (.exit 0)))
  (.seq (.block 1 (.seq (.region [.one ⟨(some 17), .p .move, [.t 0], none⟩,
  .one ⟨(some 18), .p .move, [.t 5], none⟩,
  .one ⟨(some 19), .p (.indexAddr 1), [.t 17, .t 18], none⟩,
  .one ⟨(some 20), .r .load1, [.t 19], none⟩,
  .one ⟨(some 21), .p .move, [.t 1], none⟩,
  .one ⟨(some 22), .p .move, [.t 5], none⟩,
  .one ⟨(some 23), .p (.indexAddr 1), [.t 21, .t 22], none⟩,
  .one ⟨(some 24), .r .load1, [.t 23], none⟩,
  .one ⟨(some 25), .p (.bin .neq), [.t 20, .t 24], none⟩])
  (.cond (.t 25)
  (.seq (.region [.one ⟨(some 4), .p .move, [.c (.bool false)], none⟩])
  .ret)
  .skip)))
  (.region [.one ⟨(some 15), .p .move, [.t 5], none⟩,
  .one ⟨(some 16), .p (.bin .add), [.t 15, .c (.int .i64 1)], none⟩,
  .one ⟨(some 5), .p .move, [.t 16], none⟩]))))))
  (.seq (.region [.one ⟨(some 4), .p .move, [.c (.bool true)], none⟩])
  .ret))),
  [(4, 0)]⟩

theorem g14_ok : compFn Tryz.prog 14 = some (fromGFn g14) := by kernel_rfl

def g15 : GFn := ⟨11,
  .seq (.region [.one ⟨(some 2), .p .move, [.c (.slice none 0 0)], none⟩])
  (.seq (.seq (.region [.one ⟨(some 3), .p .move, [.t 0], none⟩,
  .one ⟨(some 4), .p (.nilEq .ptr false), [.t 3, .c (.pointer none)], none⟩])
  (.cond (.t 4)
  (.seq (.region [.one ⟨(some 2), .p .move, [.c (.slice none 0 0)], none⟩])
  .ret)
  .skip))
  (.seq (.region [.one ⟨(some 5), .p .move, [.t 0], none⟩,
  .one ⟨(some 6), .p .nilCheck, [.t 5], none⟩,
  .one ⟨(some 7), .p (.fieldAddr 3), [.t 6], none⟩,
  .one ⟨(some 8), .r .load1, [.t 7], none⟩,
  .one ⟨(some 9), .call 44, [.t 8], none⟩,
  .one ⟨(some 10), .call 43, [.t 9], none⟩,
  .one ⟨(some 2), .p .move, [.t 10], none⟩])
  .ret)),
  [(2, 0)]⟩

theorem g15_ok : compFn Tryz.prog 15 = some (fromGFn g15) := by kernel_rfl

def g24 : GFn := ⟨103,
  .seq (.region [.one ⟨(some 6), .p .move, [.c (.slice none 0 0)], none⟩,
  .one ⟨(some 7), .p .move, [.c (.bool false)], none⟩,
  .one ⟨(some 8), .p .move, [.c (.int .i64 0)], none⟩])
  (.seq (.seq (.region [.one ⟨(some 16), .p .move, [.t 0], none⟩,
  .one ⟨(some 17), .p (.nilEq .ptr false), [.t 16, .c (.pointer none)], none⟩])
  (.cond (.t 17)
  (.seq (.region [.one ⟨(some 6), .p .move, [.c (.slice none 0 0)], none⟩,
  .one ⟨(some 7), .p .move, [.c (.bool false)], none⟩,
  .one ⟨(some 8), .p .move, [.c (.int .i64 3)], none⟩])
  .ret)
  .skip))
  (.seq (.region [.one ⟨(some 19), .p .move, [.t 0], none⟩,
  .one ⟨(some 20), .p .nilCheck, [.t 19], none⟩,
  .one ⟨(some 21), .p (.fieldAddr 3), [.t 20], none⟩,
  .one ⟨(some 22), .r .load1, [.t 21], none⟩,
  .one ⟨(some 23), .p .move, [.t 1], none⟩,
  .one ⟨(some 24), .r (.lookup .int .nilIface true), [.t 22, .t 23], none⟩,
  .one ⟨(some 18), .p .move, [.t 24], none⟩,
  .one ⟨(some 25), .p (.extract 0), [.t 18], none⟩,
  .one ⟨(some 26), .p (.extract 1), [.t 18], none⟩,
  .one ⟨(some 9), .p .move, [.t 25], none⟩,
  .one ⟨(some 10), .p .move, [.t 26], none⟩])
  (.seq (.seq (.region [.one ⟨(some 27), .p .move, [.t 10], none⟩,
  .one ⟨(some 28), .p (.un .not), [.t 27], none⟩])
  (.cond (.t 28)
  (.seq (.region [.one ⟨(some 6), .p .move, [.c (.slice none 0 0)], none⟩,
  .one ⟨(some 7), .p .move, [.c (.bool false)], none⟩,
  .one ⟨(some 8), .p .move, [.c (.int .i64 4)], none⟩])
  .ret)
  .skip))
  (.seq (.region [.one ⟨(some 11), .p .move, [.c (.pointer none)], none⟩])
  (.seq (.region [.one ⟨(some 12), .p .move, [.c (.bool false)], none⟩])
  (.seq (.seq (.region [.one ⟨(some 29), .p .move, [.t 9], none⟩])
  (.block 0 (.seq (.region [.one ⟨(some 30), .p (.assertT 117 (.pointer none) true), [.t 29], none⟩,
  .one ⟨(some 31), .p (.extract 1), [.t 30], none⟩,
  .one ⟨(some 32), .p (.extract 0), [.t 30], none⟩])
  (.cond (.t 31)
  (.seq (.region [.one ⟨(some 13), .p .move, [.t 32], none⟩])
  (.region [.one ⟨(some 33), .p .move, [.t 13], none⟩,
  .one ⟨(some 34), .p .nilCheck, [.t 33], none⟩,
  .one ⟨(some 35), .p (.fieldAddr 1), [.t 34], none⟩,
  .one ⟨(some 11), .p .move, [.t 35], none⟩]))
  (.seq (.region [.one ⟨(some 36), .p (.assertT 86 (.pointer none) true), [.t 29], none⟩,
  .one ⟨(some 37), .p (.extract 1), [.t 36], none⟩,
  .one ⟨(some 38), .p (.extract 0), [.t 36], none⟩])
  (.cond (.t 37)
  (.seq (.region [.one ⟨(some 14), .p .move, [.t 38], none⟩])
  (.seq (.region [.one ⟨(some 39), .p .move, [.t 14], none⟩,
  .one ⟨(some 40), .p .nilCheck, [.t 39], none⟩,
  .one ⟨(some 41), .p (.fieldAddr 2), [.t 40], none⟩,
  .one ⟨(some 42), .r .load1, [.t 41], none⟩])
  (.cond (.t 42)
  (.region [.one ⟨(some 43), .p .move, [.t 14], none⟩,
  .one ⟨(some 44), .p .nilCheck, [.t 43], none⟩,
  .one ⟨(some 45), .p (.fieldAddr 1), [.t 44], none⟩,
  .one ⟨(some 46), .r .load1, [.t 45], none⟩,
  .one ⟨(some 47), .p .nilCheck, [.t 46], none⟩,
  .one ⟨(some 48), .p (.fieldAddr 0), [.t 47], none⟩,
  .one ⟨(some 49), .p .move, [.t 14], none⟩,
  .one ⟨(some 50), .p .nilCheck, [.t 49], none⟩,
  .one ⟨(some 51), .p (.fieldAddr 1), [.t 50], none⟩,
  .one ⟨(some 52), .r .load1, [.t 51], none⟩,
  .one ⟨(some 53), .p .nilCheck, [.t 52], none⟩,
  .one ⟨(some 54), .p (.fieldAddr 2), [.t 53], none⟩,
  .one ⟨(some 55), .r .load1, [.t 54], none⟩,
  .one ⟨(some 56), .p (.un .not), [.t 55], none⟩,
  .one ⟨(some 57), .p .move, [.t 56], none⟩,
  .grp 57 false [⟨(some 58), .p .move, [.t 14], none⟩, ⟨(some 59), .p .nilCheck, [.t 58], none⟩, ⟨(some 60), .p (.fieldAddr 1), [.t 59], none⟩, ⟨(some 61), .r .load1, [.t 60], none⟩, ⟨(some 62), .p .nilCheck, [.t 61], none⟩, ⟨(some 63), .p (.fieldAddr 3), [.t 62], none⟩, ⟨(some 64), .r .load1, [.t 63], none⟩],
  .one ⟨(some 65), .p .pick, [.t 57, .c (.bool true), .t 64], none⟩,
  .one ⟨(some 11), .p .move, [.t 48], none⟩,
  .one ⟨(some 12), .p .move, [.t 65], none⟩])
  .skip)))
  (.seq (.region [.one ⟨(some 66), .p (.assertT 84 (.agg #[.bool false]) true), [.t 29], none⟩,
  .one ⟨(some 67), .p (.extract 1), [.t 66], none⟩,
  .one ⟨(some 68), .p (.extract 0), [.t 66], none⟩])
  (.cond (.t 67)
  (.seq (.region [.one ⟨(some 15), .w (.new [.bool false]), [], none⟩,
  .one ⟨none, .w (.store 1), [.t 15, .t 68], none⟩])
  (.seq (.region [.one ⟨(some 69), .p (.fieldAddr 0), [.t 15], none⟩,
  .one ⟨(some 70), .r .load1, [.t 69], none⟩])
  (.cond (.t 70)
  (.region [.one ⟨(some 71), .p (.build [.slice none 0 0, .int .i64 0] []), [], none⟩,
  .one ⟨(some 72), .w (.box 2), [.t 71], none⟩,
  .one ⟨(some 11), .p .move, [.t 72], none⟩])
  .skip)))
  .skip))))))))
  (.seq (.block 1 (.seq (.region [.one ⟨(some 74), .p .move, [.t 11], none⟩,
  .one ⟨(some 75), .p (.nilEq .ptr false), [.t 74, .c (.pointer none)], none⟩,
  .one ⟨(some 73), .p .move, [.t 75], none⟩])
  (.cond (.t 73)
  (.seq (.region [.one ⟨(some 6), .p .move, [.c (.slice none 0 0)], none⟩,
  .one ⟨(some 7), .p .move, [.c (.bool false)], none⟩,
  .one ⟨(some 8), .p .move, [.c (.int .i64 221)], none⟩])
  .ret)
  (.seq (.region [.one ⟨(some 77), .p .move, [.t 2], none⟩,
  .one ⟨(some 78), .p (.bin .lss), [.t 77, .c (.int .i64 1)], none⟩,
  .one ⟨(some 79), .p .move, [.t 78], none⟩,
  .grp 79 false [⟨(some 80), .p .move, [.t 2], none⟩, ⟨(some 81), .p (.bin .gtr), [.t 80, .c (.int .i64 10000)], none⟩],
  .one ⟨(some 82), .p .pick, [.t 79, .c (.bool true), .t 81], none⟩,
  .one ⟨(some 76), .p .move, [.t 82], none⟩])
  (.cond (.t 76)
  (.seq (.region [.one ⟨(some 6), .p .move, [.c (.slice none 0 0)], none⟩,
  .one ⟨(some 7), .p .move, [.c (.bool false)], none⟩,
  .one ⟨(some 8), .p .move, [.c (.int .i64 1)], none⟩])
  .ret)
  (.seq (.region [.one ⟨(some 84), .p .move, [.t 11], none⟩,
  .one ⟨(some 85), .p .nilCheck, [.t 84], none⟩,
  .one ⟨(some 86), .p (.fieldAddr 0), [.t 85], none⟩,
  .one ⟨(some 87), .r .load1, [.t 86], none⟩,
  .one ⟨(some 88), .p .lenSl, [.t 87], none⟩,
  .one ⟨(some 89), .p (.bin .eql), [.t 88, .c (.int .i64 0)], none⟩,
  .one ⟨(some 90), .p .move, [.t 89], none⟩,
  .grp 90 true [⟨(some 91), .p .move, [.t 12], none⟩],
  .one ⟨(some 92), .p .pick, [.t 90, .t 91, .c (.bool false)], none⟩,
  .one ⟨(some 83), .p .move, [.t 92], none⟩])
  (.cond (.t 83)
  (.seq (.region [.one ⟨(some 6), .p .move, [.c (.slice none 0 0)], none⟩,
  .one ⟨(some 7), .p .move, [.c (.bool false)], none⟩,
  .one ⟨(some 8), .p .move, [.c (.int .i64 5)], none⟩])
  .ret)
  (.seq (.region [.one ⟨(some 94), .p .move, [.t 11], none⟩,
  .one ⟨(some 95), .p .nilCheck, [.t 94], none⟩,
  .one ⟨(some 96), .p (.fieldAddr 0), [.t 95], none⟩,
  .one ⟨(some 97), .r .load1, [.t 96], none⟩,
  .one ⟨(some 98), .p .lenSl, [.t 97], none⟩,
  .one ⟨(some 99), .p (.bin .eql), [.t 98, .c (.int .i64 0)], none⟩,
  .one ⟨(some 93), .p .move, [.t 99], none⟩])
  (.cond (.t 93)
  (.seq (.region [.one ⟨(some 6), .p .move, [.c (.slice none 0 0)], none⟩,
  .one ⟨(some 7), .p .move, [.c (.bool true)], none⟩,
  .one ⟨(some 8), .p .move, [.c (.int .i64 0)], none⟩])
  .ret)
  .skip)))))))))
  (.seq (.region [.one ⟨(some 100), .p .move, [.t 11], none⟩,
  .one ⟨(some 101), .p .move, [.t 2], none⟩,
  .one ⟨(some 102), .call 56, [.t 100, .t 101], none⟩,
  .one ⟨(some 6), .p .move, [.t 102], none⟩,
  .one ⟨(some 7), .p .move, [.c (.bool false)], none⟩,
  .one ⟨(some 8), .p .move, [.c (.int .i64 0)], none⟩])
  .ret)))))))),
  [(6, 0), (7, 0), (8, 0)]⟩

theorem g24_ok : compFn Tryz.prog 24 = some (fromGFn g24) := by kernel_rfl

def g25 : GFn := ⟨77,
  .seq (.region [.one ⟨(some 6), .p .move, [.c (.int .i64 0)], none⟩])
  (.seq (.seq (.region [.one ⟨(some 11), .p .move, [.t 0], none⟩,
  .one ⟨(some 12), .p (.nilEq .ptr false), [.t 11, .c (.pointer none)], none⟩])
  (.cond (.t 12)
  (.seq (.region [.one ⟨(some 6), .p .move, [.c (.int .i64 3)], none⟩])
  .ret)
  .skip))
  (.seq (.region [.one ⟨(some 14), .p .move, [.t 2], none⟩,
  .one ⟨(some 15), .call 33, [.t 14], none⟩,
  .one ⟨(some 13), .p .move, [.t 15], none⟩,
  .one ⟨(some 16), .p (.extract 0), [.t 13], none⟩,
  .one ⟨(some 17), .p (.extract 1), [.t 13], none⟩,
  .one ⟨(some 7), .p .move, [.t 16], none⟩,
  .one ⟨(some 8), .p .move, [.t 17], none⟩])
  (.seq (.seq (.region [.one ⟨(some 18), .p .move, [.t 1], none⟩,
  .one ⟨(some 19), .call 35, [.t 18], none⟩,
  .one ⟨(some 20), .p (.un .not), [.t 19], none⟩,
  .one ⟨(some 21), .p .move, [.t 20], none⟩,
  .grp 21 false [⟨(some 22), .p .move, [.t 1], none⟩, ⟨(some 23), .call 34, [.t 22], none⟩],
  .one ⟨(some 24), .p .pick, [.t 21, .c (.bool true), .t 23], none⟩,
  .one ⟨(some 25), .p .move, [.t 24], none⟩,
  .grp 25 false [⟨(some 26), .p .move, [.t 7], none⟩, ⟨(some 27), .p (.bin .neq), [.t 26, .c (.string ⟨#[114, 97, 109]⟩)], none⟩, ⟨(some 28), .p .move, [.t 27], none⟩],
  .grp 28 true [⟨(some 29), .p .move, [.t 7], none⟩, ⟨(some 30), .call 34, [.t 29], none⟩, ⟨(some 31), .p .move, [.t 30], none⟩],
  .grp 31 false [⟨(some 32), .p .move, [.t 7], none⟩, ⟨(some 33), .call 35, [.t 32], none⟩, ⟨(some 34), .p (.un .not), [.t 33], none⟩],
  .grp 28 true [⟨(some 35), .p .pick, [.t 31, .c (.bool true), .t 34], none⟩],
  .grp 25 false [⟨(some 36), .p .pick, [.t 28, .t 35, .c (.bool false)], none⟩],
  .one ⟨(some 37), .p .pick, [.t 25, .c (.bool true), .t 36], none⟩,
  .one ⟨(some 38), .p .move, [.t 37], none⟩,
  .grp 38 false [⟨(some 39), .p .move, [.t 8], none⟩, ⟨(some 40), .p (.bin .neq), [.t 39, .c (.string ByteArray.empty)], none⟩, ⟨(some 41), .p .move, [.t 40], none⟩],
  .grp 41 true [⟨(some 42), .p .move, [.t 8], none⟩, ⟨(some 43), .call 36, [.c (.string ⟨#[114, 97, 109]⟩), .t 42], none⟩, ⟨(some 44), .p (.un .not), [.t 43], none⟩],
  .grp 38 false [⟨(some 45), .p .pick, [.t 41, .t 44, .c (.bool false)], none⟩],
  .one ⟨(some 46), .p .pick, [.t 38, .c (.bool true), .t 45], none⟩])
  (.cond (.t 46)
  (.seq (.region [.one ⟨(some 6), .p .move, [.c (.int .i64 220)], none⟩])
  .ret)
  .skip))
  (.seq (.region [.one ⟨(some 47), .p .move, [.t 0], none⟩,
  .one ⟨(some 48), .call 28, [.t 47], none⟩])
  (.seq (.seq (.region [.one ⟨(some 50), .p .move, [.t 0], none⟩,
  .one ⟨(some 51), .p .nilCheck, [.t 50], none⟩,
  .one ⟨(some 52), .p (.fieldAddr 2), [.t 51], none⟩,
  .one ⟨(some 53), .r .load1, [.t 52], none⟩,
  .one ⟨(some 54), .p .move, [.t 1], none⟩,
  .one ⟨(some 55), .r (.lookup .str (.string ByteArray.empty) true), [.t 53, .t 54], none⟩,
  .one ⟨(some 49), .p .move, [.t 55], none⟩,
  .one ⟨(some 56), .p (.extract 0), [.t 49], none⟩,
  .one ⟨(some 57), .p (.extract 1), [.t 49], none⟩,
  .one ⟨(some 9), .p .move, [.t 56], none⟩,
  .one ⟨(some 10), .p .move, [.t 57], none⟩])
  (.seq (.region [.one ⟨(some 58), .p .move, [.t 10], none⟩,
  .one ⟨(some 59), .p (.un .not), [.t 58], none⟩,
  .one ⟨(some 60), .p .move, [.t 59], none⟩,
  .grp 60 true [⟨(some 61), .p .move, [.t 0], none⟩, ⟨(some 62), .p .nilCheck, [.t 61], none⟩, ⟨(some 63), .p (.fieldAddr 2), [.t 62], none⟩, ⟨(some 64), .r .load1, [.t 63], none⟩, ⟨(some 65), .r .lenMap, [.t 64], none⟩, ⟨(some 66), .p (.bin .eql), [.t 65, .c (.int .i64 20)], none⟩],
  .one ⟨(some 67), .p .pick, [.t 60, .t 66, .c (.bool false)], none⟩])
  (.cond (.t 67)
  (.seq (.region [.one ⟨(some 6), .p .move, [.c (.int .i64 2)], none⟩])
  .ret)
  .skip)))
  (.seq (.region [.one ⟨(some 68), .p .move, [.t 0], none⟩,
  .one ⟨(some 69), .p .nilCheck, [.t 68], none⟩,
  .one ⟨(some 70), .p (.fieldAddr 2), [.t 69], none⟩,
  .one ⟨(some 71), .r .load1, [.t 70], none⟩,
  .one ⟨(some 72), .p .move, [.t 1], none⟩,
  .one ⟨(some 73), .p .move, [.t 7], none⟩,
  .one ⟨(some 74), .p (.bin .add), [.t 73, .c (.string ⟨#[58]⟩)], none⟩,
  .one ⟨(some 75), .p .move, [.t 8], none⟩,
  .one ⟨(some 76), .p (.bin .add), [.t 74, .t 75], none⟩,
  .one ⟨none, .w (.mapSet .str), [.t 71, .t 72, .t 76], none⟩])
  (.seq (.region [.one ⟨(some 6), .p .move, [.c (.int .i64 0)], none⟩])
  .ret))))))),
  [(6, 0)]⟩

theorem g25_ok : compFn Tryz.prog 25 = some (fromGFn g25) := by kernel_rfl

def g28 : GFn := ⟨23,
  .seq (.region [.one ⟨(some 2), .p .move, [.t 0], none⟩,
  .one ⟨(some 3), .p .nilCheck, [.t 2], none⟩,
  .one ⟨(some 4), .p (.fieldAddr 0), [.t 3], none⟩,
  .one ⟨(some 5), .r .load1, [.t 4], none⟩,
  .one ⟨(some 6), .p (.nilEq .map false), [.t 5, .c (.map none)], none⟩])
  (.cond (.t 6)
  (.region [.one ⟨(some 7), .p .move, [.t 0], none⟩,
  .one ⟨(some 8), .p .move, [.t 0], none⟩,
  .one ⟨(some 9), .p .move, [.t 0], none⟩,
  .one ⟨(some 10), .p .move, [.t 0], none⟩,
  .one ⟨(some 11), .w .mkMap, [], none⟩,
  .one ⟨(some 12), .w .mkMap, [], none⟩,
  .one ⟨(some 13), .w .mkMap, [], none⟩,
  .one ⟨(some 14), .w .mkMap, [], none⟩,
  .one ⟨(some 15), .p .nilCheck, [.t 7], none⟩,
  .one ⟨(some 16), .p (.fieldAddr 0), [.t 15], none⟩,
  .one ⟨none, .w (.store 1), [.t 16, .t 11], none⟩,
  .one ⟨(some 17), .p .nilCheck, [.t 8], none⟩,
  .one ⟨(some 18), .p (.fieldAddr 1), [.t 17], none⟩,
  .one ⟨none, .w (.store 1), [.t 18, .t 12], none⟩,
  .one ⟨(some 19), .p .nilCheck, [.t 9], none⟩,
  .one ⟨(some 20), .p (.fieldAddr 2), [.t 19], none⟩,
  .one ⟨none, .w (.store 1), [.t 20, .t 13], none⟩,
  .one ⟨(some 21), .p .nilCheck, [.t 10], none⟩,
  .one ⟨(some 22), .p (.fieldAddr 3), [.t 21], none⟩,
  .one ⟨none, .w (.store 1), [.t 22, .t 14], none⟩])
  .skip),
  []⟩

theorem g28_ok : compFn Tryz.prog 28 = some (fromGFn g28) := by kernel_rfl

def g30 : GFn := ⟨81,
  .seq (.region [.one ⟨(some 6), .p .move, [.c (.int .i64 0)], none⟩])
  (.seq (.region [.one ⟨(some 13), .p .move, [.t 1], none⟩,
  .one ⟨(some 14), .call 33, [.t 13], none⟩,
  .one ⟨(some 12), .p .move, [.t 14], none⟩,
  .one ⟨(some 15), .p (.extract 0), [.t 12], none⟩,
  .one ⟨(some 16), .p (.extract 1), [.t 12], none⟩,
  .one ⟨(some 7), .p .move, [.t 15], none⟩,
  .one ⟨(some 8), .p .move, [.t 16], none⟩])
  (.seq (.region [.one ⟨(some 17), .p .move, [.t 0], none⟩,
  .one ⟨(some 18), .p .nilCheck, [.t 17], none⟩,
  .one ⟨(some 19), .p (.fieldAddr 1), [.t 18], none⟩,
  .one ⟨(some 20), .r .load1, [.t 19], none⟩,
  .one ⟨(some 21), .p .move, [.t 8], none⟩,
  .one ⟨(some 22), .r (.lookup .str (.pointer none) false), [.t 20, .t 21], none⟩,
  .one ⟨(some 9), .p .move, [.t 22], none⟩])
  (.seq (.region [.one ⟨(some 24), .p .move, [.t 0], none⟩,
  .one ⟨(some 25), .p .nilCheck, [.t 24], none⟩,
  .one ⟨(some 26), .p (.fieldAddr 0), [.t 25], none⟩,
  .one ⟨(some 27), .r .load1, [.t 26], none⟩,
  .one ⟨(some 28), .p .move, [.t 8], none⟩,
  .one ⟨(some 29), .r (.lookup .str (.slice none 0 0) true), [.t 27, .t 28], none⟩,
  .one ⟨(some 23), .p .move, [.t 29], none⟩,
  .one ⟨(some 30), .p (.extract 0), [.t 23], none⟩,
  .one ⟨(some 31), .p (.extract 1), [.t 23], none⟩,
  .one ⟨(some 10), .p .move, [.t 30], none⟩,
  .one ⟨(some 11), .p .move, [.t 31], none⟩])
  (.seq (.block 0 (.seq (.region [.one ⟨(some 33), .p .move, [.t 7], none⟩,
  .one ⟨(some 34), .p (.bin .eql), [.t 33, .c (.string ⟨#[114, 97, 109]⟩)], none⟩,
  .one ⟨(some 35), .p .move, [.t 34], none⟩,
  .grp 35 true [⟨(some 36), .p .move, [.t 2], none⟩, ⟨(some 37), .p (.bin .eql), [.t 36, .c (.int .i64 0)], none⟩],
  .one ⟨(some 38), .p .pick, [.t 35, .t 37, .c (.bool false)], none⟩,
  .one ⟨(some 39), .p .move, [.t 38], none⟩,
  .grp 39 true [⟨(some 40), .p .move, [.t 11], none⟩, ⟨(some 41), .p (.un .not), [.t 40], none⟩],
  .one ⟨(some 42), .p .pick, [.t 39, .t 41, .c (.bool false)], none⟩,
  .one ⟨(some 32), .p .move, [.t 42], none⟩])
  (.cond (.t 32)
  (.seq (.region [.one ⟨(some 6), .p .move, [.c (.int .i64 4)], none⟩])
  .ret)
  (.seq (.seq (.region [.one ⟨(some 44), .p .move, [.t 7], none⟩,
  .one ⟨(some 45), .p (.bin .eql), [.t 44, .c (.string ⟨#[114, 97, 109]⟩)], none⟩,
  .one ⟨(some 46), .p .move, [.t 45], none⟩,
  .grp 46 true [⟨(some 47), .p .move, [.t 2], none⟩, ⟨(some 48), .p (.bin .neq), [.t 47, .c (.int .i64 0)], none⟩],
  .one ⟨(some 49), .p .pick, [.t 46, .t 48, .c (.bool false)], none⟩,
  .one ⟨(some 50), .p .move, [.t 49], none⟩,
  .grp 50 true [⟨(some 51), .p .move, [.t 0], none⟩, ⟨(some 52), .p .move, [.t 8], none⟩, ⟨(some 53), .call 57, [.t 51, .t 52], none⟩],
  .one ⟨(some 54), .p .pick, [.t 50, .t 53, .c (.bool false)], none⟩,
  .one ⟨(some 43), .p .move, [.t 54], none⟩])
  (.cond (.t 43)
  .skip
  (.region [.one ⟨(some 55), .p .move, [.t 7], none⟩,
  .one ⟨(some 56), .p (.bin .eql), [.t 55, .c (.string ⟨#[112, 105, 112, 101]⟩)], none⟩,
  .one ⟨(some 57), .p .move, [.t 56], none⟩,
  .grp 57 true [⟨(some 58), .p .move, [.t 9], none⟩, ⟨(some 59), .p (.nilEq .ptr true), [.t 58, .c (.pointer none)], none⟩],
  .one ⟨(some 60), .p .pick, [.t 57, .t 59, .c (.bool false)], none⟩,
  .one ⟨(some 61), .p .move, [.t 60], none⟩,
  .grp 61 true [⟨(some 62), .p .move, [.t 2], none⟩, ⟨(some 63), .p (.bin .eql), [.t 62, .c (.int .i64 0)], none⟩, ⟨(some 64), .p .move, [.t 63], none⟩],
  .grp 64 true [⟨(some 65), .p .move, [.t 9], none⟩, ⟨(some 66), .p .nilCheck, [.t 65], none⟩, ⟨(some 67), .p (.fieldAddr 5), [.t 66], none⟩, ⟨(some 68), .r .load1, [.t 67], none⟩],
  .grp 61 true [⟨(some 69), .p .pick, [.t 64, .t 68, .c (.bool false)], none⟩, ⟨(some 70), .p .move, [.t 69], none⟩],
  .grp 70 false [⟨(some 71), .p .move, [.t 2], none⟩, ⟨(some 72), .p (.bin .eql), [.t 71, .c (.int .i64 1)], none⟩, ⟨(some 73), .p .move, [.t 72], none⟩],
  .grp 73 true [⟨(some 74), .p .move, [.t 9], none⟩, ⟨(some 75), .p .nilCheck, [.t 74], none⟩, ⟨(some 76), .p (.fieldAddr 3), [.t 75], none⟩, ⟨(some 77), .r .load1, [.t 76], none⟩],
  .grp 70 false [⟨(some 78), .p .pick, [.t 73, .t 77, .c (.bool false)], none⟩],
  .grp 61 true [⟨(some 79), .p .pick, [.t 70, .c (.bool true), .t 78], none⟩],
  .one ⟨(some 80), .p .pick, [.t 61, .t 79, .c (.bool false)], none⟩,
  .one ⟨(some 43), .p .move, [.t 80], none⟩])))
  (.cond (.t 43)
  (.seq (.region [.one ⟨(some 6), .p .move, [.c (.int .i64 222)], none⟩])
  .ret)
  .skip)))))
  (.seq (.region [.one ⟨(some 6), .p .move, [.c (.int .i64 0)], none⟩])
  .ret))))),
  [(6, 0)]⟩

theorem g30_ok : compFn Tryz.prog 30 = some (fromGFn g30) := by kernel_rfl

def g31 : GFn := ⟨73,
  .seq (.region [.one ⟨(some 6), .p .move, [.c .nilIface], none⟩,
  .one ⟨(some 7), .p .move, [.c (.int .i64 0)], none⟩])
  (.seq (.region [.one ⟨(some 13), .p .move, [.t 1], none⟩,
  .one ⟨(some 14), .call 33, [.t 13], none⟩,
  .one ⟨(some 12), .p .move, [.t 14], none⟩,
  .one ⟨(some 15), .p (.extract 0), [.t 12], none⟩,
  .one ⟨(some 16), .p (.extract 1), [.t 12], none⟩,
  .one ⟨(some 8), .p .move, [.t 15], none⟩,
  .one ⟨(some 9), .p .move, [.t 16], none⟩])
  (.seq (.seq (.region [.one ⟨(some 17), .p .move, [.t 8], none⟩])
  (.block 0 (.seq (.region [.one ⟨(some 19), .p (.bin .eql), [.t 17, .c (.string ⟨#[110, 105, 108]⟩)], none⟩,
  .one ⟨(some 18), .p .move, [.t 19], none⟩])
  (.cond (.t 18)
  (.seq (.region [.one ⟨(some 20), .p .move, [.t 2], none⟩,
  .one ⟨(some 21), .p (.bin .eql), [.t 20, .c (.int .i64 0)], none⟩,
  .one ⟨(some 22), .p (.build [.bool false] [(0, 1)]), [.t 21], none⟩,
  .one ⟨(some 23), .p (.mkIface 84), [.t 22], none⟩,
  .one ⟨(some 6), .p .move, [.t 23], none⟩,
  .one ⟨(some 7), .p .move, [.c (.int .i64 0)], none⟩])
  .ret)
  (.seq (.region [.one ⟨(some 25), .p (.bin .eql), [.t 17, .c (.string ⟨#[112, 105, 112, 101]⟩)], none⟩,
  .one ⟨(some 24), .p .move, [.t 25], none⟩])
  (.cond (.t 24)
  (.seq (.region [.one ⟨(some 26), .p .move, [.t 0], none⟩,
  .one ⟨(some 27), .p .move, [.t 9], none⟩,
  .one ⟨(some 28), .p .move, [.t 2], none⟩,
  .one ⟨(some 29), .p (.bin .eql), [.t 28, .c (.int .i64 0)], none⟩,
  .one ⟨(some 30), .call 59, [.t 26, .t 27, .t 29], none⟩,
  .one ⟨(some 31), .p (.extract 0), [.t 30], none⟩,
  .one ⟨(some 32), .p (.extract 1), [.t 30], none⟩,
  .one ⟨(some 6), .p .move, [.t 31], none⟩,
  .one ⟨(some 7), .p .move, [.t 32], none⟩])
  .ret)
  .skip))))))
  (.seq (.region [.one ⟨(some 34), .p .move, [.t 0], none⟩,
  .one ⟨(some 35), .p .nilCheck, [.t 34], none⟩,
  .one ⟨(some 36), .p (.fieldAddr 0), [.t 35], none⟩,
  .one ⟨(some 37), .r .load1, [.t 36], none⟩,
  .one ⟨(some 38), .p .move, [.t 9], none⟩,
  .one ⟨(some 39), .r (.lookup .str (.slice none 0 0) true), [.t 37, .t 38], none⟩,
  .one ⟨(some 33), .p .move, [.t 39], none⟩,
  .one ⟨(some 40), .p (.extract 0), [.t 33], none⟩,
  .one ⟨(some 41), .p (.extract 1), [.t 33], none⟩,
  .one ⟨(some 10), .p .move, [.t 40], none⟩,
  .one ⟨(some 11), .p .move, [.t 41], none⟩])
  (.seq (.block 1 (.seq (.region [.one ⟨(some 43), .p .move, [.t 2], none⟩,
  .one ⟨(some 44), .p (.bin .eql), [.t 43, .c (.int .i64 0)], none⟩,
  .one ⟨(some 45), .p .move, [.t 44], none⟩,
  .grp 45 true [⟨(some 46), .p .move, [.t 11], none⟩, ⟨(some 47), .p (.un .not), [.t 46], none⟩],
  .one ⟨(some 48), .p .pick, [.t 45, .t 47, .c (.bool false)], none⟩,
  .one ⟨(some 42), .p .move, [.t 48], none⟩])
  (.cond (.t 42)
  (.seq (.region [.one ⟨(some 6), .p .move, [.c .nilIface], none⟩,
  .one ⟨(some 7), .p .move, [.c (.int .i64 4)], none⟩])
  .ret)
  (.seq (.region [.one ⟨(some 50), .p .move, [.t 2], none⟩,
  .one ⟨(some 51), .p (.bin .eql), [.t 50, .c (.int .i64 0)], none⟩,
  .one ⟨(some 49), .p .move, [.t 51], none⟩])
  (.cond (.t 49)
  (.seq (.region [.one ⟨(some 52), .p .move, [.t 9], none⟩,
  .one ⟨(some 53), .p .move, [.t 10], none⟩,
  .one ⟨(some 54), .call 60, [.t 53], none⟩,
  .one ⟨(some 55), .p (.build [.slice none 0 0, .int .i64 0] [(0, 1), (1, 1)]), [.t 54, .c (.int .i64 20000)], none⟩,
  .one ⟨(some 56), .p (.build [.string ByteArray.empty, .slice none 0 0, .int .i64 0] [(0, 1), (1, 2)]), [.t 52, .t 55], none⟩,
  .one ⟨(some 57), .w (.box 3), [.t 56], none⟩,
  .one ⟨(some 58), .p (.mkIface 117), [.t 57], none⟩,
  .one ⟨(some 6), .p .move, [.t 58], none⟩,
  .one ⟨(some 7), .p .move, [.c (.int .i64 0)], none⟩])
  .ret)
  (.seq (.region [.one ⟨(some 60), .p .move, [.t 0], none⟩,
  .one ⟨(some 61), .p .move, [.t 9], none⟩,
  .one ⟨(some 62), .call 57, [.t 60, .t 61], none⟩,
  .one ⟨(some 59), .p .move, [.t 62], none⟩])
  (.cond (.t 59)
  (.seq (.region [.one ⟨(some 6), .p .move, [.c .nilIface], none⟩,
  .one ⟨(some 7), .p .move, [.c (.int .i64 222)], none⟩])
  .ret)
  (.seq (.region [.one ⟨(some 64), .p .move, [.t 2], none⟩,
  .one ⟨(some 65), .p (.bin .eql), [.t 64, .c (.int .i64 1)], none⟩,
  .one ⟨(some 63), .p .move, [.t 65], none⟩])
  (.cond (.t 63)
  (.region [.one ⟨(some 10), .p .move, [.c (.slice none 0 0)], none⟩])
  .skip)))))))))
  (.seq (.region [.one ⟨(some 66), .p .move, [.t 9], none⟩,
  .one ⟨(some 67), .p .move, [.t 10], none⟩,
  .one ⟨(some 68), .call 60, [.t 67], none⟩,
  .one ⟨(some 69), .p (.build [.slice none 0 0, .int .i64 0] [(0, 1), (1, 1)]), [.t 68, .c (.int .i64 20000)], none⟩,
  .one ⟨(some 70), .p (.build [.string ByteArray.empty, .slice none 0 0, .int .i64 0] [(0, 1), (1, 2)]), [.t 66, .t 69], none⟩,
  .one ⟨(some 71), .w (.box 3), [.t 70], none⟩,
  .one ⟨(some 72), .p (.mkIface 76), [.t 71], none⟩,
  .one ⟨(some 6), .p .move, [.t 72], none⟩,
  .one ⟨(some 7), .p .move, [.c (.int .i64 0)], none⟩])
  .ret))))),
  [(6, 0), (7, 0)]⟩

theorem g31_ok : compFn Tryz.prog 31 = some (fromGFn g31) := by kernel_rfl

def g32 : GFn := ⟨31,
  .seq (.region [.one ⟨(some 4), .p .move, [.c (.int .i64 0)], none⟩])
  (.seq (.region [.one ⟨(some 6), .p .move, [.t 1], none⟩,
  .one ⟨(some 7), .p .lenSl, [.t 6], none⟩,
  .one ⟨(some 8), .p .move, [.t 0], none⟩,
  .one ⟨(some 9), .p .nilCheck, [.t 8], none⟩,
  .one ⟨(some 10), .p (.fieldAddr 1), [.t 9], none⟩,
  .one ⟨(some 11), .r .load1, [.t 10], none⟩,
  .one ⟨(some 12), .p .move, [.t 0], none⟩,
  .one ⟨(some 13), .p .nilCheck, [.t 12], none⟩,
  .one ⟨(some 14), .p (.fieldAddr 0), [.t 13], none⟩,
  .one ⟨(some 15), .r .load1, [.t 14], none⟩,
  .one ⟨(some 16), .p .lenSl, [.t 15], none⟩,
  .one ⟨(some 17), .p (.bin .sub), [.t 11, .t 16], none⟩,
  .one ⟨(some 18), .p .min, [.t 7, .t 17], none⟩,
  .one ⟨(some 5), .p .move, [.t 18], none⟩])
  (.seq (.region [.one ⟨(some 19), .p .move, [.t 0], none⟩,
  .one ⟨(some 20), .p .move, [.t 0], none⟩,
  .one ⟨(some 21), .p .nilCheck, [.t 20], none⟩,
  .one ⟨(some 22), .p (.fieldAddr 0), [.t 21], none⟩,
  .one ⟨(some 23), .r .load1, [.t 22], none⟩,
  .one ⟨(some 24), .p .move, [.t 1], none⟩,
  .one ⟨(some 25), .p .move, [.t 5], none⟩,
  .one ⟨(some 26), .r (.sl 1 false true), [.t 24, .t 25], none⟩,
  .one ⟨(some 27), .w (.append 1 1), [.t 23, .t 26], none⟩,
  .one ⟨(some 28), .p .nilCheck, [.t 19], none⟩,
  .one ⟨(some 29), .p (.fieldAddr 0), [.t 28], none⟩,
  .one ⟨none, .w (.store 1), [.t 29, .t 27], none⟩])
  (.seq (.region [.one ⟨(some 30), .p .move, [.t 5], none⟩,
  .one ⟨(some 4), .p .move, [.t 30], none⟩])
  .ret))),
  [(4, 0)]⟩

theorem g32_ok : compFn Tryz.prog 32 = some (fromGFn g32) := by kernel_rfl

def g33 : GFn := ⟨18,
  .seq (.region [.one ⟨(some 2), .p .move, [.c (.string ByteArray.empty)], none⟩,
  .one ⟨(some 3), .p .move, [.c (.string ByteArray.empty)], none⟩])
  (.seq (.region [.one ⟨(some 8), .p .move, [.t 0], none⟩,
  .one ⟨(some 9), .call 61, [.t 8, .c (.string ⟨#[58]⟩)], none⟩,
  .one ⟨(some 7), .p .move, [.t 9], none⟩,
  .one ⟨(some 10), .p (.extract 0), [.t 7], none⟩,
  .one ⟨(some 11), .p (.extract 1), [.t 7], none⟩,
  .one ⟨(some 12), .p (.extract 2), [.t 7], none⟩,
  .one ⟨(some 4), .p .move, [.t 10], none⟩,
  .one ⟨(some 5), .p .move, [.t 11], none⟩,
  .one ⟨(some 6), .p .move, [.t 12], none⟩])
  (.seq (.seq (.region [.one ⟨(some 13), .p .move, [.t 6], none⟩,
  .one ⟨(some 14), .p (.un .not), [.t 13], none⟩])
  (.cond (.t 14)
  (.seq (.region [.one ⟨(some 15), .p .move, [.t 0], none⟩,
  .one ⟨(some 2), .p .move, [.c (.string ⟨#[114, 97, 109]⟩)], none⟩,
  .one ⟨(some 3), .p .move, [.t 15], none⟩])
  .ret)
  .skip))
  (.seq (.region [.one ⟨(some 16), .p .move, [.t 4], none⟩,
  .one ⟨(some 17), .p .move, [.t 5], none⟩,
  .one ⟨(some 2), .p .move, [.t 16], none⟩,
  .one ⟨(some 3), .p .move, [.t 17], none⟩])
  .ret))),
  [(2, 0), (3, 0)]⟩

theorem g33_ok : compFn Tryz.prog 33 = some (fromGFn g33) := by kernel_rfl

def g34 : GFn := ⟨13,
  .seq (.region [.one ⟨(some 2), .p .move, [.c (.bool false)], none⟩])
  (.seq (.region [.one ⟨(some 3), .p .move, [.t 0], none⟩,
  .one ⟨(some 4), .p (.bin .eql), [.t 3, .c (.string ⟨#[114, 97, 109]⟩)], none⟩,
  .one ⟨(some 5), .p .move, [.t 4], none⟩,
  .grp 5 false [⟨(some 6), .p .move, [.t 0], none⟩, ⟨(some 7), .p (.bin .eql), [.t 6, .c (.string ⟨#[112, 105, 112, 101]⟩)], none⟩],
  .one ⟨(some 8), .p .pick, [.t 5, .c (.bool true), .t 7], none⟩,
  .one ⟨(some 9), .p .move, [.t 8], none⟩,
  .grp 9 false [⟨(some 10), .p .move, [.t 0], none⟩, ⟨(some 11), .p (.bin .eql), [.t 10, .c (.string ⟨#[110, 105, 108]⟩)], none⟩],
  .one ⟨(some 12), .p .pick, [.t 9, .c (.bool true), .t 11], none⟩,
  .one ⟨(some 2), .p .move, [.t 12], none⟩])
  .ret),
  [(2, 0)]⟩

theorem g34_ok : compFn Tryz.prog 34 = some (fromGFn g34) := by kernel_rfl

def g35 : GFn := ⟨16,
  .seq (.region [.one ⟨(some 2), .p .move, [.c (.bool false)], none⟩])
  (.seq (.region [.one ⟨(some 3), .p .move, [.t 0], none⟩,
  .one ⟨(some 4), .p .lenStr, [.t 3], none⟩,
  .one ⟨(some 5), .p (.bin .geq), [.t 4, .c (.int .i64 1)], none⟩,
  .one ⟨(some 6), .p .move, [.t 5], none⟩,
  .grp 6 true [⟨(some 7), .p .move, [.t 0], none⟩, ⟨(some 8), .p .lenStr, [.t 7], none⟩, ⟨(some 9), .p (.bin .leq), [.t 8, .c (.int .i64 8)], none⟩],
  .one ⟨(some 10), .p .pick, [.t 6, .t 9, .c (.bool false)], none⟩,
  .one ⟨(some 11), .p .move, [.t 10], none⟩,
  .grp 11 true [⟨(some 12), .p .move, [.t 0], none⟩, ⟨(some 13), .call 62, [.t 12, .c (.string ⟨#[97, 98, 99, 100, 101, 102, 103, 104, 105, 106, 107, 108, 109, 110, 111, 112, 113, 114, 115, 116, 117, 118, 119, 120, 121, 122]⟩)], none⟩, ⟨(some 14), .p (.bin .eql), [.t 13, .c (.string ByteArray.empty)], none⟩],
  .one ⟨(some 15), .p .pick, [.t 11, .t 14, .c (.bool false)], none⟩,
  .one ⟨(some 2), .p .move, [.t 15], none⟩])
  .ret),
  [(2, 0)]⟩

theorem g35_ok : compFn Tryz.prog 35 = some (fromGFn g35) := by kernel_rfl

def g36 : GFn := ⟨40,
  .seq (.region [.one ⟨(some 4), .p .move, [.c (.bool false)], none⟩])
  (.seq (.seq (.region [.one ⟨(some 5), .p .move, [.t 0], none⟩,
  .one ⟨(some 6), .p (.bin .eql), [.t 5, .c (.string ⟨#[114, 97, 109]⟩)], none⟩,
  .one ⟨(some 7), .p .move, [.t 6], none⟩,
  .grp 7 true [⟨(some 8), .p .move, [.t 1], none⟩, ⟨(some 9), .call 29, [.t 8, .c (.string ⟨#[47]⟩)], none⟩, ⟨(some 10), .p .move, [.t 9], none⟩],
  .grp 10 false [⟨(some 11), .p .move, [.t 1], none⟩, ⟨(some 12), .call 63, [.t 11, .c (.string ⟨#[47]⟩)], none⟩],
  .grp 7 true [⟨(some 13), .p .pick, [.t 10, .c (.bool true), .t 12], none⟩, ⟨(some 14), .p .move, [.t 13], none⟩],
  .grp 14 false [⟨(some 15), .p .move, [.t 1], none⟩, ⟨(some 16), .call 64, [.t 15, .c (.string ⟨#[47, 47]⟩)], none⟩],
  .grp 7 true [⟨(some 17), .p .pick, [.t 14, .c (.bool true), .t 16], none⟩],
  .one ⟨(some 18), .p .pick, [.t 7, .t 17, .c (.bool false)], none⟩,
  .one ⟨(some 19), .p .move, [.t 18], none⟩,
  .grp 19 false [⟨(some 20), .p .move, [.t 0], none⟩, ⟨(some 21), .p (.bin .neq), [.t 20, .c (.string ⟨#[114, 97, 109]⟩)], none⟩, ⟨(some 22), .p .move, [.t 21], none⟩],
  .grp 22 true [⟨(some 23), .p .move, [.t 1], none⟩, ⟨(some 24), .call 64, [.t 23, .c (.string ⟨#[47]⟩)], none⟩],
  .grp 19 false [⟨(some 25), .p .pick, [.t 22, .t 24, .c (.bool false)], none⟩],
  .one ⟨(some 26), .p .pick, [.t 19, .c (.bool true), .t 25], none⟩])
  (.cond (.t 26)
  (.seq (.region [.one ⟨(some 4), .p .move, [.c (.bool false)], none⟩])
  .ret)
  .skip))
  (.seq (.region [.one ⟨(some 27), .p .move, [.t 1], none⟩,
  .one ⟨(some 28), .p .lenStr, [.t 27], none⟩,
  .one ⟨(some 29), .p (.bin .geq), [.t 28, .c (.int .i64 1)], none⟩,
  .one ⟨(some 30), .p .move, [.t 29], none⟩,
  .grp 30 true [⟨(some 31), .p .move, [.t 1], none⟩, ⟨(some 32), .p .lenStr, [.t 31], none⟩, ⟨(some 33), .p (.bin .leq), [.t 32, .c (.int .i64 24)], none⟩],
  .one ⟨(some 34), .p .pick, [.t 30, .t 33, .c (.bool false)], none⟩,
  .one ⟨(some 35), .p .move, [.t 34], none⟩,
  .grp 35 true [⟨(some 36), .p .move, [.t 1], none⟩, ⟨(some 37), .call 62, [.t 36, .c (.string ⟨#[97, 98, 99, 100, 101, 102, 103, 104, 105, 106, 107, 108, 109, 110, 111, 112, 113, 114, 115, 116, 117, 118, 119, 120, 121, 122, 48, 49, 50, 51, 52, 53, 54, 55, 56, 57, 46, 45, 95, 47]⟩)], none⟩, ⟨(some 38), .p (.bin .eql), [.t 37, .c (.string ByteArray.empty)], none⟩],
  .one ⟨(some 39), .p .pick, [.t 35, .t 38, .c (.bool false)], none⟩,
  .one ⟨(some 4), .p .move, [.t 39], none⟩])
  .ret)),
  [(4, 0)]⟩

theorem g36_ok : compFn Tryz.prog 36 = some (fromGFn g36) := by kernel_rfl

def g37 : GFn := ⟨18,
  .seq (.region [.one ⟨(some 4), .p .move, [.c (.string ByteArray.empty)], none⟩])
  (.seq (.seq (.region [.one ⟨(some 5), .p .move, [.t 1], none⟩,
  .one ⟨(some 6), .p (.bin .eql), [.t 5, .c (.string ByteArray.empty)], none⟩,
  .one ⟨(some 7), .p .move, [.t 6], none⟩,
  .grp 7 false [⟨(some 8), .p .move, [.t 0], none⟩, ⟨(some 9), .call 63, [.t 8, .c (.string ⟨#[58]⟩)], none⟩],
  .one ⟨(some 10), .p .pick, [.t 7, .c (.bool true), .t 9], none⟩])
  (.cond (.t 10)
  (.seq (.region [.one ⟨(some 11), .p .move, [.t 0], none⟩,
  .one ⟨(some 12), .p .move, [.t 1], none⟩,
  .one ⟨(some 13), .p (.bin .add), [.t 11, .t 12], none⟩,
  .one ⟨(some 4), .p .move, [.t 13], none⟩])
  .ret)
  .skip))
  (.seq (.region [.one ⟨(some 14), .p .move, [.t 0], none⟩,
  .one ⟨(some 15), .p (.bin .add), [.t 14, .c (.string ⟨#[47]⟩)], none⟩,
  .one ⟨(some 16), .p .move, [.t 1], none⟩,
  .one ⟨(some 17), .p (.bin .add), [.t 15, .t 16], none⟩,
  .one ⟨(some 4), .p .move, [.t 17], none⟩])
  .ret)),
  [(4, 0)]⟩

theorem g37_ok : compFn Tryz.prog 37 = some (fromGFn g37) := by kernel_rfl

def g38 : GFn := ⟨28,
  .seq (.region [.one ⟨(some 4), .p .move, [.c (.bool false)], none⟩])
  (.seq (.region [.one ⟨(some 5), .p .move, [.t 0], none⟩,
  .one ⟨(some 6), .p (.bin .eql), [.t 5, .c (.string ⟨#[110, 105, 108]⟩)], none⟩,
  .one ⟨(some 7), .p .move, [.t 6], none⟩,
  .grp 7 true [⟨(some 8), .p .move, [.t 1], none⟩, ⟨(some 9), .p (.bin .eql), [.t 8, .c (.string ByteArray.empty)], none⟩],
  .one ⟨(some 10), .p .pick, [.t 7, .t 9, .c (.bool false)], none⟩,
  .one ⟨(some 11), .p .move, [.t 10], none⟩,
  .grp 11 false [⟨(some 12), .p .move, [.t 0], none⟩, ⟨(some 13), .p (.bin .eql), [.t 12, .c (.string ⟨#[114, 97, 109]⟩)], none⟩, ⟨(some 14), .p .move, [.t 13], none⟩],
  .grp 14 true [⟨(some 15), .p .move, [.t 1], none⟩, ⟨(some 16), .p (.bin .eql), [.t 15, .c (.string ByteArray.empty)], none⟩],
  .grp 11 false [⟨(some 17), .p .pick, [.t 14, .t 16, .c (.bool false)], none⟩],
  .one ⟨(some 18), .p .pick, [.t 11, .c (.bool true), .t 17], none⟩,
  .one ⟨(some 19), .p .move, [.t 18], none⟩,
  .grp 19 false [⟨(some 20), .p .move, [.t 0], none⟩, ⟨(some 21), .p (.bin .neq), [.t 20, .c (.string ⟨#[110, 105, 108]⟩)], none⟩, ⟨(some 22), .p .move, [.t 21], none⟩],
  .grp 22 true [⟨(some 23), .p .move, [.t 0], none⟩, ⟨(some 24), .p .move, [.t 1], none⟩, ⟨(some 25), .call 36, [.t 23, .t 24], none⟩],
  .grp 19 false [⟨(some 26), .p .pick, [.t 22, .t 25, .c (.bool false)], none⟩],
  .one ⟨(some 27), .p .pick, [.t 19, .c (.bool true), .t 26], none⟩,
  .one ⟨(some 4), .p .move, [.t 27], none⟩])
  .ret),
  [(4, 0)]⟩

theorem g38_ok : compFn Tryz.prog 38 = some (fromGFn g38) := by kernel_rfl

def g39 : GFn := ⟨8,
  .seq (.region [.one ⟨(some 2), .p .move, [.c (.slice none 0 0)], none⟩])
  (.seq (.seq (.region [.one ⟨(some 3), .p .move, [.t 0], none⟩,
  .one ⟨(some 4), .p (.nilEq .slice false), [.t 3, .c (.slice none 0 0)], none⟩])
  (.cond (.t 4)
  (.seq (.region [.one ⟨(some 2), .p .move, [.c (.slice none 0 0)], none⟩])
  .ret)
  .skip))
  (.seq (.region [.one ⟨(some 5), .w (.sliceLit [] 0 []), [], none⟩,
  .one ⟨(some 6), .p .move, [.t 0], none⟩,
  .one ⟨(some 7), .w (.append 1 1), [.t 5, .t 6], none⟩,
  .one ⟨(some 2), .p .move, [.t 7], none⟩])
  .ret)),
  [(2, 0)]⟩

theorem g39_ok : compFn Tryz.prog 39 = some (fromGFn g39) := by kernel_rfl

def g40 : GFn := ⟨14,
  .seq (.region [.one ⟨(some 5), .p .move, [.t 0], none⟩,
  .one ⟨(some 6), .p .lenSl, [.t 5], none⟩,
  .one ⟨(some 4), .p .move, [.t 6], none⟩])
  (.region [.one ⟨(some 7), .p .move, [.t 0], none⟩,
  .one ⟨(some 8), .p .move, [.t 4], none⟩,
  .one ⟨(some 9), .p .move, [.t 4], none⟩,
  .one ⟨(some 10), .p (.convInt .u64), [.t 9], none⟩,
  .one ⟨(some 11), .call 66, [.t 10], none⟩,
  .one ⟨(some 12), .p .move, [.t 1], none⟩,
  .one ⟨(some 13), .call 65, [.t 7, .c (.int .i64 0), .t 8, .t 11, .t 12], none⟩]),
  []⟩

theorem g40_ok : compFn Tryz.prog 40 = some (fromGFn g40) := by kernel_rfl

def g41 : GFn := ⟨10,
  .seq (.region [.one ⟨(some 2), .w (.box 2), [.t 0], none⟩,
  .one ⟨(some 3), .w (.box 2), [.t 1], none⟩,
  .one ⟨(some 4), .p .move, [.c (.int .i64 0)], none⟩])
  (.seq (.region [.one ⟨(some 5), .p (.fieldAddr 0), [.t 2], none⟩,
  .one ⟨(some 6), .r .load1, [.t 5], none⟩,
  .one ⟨(some 7), .p (.fieldAddr 0), [.t 3], none⟩,
  .one ⟨(some 8), .r .load1, [.t 7], none⟩,
  .one ⟨(some 9), .call 42, [.t 6, .t 8], none⟩,
  .one ⟨(some 4), .p .move, [.t 9], none⟩])
  .ret),
  [(4, 0)]⟩

theorem g41_ok : compFn Tryz.prog 41 = some (fromGFn g41) := by kernel_rfl

def g42 : GFn := ⟨20,
  .seq (.region [.one ⟨(some 4), .p .move, [.c (.int .i64 0)], none⟩])
  (.seq (.region [.one ⟨(some 7), .p .move, [.t 0], none⟩,
  .one ⟨(some 8), .call 67, [.t 7], none⟩,
  .one ⟨(some 5), .p .move, [.t 8], none⟩])
  (.seq (.region [.one ⟨(some 9), .p .move, [.t 1], none⟩,
  .one ⟨(some 10), .call 67, [.t 9], none⟩,
  .one ⟨(some 6), .p .move, [.t 10], none⟩])
  (.seq (.seq (.region [.one ⟨(some 11), .p .move, [.t 5], none⟩])
  (.cond (.t 11)
  (.seq (.seq (.region [.one ⟨(some 12), .p .move, [.t 6], none⟩])
  (.cond (.t 12)
  (.seq (.region [.one ⟨(some 4), .p .move, [.c (.int .i64 0)], none⟩])
  .ret)
  .skip))
  (.seq (.region [.one ⟨(some 4), .p .move, [.c (.int .i64 (-1))], none⟩])
  .ret))
  .skip))
  (.seq (.seq (.region [.one ⟨(some 13), .p .move, [.t 6], none⟩])
  (.cond (.t 13)
  (.seq (.region [.one ⟨(some 4), .p .move, [.c (.int .i64 1)], none⟩])
  .ret)
  .skip))
  (.seq (.seq (.region [.one ⟨(some 14), .p .move, [.t 0], none⟩,
  .one ⟨(some 15), .p .move, [.t 1], none⟩,
  .one ⟨(some 16), .p (.bin .lss), [.t 14, .t 15], none⟩])
  (.cond (.t 16)
  (.seq (.region [.one ⟨(some 4), .p .move, [.c (.int .i64 (-1))], none⟩])
  .ret)
  .skip))
  (.seq (.seq (.region [.one ⟨(some 17), .p .move, [.t 0], none⟩,
  .one ⟨(some 18), .p .move, [.t 1], none⟩,
  .one ⟨(some 19), .p (.bin .gtr), [.t 17, .t 18], none⟩])
  (.cond (.t 19)
  (.seq (.region [.one ⟨(some 4), .p .move, [.c (.int .i64 1)], none⟩])
  .ret)
  .skip))
  (.seq (.region [.one ⟨(some 4), .p .move, [.c (.int .i64 0)], none⟩])
  .ret))))))),
  [(4, 0)]⟩

theorem g42_ok : compFn Tryz.prog 42 = some (fromGFn g42) := by kernel_rfl

def g44 : GFn := ⟨4,
  .seq (.region [.one ⟨(some 1), .w (.box 1), [.t 0], none⟩,
  .one ⟨(some 2), .p .move, [.c .nilFunc], none⟩])
  (.seq (.region [.one ⟨(some 3), .p (.mkFunc (.func 70) 0), [.t 1], none⟩,
  .one ⟨(some 2), .p .move, [.t 3], none⟩])
  .ret),
  [(2, 0)]⟩

theorem g44_ok : compFn Tryz.prog 44 = some (fromGFn g44) := by kernel_rfl

def g56 : GFn := ⟨30,
  .seq (.region [.one ⟨(some 4), .p .move, [.c (.slice none 0 0)], none⟩])
  (.seq (.region [.one ⟨(some 6), .p .move, [.t 1], none⟩,
  .one ⟨(some 7), .p .move, [.t 0], none⟩,
  .one ⟨(some 8), .p .nilCheck, [.t 7], none⟩,
  .one ⟨(some 9), .p (.fieldAddr 0), [.t 8], none⟩,
  .one ⟨(some 10), .r .load1, [.t 9], none⟩,
  .one ⟨(some 11), .p .lenSl, [.t 10], none⟩,
  .one ⟨(some 12), .p .min, [.t 6, .t 11], none⟩,
  .one ⟨(some 1), .p .move, [.t 12], none⟩])
  (.seq (.region [.one ⟨(some 13), .p .move, [.t 0], none⟩,
  .one ⟨(some 14), .p .nilCheck, [.t 13], none⟩,
  .one ⟨(some 15), .p (.fieldAddr 0), [.t 14], none⟩,
  .one ⟨(some 16), .r .load1, [.t 15], none⟩,
  .one ⟨(some 17), .p .move, [.t 1], none⟩,
  .one ⟨(some 18), .r (.sl 1 false true), [.t 16, .t 17], none⟩,
  .one ⟨(some 19), .call 60, [.t 18], none⟩,
  .one ⟨(some 5), .p .move, [.t 19], none⟩])
  (.seq (.region [.one ⟨(some 20), .p .move, [.t 0], none⟩,
  .one ⟨(some 21), .p .move, [.t 0], none⟩,
  .one ⟨(some 22), .p .nilCheck, [.t 21], none⟩,
  .one ⟨(some 23), .p (.fieldAddr 0), [.t 22], none⟩,
  .one ⟨(some 24), .r .load1, [.t 23], none⟩,
  .one ⟨(some 25), .p .move, [.t 1], none⟩,
  .one ⟨(some 26), .r (.sl 1 true false), [.t 24, .t 25], none⟩,
  .one ⟨(some 27), .p .nilCheck, [.t 20], none⟩,
  .one ⟨(some 28), .p (.fieldAddr 0), [.t 27], none⟩,
  .one ⟨none, .w (.store 1), [.t 28, .t 26], none⟩])
  (.seq (.region [.one ⟨(some 29), .p .move, [.t 5], none⟩,
  .one ⟨(some 4), .p .move, [.t 29], none⟩])
  .ret)))),
  [(4, 0)]⟩

theorem g56_ok : compFn Tryz.prog 56 = some (fromGFn g56) := by kernel_rfl

def g57 : GFn := ⟨32,
  .seq (.region [.one ⟨(some 4), .p .move, [.c (.bool false)], none⟩])
  (.seq (.seq (.region [.one ⟨(some 9), .p .move, [.t 0], none⟩,
  .one ⟨(some 10), .p .nilCheck, [.t 9], none⟩,
  .one ⟨(some 11), .p (.fieldAddr 3), [.t 10], none⟩,
  .one ⟨(some 12), .r .load1, [.t 11], none⟩,
  .one ⟨(some 13), .w (.range false), [.t 12], none⟩])
  (.block 0 (.loop (.seq (.region [.one ⟨(some 14), .next false, [.t 13], none⟩,
  .one ⟨(some 15), .p (.extract 0), [.t 14], none⟩])
  (.seq (.cond (.t 15)
  .skip
  (.exit 0))
  (.block 1 (.seq (.region [.one ⟨(some 16), .r .entry, [.t 13], none⟩,
  .one ⟨(some 17), .p (.extract 1), [.t 16], none⟩,
  .one ⟨(some 6), .p .move, [.t 17], none⟩])
  (.seq (.region [.one ⟨(some 19), .p .move, [.t 6], none⟩,
  .one ⟨(some 20), .p (.assertT 76 (.pointer none) true), [.t 19], none⟩,
  .one ⟨(some 18), .p .move, [.t 20], none⟩,
  .one ⟨(some 21), .p (.extract 0), [.t 18], none⟩,
  .one ⟨(some 22), .p (.extract 1), [.t 18], none⟩,
  .one ⟨(some 7), .p .move, [.t 21], none⟩,
  .one ⟨(some 8), .p .move, [.t 22], none⟩])
  (.seq (.region [.one ⟨(some 23), .p .move, [.t 8], none⟩,
  .one ⟨(some 24), .p .move, [.t 23], none⟩,
  .grp 24 true [⟨(some 25), .p .move, [.t 7], none⟩, ⟨(some 26), .p .nilCheck, [.t 25], none⟩, ⟨(some 27), .p (.fieldAddr 0), [.t 26], none⟩, ⟨(some 28), .r .load1, [.t 27], none⟩, ⟨(some 29), .p .move, [.t 1], none⟩, ⟨(some 30), .p (.bin .eql), [.t 28, .t 29], none⟩],
  .one ⟨(some 31), .p .pick, [.t 24, .t 30, .c (.bool false)], none⟩])
  (.cond (.t 31)
  (.seq (.region [.one ⟨(some 4), .p .move, [.c (.bool true)], none⟩])
  .ret)
  .skip))))))))))
  (.seq (.region [.one ⟨(some 4), .p .move, [.c (.bool false)], none⟩])
  .ret)),
  [(4, 0)]⟩

theorem g57_ok : compFn Tryz.prog 57 = some (fromGFn g57) := by kernel_rfl

def g59 : GFn := ⟨66,
  .seq (.region [.one ⟨(some 6), .p .move, [.c .nilIface], none⟩,
  .one ⟨(some 7), .p .move, [.c (.int .i64 0)], none⟩])
  (.seq (.region [.one ⟨(some 11), .p .move, [.t 0], none⟩,
  .one ⟨(some 12), .p .nilCheck, [.t 11], none⟩,
  .one ⟨(some 13), .p (.fieldAddr 1), [.t 12], none⟩,
  .one ⟨(some 14), .r .load1, [.t 13], none⟩,
  .one ⟨(some 15), .p .move, [.t 1], none⟩,
  .one ⟨(some 16), .r (.lookup .str (.pointer none) true), [.t 14, .t 15], none⟩,
  .one ⟨(some 10), .p .move, [.t 16], none⟩,
  .one ⟨(some 17), .p (.extract 0), [.t 10], none⟩,
  .one ⟨(some 18), .p (.extract 1), [.t 10], none⟩,
  .one ⟨(some 8), .p .move, [.t 17], none⟩,
  .one ⟨(some 9), .p .move, [.t 18], none⟩])
  (.seq (.seq (.region [.one ⟨(some 19), .p .move, [.t 9], none⟩,
  .one ⟨(some 20), .p (.un .not), [.t 19], none⟩])
  (.cond (.t 20)
  (.region [.one ⟨(some 21), .p (.build [.slice none 0 0, .int .i64 0] [(1, 1)]), [.c (.int .i64 64)], none⟩,
  .one ⟨(some 22), .p (.build [.slice none 0 0, .int .i64 0, .bool false, .bool false, .bool false, .bool false] [(0, 2)]), [.t 21], none⟩,
  .one ⟨(some 23), .w (.box 6), [.t 22], none⟩,
  .one ⟨(some 8), .p .move, [.t 23], none⟩])
  .skip))
  (.seq (.seq (.region [.one ⟨(some 24), .p .move, [.t 2], none⟩,
  .one ⟨(some 25), .p .move, [.t 24], none⟩,
  .grp 25 true [⟨(some 26), .p .move, [.t 8], none⟩, ⟨(some 27), .p .nilCheck, [.t 26], none⟩, ⟨(some 28), .p (.fieldAddr 5), [.t 27], none⟩, ⟨(some 29), .r .load1, [.t 28], none⟩],
  .one ⟨(some 30), .p .pick, [.t 25, .t 29, .c (.bool false)], none⟩,
  .one ⟨(some 31), .p .move, [.t 30], none⟩,
  .grp 31 false [⟨(some 32), .p .move, [.t 2], none⟩, ⟨(some 33), .p (.un .not), [.t 32], none⟩, ⟨(some 34), .p .move, [.t 33], none⟩],
  .grp 34 true [⟨(some 35), .p .move, [.t 8], none⟩, ⟨(some 36), .p .nilCheck, [.t 35], none⟩, ⟨(some 37), .p (.fieldAddr 3), [.t 36], none⟩, ⟨(some 38), .r .load1, [.t 37], none⟩],
  .grp 31 false [⟨(some 39), .p .pick, [.t 34, .t 38, .c (.bool false)], none⟩],
  .one ⟨(some 40), .p .pick, [.t 31, .c (.bool true), .t 39], none⟩])
  (.cond (.t 40)
  (.seq (.region [.one ⟨(some 6), .p .move, [.c .nilIface], none⟩,
  .one ⟨(some 7), .p .move, [.c (.int .i64 222)], none⟩])
  .ret)
  .skip))
  (.seq (.seq (.region [.one ⟨(some 41), .p .move, [.t 2], none⟩])
  (.cond (.t 41)
  (.region [.one ⟨(some 42), .p .move, [.t 8], none⟩,
  .one ⟨(some 43), .p .move, [.t 8], none⟩,
  .one ⟨(some 44), .p .nilCheck, [.t 42], none⟩,
  .one ⟨(some 45), .p (.fieldAddr 4), [.t 44], none⟩,
  .one ⟨none, .w (.store 1), [.t 45, .c (.bool true)], none⟩,
  .one ⟨(some 46), .p .nilCheck, [.t 43], none⟩,
  .one ⟨(some 47), .p (.fieldAddr 5), [.t 46], none⟩,
  .one ⟨none, .w (.store 1), [.t 47, .c (.bool true)], none⟩])
  (.region [.one ⟨(some 48), .p .move, [.t 8], none⟩,
  .one ⟨(some 49), .p .move, [.t 8], none⟩,
  .one ⟨(some 50), .p .nilCheck, [.t 48], none⟩,
  .one ⟨(some 51), .p (.fieldAddr 2), [.t 50], none⟩,
  .one ⟨none, .w (.store 1), [.t 51, .c (.bool true)], none⟩,
  .one ⟨(some 52), .p .nilCheck, [.t 49], none⟩,
  .one ⟨(some 53), .p (.fieldAddr 3), [.t 52], none⟩,
  .one ⟨none, .w (.store 1), [.t 53, .c (.bool true)], none⟩])))
  (.seq (.region [.one ⟨(some 54), .p .move, [.t 0], none⟩,
  .one ⟨(some 55), .p .nilCheck, [.t 54], none⟩,
  .one ⟨(some 56), .p (.fieldAddr 1), [.t 55], none⟩,
  .one ⟨(some 57), .r .load1, [.t 56], none⟩,
  .one ⟨(some 58), .p .move, [.t 1], none⟩,
  .one ⟨(some 59), .p .move, [.t 8], none⟩,
  .one ⟨none, .w (.mapSet .str), [.t 57, .t 58, .t 59], none⟩])
  (.seq (.region [.one ⟨(some 60), .p .move, [.t 1], none⟩,
  .one ⟨(some 61), .p .move, [.t 8], none⟩,
  .one ⟨(some 62), .p .move, [.t 2], none⟩,
  .one ⟨(some 63), .p (.build [.string ByteArray.empty, .pointer none, .bool false] [(0, 1), (1, 1), (2, 1)]), [.t 60, .t 61, .t 62], none⟩,
  .one ⟨(some 64), .w (.box 3), [.t 63], none⟩,
  .one ⟨(some 65), .p (.mkIface 86), [.t 64], none⟩,
  .one ⟨(some 6), .p .move, [.t 65], none⟩,
  .one ⟨(some 7), .p .move, [.c (.int .i64 0)], none⟩])
  .ret)))))),
  [(6, 0), (7, 0)]⟩

theorem g59_ok : compFn Tryz.prog 59 = some (fromGFn g59) := by kernel_rfl

def g60 : GFn := ⟨8,
  .seq (.region [.one ⟨(some 2), .p .move, [.c (.slice none 0 0)], none⟩])
  (.seq (.seq (.region [.one ⟨(some 3), .p .move, [.t 0], none⟩,
  .one ⟨(some 4), .p (.nilEq .slice false), [.t 3, .c (.slice none 0 0)], none⟩])
  (.cond (.t 4)
  (.seq (.region [.one ⟨(some 2), .p .move, [.c (.slice none 0 0)], none⟩])
  .ret)
  .skip))
  (.seq (.region [.one ⟨(some 5), .w (.sliceLit [] 0 []), [], none⟩,
  .one ⟨(some 6), .p .move, [.t 0], none⟩,
  .one ⟨(some 7), .w (.append 1 1), [.t 5, .t 6], none⟩,
  .one ⟨(some 2), .p .move, [.t 7], none⟩])
  .ret)),
  [(2, 0)]⟩

theorem g60_ok : compFn Tryz.prog 60 = some (fromGFn g60) := by kernel_rfl

def g65 : GFn := ⟨148,
  .seq (.region [.one ⟨(some 10), .p .move, [.c (.bool true)], none⟩])
  (.seq (.region [.one ⟨(some 11), .p .move, [.c (.bool true)], none⟩])
  (.block 0 (.loop (.block 1 (.seq (.region [.one ⟨(some 21), .p .move, [.t 2], none⟩,
  .one ⟨(some 22), .p .move, [.t 1], none⟩,
  .one ⟨(some 23), .p (.bin .sub), [.t 21, .t 22], none⟩,
  .one ⟨(some 12), .p .move, [.t 23], none⟩])
  (.seq (.seq (.region [.one ⟨(some 24), .p .move, [.t 12], none⟩,
  .one ⟨(some 25), .p (.bin .leq), [.t 24, .c (.int .i64 12)], none⟩])
  (.cond (.t 25)
  (.seq (.region [.one ⟨(some 26), .p .move, [.t 0], none⟩,
  .one ⟨(some 27), .p .move, [.t 1], none⟩,
  .one ⟨(some 28), .p .move, [.t 2], none⟩,
  .one ⟨(some 29), .p .move, [.t 4], none⟩,
  .one ⟨(some 30), .call 95, [.t 26, .t 27, .t 28, .t 29], none⟩])
  .ret)
  .skip))
  (.seq (.seq (.region [.one ⟨(some 31), .p .move, [.t 3], none⟩,
  .one ⟨(some 32), .p (.bin .eql), [.t 31, .c (.int .i64 0)], none⟩])
  (.cond (.t 32)
  (.seq (.region [.one ⟨(some 33), .p .move, [.t 0], none⟩,
  .one ⟨(some 34), .p .move, [.t 1], none⟩,
  .one ⟨(some 35), .p .move, [.t 2], none⟩,
  .one ⟨(some 36), .p .move, [.t 4], none⟩,
  .one ⟨(some 37), .call 96, [.t 33, .t 34, .t 35, .t 36], none⟩])
  .ret)
  .skip))
  (.seq (.seq (.region [.one ⟨(some 38), .p .move, [.t 10], none⟩,
  .one ⟨(some 39), .p (.un .not), [.t 38], none⟩])
  (.cond (.t 39)
  (.seq (.region [.one ⟨(some 40), .p .move, [.t 0], none⟩,
  .one ⟨(some 41), .p .move, [.t 1], none⟩,
  .one ⟨(some 42), .p .move, [.t 2], none⟩,
  .one ⟨(some 43), .p .move, [.t 4], none⟩,
  .one ⟨(some 44), .call 97, [.t 40, .t 41, .t 42, .t 43], none⟩])
  (.region [.one ⟨(some 45), .p .move, [.t 3], none⟩,
  .one ⟨(some 46), .p (.bin .sub), [.t 45, .c (.int .i64 1)], none⟩,
  .one ⟨(some 3), .p .move, [.t 46], none⟩]))
  .skip))
  (.seq (.region [.one ⟨(some 48), .p .move, [.t 0], none⟩,
  .one ⟨(some 49), .p .move, [.t 1], none⟩,
  .one ⟨(some 50), .p .move, [.t 2], none⟩,
  .one ⟨(some 51), .p .move, [.t 4], none⟩,
  .one ⟨(some 52), .call 98, [.t 48, .t 49, .t 50, .t 51], none⟩,
  .one ⟨(some 47), .p .move, [.t 52], none⟩,
  .one ⟨(some 53), .p (.extract 0), [.t 47], none⟩,
  .one ⟨(some 54), .p (.extract 1), [.t 47], none⟩,
  .one ⟨(some 13), .p .move, [.t 53], none⟩,
  .one ⟨(some 14), .p .move, [.t 54], none⟩])
  (.seq (.seq (.region [.one ⟨(some 55), .p .move, [.t 14], none⟩,
  .one ⟨(some 56), .p (.bin .eql), [.t 55, .c (.int .i64 2)], none⟩])
  (.cond (.t 56)
  (.seq (.region [.one ⟨(some 57), .p .move, [.t 0], none⟩,
  .one ⟨(some 58), .p .move, [.t 1], none⟩,
  .one ⟨(some 59), .p .move, [.t 2], none⟩,
  .one ⟨(some 60), .p .move, [.t 4], none⟩,
  .one ⟨(some 61), .call 99, [.t 57, .t 58, .t 59, .t 60], none⟩])
  (.seq (.region [.one ⟨(some 62), .p .move, [.t 2], none⟩,
  .one ⟨(some 63), .p (.bin .sub), [.t 62, .c (.int .i64 1)], none⟩,
  .one ⟨(some 64), .p .move, [.t 13], none⟩,
  .one ⟨(some 65), .p .move, [.t 1], none⟩,
  .one ⟨(some 66), .p (.bin .sub), [.t 64, .t 65], none⟩,
  .one ⟨(some 67), .p (.bin .sub), [.t 63, .t 66], none⟩,
  .one ⟨(some 13), .p .move, [.t 67], none⟩])
  (.region [.one ⟨(some 14), .p .move, [.c (.int .i64 1)], none⟩])))
  .skip))
  (.seq (.seq (.region [.one ⟨(some 68), .p .move, [.t 10], none⟩,
  .one ⟨(some 69), .p .move, [.t 68], none⟩,
  .grp 69 true [⟨(some 70), .p .move, [.t 11], none⟩],
  .one ⟨(some 71), .p .pick, [.t 69, .t 70, .c (.bool false)], none⟩,
  .one ⟨(some 72), .p .move, [.t 71], none⟩,
  .grp 72 true [⟨(some 73), .p .move, [.t 14], none⟩, ⟨(some 74), .p (.bin .eql), [.t 73, .c (.int .i64 1)], none⟩],
  .one ⟨(some 75), .p .pick, [.t 72, .t 74, .c (.bool false)], none⟩])
  (.cond (.t 75)
  (.seq (.region [.one ⟨(some 76), .p .move, [.t 0], none⟩,
  .one ⟨(some 77), .p .move, [.t 1], none⟩,
  .one ⟨(some 78), .p .move, [.t 2], none⟩,
  .one ⟨(some 79), .p .move, [.t 4], none⟩,
  .one ⟨(some 80), .call 100, [.t 76, .t 77, .t 78, .t 79], none⟩])
  (.cond (.t 80)
  .ret
  .skip))
  .skip))
  (.seq (.seq (.region [.one ⟨(some 81), .p .move, [.t 1], none⟩,
  .one ⟨(some 82), .p (.bin .gtr), [.t 81, .c (.int .i64 0)], none⟩,
  .one ⟨(some 83), .p .move, [.t 82], none⟩,
  .grp 83 true [⟨(some 84), .p .move, [.t 4], none⟩, ⟨(some 85), .p .move, [.t 0], none⟩, ⟨(some 86), .p .move, [.t 1], none⟩, ⟨(some 87), .p (.bin .sub), [.t 86, .c (.int .i64 1)], none⟩, ⟨(some 88), .p (.indexAddr 2), [.t 85, .t 87], none⟩, ⟨(some 89), .r (.loadN 2), [.t 88], none⟩, ⟨(some 90), .p .move, [.t 0], none⟩, ⟨(some 91), .p .move, [.t 13], none⟩, ⟨(some 92), .p (.indexAddr 2), [.t 90, .t 91], none⟩, ⟨(some 93), .r (.loadN 2), [.t 92], none⟩, ⟨(some 94), .callV, [.t 84, .t 89, .t 93], none⟩, ⟨(some 95), .p (.bin .lss), [.t 94, .c (.int .i64 0)], none⟩, ⟨(some 96), .p (.un .not), [.t 95], none⟩],
  .one ⟨(some 97), .p .pick, [.t 83, .t 96, .c (.bool false)], none⟩])
  (.cond (.t 97)
  (.seq (.region [.one ⟨(some 98), .p .move, [.t 0], none⟩,
  .one ⟨(some 99), .p .move, [.t 1], none⟩,
  .one ⟨(some 100), .p .move, [.t 2], none⟩,
  .one ⟨(some 101), .p .move, [.t 13], none⟩,
  .one ⟨(some 102), .p .move, [.t 4], none⟩,
  .one ⟨(some 103), .call 101, [.t 98, .t 99, .t 100, .t 101, .t 102], none⟩,
  .one ⟨(some 15), .p .move, [.t 103], none⟩])
  (.seq (.region [.one ⟨(some 104), .p .move, [.t 15], none⟩,
  .one ⟨(some 1), .p .move, [.t 104], none⟩])
  (.exit 1)))
  .skip))
  (.seq (.region [.one ⟨(some 106), .p .move, [.t 0], none⟩,
  .one ⟨(some 107), .p .move, [.t 1], none⟩,
  .one ⟨(some 108), .p .move, [.t 2], none⟩,
  .one ⟨(some 109), .p .move, [.t 13], none⟩,
  .one ⟨(some 110), .p .move, [.t 4], none⟩,
  .one ⟨(some 111), .call 102, [.t 106, .t 107, .t 108, .t 109, .t 110], none⟩,
  .one ⟨(some 105), .p .move, [.t 111], none⟩,
  .one ⟨(some 112), .p (.extract 0), [.t 105], none⟩,
  .one ⟨(some 113), .p (.extract 1), [.t 105], none⟩,
  .one ⟨(some 16), .p .move, [.t 112], none⟩,
  .one ⟨(some 17), .p .move, [.t 113], none⟩])
  (.seq (.region [.one ⟨(some 114), .p .move, [.t 17], none⟩,
  .one ⟨(some 11), .p .move, [.t 114], none⟩])
  (.seq (.region [.one ⟨(some 115), .p .move, [.t 16], none⟩,
  .one ⟨(some 116), .p .move, [.t 1], none⟩,
  .one ⟨(some 117), .p (.bin .sub), [.t 115, .t 116], none⟩,
  .one ⟨(some 118), .p .move, [.t 2], none⟩,
  .one ⟨(some 119), .p .move, [.t 16], none⟩,
  .one ⟨(some 120), .p (.bin .sub), [.t 118, .t 119], none⟩,
  .one ⟨(some 18), .p .move, [.t 117], none⟩,
  .one ⟨(some 19), .p .move, [.t 120], none⟩])
  (.seq (.region [.one ⟨(some 121), .p .move, [.t 12], none⟩,
  .one ⟨(some 122), .p (.bin .quo), [.t 121, .c (.int .i64 8)], none⟩,
  .one ⟨(some 20), .p .move, [.t 122], none⟩])
  (.seq (.region [.one ⟨(some 123), .p .move, [.t 18], none⟩,
  .one ⟨(some 124), .p .move, [.t 19], none⟩,
  .one ⟨(some 125), .p (.bin .lss), [.t 123, .t 124], none⟩])
  (.cond (.t 125)
  (.seq (.region [.one ⟨(some 126), .p .move, [.t 18], none⟩,
  .one ⟨(some 127), .p .move, [.t 20], none⟩,
  .one ⟨(some 128), .p (.bin .geq), [.t 126, .t 127], none⟩,
  .one ⟨(some 10), .p .move, [.t 128], none⟩])
  (.seq (.region [.one ⟨(some 129), .p .move, [.t 0], none⟩,
  .one ⟨(some 130), .p .move, [.t 1], none⟩,
  .one ⟨(some 131), .p .move, [.t 16], none⟩,
  .one ⟨(some 132), .p .move, [.t 3], none⟩,
  .one ⟨(some 133), .p .move, [.t 4], none⟩,
  .one ⟨(some 134), .call 65, [.t 129, .t 130, .t 131, .t 132, .t 133], none⟩])
  (.region [.one ⟨(some 135), .p .move, [.t 16], none⟩,
  .one ⟨(some 136), .p (.bin .add), [.t 135, .c (.int .i64 1)], none⟩,
  .one ⟨(some 1), .p .move, [.t 136], none⟩])))
  (.seq (.region [.one ⟨(some 137), .p .move, [.t 19], none⟩,
  .one ⟨(some 138), .p .move, [.t 20], none⟩,
  .one ⟨(some 139), .p (.bin .geq), [.t 137, .t 138], none⟩,
  .one ⟨(some 10), .p .move, [.t 139], none⟩])
  (.seq (.region [.one ⟨(some 140), .p .move, [.t 0], none⟩,
  .one ⟨(some 141), .p .move, [.t 16], none⟩,
  .one ⟨(some 142), .p (.bin .add), [.t 141, .c (.int .i64 1)], none⟩,
  .one ⟨(some 143), .p .move, [.t 2], none⟩,
  .one ⟨(some 144), .p .move, [.t 3], none⟩,
  .one ⟨(some 145), .p .move, [.t 4], none⟩,
  .one ⟨(some 146), .call 65, [.t 140, .t 142, .t 143, .t 144, .t 145], none⟩])
  (.region [.one ⟨(some 147), .p .move, [.t 16], none⟩,
  .one ⟨(some 2), .p .move, [.t 147], none⟩]))))))))))))))))))))),
  []⟩

theorem g65_ok : compFn Tryz.prog 65 = some (fromGFn g65) := by kernel_rfl

def g66 : GFn := ⟨8,
  .seq (.region [.one ⟨(some 2), .p .move, [.c (.int .i64 0)], none⟩])
  (.seq (.cond (.c (.bool false))
  (.seq (.region [.one ⟨(some 3), .p .move, [.t 0], none⟩,
  .one ⟨(some 4), .p (.convInt .u32), [.t 3], none⟩,
  .one ⟨(some 5), .call 103, [.t 4], none⟩,
  .one ⟨(some 2), .p .move, [.t 5], none⟩])
  .ret)
  .skip)
  (.seq (.region [.one ⟨(some 6), .p .move, [.t 0], none⟩,
  .one ⟨(some 7), .call 104, [.t 6], none⟩,
  .one ⟨(some 2), .p .move, [.t 7], none⟩])
  .ret)),
  [(2, 0)]⟩

theorem g66_ok : compFn Tryz.prog 66 = some (fromGFn g66) := by kernel_rfl

def g67 : GFn := ⟨6,
  .seq (.region [.one ⟨(some 2), .p .move, [.c (.bool false)], none⟩])
  (.seq (.region [.one ⟨(some 3), .p .move, [.t 0], none⟩,
  .one ⟨(some 4), .p .move, [.t 0], none⟩,
  .one ⟨(some 5), .p (.bin .neq), [.t 3, .t 4], none⟩,
  .one ⟨(some 2), .p .move, [.t 5], none⟩])
  .ret),
  [(2, 0)]⟩

theorem g67_ok : compFn Tryz.prog 67 = some (fromGFn g67) := by kernel_rfl

def g95 : GFn := ⟨53,
  .seq (.region [.one ⟨(some 10), .p .move, [.t 1], none⟩,
  .one ⟨(some 11), .p (.bin .add), [.t 10, .c (.int .i64 1)], none⟩,
  .one ⟨(some 8), .p .move, [.t 11], none⟩])
  (.block 0 (.loop (.seq (.seq (.region [.one ⟨(some 12), .p .move, [.t 8], none⟩,
  .one ⟨(some 13), .p .move, [.t 2], none⟩,
  .one ⟨(some 14), .p (.bin .lss), [.t 12, .t 13], none⟩])
  (.cond (.t 14)
  .skip
  (.exit 0)))
  (.seq (.block 1 (.seq (.region [.one ⟨(some 17), .p .move, [.t 8], none⟩,
  .one ⟨(some 9), .p .move, [.t 17], none⟩])
  (.block 2 (.loop (.seq (.seq (.region [.one ⟨(some 18), .p .move, [.t 9], none⟩,
  .one ⟨(some 19), .p .move, [.t 1], none⟩,
  .one ⟨(some 20), .p (.bin .gtr), [.t 18, .t 19], none⟩,
  .one ⟨(some 21), .p .move, [.t 20], none⟩,
  .grp 21 true [⟨(some 22), .p .move, [.t 3], none⟩, ⟨(some 23), .p .move, [.t 0], none⟩, ⟨(some 24), .p .move, [.t 9], none⟩, ⟨(some 25), .p (.indexAddr 2), [.t 23, .t 24], none⟩, ⟨(some 26), .r (.loadN 2), [.t 25], none⟩, ⟨(some 27), .p .move, [.t 0], none⟩, ⟨(some 28), .p .move, [.t 9], none⟩, ⟨(some 29), .p (.bin .sub), [.t 28, .c (.int .i64 1)], none⟩, ⟨(some 30), .p (.indexAddr 2), [.t 27, .t 29], none⟩, ⟨(some 31), .r (.loadN 2), [.t 30], none⟩, ⟨(some 32), .callV, [.t 22, .t 26, .t 31], none⟩, ⟨(some 33), .p (.bin .lss), [.t 32, .c (.int .i64 0)], none⟩],
  .one ⟨(some 34), .p .pick, [.t 21, .t 33, .c (.bool false)], none⟩])
  (.cond (.t 34)
  .skip
  (.exit 2)))
  (.seq (.block 3 (.region [.one ⟨(some 37), .p .move, [.t 0], none⟩,
  .one ⟨(some 38), .p .move, [.t 9], none⟩,
  .one ⟨(some 39), .p .move, [.t 0], none⟩,
  .one ⟨(some 40), .p .move, [.t 9], none⟩,
  .one ⟨(some 41), .p (.bin .sub), [.t 40, .c (.int .i64 1)], none⟩,
  .one ⟨(some 42), .p .move, [.t 0], none⟩,
  .one ⟨(some 43), .p .move, [.t 9], none⟩,
  .one ⟨(some 44), .p (.bin .sub), [.t 43, .c (.int .i64 1)], none⟩,
  .one ⟨(some 45), .p (.indexAddr 2), [.t 42, .t 44], none⟩,
  .one ⟨(some 46), .r (.loadN 2), [.t 45], none⟩,
  .one ⟨(some 47), .p .move, [.t 0], none⟩,
  .one ⟨(some 48), .p .move, [.t 9], none⟩,
  .one ⟨(some 49), .p (.indexAddr 2), [.t 47, .t 48], none⟩,
  .one ⟨(some 50), .r (.loadN 2), [.t 49], none⟩,
  .one ⟨(some 51), .p (.indexAddr 2), [.t 37, .t 38], none⟩,
  .one ⟨none, .w (.store 2), [.t 51, .t 46], none⟩,
  .one ⟨(some 52), .p (.indexAddr 2), [.t 39, .t 41], none⟩,
  .one ⟨none, .w (.store 2), [.t 52, .t 50], none⟩]))
  (.region [.one ⟨(some 35), .p .move, [.t 9], none⟩,
  .one ⟨(some 36), .p (.bin .sub), [.t 35, .c (.int .i64 1)], none⟩,
  .one ⟨(some 9), .p .move, [.t 36], none⟩])))))))
  (.region [.one ⟨(some 15), .p .move, [.t 8], none⟩,
  .one ⟨(some 16), .p (.bin .add), [.t 15, .c (.int .i64 1)], none⟩,
  .one ⟨(some 8), .p .move, [.t 16], none⟩]))))),
  []⟩

theorem g95_ok : compFn Tryz.prog 95 = some (fromGFn g95) := by kernel_rfl

def g103 : GFn := ⟨19,
  .seq (.region [.one ⟨(some 2), .p .move, [.c (.int .i64 0)], none⟩])
  (.seq (.seq (.region [.one ⟨(some 3), .p .move, [.t 0], none⟩,
  .one ⟨(some 4), .p (.bin .geq), [.t 3, .c (.int .u32 65536)], none⟩])
  (.cond (.t 4)
  (.seq (.region [.one ⟨(some 5), .p .move, [.t 0], none⟩,
  .one ⟨(some 6), .p (.bin .shr), [.t 5, .c (.int .u64 16)], none⟩,
  .one ⟨(some 0), .p .move, [.t 6], none⟩])
  (.region [.one ⟨(some 2), .p .move, [.c (.int .i64 16)], none⟩]))
  .skip))
  (.seq (.seq (.region [.one ⟨(some 7), .p .move, [.t 0], none⟩,
  .one ⟨(some 8), .p (.bin .geq), [.t 7, .c (.int .u32 256)], none⟩])
  (.cond (.t 8)
  (.seq (.region [.one ⟨(some 9), .p .move, [.t 0], none⟩,
  .one ⟨(some 10), .p (.bin .shr), [.t 9, .c (.int .u64 8)], none⟩,
  .one ⟨(some 0), .p .move, [.t 10], none⟩])
  (.region [.one ⟨(some 11), .p .move, [.t 2], none⟩,
  .one ⟨(some 12), .p (.bin .add), [.t 11, .c (.int .i64 8)], none⟩,
  .one ⟨(some 2), .p .move, [.t 12], none⟩]))
  .skip))
  (.seq (.region [.one ⟨(some 13), .p .move, [.t 2], none⟩,
  .one ⟨(some 14), .p .move, [.t 0], none⟩,
  .one ⟨(some 15), .p (.convInt .u8), [.t 14], none⟩,
  .one ⟨(some 16), .p .indexStr, [.c (.string ⟨#[0, 1, 2, 2, 3, 3, 3, 3, 4, 4, 4, 4, 4, 4, 4, 4, 5, 5, 5, 5, 5, 5, 5, 5, 5, 5, 5, 5, 5, 5, 5, 5, 6, 6, 6, 6, 6, 6, 6, 6, 6, 6, 6, 6, 6, 6, 6, 6, 6, 6, 6, 6, 6, 6, 6, 6, 6, 6, 6, 6, 6, 6, 6, 6, 7, 7, 7, 7, 7, 7, 7, 7, 7, 7, 7, 7, 7, 7, 7, 7, 7, 7, 7, 7, 7, 7, 7, 7, 7, 7, 7, 7, 7, 7, 7, 7, 7, 7, 7, 7, 7, 7, 7, 7, 7, 7, 7, 7, 7, 7, 7, 7, 7, 7, 7, 7, 7, 7, 7, 7, 7, 7, 7, 7, 7, 7, 7, 7, 8, 8, 8, 8, 8, 8, 8, 8, 8, 8, 8, 8, 8, 8, 8, 8, 8, 8, 8, 8, 8, 8, 8, 8, 8, 8, 8, 8, 8, 8, 8, 8, 8, 8, 8, 8, 8, 8, 8, 8, 8, 8, 8, 8, 8, 8, 8, 8, 8, 8, 8, 8, 8, 8, 8, 8, 8, 8, 8, 8, 8, 8, 8, 8, 8, 8, 8, 8, 8, 8, 8, 8, 8, 8, 8, 8, 8, 8, 8, 8, 8, 8, 8, 8, 8, 8, 8, 8, 8, 8, 8, 8, 8, 8, 8, 8, 8, 8, 8, 8, 8, 8, 8, 8, 8, 8, 8, 8, 8, 8, 8, 8, 8, 8, 8, 8, 8, 8, 8, 8, 8, 8, 8, 8, 8, 8, 8, 8]⟩), .t 15], none⟩,
  .one ⟨(some 17), .p (.convInt .i64), [.t 16], none⟩,
  .one ⟨(some 18), .p (.bin .add), [.t 13, .t 17], none⟩,
  .one ⟨(some 2), .p .move, [.t 18], none⟩])
  .ret))),
  [(2, 0)]⟩

theorem g103_ok : compFn Tryz.prog 103 = some (fromGFn g103) := by kernel_rfl

def g104 : GFn := ⟨25,
  .seq (.region [.one ⟨(some 2), .p .move, [.c (.int .i64 0)], none⟩])
  (.seq (.seq (.region [.one ⟨(some 3), .p .move, [.t 0], none⟩,
  .one ⟨(some 4), .p (.bin .geq), [.t 3, .c (.int .u64 4294967296)], none⟩])
  (.cond (.t 4)
  (.seq (.region [.one ⟨(some 5), .p .move, [.t 0], none⟩,
  .one ⟨(some 6), .p (.bin .shr), [.t 5, .c (.int .u64 32)], none⟩,
  .one ⟨(some 0), .p .move, [.t 6], none⟩])
  (.region [.one ⟨(some 2), .p .move, [.c (.int .i64 32)], none⟩]))
  .skip))
  (.seq (.seq (.region [.one ⟨(some 7), .p .move, [.t 0], none⟩,
  .one ⟨(some 8), .p (.bin .geq), [.t 7, .c (.int .u64 65536)], none⟩])
  (.cond (.t 8)
  (.seq (.region [.one ⟨(some 9), .p .move, [.t 0], none⟩,
  .one ⟨(some 10), .p (.bin .shr), [.t 9, .c (.int .u64 16)], none⟩,
  .one ⟨(some 0), .p .move, [.t 10], none⟩])
  (.region [.one ⟨(some 11), .p .move, [.t 2], none⟩,
  .one ⟨(some 12), .p (.bin .add), [.t 11, .c (.int .i64 16)], none⟩,
  .one ⟨(some 2), .p .move, [.t 12], none⟩]))
  .skip))
  (.seq (.seq (.region [.one ⟨(some 13), .p .move, [.t 0], none⟩,
  .one ⟨(some 14), .p (.bin .geq), [.t 13, .c (.int .u64 256)], none⟩])
  (.cond (.t 14)
  (.seq (.region [.one ⟨(some 15), .p .move, [.t 0], none⟩,
  .one ⟨(some 16), .p (.bin .shr), [.t 15, .c (.int .u64 8)], none⟩,
  .one ⟨(some 0), .p .move, [.t 16], none⟩])
  (.region [.one ⟨(some 17), .p .move, [.t 2], none⟩,
  .one ⟨(some 18), .p (.bin .add), [.t 17, .c (.int .i64 8)], none⟩,
  .one ⟨(some 2), .p .move, [.t 18], none⟩]))
  .skip))
  (.seq (.region [.one ⟨(some 19), .p .move, [.t 2], none⟩,
  .one ⟨(some 20), .p .move, [.t 0], none⟩,
  .one ⟨(some 21), .p (.convInt .u8), [.t 20], none⟩,
  .one ⟨(some 22), .p .indexStr, [.c (.string ⟨#[0, 1, 2, 2, 3, 3, 3, 3, 4, 4, 4, 4, 4, 4, 4, 4, 5, 5, 5, 5, 5, 5, 5, 5, 5, 5, 5, 5, 5, 5, 5, 5, 6, 6, 6, 6, 6, 6, 6, 6, 6, 6, 6, 6, 6, 6, 6, 6, 6, 6, 6, 6, 6, 6, 6, 6, 6, 6, 6, 6, 6, 6, 6, 6, 7, 7, 7, 7, 7, 7, 7, 7, 7, 7, 7, 7, 7, 7, 7, 7, 7, 7, 7, 7, 7, 7, 7, 7, 7, 7, 7, 7, 7, 7, 7, 7, 7, 7, 7, 7, 7, 7, 7, 7, 7, 7, 7, 7, 7, 7, 7, 7, 7, 7, 7, 7, 7, 7, 7, 7, 7, 7, 7, 7, 7, 7, 7, 7, 8, 8, 8, 8, 8, 8, 8, 8, 8, 8, 8, 8, 8, 8, 8, 8, 8, 8, 8, 8, 8, 8, 8, 8, 8, 8, 8, 8, 8, 8, 8, 8, 8, 8, 8, 8, 8, 8, 8, 8, 8, 8, 8, 8, 8, 8, 8, 8, 8, 8, 8, 8, 8, 8, 8, 8, 8, 8, 8, 8, 8, 8, 8, 8, 8, 8, 8, 8, 8, 8, 8, 8, 8, 8, 8, 8, 8, 8, 8, 8, 8, 8, 8, 8, 8, 8, 8, 8, 8, 8, 8, 8, 8, 8, 8, 8, 8, 8, 8, 8, 8, 8, 8, 8, 8, 8, 8, 8, 8, 8, 8, 8, 8, 8, 8, 8, 8, 8, 8, 8, 8, 8, 8, 8, 8, 8, 8, 8]⟩), .t 21], none⟩,
  .one ⟨(some 23), .p (.convInt .i64), [.t 22], none⟩,
  .one ⟨(some 24), .p (.bin .add), [.t 19, .t 23], none⟩,
  .one ⟨(some 2), .p .move, [.t 24], none⟩])
  .ret)))),
  [(2, 0)]⟩

theorem g104_ok : compFn Tryz.prog 104 = some (fromGFn g104) := by kernel_rfl

def g174 : GFn := ⟨17,
  .region [.one ⟨(some 4), .p .move, [.t 1], none⟩,
  .one ⟨(some 5), .p .nilCheck, [.t 4], none⟩,
  .one ⟨(some 6), .p (.fieldAddr 0), [.t 5], none⟩,
  .one ⟨(some 7), .r .load1, [.t 6], none⟩,
  .one ⟨(some 8), .p .move, [.t 0], none⟩,
  .one ⟨(some 9), .p .nilCheck, [.t 8], none⟩,
  .one ⟨(some 10), .p (.fieldAddr 0), [.t 9], none⟩,
  .one ⟨(some 11), .r .load1, [.t 10], none⟩,
  .one ⟨(some 12), .p .move, [.t 0], none⟩,
  .one ⟨(some 13), .p .nilCheck, [.t 12], none⟩,
  .one ⟨(some 14), .p (.fieldAddr 1), [.t 13], none⟩,
  .one ⟨(some 15), .p (.fieldAddr 0), [.t 14], none⟩,
  .one ⟨(some 16), .r .load1, [.t 15], none⟩,
  .one ⟨none, .w (.mapSet .str), [.t 7, .t 11, .t 16], none⟩],
  []⟩

theorem g174_ok : compFn Tryz.prog 174 = some (fromGFn g174) := by kernel_rfl

def g175 : GFn := ⟨4,
  .region [.one ⟨(some 2), .w (.box 1), [.t 0], none⟩],
  []⟩

theorem g175_ok : compFn Tryz.prog 175 = some (fromGFn g175) := by kernel_rfl

def g176 : GFn := ⟨64,
  .seq (.seq (.region [.one ⟨(some 4), .p .move, [.t 0], none⟩,
  .one ⟨(some 5), .p .nilCheck, [.t 4], none⟩,
  .one ⟨(some 6), .p (.fieldAddr 2), [.t 5], none⟩,
  .one ⟨(some 7), .r .load1, [.t 6], none⟩])
  (.cond (.t 7)
  (.region [.one ⟨(some 8), .p .move, [.t 0], none⟩,
  .one ⟨(some 9), .p .nilCheck, [.t 8], none⟩,
  .one ⟨(some 10), .p (.fieldAddr 1), [.t 9], none⟩,
  .one ⟨(some 11), .r .load1, [.t 10], none⟩,
  .one ⟨(some 12), .p .nilCheck, [.t 11], none⟩,
  .one ⟨(some 13), .p (.fieldAddr 5), [.t 12], none⟩,
  .one ⟨none, .w (.store 1), [.t 13, .c (.bool false)], none⟩])
  (.region [.one ⟨(some 14), .p .move, [.t 0], none⟩,
  .one ⟨(some 15), .p .nilCheck, [.t 14], none⟩,
  .one ⟨(some 16), .p (.fieldAddr 1), [.t 15], none⟩,
  .one ⟨(some 17), .r .load1, [.t 16], none⟩,
  .one ⟨(some 18), .p .nilCheck, [.t 17], none⟩,
  .one ⟨(some 19), .p (.fieldAddr 3), [.t 18], none⟩,
  .one ⟨none, .w (.store 1), [.t 19, .c (.bool false)], none⟩])))
  (.seq (.region [.one ⟨(some 20), .p .move, [.t 0], none⟩,
  .one ⟨(some 21), .p .nilCheck, [.t 20], none⟩,
  .one ⟨(some 22), .p (.fieldAddr 1), [.t 21], none⟩,
  .one ⟨(some 23), .r .load1, [.t 22], none⟩,
  .one ⟨(some 24), .p .nilCheck, [.t 23], none⟩,
  .one ⟨(some 25), .p (.fieldAddr 5), [.t 24], none⟩,
  .one ⟨(some 26), .r .load1, [.t 25], none⟩,
  .one ⟨(some 27), .p (.un .not), [.t 26], none⟩,
  .one ⟨(some 28), .p .move, [.t 27], none⟩,
  .grp 28 true [⟨(some 29), .p .move, [.t 0], none⟩, ⟨(some 30), .p .nilCheck, [.t 29], none⟩, ⟨(some 31), .p (.fieldAddr 1), [.t 30], none⟩, ⟨(some 32), .r .load1, [.t 31], none⟩, ⟨(some 33), .p .nilCheck, [.t 32], none⟩, ⟨(some 34), .p (.fieldAddr 3), [.t 33], none⟩, ⟨(some 35), .r .load1, [.t 34], none⟩, ⟨(some 36), .p (.un .not), [.t 35], none⟩],
  .one ⟨(some 37), .p .pick, [.t 28, .t 36, .c (.bool false)], none⟩,
  .one ⟨(some 38), .p .move, [.t 37], none⟩,
  .grp 38 true [⟨(some 39), .p .move, [.t 0], none⟩, ⟨(some 40), .p .nilCheck, [.t 39], none⟩, ⟨(some 41), .p (.fieldAddr 1), [.t 40], none⟩, ⟨(some 42), .r .load1, [.t 41], none⟩, ⟨(some 43), .p .nilCheck, [.t 42], none⟩, ⟨(some 44), .p (.fieldAddr 4), [.t 43], none⟩, ⟨(some 45), .r .load1, [.t 44], none⟩],
  .one ⟨(some 46), .p .pick, [.t 38, .t 45, .c (.bool false)], none⟩,
  .one ⟨(some 47), .p .move, [.t 46], none⟩,
  .grp 47 true [⟨(some 48), .p .move, [.t 0], none⟩, ⟨(some 49), .p .nilCheck, [.t 48], none⟩, ⟨(some 50), .p (.fieldAddr 1), [.t 49], none⟩, ⟨(some 51), .r .load1, [.t 50], none⟩, ⟨(some 52), .p .nilCheck, [.t 51], none⟩, ⟨(some 53), .p (.fieldAddr 2), [.t 52], none⟩, ⟨(some 54), .r .load1, [.t 53], none⟩],
  .one ⟨(some 55), .p .pick, [.t 47, .t 54, .c (.bool false)], none⟩])
  (.cond (.t 55)
  (.region [.one ⟨(some 56), .p .move, [.t 1], none⟩,
  .one ⟨(some 57), .p .nilCheck, [.t 56], none⟩,
  .one ⟨(some 58), .p (.fieldAddr 1), [.t 57], none⟩,
  .one ⟨(some 59), .r .load1, [.t 58], none⟩,
  .one ⟨(some 60), .p .move, [.t 0], none⟩,
  .one ⟨(some 61), .p .nilCheck, [.t 60], none⟩,
  .one ⟨(some 62), .p (.fieldAddr 0), [.t 61], none⟩,
  .one ⟨(some 63), .r .load1, [.t 62], none⟩,
  .one ⟨none, .w (.delete .str), [.t 59, .t 63], none⟩])
  .skip)),
  []⟩

theorem g176_ok : compFn Tryz.prog 176 = some (fromGFn g176) := by kernel_rfl

def g177 : GFn := ⟨4,
  .skip,
  []⟩

theorem g177_ok : compFn Tryz.prog 177 = some (fromGFn g177) := by kernel_rfl

/-- the functions whose text is run -/
def tbl : List (Nat × GFn) := [(3, g3), (7, g7), (8, g8), (9, g9), (10, g10), (11, g11), (12, g12), (13, g13), (14, g14), (15, g15), (24, g24), (25, g25), (28, g28), (30, g30), (31, g31), (32, g32), (33, g33), (34, g34), (35, g35), (36, g36), (37, g37), (38, g38), (39, g39), (40, g40), (41, g41), (42, g42), (44, g44), (56, g56), (57, g57), (59, g59), (60, g60), (65, g65), (66, g66), (67, g67), (95, g95), (103, g103), (104, g104), (174, g174), (175, g175), (176, g176), (177, g177)]

abbrev fns : FuncId → Option AFn := lookFn tbl

theorem fns_ok : AllOk Tryz.prog tbl := ⟨g3_ok, g7_ok, g8_ok, g9_ok, g10_ok, g11_ok, g12_ok, g13_ok, g14_ok, g15_ok, g24_ok, g25_ok, g28_ok, g30_ok, g31_ok, g32_ok, g33_ok, g34_ok, g35_ok, g36_ok, g37_ok, g38_ok, g39_ok, g40_ok, g41_ok, g42_ok, g44_ok, g56_ok, g57_ok, g59_ok, g60_ok, g65_ok, g66_ok, g67_ok, g95_ok, g103_ok, g104_ok, g174_ok, g175_ok, g176_ok, g177_ok, trivial⟩

end Go.Proofs.YtocofoiijfofaaaGreatDoor
