/- Functions of the program in the form of the abstract machine, printed by a program; each is checked against the translation. -/
import Derived.Test.YtmehgdpbcafboaaGiX
import Derived.Test.YtmehgdpbcafboaaProg
import Derived.KernelRfl
set_option linter.unusedVariables false
namespace Go.Gi
open Go
-- outlaw/outlawlaw22.QueueNames
abbrev r7_0 : List IOp := [⟨some 0, .op (.mov), [.c (.bool false)], none⟩]
abbrev r7_1 : List IOp := [⟨some 41, .call, [.f 18], none⟩,
  ⟨some 42, .op (.un .not), [.t 41], none⟩]
abbrev r7_2 : List IOp := [⟨some 0, .op (.mov), [.c (.bool false)], none⟩]
abbrev r7_3 : List IOp := [⟨some 44, .call, [.f 21], none⟩,
  ⟨some 45, .call, [.f 34, .c (.str [64, 97, 58, 98])], none⟩,
  ⟨some 46, .call, [.f 20, .t 44, .t 45], none⟩,
  ⟨some 43, .op (.mov), [.t 46], none⟩,
  ⟨some 47, .op (.extract 0), [.t 43], none⟩,
  ⟨some 48, .op (.extract 1), [.t 43], none⟩,
  ⟨some 49, .op (.extract 2), [.t 43], none⟩,
  ⟨some 1, .op (.alloc 33 [.nils, .int .i64 0, .int .i64 0, .nils, .nils, .bool false]), [], none⟩,
  ⟨none, .op (.store 6), [.t 1, .t 47], none⟩,
  ⟨some 2, .op (.mov), [.t 48], none⟩,
  ⟨some 3, .op (.mov), [.t 49], none⟩]
abbrev r7_4 : List IOp := [⟨some 51, .op (.load (some 6)), [.t 1], none⟩,
  ⟨some 52, .op (.bst [.int .i64 0, .str [], .str [], .str [], .str []] [(0, 1), (1, 1), (2, 1), (3, 1), (4, 1)] [0, 1, 2, 3]), [.c (.int .i64 1), .c (.str [33, 114, 58, 120]), .c (.str [64, 97, 58, 98]), .c (.str [115, 112, 97, 109])], none⟩,
  ⟨some 53, .call, [.f 20, .t 51, .t 52], none⟩,
  ⟨some 50, .op (.mov), [.t 53], none⟩,
  ⟨some 54, .op (.extract 0), [.t 50], none⟩,
  ⟨some 55, .op (.extract 1), [.t 50], none⟩,
  ⟨some 56, .op (.extract 2), [.t 50], none⟩,
  ⟨some 4, .op (.alloc 33 [.nils, .int .i64 0, .int .i64 0, .nils, .nils, .bool false]), [], none⟩,
  ⟨none, .op (.store 6), [.t 4, .t 54], none⟩,
  ⟨some 5, .op (.mov), [.t 55], none⟩,
  ⟨some 6, .op (.mov), [.t 56], none⟩]
abbrev r7_5 : List IOp := [⟨some 58, .op (.load (some 6)), [.t 1], none⟩,
  ⟨some 59, .op (.bst [.int .i64 0, .str [], .str [], .str [], .str []] [(0, 1), (1, 1), (2, 1), (3, 1), (4, 1)] [0]), [.c (.int .i64 5)], none⟩,
  ⟨some 60, .call, [.f 20, .t 58, .t 59], none⟩,
  ⟨some 57, .op (.mov), [.t 60], none⟩,
  ⟨some 61, .op (.extract 0), [.t 57], none⟩,
  ⟨some 62, .op (.extract 1), [.t 57], none⟩,
  ⟨some 63, .op (.extract 2), [.t 57], none⟩,
  ⟨some 7, .op (.alloc 33 [.nils, .int .i64 0, .int .i64 0, .nils, .nils, .bool false]), [], none⟩,
  ⟨none, .op (.store 6), [.t 7, .t 61], none⟩,
  ⟨some 8, .op (.mov), [.t 62], none⟩,
  ⟨some 9, .op (.mov), [.t 63], none⟩]
abbrev r7_6 : List IOp := [⟨some 65, .op (.load (some 6)), [.t 1], none⟩,
  ⟨some 66, .call, [.f 22, .t 65, .c (.int .i64 2)], none⟩,
  ⟨some 64, .op (.mov), [.t 66], none⟩,
  ⟨some 67, .op (.extract 0), [.t 64], none⟩,
  ⟨some 68, .op (.extract 1), [.t 64], none⟩,
  ⟨some 10, .op (.alloc 33 [.nils, .int .i64 0, .int .i64 0, .nils, .nils, .bool false]), [], none⟩,
  ⟨none, .op (.store 6), [.t 10, .t 67], none⟩,
  ⟨some 11, .op (.mov), [.t 68], none⟩]
abbrev r7_7 : List IOp := [⟨some 70, .op (.load (some 6)), [.t 1], none⟩,
  ⟨some 71, .call, [.f 23, .t 70, .c (.int .i64 1), .c (.bool true)], none⟩,
  ⟨some 69, .op (.mov), [.t 71], none⟩,
  ⟨some 72, .op (.extract 0), [.t 69], none⟩,
  ⟨some 73, .op (.extract 1), [.t 69], none⟩,
  ⟨some 74, .op (.extract 2), [.t 69], none⟩,
  ⟨some 12, .op (.alloc 33 [.nils, .int .i64 0, .int .i64 0, .nils, .nils, .bool false]), [], none⟩,
  ⟨none, .op (.store 6), [.t 12, .t 72], none⟩,
  ⟨some 13, .op (.mov), [.t 73], none⟩,
  ⟨some 14, .op (.mov), [.t 74], none⟩]
abbrev r7_8 : List IOp := [⟨some 75, .op (.load (some 6)), [.t 1], none⟩,
  ⟨some 15, .op (.alloc 33 [.nils, .int .i64 0, .int .i64 0, .nils, .nils, .bool false]), [], none⟩,
  ⟨none, .op (.store 6), [.t 15, .t 75], none⟩]
abbrev r7_9 : List IOp := [⟨some 16, .op (.mov), [.c (.int .i64 0)], none⟩]
abbrev r7_10 : List IOp := [⟨some 17, .op (.mov), [.c (.int .i64 0)], none⟩]
abbrev r7_11 : List IOp := [⟨some 76, .op (.mov), [.t 17], none⟩,
  ⟨some 77, .op (.bin .lss .prim), [.t 76, .c (.int .i64 5)], none⟩]
abbrev r7_12 : List IOp := [⟨some 81, .op (.load (some 6)), [.t 15], none⟩,
  ⟨some 82, .call, [.f 27, .t 81, .c (.int .i64 64)], none⟩,
  ⟨some 80, .op (.mov), [.t 82], none⟩,
  ⟨some 83, .op (.extract 0), [.t 80], none⟩,
  ⟨some 84, .op (.extract 1), [.t 80], none⟩,
  ⟨none, .op (.store 6), [.t 15, .t 83], none⟩]
abbrev r7_13 : List IOp := [⟨some 86, .op (.load (some 6)), [.t 15], none⟩,
  ⟨some 87, .call, [.f 22, .t 86, .c (.int .i64 1)], none⟩,
  ⟨some 85, .op (.mov), [.t 87], none⟩,
  ⟨some 88, .op (.extract 0), [.t 85], none⟩,
  ⟨some 89, .op (.extract 1), [.t 85], none⟩,
  ⟨none, .op (.store 6), [.t 15, .t 88], none⟩]
abbrev r7_14 : List IOp := [⟨some 91, .op (.load (some 6)), [.t 15], none⟩,
  ⟨some 92, .call, [.f 23, .t 91, .c (.int .i64 1), .c (.bool false)], none⟩,
  ⟨some 90, .op (.mov), [.t 92], none⟩,
  ⟨some 93, .op (.extract 0), [.t 90], none⟩,
  ⟨some 94, .op (.extract 1), [.t 90], none⟩,
  ⟨some 95, .op (.extract 2), [.t 90], none⟩,
  ⟨none, .op (.store 6), [.t 15, .t 93], none⟩,
  ⟨some 16, .op (.mov), [.t 94], none⟩]
abbrev r7_15 : List IOp := [⟨some 78, .op (.mov), [.t 17], none⟩,
  ⟨some 79, .op (.bin .add .prim), [.t 78, .c (.int .i64 1)], none⟩,
  ⟨some 17, .op (.mov), [.t 79], none⟩]
abbrev b7_0 : IC := (IC.seq (IC.seq (IC.reg r7_11) (IC.cond (.t 77) IC.skip (IC.exit 0))) (IC.seq (IC.block 1 (IC.seq (IC.reg r7_12) (IC.seq (IC.reg r7_13) (IC.reg r7_14)))) (IC.reg r7_15)))
abbrev r7_16 : List IOp := [⟨some 97, .op (.load (some 6)), [.t 15], none⟩,
  ⟨some 98, .call, [.f 34, .c (.str [64, 97, 58, 98])], none⟩,
  ⟨some 99, .call, [.f 20, .t 97, .t 98], none⟩,
  ⟨some 96, .op (.mov), [.t 99], none⟩,
  ⟨some 100, .op (.extract 0), [.t 96], none⟩,
  ⟨some 101, .op (.extract 1), [.t 96], none⟩,
  ⟨some 102, .op (.extract 2), [.t 96], none⟩,
  ⟨some 18, .op (.alloc 33 [.nils, .int .i64 0, .int .i64 0, .nils, .nils, .bool false]), [], none⟩,
  ⟨none, .op (.store 6), [.t 18, .t 100], none⟩,
  ⟨some 19, .op (.mov), [.t 101], none⟩,
  ⟨some 20, .op (.mov), [.t 102], none⟩]
abbrev r7_17 : List IOp := [⟨some 104, .op (.load (some 6)), [.t 15], none⟩,
  ⟨some 105, .call, [.f 24, .t 104], none⟩,
  ⟨some 106, .call, [.f 34, .c (.str [64, 97, 58, 98])], none⟩,
  ⟨some 107, .call, [.f 20, .t 105, .t 106], none⟩,
  ⟨some 103, .op (.mov), [.t 107], none⟩,
  ⟨some 108, .op (.extract 0), [.t 103], none⟩,
  ⟨some 109, .op (.extract 1), [.t 103], none⟩,
  ⟨some 110, .op (.extract 2), [.t 103], none⟩,
  ⟨some 21, .op (.alloc 33 [.nils, .int .i64 0, .int .i64 0, .nils, .nils, .bool false]), [], none⟩,
  ⟨none, .op (.store 6), [.t 21, .t 108], none⟩,
  ⟨some 22, .op (.mov), [.t 109], none⟩,
  ⟨some 23, .op (.mov), [.t 110], none⟩]
abbrev r7_18 : List IOp := [⟨some 112, .op (.load (some 6)), [.t 21], none⟩,
  ⟨some 113, .call, [.f 35, .t 112, .c (.nils)], none⟩,
  ⟨some 111, .op (.mov), [.t 113], none⟩,
  ⟨some 114, .op (.extract 0), [.t 111], none⟩,
  ⟨some 115, .op (.extract 1), [.t 111], none⟩,
  ⟨some 24, .op (.alloc 33 [.nils, .int .i64 0, .int .i64 0, .nils, .nils, .bool false]), [], none⟩,
  ⟨none, .op (.store 6), [.t 24, .t 114], none⟩,
  ⟨some 25, .op (.mov), [.t 115], none⟩]
abbrev r7_19 : List IOp := [⟨some 117, .op (.load (some 6)), [.t 1], none⟩,
  ⟨some 118, .call, [.f 22, .t 117, .c (.int .i64 1)], none⟩,
  ⟨some 116, .op (.mov), [.t 118], none⟩,
  ⟨some 119, .op (.extract 0), [.t 116], none⟩,
  ⟨some 120, .op (.extract 1), [.t 116], none⟩,
  ⟨some 26, .op (.alloc 33 [.nils, .int .i64 0, .int .i64 0, .nils, .nils, .bool false]), [], none⟩,
  ⟨none, .op (.store 6), [.t 26, .t 119], none⟩,
  ⟨some 27, .op (.mov), [.t 120], none⟩]
abbrev r7_20 : List IOp := [⟨some 122, .op (.load (some 6)), [.t 26], none⟩,
  ⟨some 123, .call, [.f 23, .t 122, .c (.int .i64 1), .c (.bool true)], none⟩,
  ⟨some 121, .op (.mov), [.t 123], none⟩,
  ⟨some 124, .op (.extract 0), [.t 121], none⟩,
  ⟨some 125, .op (.extract 1), [.t 121], none⟩,
  ⟨some 126, .op (.extract 2), [.t 121], none⟩,
  ⟨none, .op (.store 6), [.t 26, .t 124], none⟩,
  ⟨some 28, .op (.mov), [.t 125], none⟩,
  ⟨some 29, .op (.mov), [.t 126], none⟩]
abbrev r7_21 : List IOp := [⟨some 128, .op (.load (some 6)), [.t 26], none⟩,
  ⟨some 129, .call, [.f 34, .c (.str [64, 97, 58, 98])], none⟩,
  ⟨some 130, .call, [.f 20, .t 128, .t 129], none⟩,
  ⟨some 127, .op (.mov), [.t 130], none⟩,
  ⟨some 131, .op (.extract 0), [.t 127], none⟩,
  ⟨some 132, .op (.extract 1), [.t 127], none⟩,
  ⟨some 133, .op (.extract 2), [.t 127], none⟩,
  ⟨some 30, .op (.alloc 33 [.nils, .int .i64 0, .int .i64 0, .nils, .nils, .bool false]), [], none⟩,
  ⟨none, .op (.store 6), [.t 30, .t 131], none⟩,
  ⟨some 31, .op (.mov), [.t 132], none⟩,
  ⟨some 32, .op (.mov), [.t 133], none⟩]
abbrev r7_22 : List IOp := [⟨some 135, .op (.load (some 6)), [.t 26], none⟩,
  ⟨some 136, .call, [.f 34, .c (.str [64, 97, 58, 98])], none⟩,
  ⟨some 137, .op (.bsl 28 5 false), [.t 136], none⟩,
  ⟨some 138, .call, [.f 35, .t 135, .t 137], none⟩,
  ⟨some 134, .op (.mov), [.t 138], none⟩,
  ⟨some 139, .op (.extract 0), [.t 134], none⟩,
  ⟨some 140, .op (.extract 1), [.t 134], none⟩,
  ⟨some 33, .op (.alloc 33 [.nils, .int .i64 0, .int .i64 0, .nils, .nils, .bool false]), [], none⟩,
  ⟨none, .op (.store 6), [.t 33, .t 139], none⟩,
  ⟨some 34, .op (.mov), [.t 140], none⟩]
abbrev r7_23 : List IOp := [⟨some 142, .op (.load (some 6)), [.t 26], none⟩,
  ⟨some 143, .call, [.f 35, .t 142, .c (.nils)], none⟩,
  ⟨some 141, .op (.mov), [.t 143], none⟩,
  ⟨some 144, .op (.extract 0), [.t 141], none⟩,
  ⟨some 145, .op (.extract 1), [.t 141], none⟩,
  ⟨some 35, .op (.alloc 33 [.nils, .int .i64 0, .int .i64 0, .nils, .nils, .bool false]), [], none⟩,
  ⟨none, .op (.store 6), [.t 35, .t 144], none⟩,
  ⟨some 36, .op (.mov), [.t 145], none⟩]
abbrev r7_24 : List IOp := [⟨some 146, .op (.mov), [.t 28], none⟩,
  ⟨some 147, .op (.bin .neq .prim), [.t 146, .c (.int .i64 1)], none⟩,
  ⟨some 148, .op (.mov), [.t 147], none⟩,
  ⟨some 149, .op (.mov), [.t 32], some (148, false)⟩,
  ⟨some 150, .op (.bin .neq .prim), [.t 149, .c (.int .i64 8)], some (148, false)⟩,
  ⟨some 151, .op (.pick), [.t 148, .c (.bool true), .t 150], none⟩,
  ⟨some 152, .op (.mov), [.t 151], none⟩,
  ⟨some 153, .op (.load (some 6)), [.t 33], some (152, false)⟩,
  ⟨some 154, .op (.load (some 6)), [.t 26], some (152, false)⟩,
  ⟨some 155, .call, [.f 36, .t 153, .t 154], some (152, false)⟩,
  ⟨some 156, .op (.un .not), [.t 155], some (152, false)⟩,
  ⟨some 157, .op (.pick), [.t 152, .c (.bool true), .t 156], none⟩,
  ⟨some 158, .op (.mov), [.t 157], none⟩,
  ⟨some 159, .op (.faddr 4), [.t 35], some (158, false)⟩,
  ⟨some 160, .op (.load none), [.t 159], some (158, false)⟩,
  ⟨some 161, .op (.len .slice), [.t 160], some (158, false)⟩,
  ⟨some 162, .op (.bin .neq .prim), [.t 161, .c (.int .i64 0)], some (158, false)⟩,
  ⟨some 163, .op (.pick), [.t 158, .c (.bool true), .t 162], none⟩,
  ⟨some 164, .op (.mov), [.t 163], none⟩,
  ⟨some 165, .op (.load (some 6)), [.t 26], some (164, false)⟩,
  ⟨some 166, .call, [.f 24, .t 165], some (164, false)⟩,
  ⟨some 167, .op (.field 4 none), [.t 166], some (164, false)⟩,
  ⟨some 168, .op (.len .slice), [.t 167], some (164, false)⟩,
  ⟨some 169, .op (.bin .neq .prim), [.t 168, .c (.int .i64 0)], some (164, false)⟩,
  ⟨some 170, .op (.pick), [.t 164, .c (.bool true), .t 169], none⟩]
abbrev r7_25 : List IOp := [⟨some 0, .op (.mov), [.c (.bool false)], none⟩]
abbrev r7_26 : List IOp := [⟨some 172, .op (.load (some 6)), [.t 1], none⟩,
  ⟨some 173, .call, [.f 27, .t 172, .c (.int .i64 (-1))], none⟩,
  ⟨some 171, .op (.mov), [.t 173], none⟩,
  ⟨some 174, .op (.extract 0), [.t 171], none⟩,
  ⟨some 175, .op (.extract 1), [.t 171], none⟩,
  ⟨some 37, .op (.alloc 33 [.nils, .int .i64 0, .int .i64 0, .nils, .nils, .bool false]), [], none⟩,
  ⟨none, .op (.store 6), [.t 37, .t 174], none⟩,
  ⟨some 38, .op (.mov), [.t 175], none⟩]
abbrev r7_27 : List IOp := [⟨some 177, .op (.load (some 6)), [.t 1], none⟩,
  ⟨some 178, .call, [.f 27, .t 177, .c (.int .i64 1000001)], none⟩,
  ⟨some 176, .op (.mov), [.t 178], none⟩,
  ⟨some 179, .op (.extract 0), [.t 176], none⟩,
  ⟨some 180, .op (.extract 1), [.t 176], none⟩,
  ⟨some 39, .op (.alloc 33 [.nils, .int .i64 0, .int .i64 0, .nils, .nils, .bool false]), [], none⟩,
  ⟨none, .op (.store 6), [.t 39, .t 179], none⟩,
  ⟨some 40, .op (.mov), [.t 180], none⟩]
abbrev r7_28 : List IOp := [⟨some 181, .op (.load (some 6)), [.t 4], none⟩,
  ⟨some 182, .op (.load (some 6)), [.t 1], none⟩,
  ⟨some 183, .call, [.f 36, .t 181, .t 182], none⟩,
  ⟨some 184, .op (.mov), [.t 183], none⟩,
  ⟨some 185, .op (.mov), [.t 5], some (184, true)⟩,
  ⟨some 186, .op (.bin .eql .prim), [.t 185, .c (.int .i64 0)], some (184, true)⟩,
  ⟨some 187, .op (.pick), [.t 184, .t 186, .c (.bool false)], none⟩,
  ⟨some 188, .op (.mov), [.t 187], none⟩,
  ⟨some 189, .op (.mov), [.t 6], some (188, true)⟩,
  ⟨some 190, .op (.bin .eql .prim), [.t 189, .c (.int .i64 8)], some (188, true)⟩,
  ⟨some 191, .op (.pick), [.t 188, .t 190, .c (.bool false)], none⟩,
  ⟨some 192, .op (.mov), [.t 191], none⟩,
  ⟨some 193, .op (.mov), [.t 9], some (192, true)⟩,
  ⟨some 194, .op (.bin .eql .prim), [.t 193, .c (.int .i64 2)], some (192, true)⟩,
  ⟨some 195, .op (.pick), [.t 192, .t 194, .c (.bool false)], none⟩,
  ⟨some 196, .op (.mov), [.t 195], none⟩,
  ⟨some 197, .op (.mov), [.t 11], some (196, true)⟩,
  ⟨some 198, .op (.bin .eql .prim), [.t 197, .c (.int .i64 12)], some (196, true)⟩,
  ⟨some 199, .op (.pick), [.t 196, .t 198, .c (.bool false)], none⟩,
  ⟨some 200, .op (.mov), [.t 199], none⟩,
  ⟨some 201, .op (.mov), [.t 14], some (200, true)⟩,
  ⟨some 202, .op (.bin .eql .prim), [.t 201, .c (.int .i64 14)], some (200, true)⟩,
  ⟨some 203, .op (.pick), [.t 200, .t 202, .c (.bool false)], none⟩,
  ⟨some 204, .op (.mov), [.t 203], none⟩,
  ⟨some 205, .op (.mov), [.t 16], some (204, true)⟩,
  ⟨some 206, .op (.bin .eql .prim), [.t 205, .c (.int .i64 3)], some (204, true)⟩,
  ⟨some 207, .op (.pick), [.t 204, .t 206, .c (.bool false)], none⟩,
  ⟨some 208, .op (.mov), [.t 207], none⟩,
  ⟨some 209, .op (.faddr 0), [.t 15], some (208, true)⟩,
  ⟨some 210, .op (.load none), [.t 209], some (208, true)⟩,
  ⟨some 211, .op (.len .slice), [.t 210], some (208, true)⟩,
  ⟨some 212, .op (.bin .eql .prim), [.t 211, .c (.int .i64 0)], some (208, true)⟩,
  ⟨some 213, .op (.pick), [.t 208, .t 212, .c (.bool false)], none⟩,
  ⟨some 214, .op (.mov), [.t 213], none⟩,
  ⟨some 215, .op (.faddr 3), [.t 15], some (214, true)⟩,
  ⟨some 216, .op (.load none), [.t 215], some (214, true)⟩,
  ⟨some 217, .op (.len .slice), [.t 216], some (214, true)⟩,
  ⟨some 218, .op (.bin .eql .prim), [.t 217, .c (.int .i64 1)], some (214, true)⟩,
  ⟨some 219, .op (.pick), [.t 214, .t 218, .c (.bool false)], none⟩,
  ⟨some 220, .op (.mov), [.t 219], none⟩,
  ⟨some 221, .op (.mov), [.t 20], some (220, true)⟩,
  ⟨some 222, .op (.bin .eql .prim), [.t 221, .c (.int .i64 8)], some (220, true)⟩,
  ⟨some 223, .op (.pick), [.t 220, .t 222, .c (.bool false)], none⟩,
  ⟨some 224, .op (.mov), [.t 223], none⟩,
  ⟨some 225, .op (.mov), [.t 23], some (224, true)⟩,
  ⟨some 226, .op (.bin .eql .prim), [.t 225, .c (.int .i64 0)], some (224, true)⟩,
  ⟨some 227, .op (.pick), [.t 224, .t 226, .c (.bool false)], none⟩,
  ⟨some 228, .op (.mov), [.t 227], none⟩,
  ⟨some 229, .op (.faddr 0), [.t 21], some (228, true)⟩,
  ⟨some 230, .op (.load none), [.t 229], some (228, true)⟩,
  ⟨some 231, .op (.len .slice), [.t 230], some (228, true)⟩,
  ⟨some 232, .op (.bin .eql .prim), [.t 231, .c (.int .i64 1)], some (228, true)⟩,
  ⟨some 233, .op (.pick), [.t 228, .t 232, .c (.bool false)], none⟩,
  ⟨some 234, .op (.mov), [.t 233], none⟩,
  ⟨some 235, .op (.faddr 0), [.t 21], some (234, true)⟩,
  ⟨some 236, .op (.load none), [.t 235], some (234, true)⟩,
  ⟨some 237, .op (.iaddr 10), [.t 236, .c (.int .i64 0)], some (234, true)⟩,
  ⟨some 238, .op (.faddr 0), [.t 237], some (234, true)⟩,
  ⟨some 239, .op (.load none), [.t 238], some (234, true)⟩,
  ⟨some 240, .op (.bin .eql .prim), [.t 239, .c (.int .i64 2)], some (234, true)⟩,
  ⟨some 241, .op (.pick), [.t 234, .t 240, .c (.bool false)], none⟩,
  ⟨some 242, .op (.mov), [.t 241], none⟩,
  ⟨some 243, .op (.faddr 0), [.t 24], some (242, true)⟩,
  ⟨some 244, .op (.load none), [.t 243], some (242, true)⟩,
  ⟨some 245, .op (.len .slice), [.t 244], some (242, true)⟩,
  ⟨some 246, .op (.bin .eql .prim), [.t 245, .c (.int .i64 0)], some (242, true)⟩,
  ⟨some 247, .op (.pick), [.t 242, .t 246, .c (.bool false)], none⟩,
  ⟨some 248, .op (.mov), [.t 247], none⟩,
  ⟨some 249, .op (.mov), [.t 25], some (248, true)⟩,
  ⟨some 250, .op (.len .slice), [.t 249], some (248, true)⟩,
  ⟨some 251, .op (.bin .eql .prim), [.t 250, .c (.int .i64 1)], some (248, true)⟩,
  ⟨some 252, .op (.pick), [.t 248, .t 251, .c (.bool false)], none⟩,
  ⟨some 253, .op (.mov), [.t 252], none⟩,
  ⟨some 254, .op (.mov), [.t 38], some (253, true)⟩,
  ⟨some 255, .op (.bin .eql .prim), [.t 254, .c (.int .i64 2)], some (253, true)⟩,
  ⟨some 256, .op (.pick), [.t 253, .t 255, .c (.bool false)], none⟩,
  ⟨some 257, .op (.mov), [.t 256], none⟩,
  ⟨some 258, .op (.mov), [.t 40], some (257, true)⟩,
  ⟨some 259, .op (.bin .eql .prim), [.t 258, .c (.int .i64 2)], some (257, true)⟩,
  ⟨some 260, .op (.pick), [.t 257, .t 259, .c (.bool false)], none⟩,
  ⟨some 261, .op (.mov), [.t 260], none⟩,
  ⟨some 262, .call, [.f 37, .c (.int .i64 0)], some (261, true)⟩,
  ⟨some 263, .op (.bin .eql .prim), [.t 262, .c (.int .i64 0)], some (261, true)⟩,
  ⟨some 264, .op (.pick), [.t 261, .t 263, .c (.bool false)], none⟩,
  ⟨some 265, .op (.mov), [.t 264], none⟩,
  ⟨some 266, .call, [.f 37, .c (.int .i64 1)], some (265, true)⟩,
  ⟨some 267, .op (.bin .eql .prim), [.t 266, .c (.int .i64 2)], some (265, true)⟩,
  ⟨some 268, .op (.pick), [.t 265, .t 267, .c (.bool false)], none⟩,
  ⟨some 269, .op (.mov), [.t 268], none⟩,
  ⟨some 270, .call, [.f 37, .c (.int .i64 6)], some (269, true)⟩,
  ⟨some 271, .op (.bin .eql .prim), [.t 270, .c (.int .i64 64)], some (269, true)⟩,
  ⟨some 272, .op (.pick), [.t 269, .t 271, .c (.bool false)], none⟩,
  ⟨some 273, .op (.mov), [.t 272], none⟩,
  ⟨some 274, .call, [.f 37, .c (.int .i64 9)], some (273, true)⟩,
  ⟨some 275, .op (.bin .eql .prim), [.t 274, .c (.int .i64 64)], some (273, true)⟩,
  ⟨some 276, .op (.pick), [.t 273, .t 275, .c (.bool false)], none⟩,
  ⟨some 277, .op (.mov), [.t 276], none⟩,
  ⟨some 278, .op (.bst [.nils, .int .i64 0, .int .i64 0, .nils, .nils, .bool false] [(0, 1), (1, 1), (2, 1), (3, 1), (4, 1), (5, 1)] []), [], some (277, true)⟩,
  ⟨some 279, .call, [.f 38, .t 278], some (277, true)⟩,
  ⟨some 280, .op (.bin .eql .prim), [.t 279, .c (.int .i64 2)], some (277, true)⟩,
  ⟨some 281, .op (.pick), [.t 277, .t 280, .c (.bool false)], none⟩,
  ⟨some 282, .op (.mov), [.t 281], none⟩,
  ⟨some 283, .call, [.f 21], some (282, true)⟩,
  ⟨some 284, .call, [.f 38, .t 283], some (282, true)⟩,
  ⟨some 285, .op (.bin .eql .prim), [.t 284, .c (.int .i64 0)], some (282, true)⟩,
  ⟨some 286, .op (.pick), [.t 282, .t 285, .c (.bool false)], none⟩,
  ⟨some 287, .op (.mov), [.t 286], none⟩,
  ⟨some 288, .call, [.f 34, .c (.str [64, 97, 58, 98])], some (287, true)⟩,
  ⟨some 289, .call, [.f 34, .c (.str [64, 97, 58, 98])], some (287, true)⟩,
  ⟨some 290, .call, [.f 33, .t 288, .t 289], some (287, true)⟩,
  ⟨some 291, .op (.pick), [.t 287, .t 290, .c (.bool false)], none⟩,
  ⟨some 292, .op (.mov), [.t 291], none⟩,
  ⟨some 293, .call, [.f 34, .c (.str [64, 97, 58, 98])], some (292, true)⟩,
  ⟨some 294, .call, [.f 34, .c (.str [64, 98, 58, 98])], some (292, true)⟩,
  ⟨some 295, .call, [.f 33, .t 293, .t 294], some (292, true)⟩,
  ⟨some 296, .op (.un .not), [.t 295], some (292, true)⟩,
  ⟨some 297, .op (.pick), [.t 292, .t 296, .c (.bool false)], none⟩,
  ⟨some 0, .op (.mov), [.t 297], none⟩]
abbrev c7 : IC := (IC.seq (IC.reg r7_0) (IC.seq (IC.seq (IC.reg r7_1) (IC.cond (.t 42) (IC.seq (IC.reg r7_2) IC.ret) IC.skip)) (IC.seq (IC.reg r7_3) (IC.seq (IC.reg r7_4) (IC.seq (IC.reg r7_5) (IC.seq (IC.reg r7_6) (IC.seq (IC.reg r7_7) (IC.seq (IC.reg r7_8) (IC.seq (IC.reg r7_9) (IC.seq (IC.seq (IC.reg r7_10) (IC.block 0 (IC.loop b7_0))) (IC.seq (IC.regD (.mix .wild 316912650057057350374175801344) r7_16 (.take 0 (.take 1 (.fork [(2, .take 3 (.take 4 (.take 5 (.take 6 (.take 7 (.take 8 (.take 9 (.take 10 (.done))))))))), (7, .take 2 (.take 3 (.take 4 (.take 5 (.take 6 (.take 8 (.take 9 (.take 10 (.done)))))))))])))) (IC.seq (IC.reg r7_17) (IC.seq (IC.reg r7_18) (IC.seq (IC.reg r7_19) (IC.seq (IC.reg r7_20) (IC.seq (IC.regD (.mix .wild 680564733841876926926749214863536422912) r7_21 (.take 0 (.take 1 (.fork [(2, .take 3 (.take 4 (.take 5 (.take 6 (.take 7 (.take 8 (.take 9 (.take 10 (.done))))))))), (7, .take 2 (.take 3 (.take 4 (.take 5 (.take 6 (.take 8 (.take 9 (.take 10 (.done)))))))))])))) (IC.seq (IC.regD (.mix .wild 87112285931760246646623899502532662132736) r7_22 (.take 0 (.take 1 (.fork [(2, .fork [(3, .take 4 (.take 5 (.take 6 (.take 7 (.take 8 (.take 9 (.done))))))), (7, .take 3 (.take 4 (.take 5 (.take 6 (.take 8 (.take 9 (.done)))))))]), (7, .take 2 (.take 3 (.take 4 (.take 5 (.take 6 (.take 8 (.take 9 (.done))))))))])))) (IC.seq (IC.reg r7_23) (IC.seq (IC.seq (IC.reg r7_24) (IC.cond (.t 170) (IC.seq (IC.reg r7_25) IC.ret) IC.skip)) (IC.seq (IC.reg r7_26) (IC.seq (IC.reg r7_27) (IC.seq (IC.reg r7_28) IC.ret))))))))))))))))))))))
abbrev g7 : FC := ⟨c7, 298, [.t 0]⟩
theorem comp7 : compF Go.Proofs.Try.prog (hintL [(16, 2535301200456458802993406410758), (21, 5444517870735015415413993718908291383302), (22, 696898287454081973172991196020261297061894)]) 7 = some g7 := by kernel_rfl

-- outlaw/outlawlaw22.lives
abbrev r18_0 : List IOp := [⟨some 0, .op (.mov), [.c (.bool false)], none⟩]
abbrev r18_1 : List IOp := [⟨some 16, .call, [.f 21], none⟩,
  ⟨some 17, .call, [.f 34, .c (.str [64, 97, 58, 98])], none⟩,
  ⟨some 18, .call, [.f 20, .t 16, .t 17], none⟩,
  ⟨some 15, .op (.mov), [.t 18], none⟩,
  ⟨some 19, .op (.extract 0), [.t 15], none⟩,
  ⟨some 20, .op (.extract 1), [.t 15], none⟩,
  ⟨some 21, .op (.extract 2), [.t 15], none⟩,
  ⟨some 1, .op (.alloc 33 [.nils, .int .i64 0, .int .i64 0, .nils, .nils, .bool false]), [], none⟩,
  ⟨none, .op (.store 6), [.t 1, .t 19], none⟩,
  ⟨some 2, .op (.mov), [.t 20], none⟩,
  ⟨some 3, .op (.mov), [.t 21], none⟩]
abbrev r18_2 : List IOp := [⟨some 23, .op (.load (some 6)), [.t 1], none⟩,
  ⟨some 24, .call, [.f 22, .t 23, .c (.int .i64 1)], none⟩,
  ⟨some 22, .op (.mov), [.t 24], none⟩,
  ⟨some 25, .op (.extract 0), [.t 22], none⟩,
  ⟨some 26, .op (.extract 1), [.t 22], none⟩,
  ⟨none, .op (.store 6), [.t 1, .t 25], none⟩,
  ⟨some 4, .op (.mov), [.t 26], none⟩]
abbrev r18_3 : List IOp := [⟨some 28, .op (.load (some 6)), [.t 1], none⟩,
  ⟨some 29, .call, [.f 71, .t 28], none⟩,
  ⟨some 30, .call, [.f 28, .t 29, .c (.nils)], none⟩,
  ⟨some 27, .op (.mov), [.t 30], none⟩,
  ⟨some 31, .op (.extract 0), [.t 27], none⟩,
  ⟨some 32, .op (.extract 1), [.t 27], none⟩,
  ⟨some 5, .op (.alloc 46 [.int .i64 0, .int .i64 0, .str [], .str [], .str [], .str [], .bool false, .bool false, .int .i64 0, .int .i64 0]), [], none⟩,
  ⟨none, .op (.store 10), [.t 5, .t 31], none⟩,
  ⟨some 6, .op (.mov), [.t 32], none⟩]
abbrev r18_4 : List IOp := [⟨some 34, .op (.load (some 6)), [.t 1], none⟩,
  ⟨some 35, .call, [.f 23, .t 34, .c (.int .i64 1), .c (.bool false)], none⟩,
  ⟨some 33, .op (.mov), [.t 35], none⟩,
  ⟨some 36, .op (.extract 0), [.t 33], none⟩,
  ⟨some 37, .op (.extract 1), [.t 33], none⟩,
  ⟨some 38, .op (.extract 2), [.t 33], none⟩,
  ⟨some 7, .op (.alloc 33 [.nils, .int .i64 0, .int .i64 0, .nils, .nils, .bool false]), [], none⟩,
  ⟨none, .op (.store 6), [.t 7, .t 36], none⟩,
  ⟨some 8, .op (.mov), [.t 37], none⟩,
  ⟨some 9, .op (.mov), [.t 38], none⟩]
abbrev r18_5 : List IOp := [⟨some 40, .op (.load (some 6)), [.t 7], none⟩,
  ⟨some 41, .call, [.f 28, .t 40, .c (.nils)], none⟩,
  ⟨some 39, .op (.mov), [.t 41], none⟩,
  ⟨some 42, .op (.extract 0), [.t 39], none⟩,
  ⟨some 43, .op (.extract 1), [.t 39], none⟩,
  ⟨some 10, .op (.alloc 46 [.int .i64 0, .int .i64 0, .str [], .str [], .str [], .str [], .bool false, .bool false, .int .i64 0, .int .i64 0]), [], none⟩,
  ⟨none, .op (.store 10), [.t 10, .t 42], none⟩,
  ⟨some 11, .op (.mov), [.t 43], none⟩]
abbrev r18_6 : List IOp := [⟨some 45, .op (.load (some 6)), [.t 7], none⟩,
  ⟨some 46, .call, [.f 27, .t 45, .c (.int .i64 2)], none⟩,
  ⟨some 44, .op (.mov), [.t 46], none⟩,
  ⟨some 47, .op (.extract 0), [.t 44], none⟩,
  ⟨some 48, .op (.extract 1), [.t 44], none⟩,
  ⟨none, .op (.store 6), [.t 7, .t 47], none⟩,
  ⟨some 12, .op (.mov), [.t 48], none⟩]
abbrev r18_7 : List IOp := [⟨some 50, .op (.load (some 6)), [.t 7], none⟩,
  ⟨some 51, .call, [.f 28, .t 50, .c (.nils)], none⟩,
  ⟨some 49, .op (.mov), [.t 51], none⟩,
  ⟨some 52, .op (.extract 0), [.t 49], none⟩,
  ⟨some 53, .op (.extract 1), [.t 49], none⟩,
  ⟨some 13, .op (.alloc 46 [.int .i64 0, .int .i64 0, .str [], .str [], .str [], .str [], .bool false, .bool false, .int .i64 0, .int .i64 0]), [], none⟩,
  ⟨none, .op (.store 10), [.t 13, .t 52], none⟩,
  ⟨some 14, .op (.mov), [.t 53], none⟩]
abbrev r18_8 : List IOp := [⟨some 54, .op (.mov), [.t 3], none⟩,
  ⟨some 55, .op (.bin .eql .prim), [.t 54, .c (.int .i64 0)], none⟩,
  ⟨some 56, .op (.mov), [.t 55], none⟩,
  ⟨some 57, .op (.mov), [.t 2], some (56, true)⟩,
  ⟨some 58, .op (.bin .eql .prim), [.t 57, .c (.int .i64 1)], some (56, true)⟩,
  ⟨some 59, .op (.pick), [.t 56, .t 58, .c (.bool false)], none⟩,
  ⟨some 60, .op (.mov), [.t 59], none⟩,
  ⟨some 61, .op (.mov), [.t 4], some (60, true)⟩,
  ⟨some 62, .op (.bin .eql .prim), [.t 61, .c (.int .i64 0)], some (60, true)⟩,
  ⟨some 63, .op (.pick), [.t 60, .t 62, .c (.bool false)], none⟩,
  ⟨some 64, .op (.mov), [.t 63], none⟩,
  ⟨some 65, .op (.mov), [.t 6], some (64, true)⟩,
  ⟨some 66, .op (.pick), [.t 64, .t 65, .c (.bool false)], none⟩,
  ⟨some 67, .op (.mov), [.t 66], none⟩,
  ⟨some 68, .op (.faddr 0), [.t 5], some (67, true)⟩,
  ⟨some 69, .op (.load none), [.t 68], some (67, true)⟩,
  ⟨some 70, .op (.bin .eql .prim), [.t 69, .c (.int .i64 1)], some (67, true)⟩,
  ⟨some 71, .op (.pick), [.t 67, .t 70, .c (.bool false)], none⟩,
  ⟨some 72, .op (.mov), [.t 71], none⟩,
  ⟨some 73, .op (.faddr 7), [.t 5], some (72, true)⟩,
  ⟨some 74, .op (.load none), [.t 73], some (72, true)⟩,
  ⟨some 75, .op (.pick), [.t 72, .t 74, .c (.bool false)], none⟩,
  ⟨some 76, .op (.mov), [.t 75], none⟩,
  ⟨some 77, .op (.mov), [.t 9], some (76, true)⟩,
  ⟨some 78, .op (.bin .eql .prim), [.t 77, .c (.int .i64 0)], some (76, true)⟩,
  ⟨some 79, .op (.pick), [.t 76, .t 78, .c (.bool false)], none⟩,
  ⟨some 80, .op (.mov), [.t 79], none⟩,
  ⟨some 81, .op (.mov), [.t 8], some (80, true)⟩,
  ⟨some 82, .op (.bin .eql .prim), [.t 81, .c (.int .i64 2)], some (80, true)⟩,
  ⟨some 83, .op (.pick), [.t 80, .t 82, .c (.bool false)], none⟩,
  ⟨some 84, .op (.mov), [.t 83], none⟩,
  ⟨some 85, .op (.mov), [.t 11], some (84, true)⟩,
  ⟨some 86, .op (.un .not), [.t 85], some (84, true)⟩,
  ⟨some 87, .op (.pick), [.t 84, .t 86, .c (.bool false)], none⟩,
  ⟨some 88, .op (.mov), [.t 87], none⟩,
  ⟨some 89, .op (.mov), [.t 12], some (88, true)⟩,
  ⟨some 90, .op (.bin .eql .prim), [.t 89, .c (.int .i64 0)], some (88, true)⟩,
  ⟨some 91, .op (.pick), [.t 88, .t 90, .c (.bool false)], none⟩,
  ⟨some 92, .op (.mov), [.t 91], none⟩,
  ⟨some 93, .op (.mov), [.t 14], some (92, true)⟩,
  ⟨some 94, .op (.pick), [.t 92, .t 93, .c (.bool false)], none⟩,
  ⟨some 95, .op (.mov), [.t 94], none⟩,
  ⟨some 96, .op (.faddr 0), [.t 13], some (95, true)⟩,
  ⟨some 97, .op (.load none), [.t 96], some (95, true)⟩,
  ⟨some 98, .op (.bin .eql .prim), [.t 97, .c (.int .i64 1)], some (95, true)⟩,
  ⟨some 99, .op (.pick), [.t 95, .t 98, .c (.bool false)], none⟩,
  ⟨some 0, .op (.mov), [.t 99], none⟩]
abbrev c18 : IC := (IC.seq (IC.reg r18_0) (IC.seq (IC.reg r18_1) (IC.seq (IC.reg r18_2) (IC.seq (IC.reg r18_3) (IC.seq (IC.reg r18_4) (IC.seq (IC.reg r18_5) (IC.seq (IC.reg r18_6) (IC.seq (IC.reg r18_7) (IC.seq (IC.reg r18_8) IC.ret)))))))))
abbrev g18 : FC := ⟨c18, 100, [.t 0]⟩
theorem comp18 : compF Go.Proofs.Try.prog (fun _ => 0) 18 = some g18 := by kernel_rfl

-- outlaw/queue.Empty
abbrev r21_0 : List IOp := [⟨some 0, .op (.alloc 33 [.nils, .int .i64 0, .int .i64 0, .nils, .nils, .bool false]), [], none⟩]
abbrev r21_1 : List IOp := [⟨some 1, .op (.bst [.nils, .int .i64 0, .int .i64 0, .nils, .nils, .bool false] [(0, 1), (1, 1), (2, 1), (3, 1), (4, 1), (5, 1)] [1]), [.c (.int .i64 1)], none⟩,
  ⟨none, .op (.store 6), [.t 0, .t 1], none⟩]
abbrev c21 : IC := (IC.seq (IC.reg r21_0) (IC.seq (IC.reg r21_1) IC.ret))
abbrev g21 : FC := ⟨c21, 2, [.cell 0 (some 6)]⟩
theorem comp21 : compF Go.Proofs.Try.prog (fun _ => 0) 21 = some g21 := by kernel_rfl

-- outlaw/outlawlaw22.ban
abbrev r34_0 : List IOp := [⟨some 2, .op (.alloc 28 [.int .i64 0, .str [], .str [], .str [], .str []]), [], none⟩]
abbrev r34_1 : List IOp := [⟨some 3, .op (.mov), [.t 0], none⟩,
  ⟨some 4, .op (.bst [.int .i64 0, .str [], .str [], .str [], .str []] [(0, 1), (1, 1), (2, 1), (3, 1), (4, 1)] [0, 1, 2]), [.c (.int .i64 1), .c (.str [33, 114, 58, 120]), .t 3], none⟩,
  ⟨none, .op (.store 5), [.t 2, .t 4], none⟩]
abbrev c34 : IC := (IC.seq (IC.reg r34_0) (IC.seq (IC.reg r34_1) IC.ret))
abbrev g34 : FC := ⟨c34, 5, [.cell 2 (some 5)]⟩
theorem comp34 : compF Go.Proofs.Try.prog (fun _ => 0) 34 = some g34 := by kernel_rfl

-- outlaw/queue.Put
abbrev r20_0 : List IOp := [⟨some 2, .op (.box 33), [.t 0], none⟩,
  ⟨some 3, .op (.box 28), [.t 1], none⟩,
  ⟨some 4, .op (.alloc 33 [.nils, .int .i64 0, .int .i64 0, .nils, .nils, .bool false]), [], none⟩,
  ⟨some 5, .op (.mov), [.c (.int .i64 0)], none⟩,
  ⟨some 6, .op (.mov), [.c (.int .i64 0)], none⟩]
abbrev r20_1 : List IOp := [⟨some 8, .op (.load (some 6)), [.t 2], none⟩,
  ⟨some 9, .call, [.f 72, .t 8], none⟩,
  ⟨none, .op (.store 6), [.t 2, .t 9], none⟩]
abbrev r20_2 : List IOp := [⟨some 11, .op (.load (some 5)), [.t 3], none⟩,
  ⟨some 12, .call, [.f 73, .t 11], none⟩,
  ⟨some 13, .op (.un .not), [.t 12], none⟩,
  ⟨some 10, .op (.mov), [.t 13], none⟩]
abbrev r20_3 : List IOp := [⟨some 14, .op (.load (some 6)), [.t 2], none⟩,
  ⟨none, .op (.store 6), [.t 4, .t 14], none⟩,
  ⟨some 5, .op (.mov), [.c (.int .i64 0)], none⟩,
  ⟨some 6, .op (.mov), [.c (.int .i64 2)], none⟩]
abbrev r20_4 : List IOp := [⟨some 16, .op (.load (some 6)), [.t 2], none⟩,
  ⟨some 17, .call, [.f 75, .t 16], none⟩,
  ⟨some 18, .op (.mkfn 76), [.t 3], none⟩,
  ⟨some 19, .call, [.f 74, .t 17, .t 18], none⟩,
  ⟨some 15, .op (.mov), [.t 19], none⟩]
abbrev r20_5 : List IOp := [⟨some 20, .op (.load (some 6)), [.t 2], none⟩,
  ⟨none, .op (.store 6), [.t 4, .t 20], none⟩,
  ⟨some 5, .op (.mov), [.c (.int .i64 0)], none⟩,
  ⟨some 6, .op (.mov), [.c (.int .i64 8)], none⟩]
abbrev r20_6 : List IOp := [⟨some 22, .op (.faddr 0), [.t 2], none⟩,
  ⟨some 23, .op (.load none), [.t 22], none⟩,
  ⟨some 24, .op (.len .slice), [.t 23], none⟩,
  ⟨some 25, .op (.bin .geq .prim), [.t 24, .c (.int .i64 32)], none⟩,
  ⟨some 26, .op (.mov), [.t 25], none⟩,
  ⟨some 27, .op (.faddr 1), [.t 2], some (26, false)⟩,
  ⟨some 28, .op (.load none), [.t 27], some (26, false)⟩,
  ⟨some 29, .op (.bin .geq .prim), [.t 28, .c (.int .i64 1152921504606846976)], some (26, false)⟩,
  ⟨some 30, .op (.pick), [.t 26, .c (.bool true), .t 29], none⟩,
  ⟨some 21, .op (.mov), [.t 30], none⟩]
abbrev r20_7 : List IOp := [⟨some 31, .op (.faddr 5), [.t 2], none⟩,
  ⟨none, .op (.store 1), [.t 31, .c (.bool true)], none⟩]
abbrev r20_8 : List IOp := [⟨some 32, .op (.load (some 6)), [.t 2], none⟩,
  ⟨none, .op (.store 6), [.t 4, .t 32], none⟩,
  ⟨some 5, .op (.mov), [.c (.int .i64 0)], none⟩,
  ⟨some 6, .op (.mov), [.c (.int .i64 13)], none⟩]
abbrev r20_9 : List IOp := [⟨some 33, .op (.faddr 1), [.t 2], none⟩,
  ⟨some 34, .op (.load none), [.t 33], none⟩,
  ⟨some 7, .op (.mov), [.t 34], none⟩]
abbrev r20_10 : List IOp := [⟨some 35, .op (.faddr 0), [.t 2], none⟩,
  ⟨some 36, .op (.load none), [.t 35], none⟩,
  ⟨some 37, .op (.mov), [.t 7], none⟩,
  ⟨some 38, .op (.load (some 5)), [.t 3], none⟩,
  ⟨some 39, .op (.faddr 2), [.t 2], none⟩,
  ⟨some 40, .op (.load none), [.t 39], none⟩,
  ⟨some 41, .op (.bst [.int .i64 0, .int .i64 0, .str [], .str [], .str [], .str [], .bool false, .bool false, .int .i64 0, .int .i64 0] [(0, 1), (1, 5), (6, 1), (7, 1), (8, 1), (9, 1)] [0, 1, 5]), [.t 37, .t 38, .t 40], none⟩,
  ⟨some 42, .op (.bsl 46 10 false), [.t 41], none⟩,
  ⟨some 43, .op (.app 46 10 104), [.t 36, .t 42], none⟩,
  ⟨some 44, .op (.faddr 0), [.t 2], none⟩,
  ⟨none, .op (.store 1), [.t 44, .t 43], none⟩]
abbrev r20_11 : List IOp := [⟨some 45, .op (.faddr 1), [.t 2], none⟩,
  ⟨some 46, .op (.load none), [.t 45], none⟩,
  ⟨some 47, .op (.bin .add .prim), [.t 46, .c (.int .i64 1)], none⟩,
  ⟨some 48, .op (.faddr 1), [.t 2], none⟩,
  ⟨none, .op (.store 1), [.t 48, .t 47], none⟩]
abbrev r20_12 : List IOp := [⟨some 49, .op (.load (some 6)), [.t 2], none⟩,
  ⟨some 50, .op (.mov), [.t 7], none⟩,
  ⟨none, .op (.store 6), [.t 4, .t 49], none⟩,
  ⟨some 5, .op (.mov), [.t 50], none⟩,
  ⟨some 6, .op (.mov), [.c (.int .i64 0)], none⟩]
abbrev c20 : IC := (IC.seq (IC.reg r20_0) (IC.seq (IC.reg r20_1) (IC.seq (IC.block 0 (IC.seq (IC.reg r20_2) (IC.cond (.t 10) (IC.seq (IC.reg r20_3) IC.ret) (IC.seq (IC.reg r20_4) (IC.cond (.t 15) (IC.seq (IC.reg r20_5) IC.ret) (IC.seq (IC.reg r20_6) (IC.cond (.t 21) (IC.seq (IC.reg r20_7) (IC.seq (IC.reg r20_8) IC.ret)) IC.skip))))))) (IC.seq (IC.reg r20_9) (IC.seq (IC.reg r20_10) (IC.seq (IC.reg r20_11) (IC.seq (IC.reg r20_12) IC.ret)))))))
abbrev g20 : FC := ⟨c20, 51, [.cell 4 (some 6), .t 5, .t 6]⟩
theorem comp20 : compF Go.Proofs.Try.prog (fun _ => 0) 20 = some g20 := by kernel_rfl

-- outlaw/queue.Send
abbrev r22_0 : List IOp := [⟨some 2, .op (.box 33), [.t 0], none⟩,
  ⟨some 4, .op (.alloc 33 [.nils, .int .i64 0, .int .i64 0, .nils, .nils, .bool false]), [], none⟩,
  ⟨some 5, .op (.mov), [.c (.int .i64 0)], none⟩]
abbrev r22_1 : List IOp := [⟨some 7, .op (.load (some 6)), [.t 2], none⟩,
  ⟨some 8, .call, [.f 72, .t 7], none⟩,
  ⟨none, .op (.store 6), [.t 2, .t 8], none⟩]
abbrev r22_2 : List IOp := [⟨some 9, .op (.load (some 6)), [.t 2], none⟩,
  ⟨some 10, .op (.mov), [.t 1], none⟩,
  ⟨some 11, .call, [.f 77, .t 9, .t 10], none⟩,
  ⟨some 6, .op (.mov), [.t 11], none⟩]
abbrev r22_3 : List IOp := [⟨some 13, .op (.mov), [.t 6], none⟩,
  ⟨some 14, .op (.bin .lss .prim), [.t 13, .c (.int .i64 0)], none⟩,
  ⟨some 12, .op (.mov), [.t 14], none⟩]
abbrev r22_4 : List IOp := [⟨some 15, .op (.load (some 6)), [.t 2], none⟩,
  ⟨none, .op (.store 6), [.t 4, .t 15], none⟩,
  ⟨some 5, .op (.mov), [.c (.int .i64 12)], none⟩]
abbrev r22_5 : List IOp := [⟨some 17, .op (.faddr 0), [.t 2], none⟩,
  ⟨some 18, .op (.load none), [.t 17], none⟩,
  ⟨some 19, .op (.mov), [.t 6], none⟩,
  ⟨some 20, .op (.iaddr 10), [.t 18, .t 19], none⟩,
  ⟨some 21, .op (.faddr 6), [.t 20], none⟩,
  ⟨some 22, .op (.load none), [.t 21], none⟩,
  ⟨some 16, .op (.mov), [.t 22], none⟩]
abbrev r22_6 : List IOp := [⟨some 23, .op (.faddr 0), [.t 2], none⟩,
  ⟨some 24, .op (.load none), [.t 23], none⟩,
  ⟨some 25, .op (.mov), [.t 6], none⟩,
  ⟨some 26, .op (.iaddr 10), [.t 24, .t 25], none⟩,
  ⟨some 27, .op (.load (some 10)), [.t 26], none⟩,
  ⟨some 28, .call, [.f 78, .t 27], none⟩,
  ⟨some 29, .op (.mov), [.t 28], none⟩,
  ⟨some 30, .op (.faddr 0), [.t 2], some (29, true)⟩,
  ⟨some 31, .op (.load none), [.t 30], some (29, true)⟩,
  ⟨some 32, .op (.mov), [.t 6], some (29, true)⟩,
  ⟨some 33, .op (.iaddr 10), [.t 31, .t 32], some (29, true)⟩,
  ⟨some 34, .op (.faddr 9), [.t 33], some (29, true)⟩,
  ⟨some 35, .op (.load none), [.t 34], some (29, true)⟩,
  ⟨some 36, .op (.faddr 2), [.t 2], some (29, true)⟩,
  ⟨some 37, .op (.load none), [.t 36], some (29, true)⟩,
  ⟨some 38, .op (.bin .gtr .prim), [.t 35, .t 37], some (29, true)⟩,
  ⟨some 39, .op (.pick), [.t 29, .t 38, .c (.bool false)], none⟩,
  ⟨some 16, .op (.mov), [.t 39], none⟩]
abbrev r22_7 : List IOp := [⟨some 40, .op (.load (some 6)), [.t 2], none⟩,
  ⟨some 41, .call, [.f 79, .t 40], none⟩,
  ⟨some 42, .op (.bin .geq .prim), [.t 41, .c (.int .i64 4)], none⟩,
  ⟨some 16, .op (.mov), [.t 42], none⟩]
abbrev r22_8 : List IOp := [⟨some 43, .op (.load (some 6)), [.t 2], none⟩,
  ⟨none, .op (.store 6), [.t 4, .t 43], none⟩,
  ⟨some 5, .op (.mov), [.c (.int .i64 14)], none⟩]
abbrev r22_9 : List IOp := [⟨some 44, .op (.faddr 0), [.t 2], none⟩,
  ⟨some 45, .op (.load none), [.t 44], none⟩,
  ⟨some 46, .op (.mov), [.t 6], none⟩,
  ⟨some 47, .op (.iaddr 10), [.t 45, .t 46], none⟩,
  ⟨some 48, .op (.faddr 6), [.t 47], none⟩,
  ⟨none, .op (.store 1), [.t 48, .c (.bool true)], none⟩]
abbrev r22_10 : List IOp := [⟨some 49, .op (.load (some 6)), [.t 2], none⟩,
  ⟨none, .op (.store 6), [.t 4, .t 49], none⟩,
  ⟨some 5, .op (.mov), [.c (.int .i64 0)], none⟩]
abbrev c22 : IC := (IC.seq (IC.reg r22_0) (IC.seq (IC.reg r22_1) (IC.seq (IC.reg r22_2) (IC.seq (IC.block 0 (IC.seq (IC.reg r22_3) (IC.cond (.t 12) (IC.seq (IC.reg r22_4) IC.ret) (IC.seq (IC.seq (IC.reg r22_5) (IC.cond (.t 16) IC.skip (IC.seq (IC.regD .wild r22_6 (.take 0 (.take 1 (.take 2 (.take 3 (.take 4 (.take 5 (.take 6 (.take 7 (.take 8 (.take 9 (.take 10 (.take 11 (.take 12 (.take 13 (.take 14 (.take 15 (.take 16 (.take 17 (.done)))))))))))))))))))) (IC.cond (.t 16) IC.skip (IC.reg r22_7))))) (IC.cond (.t 16) (IC.seq (IC.reg r22_8) IC.ret) IC.skip))))) (IC.seq (IC.reg r22_9) (IC.seq (IC.reg r22_10) IC.ret))))))
abbrev g22 : FC := ⟨c22, 50, [.cell 4 (some 6), .t 5]⟩
theorem comp22 : compF Go.Proofs.Try.prog (hintL [(6, 6)]) 22 = some g22 := by kernel_rfl

-- outlaw/queue.Reply
abbrev r23_0 : List IOp := [⟨some 3, .op (.box 33), [.t 0], none⟩,
  ⟨some 6, .op (.alloc 33 [.nils, .int .i64 0, .int .i64 0, .nils, .nils, .bool false]), [], none⟩,
  ⟨some 7, .op (.mov), [.c (.int .i64 0)], none⟩,
  ⟨some 8, .op (.mov), [.c (.int .i64 0)], none⟩]
abbrev r23_1 : List IOp := [⟨some 12, .op (.load (some 6)), [.t 3], none⟩,
  ⟨some 13, .call, [.f 72, .t 12], none⟩,
  ⟨none, .op (.store 6), [.t 3, .t 13], none⟩]
abbrev r23_2 : List IOp := [⟨some 14, .op (.load (some 6)), [.t 3], none⟩,
  ⟨some 15, .op (.mov), [.t 1], none⟩,
  ⟨some 16, .call, [.f 77, .t 14, .t 15], none⟩,
  ⟨some 9, .op (.mov), [.t 16], none⟩]
abbrev r23_3 : List IOp := [⟨some 17, .op (.mov), [.t 9], none⟩,
  ⟨some 18, .op (.bin .lss .prim), [.t 17, .c (.int .i64 0)], none⟩]
abbrev r23_4 : List IOp := [⟨some 19, .op (.load (some 6)), [.t 3], none⟩,
  ⟨none, .op (.store 6), [.t 6, .t 19], none⟩,
  ⟨some 7, .op (.mov), [.c (.int .i64 0)], none⟩,
  ⟨some 8, .op (.mov), [.c (.int .i64 12)], none⟩]
abbrev r23_5 : List IOp := [⟨some 20, .op (.faddr 0), [.t 3], none⟩,
  ⟨some 21, .op (.load none), [.t 20], none⟩,
  ⟨some 22, .op (.mov), [.t 9], none⟩,
  ⟨some 23, .op (.iaddr 10), [.t 21, .t 22], none⟩,
  ⟨some 24, .op (.load (some 10)), [.t 23], none⟩,
  ⟨some 10, .op (.alloc 46 [.int .i64 0, .int .i64 0, .str [], .str [], .str [], .str [], .bool false, .bool false, .int .i64 0, .int .i64 0]), [], none⟩,
  ⟨none, .op (.store 10), [.t 10, .t 24], none⟩]
abbrev r23_6 : List IOp := [⟨some 11, .op (.mov), [.c (.int .i64 2)], none⟩]
abbrev r23_7 : List IOp := [⟨some 26, .op (.load (some 10)), [.t 10], none⟩,
  ⟨some 27, .call, [.f 78, .t 26], none⟩,
  ⟨some 25, .op (.mov), [.t 27], none⟩]
abbrev r23_8 : List IOp := [⟨some 28, .op (.load (some 6)), [.t 3], none⟩,
  ⟨none, .op (.store 6), [.t 6, .t 28], none⟩,
  ⟨some 7, .op (.mov), [.c (.int .i64 0)], none⟩,
  ⟨some 8, .op (.mov), [.c (.int .i64 14)], none⟩]
abbrev r23_9 : List IOp := [⟨some 30, .op (.mov), [.t 2], none⟩,
  ⟨some 29, .op (.mov), [.t 30], none⟩]
abbrev r23_10 : List IOp := [⟨some 11, .op (.mov), [.c (.int .i64 1)], none⟩]
abbrev r23_11 : List IOp := [⟨some 32, .op (.faddr 8), [.t 10], none⟩,
  ⟨some 33, .op (.load none), [.t 32], none⟩,
  ⟨some 34, .op (.bin .add .prim), [.t 33, .c (.int .i64 1)], none⟩,
  ⟨some 35, .op (.bin .lss .prim), [.t 34, .c (.int .i64 5)], none⟩,
  ⟨some 31, .op (.mov), [.t 35], none⟩]
abbrev r23_12 : List IOp := [⟨some 37, .op (.faddr 3), [.t 3], none⟩,
  ⟨some 38, .op (.load none), [.t 37], none⟩,
  ⟨some 39, .op (.len .slice), [.t 38], none⟩,
  ⟨some 40, .op (.bin .lss .prim), [.t 39, .c (.int .i64 64)], none⟩,
  ⟨some 36, .op (.mov), [.t 40], none⟩]
abbrev r23_13 : List IOp := [⟨some 11, .op (.mov), [.c (.int .i64 3)], none⟩]
abbrev r23_14 : List IOp := [⟨some 41, .op (.mov), [.t 11], none⟩]
abbrev r23_15 : List IOp := [⟨some 64, .op (.bin .eql .prim), [.t 41, .c (.int .i64 1)], none⟩,
  ⟨some 63, .op (.mov), [.t 64], none⟩]
abbrev r23_16 : List IOp := [⟨some 65, .op (.faddr 4), [.t 3], none⟩,
  ⟨some 66, .op (.load none), [.t 65], none⟩,
  ⟨some 67, .op (.faddr 1), [.t 10], none⟩,
  ⟨some 68, .op (.load (some 5)), [.t 67], none⟩,
  ⟨some 69, .op (.bsl 28 5 false), [.t 68], none⟩,
  ⟨some 70, .op (.app 28 5 72), [.t 66, .t 69], none⟩,
  ⟨some 71, .op (.faddr 4), [.t 3], none⟩,
  ⟨none, .op (.store 1), [.t 71, .t 70], none⟩]
abbrev r23_17 : List IOp := [⟨some 72, .op (.faddr 4), [.t 3], none⟩,
  ⟨some 73, .op (.load none), [.t 72], none⟩,
  ⟨some 74, .op (.faddr 4), [.t 3], none⟩,
  ⟨some 75, .op (.load none), [.t 74], none⟩,
  ⟨some 76, .op (.len .slice), [.t 75], none⟩,
  ⟨some 77, .op (.bin .sub .prim), [.t 76, .c (.int .i64 64)], none⟩,
  ⟨some 78, .op (.max), [.c (.int .i64 0), .t 77], none⟩,
  ⟨some 79, .call, [.f 80, .t 73, .c (.int .i64 0), .t 78], none⟩,
  ⟨some 80, .op (.faddr 4), [.t 3], none⟩,
  ⟨none, .op (.store 1), [.t 80, .t 79], none⟩]
abbrev r23_18 : List IOp := [⟨some 82, .op (.bin .eql .prim), [.t 41, .c (.int .i64 3)], none⟩,
  ⟨some 81, .op (.mov), [.t 82], none⟩]
abbrev r23_19 : List IOp := [⟨some 83, .op (.faddr 3), [.t 3], none⟩,
  ⟨some 84, .op (.load none), [.t 83], none⟩,
  ⟨some 85, .op (.faddr 1), [.t 10], none⟩,
  ⟨some 86, .op (.load (some 5)), [.t 85], none⟩,
  ⟨some 87, .op (.bsl 28 5 false), [.t 86], none⟩,
  ⟨some 88, .op (.app 28 5 72), [.t 84, .t 87], none⟩,
  ⟨some 89, .op (.faddr 3), [.t 3], none⟩,
  ⟨none, .op (.store 1), [.t 89, .t 88], none⟩]
abbrev r23_20 : List IOp := [⟨some 42, .op (.faddr 8), [.t 10], none⟩,
  ⟨some 43, .op (.load none), [.t 42], none⟩,
  ⟨some 44, .op (.bin .add .prim), [.t 43, .c (.int .i64 1)], none⟩,
  ⟨some 45, .op (.min), [.t 44, .c (.int .i64 4)], none⟩,
  ⟨some 46, .op (.faddr 6), [.t 10], none⟩,
  ⟨none, .op (.store 1), [.t 46, .c (.bool false)], none⟩,
  ⟨some 47, .op (.faddr 7), [.t 10], none⟩,
  ⟨none, .op (.store 1), [.t 47, .c (.bool false)], none⟩,
  ⟨some 48, .op (.faddr 8), [.t 10], none⟩,
  ⟨none, .op (.store 1), [.t 48, .t 45], none⟩]
abbrev r23_21 : List IOp := [⟨some 49, .op (.faddr 2), [.t 3], none⟩,
  ⟨some 50, .op (.load none), [.t 49], none⟩,
  ⟨some 51, .op (.faddr 8), [.t 10], none⟩,
  ⟨some 52, .op (.load none), [.t 51], none⟩,
  ⟨some 53, .call, [.f 37, .t 52], none⟩,
  ⟨some 54, .op (.bin .add .prim), [.t 50, .t 53], none⟩,
  ⟨some 55, .op (.faddr 9), [.t 10], none⟩,
  ⟨none, .op (.store 1), [.t 55, .t 54], none⟩]
abbrev r23_22 : List IOp := [⟨some 56, .op (.faddr 0), [.t 3], none⟩,
  ⟨some 57, .op (.load none), [.t 56], none⟩,
  ⟨some 58, .op (.mov), [.t 9], none⟩,
  ⟨some 59, .op (.load (some 10)), [.t 10], none⟩,
  ⟨some 60, .op (.iaddr 10), [.t 57, .t 58], none⟩,
  ⟨none, .op (.store 10), [.t 60, .t 59], none⟩]
abbrev r23_23 : List IOp := [⟨some 61, .op (.load (some 6)), [.t 3], none⟩,
  ⟨some 62, .op (.mov), [.t 11], none⟩,
  ⟨none, .op (.store 6), [.t 6, .t 61], none⟩,
  ⟨some 7, .op (.mov), [.t 62], none⟩,
  ⟨some 8, .op (.mov), [.c (.int .i64 0)], none⟩]
abbrev r23_24 : List IOp := [⟨some 90, .op (.faddr 0), [.t 3], none⟩,
  ⟨some 91, .op (.load none), [.t 90], none⟩,
  ⟨some 92, .op (.mov), [.t 9], none⟩,
  ⟨some 93, .op (.mov), [.t 9], none⟩,
  ⟨some 94, .op (.bin .add .prim), [.t 93, .c (.int .i64 1)], none⟩,
  ⟨some 95, .call, [.f 81, .t 91, .t 92, .t 94], none⟩,
  ⟨some 96, .op (.faddr 0), [.t 3], none⟩,
  ⟨none, .op (.store 1), [.t 96, .t 95], none⟩]
abbrev r23_25 : List IOp := [⟨some 97, .op (.load (some 6)), [.t 3], none⟩,
  ⟨some 98, .op (.mov), [.t 11], none⟩,
  ⟨none, .op (.store 6), [.t 6, .t 97], none⟩,
  ⟨some 7, .op (.mov), [.t 98], none⟩,
  ⟨some 8, .op (.mov), [.c (.int .i64 0)], none⟩]
abbrev c23 : IC := (IC.seq (IC.reg r23_0) (IC.seq (IC.reg r23_1) (IC.seq (IC.reg r23_2) (IC.seq (IC.seq (IC.reg r23_3) (IC.cond (.t 18) (IC.seq (IC.reg r23_4) IC.ret) IC.skip)) (IC.seq (IC.reg r23_5) (IC.seq (IC.reg r23_6) (IC.seq IC.skip (IC.seq (IC.block 0 (IC.seq (IC.reg r23_7) (IC.cond (.t 25) (IC.seq (IC.reg r23_8) IC.ret) (IC.seq (IC.reg r23_9) (IC.cond (.t 29) (IC.reg r23_10) (IC.seq (IC.reg r23_11) (IC.cond (.t 31) (IC.exit 0) (IC.seq (IC.reg r23_12) (IC.cond (.t 36) (IC.reg r23_13) IC.skip))))))))) (IC.seq (IC.seq (IC.reg r23_14) (IC.block 1 (IC.seq (IC.reg r23_15) (IC.cond (.t 63) (IC.seq (IC.reg r23_16) (IC.reg r23_17)) (IC.seq (IC.reg r23_18) (IC.cond (.t 81) (IC.reg r23_19) (IC.seq (IC.reg r23_20) (IC.seq (IC.regD .alloc r23_21 (.take 0 (.take 1 (.take 2 (.take 3 (.take 4 (.take 5 (.take 6 (.take 7 (.done)))))))))) (IC.seq (IC.reg r23_22) (IC.seq (IC.reg r23_23) IC.ret)))))))))) (IC.seq (IC.reg r23_24) (IC.seq (IC.reg r23_25) IC.ret)))))))))))
abbrev g23 : FC := ⟨c23, 99, [.cell 6 (some 6), .t 7, .t 8]⟩
theorem comp23 : compF Go.Proofs.Try.prog (hintL [(16, 7)]) 23 = some g23 := by kernel_rfl

-- outlaw/queue.Pass
abbrev r27_0 : List IOp := [⟨some 2, .op (.box 33), [.t 0], none⟩,
  ⟨some 4, .op (.alloc 33 [.nils, .int .i64 0, .int .i64 0, .nils, .nils, .bool false]), [], none⟩,
  ⟨some 5, .op (.mov), [.c (.int .i64 0)], none⟩]
abbrev r27_1 : List IOp := [⟨some 6, .op (.load (some 6)), [.t 2], none⟩,
  ⟨some 7, .call, [.f 72, .t 6], none⟩,
  ⟨none, .op (.store 6), [.t 2, .t 7], none⟩]
abbrev r27_2 : List IOp := [⟨some 9, .op (.mov), [.t 1], none⟩,
  ⟨some 10, .op (.bin .lss .prim), [.t 9, .c (.int .i64 0)], none⟩,
  ⟨some 11, .op (.mov), [.t 10], none⟩,
  ⟨some 12, .op (.mov), [.t 1], some (11, false)⟩,
  ⟨some 13, .op (.bin .gtr .prim), [.t 12, .c (.int .i64 1000000)], some (11, false)⟩,
  ⟨some 14, .op (.pick), [.t 11, .c (.bool true), .t 13], none⟩,
  ⟨some 8, .op (.mov), [.t 14], none⟩]
abbrev r27_3 : List IOp := [⟨some 15, .op (.load (some 6)), [.t 2], none⟩,
  ⟨none, .op (.store 6), [.t 4, .t 15], none⟩,
  ⟨some 5, .op (.mov), [.c (.int .i64 2)], none⟩]
abbrev r27_4 : List IOp := [⟨some 17, .op (.faddr 2), [.t 2], none⟩,
  ⟨some 18, .op (.load none), [.t 17], none⟩,
  ⟨some 19, .op (.mov), [.t 1], none⟩,
  ⟨some 20, .op (.bin .sub .prim), [.c (.int .i64 1152921504606846976), .t 19], none⟩,
  ⟨some 21, .op (.bin .gtr .prim), [.t 18, .t 20], none⟩,
  ⟨some 16, .op (.mov), [.t 21], none⟩]
abbrev r27_5 : List IOp := [⟨some 22, .op (.load (some 6)), [.t 2], none⟩,
  ⟨none, .op (.store 6), [.t 4, .t 22], none⟩,
  ⟨some 5, .op (.mov), [.c (.int .i64 13)], none⟩]
abbrev r27_6 : List IOp := [⟨some 23, .op (.faddr 2), [.t 2], none⟩,
  ⟨some 24, .op (.load none), [.t 23], none⟩,
  ⟨some 25, .op (.mov), [.t 1], none⟩,
  ⟨some 26, .op (.bin .add .prim), [.t 24, .t 25], none⟩,
  ⟨some 27, .op (.faddr 2), [.t 2], none⟩,
  ⟨none, .op (.store 1), [.t 27, .t 26], none⟩]
abbrev r27_7 : List IOp := [⟨some 28, .op (.load (some 6)), [.t 2], none⟩,
  ⟨none, .op (.store 6), [.t 4, .t 28], none⟩,
  ⟨some 5, .op (.mov), [.c (.int .i64 0)], none⟩]
abbrev c27 : IC := (IC.seq (IC.reg r27_0) (IC.seq (IC.reg r27_1) (IC.seq (IC.block 0 (IC.seq (IC.reg r27_2) (IC.cond (.t 8) (IC.seq (IC.reg r27_3) IC.ret) (IC.seq (IC.reg r27_4) (IC.cond (.t 16) (IC.seq (IC.reg r27_5) IC.ret) IC.skip))))) (IC.seq (IC.reg r27_6) (IC.seq (IC.reg r27_7) IC.ret)))))
abbrev g27 : FC := ⟨c27, 29, [.cell 4 (some 6), .t 5]⟩
theorem comp27 : compF Go.Proofs.Try.prog (fun _ => 0) 27 = some g27 := by kernel_rfl

-- outlaw/queue.Clear
abbrev r24_0 : List IOp := [⟨some 1, .op (.box 33), [.t 0], none⟩,
  ⟨some 2, .op (.alloc 33 [.nils, .int .i64 0, .int .i64 0, .nils, .nils, .bool false]), [], none⟩]
abbrev r24_1 : List IOp := [⟨some 3, .op (.load (some 6)), [.t 1], none⟩,
  ⟨some 4, .call, [.f 72, .t 3], none⟩,
  ⟨none, .op (.store 6), [.t 1, .t 4], none⟩]
abbrev r24_2 : List IOp := [⟨some 5, .op (.faddr 3), [.t 1], none⟩,
  ⟨none, .op (.store 1), [.t 5, .c (.nils)], none⟩,
  ⟨some 6, .op (.faddr 4), [.t 1], none⟩,
  ⟨none, .op (.store 1), [.t 6, .c (.nils)], none⟩]
abbrev r24_3 : List IOp := [⟨some 7, .op (.load (some 6)), [.t 1], none⟩,
  ⟨none, .op (.store 6), [.t 2, .t 7], none⟩]
abbrev c24 : IC := (IC.seq (IC.reg r24_0) (IC.seq (IC.reg r24_1) (IC.seq (IC.reg r24_2) (IC.seq (IC.reg r24_3) IC.ret))))
abbrev g24 : FC := ⟨c24, 8, [.cell 2 (some 6)]⟩
theorem comp24 : compF Go.Proofs.Try.prog (fun _ => 0) 24 = some g24 := by kernel_rfl

-- outlaw/queue.Withdraw
abbrev r35_0 : List IOp := [⟨some 2, .op (.box 33), [.t 0], none⟩,
  ⟨some 3, .op (.box 31), [.t 1], none⟩,
  ⟨some 4, .op (.alloc 33 [.nils, .int .i64 0, .int .i64 0, .nils, .nils, .bool false]), [], none⟩,
  ⟨some 5, .op (.mov), [.c (.nils)], none⟩]
abbrev r35_1 : List IOp := [⟨some 7, .op (.load (some 6)), [.t 2], none⟩,
  ⟨some 8, .call, [.f 72, .t 7], none⟩,
  ⟨none, .op (.store 6), [.t 2, .t 8], none⟩]
abbrev r35_2 : List IOp := [⟨some 6, .op (.alloc 30 [.nils]), [], none⟩]
abbrev r35_3 : List IOp := [⟨some 9, .op (.faddr 0), [.t 2], none⟩,
  ⟨some 10, .op (.load none), [.t 9], none⟩,
  ⟨some 11, .op (.mkfn 87), [.t 3, .t 6], none⟩,
  ⟨some 12, .call, [.f 86, .t 10, .t 11], none⟩,
  ⟨some 13, .op (.faddr 0), [.t 2], none⟩,
  ⟨none, .op (.store 1), [.t 13, .t 12], none⟩]
abbrev r35_4 : List IOp := [⟨some 14, .op (.faddr 4), [.t 2], none⟩,
  ⟨some 15, .op (.load none), [.t 14], none⟩,
  ⟨some 16, .op (.mkfn 90), [.t 3], none⟩,
  ⟨some 17, .call, [.f 89, .t 15, .t 16], none⟩,
  ⟨some 18, .op (.faddr 4), [.t 2], none⟩,
  ⟨none, .op (.store 1), [.t 18, .t 17], none⟩]
abbrev r35_5 : List IOp := [⟨some 19, .op (.load (some 6)), [.t 2], none⟩,
  ⟨some 20, .op (.load none), [.t 6], none⟩,
  ⟨none, .op (.store 6), [.t 4, .t 19], none⟩,
  ⟨some 5, .op (.mov), [.t 20], none⟩]
abbrev c35 : IC := (IC.seq (IC.reg r35_0) (IC.seq (IC.reg r35_1) (IC.seq (IC.reg r35_2) (IC.seq (IC.reg r35_3) (IC.seq (IC.reg r35_4) (IC.seq (IC.regD .wild r35_5 (.take 0 (.fork [(1, .take 2 (.take 3 (.done))), (2, .take 1 (.take 3 (.done)))]))) IC.ret))))))
abbrev g35 : FC := ⟨c35, 21, [.cell 4 (some 6), .t 5]⟩
theorem comp35 : compF Go.Proofs.Try.prog (hintL [(5, 6)]) 35 = some g35 := by kernel_rfl

-- outlaw/queue.Same
abbrev r36_0 : List IOp := [⟨some 2, .op (.box 33), [.t 0], none⟩,
  ⟨some 3, .op (.box 33), [.t 1], none⟩,
  ⟨some 4, .op (.mov), [.c (.bool false)], none⟩]
abbrev r36_1 : List IOp := [⟨some 5, .op (.faddr 1), [.t 2], none⟩,
  ⟨some 6, .op (.load none), [.t 5], none⟩,
  ⟨some 7, .op (.faddr 1), [.t 3], none⟩,
  ⟨some 8, .op (.load none), [.t 7], none⟩,
  ⟨some 9, .op (.bin .eql .prim), [.t 6, .t 8], none⟩,
  ⟨some 10, .op (.mov), [.t 9], none⟩,
  ⟨some 11, .op (.faddr 2), [.t 2], some (10, true)⟩,
  ⟨some 12, .op (.load none), [.t 11], some (10, true)⟩,
  ⟨some 13, .op (.faddr 2), [.t 3], some (10, true)⟩,
  ⟨some 14, .op (.load none), [.t 13], some (10, true)⟩,
  ⟨some 15, .op (.bin .eql .prim), [.t 12, .t 14], some (10, true)⟩,
  ⟨some 16, .op (.pick), [.t 10, .t 15, .c (.bool false)], none⟩,
  ⟨some 17, .op (.mov), [.t 16], none⟩,
  ⟨some 18, .op (.faddr 5), [.t 2], some (17, true)⟩,
  ⟨some 19, .op (.load none), [.t 18], some (17, true)⟩,
  ⟨some 20, .op (.faddr 5), [.t 3], some (17, true)⟩,
  ⟨some 21, .op (.load none), [.t 20], some (17, true)⟩,
  ⟨some 22, .op (.bin .eql .bool), [.t 19, .t 21], some (17, true)⟩,
  ⟨some 23, .op (.pick), [.t 17, .t 22, .c (.bool false)], none⟩,
  ⟨some 24, .op (.mov), [.t 23], none⟩,
  ⟨some 25, .op (.faddr 0), [.t 2], some (24, true)⟩,
  ⟨some 26, .op (.load none), [.t 25], some (24, true)⟩,
  ⟨some 27, .op (.faddr 0), [.t 3], some (24, true)⟩,
  ⟨some 28, .op (.load none), [.t 27], some (24, true)⟩,
  ⟨some 29, .call, [.f 91, .t 26, .t 28], some (24, true)⟩,
  ⟨some 30, .op (.pick), [.t 24, .t 29, .c (.bool false)], none⟩,
  ⟨some 31, .op (.mov), [.t 30], none⟩,
  ⟨some 32, .op (.faddr 3), [.t 2], some (31, true)⟩,
  ⟨some 33, .op (.load none), [.t 32], some (31, true)⟩,
  ⟨some 34, .op (.faddr 3), [.t 3], some (31, true)⟩,
  ⟨some 35, .op (.load none), [.t 34], some (31, true)⟩,
  ⟨some 36, .call, [.f 92, .t 33, .t 35], some (31, true)⟩,
  ⟨some 37, .op (.pick), [.t 31, .t 36, .c (.bool false)], none⟩,
  ⟨some 38, .op (.mov), [.t 37], none⟩,
  ⟨some 39, .op (.faddr 4), [.t 2], some (38, true)⟩,
  ⟨some 40, .op (.load none), [.t 39], some (38, true)⟩,
  ⟨some 41, .op (.faddr 4), [.t 3], some (38, true)⟩,
  ⟨some 42, .op (.load none), [.t 41], some (38, true)⟩,
  ⟨some 43, .call, [.f 92, .t 40, .t 42], some (38, true)⟩,
  ⟨some 44, .op (.pick), [.t 38, .t 43, .c (.bool false)], none⟩,
  ⟨some 4, .op (.mov), [.t 44], none⟩]
abbrev c36 : IC := (IC.seq (IC.reg r36_0) (IC.seq (IC.reg r36_1) IC.ret))
abbrev g36 : FC := ⟨c36, 45, [.t 4]⟩
theorem comp36 : compF Go.Proofs.Try.prog (fun _ => 0) 36 = some g36 := by kernel_rfl

-- outlaw/queue.Backoff
abbrev r37_0 : List IOp := [⟨some 2, .op (.mov), [.c (.int .i64 0)], none⟩]
abbrev r37_1 : List IOp := [⟨some 3, .op (.mov), [.t 0], none⟩,
  ⟨some 4, .op (.bin .lss .prim), [.t 3, .c (.int .i64 1)], none⟩]
abbrev r37_2 : List IOp := [⟨some 2, .op (.mov), [.c (.int .i64 0)], none⟩]
abbrev r37_3 : List IOp := [⟨some 5, .op (.mov), [.t 0], none⟩,
  ⟨some 6, .op (.min), [.t 5, .c (.int .i64 20)], none⟩,
  ⟨some 7, .op (.bin .shl .prim), [.c (.int .i64 1), .t 6], none⟩,
  ⟨some 8, .op (.min), [.c (.int .i64 64), .t 7], none⟩,
  ⟨some 2, .op (.mov), [.t 8], none⟩]
abbrev c37 : IC := (IC.seq (IC.reg r37_0) (IC.seq (IC.seq (IC.reg r37_1) (IC.cond (.t 4) (IC.seq (IC.reg r37_2) IC.ret) IC.skip)) (IC.seq (IC.reg r37_3) IC.ret)))
abbrev g37 : FC := ⟨c37, 9, [.t 2]⟩
theorem comp37 : compF Go.Proofs.Try.prog (fun _ => 0) 37 = some g37 := by kernel_rfl

-- outlaw/queue.Check
abbrev r38_0 : List IOp := [⟨some 1, .op (.box 33), [.t 0], none⟩,
  ⟨some 2, .op (.mov), [.c (.int .i64 0)], none⟩]
abbrev r38_1 : List IOp := [⟨some 10, .op (.faddr 0), [.t 1], none⟩,
  ⟨some 11, .op (.load none), [.t 10], none⟩,
  ⟨some 12, .op (.len .slice), [.t 11], none⟩,
  ⟨some 13, .op (.bin .leq .prim), [.t 12, .c (.int .i64 32)], none⟩,
  ⟨some 14, .op (.mov), [.t 13], none⟩,
  ⟨some 15, .op (.faddr 1), [.t 1], some (14, true)⟩,
  ⟨some 16, .op (.load none), [.t 15], some (14, true)⟩,
  ⟨some 17, .op (.bin .geq .prim), [.t 16, .c (.int .i64 1)], some (14, true)⟩,
  ⟨some 18, .op (.pick), [.t 14, .t 17, .c (.bool false)], none⟩,
  ⟨some 19, .op (.mov), [.t 18], none⟩,
  ⟨some 20, .op (.faddr 1), [.t 1], some (19, true)⟩,
  ⟨some 21, .op (.load none), [.t 20], some (19, true)⟩,
  ⟨some 22, .op (.bin .leq .prim), [.t 21, .c (.int .i64 1152921504606846976)], some (19, true)⟩,
  ⟨some 23, .op (.pick), [.t 19, .t 22, .c (.bool false)], none⟩,
  ⟨some 24, .op (.mov), [.t 23], none⟩,
  ⟨some 25, .op (.faddr 2), [.t 1], some (24, true)⟩,
  ⟨some 26, .op (.load none), [.t 25], some (24, true)⟩,
  ⟨some 27, .op (.bin .geq .prim), [.t 26, .c (.int .i64 0)], some (24, true)⟩,
  ⟨some 28, .op (.pick), [.t 24, .t 27, .c (.bool false)], none⟩,
  ⟨some 29, .op (.mov), [.t 28], none⟩,
  ⟨some 30, .op (.faddr 2), [.t 1], some (29, true)⟩,
  ⟨some 31, .op (.load none), [.t 30], some (29, true)⟩,
  ⟨some 32, .op (.bin .leq .prim), [.t 31, .c (.int .i64 1152921504606846976)], some (29, true)⟩,
  ⟨some 33, .op (.pick), [.t 29, .t 32, .c (.bool false)], none⟩,
  ⟨some 34, .op (.mov), [.t 33], none⟩,
  ⟨some 35, .op (.faddr 3), [.t 1], some (34, true)⟩,
  ⟨some 36, .op (.load none), [.t 35], some (34, true)⟩,
  ⟨some 37, .op (.len .slice), [.t 36], some (34, true)⟩,
  ⟨some 38, .op (.bin .leq .prim), [.t 37, .c (.int .i64 64)], some (34, true)⟩,
  ⟨some 39, .op (.pick), [.t 34, .t 38, .c (.bool false)], none⟩,
  ⟨some 40, .op (.mov), [.t 39], none⟩,
  ⟨some 41, .op (.faddr 4), [.t 1], some (40, true)⟩,
  ⟨some 42, .op (.load none), [.t 41], some (40, true)⟩,
  ⟨some 43, .op (.len .slice), [.t 42], some (40, true)⟩,
  ⟨some 44, .op (.bin .leq .prim), [.t 43, .c (.int .i64 64)], some (40, true)⟩,
  ⟨some 45, .op (.pick), [.t 40, .t 44, .c (.bool false)], none⟩,
  ⟨some 46, .op (.mov), [.t 45], none⟩,
  ⟨some 47, .op (.load (some 6)), [.t 1], some (46, true)⟩,
  ⟨some 48, .call, [.f 79, .t 47], some (46, true)⟩,
  ⟨some 49, .op (.bin .leq .prim), [.t 48, .c (.int .i64 4)], some (46, true)⟩,
  ⟨some 50, .op (.pick), [.t 46, .t 49, .c (.bool false)], none⟩,
  ⟨some 3, .op (.mov), [.t 50], none⟩]
abbrev r38_2 : List IOp := [⟨some 51, .op (.mov), [.t 3], none⟩,
  ⟨some 52, .op (.un .not), [.t 51], none⟩]
abbrev r38_3 : List IOp := [⟨some 2, .op (.mov), [.c (.int .i64 2)], none⟩]
abbrev r38_4 : List IOp := [⟨some 4, .op (.mov), [.c (.int .i64 0)], none⟩]
abbrev r38_5 : List IOp := [⟨some 53, .op (.faddr 0), [.t 1], none⟩,
  ⟨some 54, .op (.load none), [.t 53], none⟩,
  ⟨some 55, .op (.len .slice), [.t 54], none⟩,
  ⟨some 56, .op (.mov), [.c (.int .i64 0)], none⟩]
abbrev r38_6 : List IOp := [⟨some 57, .op (.bin .lss .prim), [.t 56, .t 55], none⟩]
abbrev r38_7 : List IOp := [⟨some 58, .op (.iaddr 10), [.t 54, .t 56], none⟩,
  ⟨some 59, .op (.load (some 10)), [.t 58], none⟩,
  ⟨some 6, .op (.alloc 46 [.int .i64 0, .int .i64 0, .str [], .str [], .str [], .str [], .bool false, .bool false, .int .i64 0, .int .i64 0]), [], none⟩,
  ⟨none, .op (.store 10), [.t 6, .t 59], none⟩]
abbrev r38_8 : List IOp := [⟨some 60, .op (.faddr 0), [.t 6], none⟩,
  ⟨some 61, .op (.load none), [.t 60], none⟩,
  ⟨some 62, .op (.mov), [.t 4], none⟩,
  ⟨some 63, .op (.bin .leq .prim), [.t 61, .t 62], none⟩,
  ⟨some 64, .op (.mov), [.t 63], none⟩,
  ⟨some 65, .op (.faddr 0), [.t 6], some (64, false)⟩,
  ⟨some 66, .op (.load none), [.t 65], some (64, false)⟩,
  ⟨some 67, .op (.faddr 1), [.t 1], some (64, false)⟩,
  ⟨some 68, .op (.load none), [.t 67], some (64, false)⟩,
  ⟨some 69, .op (.bin .geq .prim), [.t 66, .t 68], some (64, false)⟩,
  ⟨some 70, .op (.pick), [.t 64, .c (.bool true), .t 69], none⟩,
  ⟨some 71, .op (.mov), [.t 70], none⟩,
  ⟨some 72, .op (.faddr 8), [.t 6], some (71, false)⟩,
  ⟨some 73, .op (.load none), [.t 72], some (71, false)⟩,
  ⟨some 74, .op (.bin .lss .prim), [.t 73, .c (.int .i64 0)], some (71, false)⟩,
  ⟨some 75, .op (.pick), [.t 71, .c (.bool true), .t 74], none⟩,
  ⟨some 76, .op (.mov), [.t 75], none⟩,
  ⟨some 77, .op (.faddr 8), [.t 6], some (76, false)⟩,
  ⟨some 78, .op (.load none), [.t 77], some (76, false)⟩,
  ⟨some 79, .op (.bin .geq .prim), [.t 78, .c (.int .i64 5)], some (76, false)⟩,
  ⟨some 80, .op (.pick), [.t 76, .c (.bool true), .t 79], none⟩,
  ⟨some 81, .op (.mov), [.t 80], none⟩,
  ⟨some 82, .op (.faddr 9), [.t 6], some (81, false)⟩,
  ⟨some 83, .op (.load none), [.t 82], some (81, false)⟩,
  ⟨some 84, .op (.bin .lss .prim), [.t 83, .c (.int .i64 0)], some (81, false)⟩,
  ⟨some 85, .op (.pick), [.t 81, .c (.bool true), .t 84], none⟩,
  ⟨some 86, .op (.mov), [.t 85], none⟩,
  ⟨some 87, .op (.faddr 9), [.t 6], some (86, false)⟩,
  ⟨some 88, .op (.load none), [.t 87], some (86, false)⟩,
  ⟨some 89, .op (.bin .gtr .prim), [.t 88, .c (.int .i64 1152921504606847040)], some (86, false)⟩,
  ⟨some 90, .op (.pick), [.t 86, .c (.bool true), .t 89], none⟩]
abbrev r38_9 : List IOp := [⟨some 2, .op (.mov), [.c (.int .i64 2)], none⟩]
abbrev r38_10 : List IOp := [⟨some 91, .op (.faddr 0), [.t 6], none⟩,
  ⟨some 92, .op (.load none), [.t 91], none⟩,
  ⟨some 4, .op (.mov), [.t 92], none⟩]
abbrev r38_11 : List IOp := [⟨some 93, .op (.bin .add .prim), [.t 56, .c (.int .i64 1)], none⟩,
  ⟨some 56, .op (.mov), [.t 93], none⟩]
abbrev b38_0 : IC := (IC.seq (IC.reg r38_6) (IC.seq (IC.cond (.t 57) IC.skip (IC.exit 0)) (IC.seq (IC.block 1 (IC.seq (IC.reg r38_7) (IC.seq (IC.seq (IC.reg r38_8) (IC.cond (.t 90) (IC.seq (IC.reg r38_9) IC.ret) IC.skip)) (IC.reg r38_10)))) (IC.reg r38_11))))
abbrev r38_12 : List IOp := [⟨some 94, .op (.load (some 6)), [.t 1], none⟩,
  ⟨some 95, .call, [.f 75, .t 94], none⟩,
  ⟨some 7, .op (.mov), [.t 95], none⟩]
abbrev r38_13 : List IOp := [⟨some 96, .op (.mov), [.t 7], none⟩,
  ⟨some 97, .op (.len .slice), [.t 96], none⟩,
  ⟨some 98, .op (.mov), [.c (.int .i64 0)], none⟩]
abbrev r38_14 : List IOp := [⟨some 99, .op (.bin .lss .prim), [.t 98, .t 97], none⟩]
abbrev r38_15 : List IOp := [⟨some 100, .op (.mov), [.t 98], none⟩,
  ⟨some 101, .op (.iaddr 5), [.t 96, .t 98], none⟩,
  ⟨some 102, .op (.load (some 5)), [.t 101], none⟩,
  ⟨some 9, .op (.alloc 28 [.int .i64 0, .str [], .str [], .str [], .str []]), [], none⟩,
  ⟨some 8, .op (.mov), [.t 100], none⟩,
  ⟨none, .op (.store 5), [.t 9, .t 102], none⟩]
abbrev r38_16 : List IOp := [⟨some 103, .op (.load (some 5)), [.t 9], none⟩,
  ⟨some 104, .call, [.f 73, .t 103], none⟩,
  ⟨some 105, .op (.un .not), [.t 104], none⟩,
  ⟨some 106, .op (.mov), [.t 105], none⟩,
  ⟨some 107, .op (.mov), [.t 7], some (106, false)⟩,
  ⟨some 108, .op (.mov), [.t 8], some (106, false)⟩,
  ⟨some 109, .op (.slice 5 false true false), [.t 107, .t 108], some (106, false)⟩,
  ⟨some 110, .op (.mkfn 93), [.t 9], some (106, false)⟩,
  ⟨some 111, .call, [.f 74, .t 109, .t 110], some (106, false)⟩,
  ⟨some 112, .op (.pick), [.t 106, .c (.bool true), .t 111], none⟩]
abbrev r38_17 : List IOp := [⟨some 2, .op (.mov), [.c (.int .i64 2)], none⟩]
abbrev r38_18 : List IOp := [⟨some 113, .op (.bin .add .prim), [.t 98, .c (.int .i64 1)], none⟩,
  ⟨some 98, .op (.mov), [.t 113], none⟩]
abbrev b38_1 : IC := (IC.seq (IC.reg r38_14) (IC.seq (IC.cond (.t 99) IC.skip (IC.exit 2)) (IC.seq (IC.block 3 (IC.seq (IC.reg r38_15) (IC.seq (IC.reg r38_16) (IC.cond (.t 112) (IC.seq (IC.reg r38_17) IC.ret) IC.skip)))) (IC.reg r38_18))))
abbrev r38_19 : List IOp := [⟨some 2, .op (.mov), [.c (.int .i64 0)], none⟩]
abbrev c38 : IC := (IC.seq (IC.reg r38_0) (IC.seq (IC.reg r38_1) (IC.seq (IC.seq (IC.reg r38_2) (IC.cond (.t 52) (IC.seq (IC.reg r38_3) IC.ret) IC.skip)) (IC.seq (IC.reg r38_4) (IC.seq (IC.seq (IC.reg r38_5) (IC.block 0 (IC.loop b38_0))) (IC.seq (IC.reg r38_12) (IC.seq (IC.seq (IC.reg r38_13) (IC.block 2 (IC.loop b38_1))) (IC.seq (IC.reg r38_19) IC.ret))))))))
abbrev g38 : FC := ⟨c38, 114, [.t 2]⟩
theorem comp38 : compF Go.Proofs.Try.prog (fun _ => 0) 38 = some g38 := by kernel_rfl

-- outlaw/queue.Alike
abbrev r33_0 : List IOp := [⟨some 2, .op (.box 28), [.t 0], none⟩,
  ⟨some 3, .op (.box 28), [.t 1], none⟩,
  ⟨some 4, .op (.mov), [.c (.bool false)], none⟩]
abbrev r33_1 : List IOp := [⟨some 5, .op (.faddr 1), [.t 2], none⟩,
  ⟨some 6, .op (.load none), [.t 5], none⟩,
  ⟨some 7, .op (.faddr 1), [.t 3], none⟩,
  ⟨some 8, .op (.load none), [.t 7], none⟩,
  ⟨some 9, .op (.bin .eql .prim), [.t 6, .t 8], none⟩,
  ⟨some 10, .op (.mov), [.t 9], none⟩,
  ⟨some 11, .op (.faddr 0), [.t 2], some (10, true)⟩,
  ⟨some 12, .op (.load none), [.t 11], some (10, true)⟩,
  ⟨some 13, .op (.faddr 0), [.t 3], some (10, true)⟩,
  ⟨some 14, .op (.load none), [.t 13], some (10, true)⟩,
  ⟨some 15, .op (.bin .eql .prim), [.t 12, .t 14], some (10, true)⟩,
  ⟨some 16, .op (.pick), [.t 10, .t 15, .c (.bool false)], none⟩,
  ⟨some 17, .op (.mov), [.t 16], none⟩,
  ⟨some 18, .op (.faddr 2), [.t 2], some (17, true)⟩,
  ⟨some 19, .op (.load none), [.t 18], some (17, true)⟩,
  ⟨some 20, .op (.faddr 2), [.t 3], some (17, true)⟩,
  ⟨some 21, .op (.load none), [.t 20], some (17, true)⟩,
  ⟨some 22, .op (.bin .eql .prim), [.t 19, .t 21], some (17, true)⟩,
  ⟨some 23, .op (.pick), [.t 17, .t 22, .c (.bool false)], none⟩,
  ⟨some 4, .op (.mov), [.t 23], none⟩]
abbrev c33 : IC := (IC.seq (IC.reg r33_0) (IC.seq (IC.reg r33_1) IC.ret))
abbrev g33 : FC := ⟨c33, 24, [.t 4]⟩
theorem comp33 : compF Go.Proofs.Try.prog (fun _ => 0) 33 = some g33 := by kernel_rfl

-- outlaw/queue.Land
abbrev r71_0 : List IOp := [⟨some 1, .op (.box 33), [.t 0], none⟩,
  ⟨some 2, .op (.alloc 33 [.nils, .int .i64 0, .int .i64 0, .nils, .nils, .bool false]), [], none⟩]
abbrev r71_1 : List IOp := [⟨some 5, .op (.load (some 6)), [.t 1], none⟩,
  ⟨some 6, .call, [.f 72, .t 5], none⟩,
  ⟨none, .op (.store 6), [.t 1, .t 6], none⟩]
abbrev r71_2 : List IOp := [⟨some 7, .op (.faddr 0), [.t 1], none⟩,
  ⟨some 8, .op (.load none), [.t 7], none⟩,
  ⟨some 9, .op (.len .slice), [.t 8], none⟩,
  ⟨some 10, .op (.mov), [.c (.int .i64 0)], none⟩]
abbrev r71_3 : List IOp := [⟨some 11, .op (.bin .lss .prim), [.t 10, .t 9], none⟩]
abbrev r71_4 : List IOp := [⟨some 12, .op (.mov), [.t 10], none⟩,
  ⟨some 3, .op (.mov), [.t 12], none⟩]
abbrev r71_5 : List IOp := [⟨some 13, .op (.faddr 0), [.t 1], none⟩,
  ⟨some 14, .op (.load none), [.t 13], none⟩,
  ⟨some 15, .op (.mov), [.t 3], none⟩,
  ⟨some 16, .op (.iaddr 10), [.t 14, .t 15], none⟩,
  ⟨some 4, .op (.mov), [.t 16], none⟩]
abbrev r71_6 : List IOp := [⟨some 17, .op (.mov), [.t 4], none⟩,
  ⟨some 18, .op (.mov), [.t 4], none⟩,
  ⟨some 19, .op (.mov), [.t 4], none⟩,
  ⟨some 20, .op (.nilchk), [.t 19], none⟩,
  ⟨some 21, .op (.faddr 7), [.t 20], none⟩,
  ⟨some 22, .op (.load none), [.t 21], none⟩,
  ⟨some 23, .op (.mov), [.t 22], none⟩,
  ⟨some 24, .op (.mov), [.t 4], some (23, false)⟩,
  ⟨some 25, .op (.nilchk), [.t 24], some (23, false)⟩,
  ⟨some 26, .op (.faddr 6), [.t 25], some (23, false)⟩,
  ⟨some 27, .op (.load none), [.t 26], some (23, false)⟩,
  ⟨some 28, .op (.pick), [.t 23, .c (.bool true), .t 27], none⟩,
  ⟨some 29, .op (.nilchk), [.t 17], none⟩,
  ⟨some 30, .op (.faddr 6), [.t 29], none⟩,
  ⟨none, .op (.store 1), [.t 30, .c (.bool false)], none⟩,
  ⟨some 31, .op (.nilchk), [.t 18], none⟩,
  ⟨some 32, .op (.faddr 7), [.t 31], none⟩,
  ⟨none, .op (.store 1), [.t 32, .t 28], none⟩]
abbrev r71_7 : List IOp := [⟨some 33, .op (.bin .add .prim), [.t 10, .c (.int .i64 1)], none⟩,
  ⟨some 10, .op (.mov), [.t 33], none⟩]
abbrev b71_0 : IC := (IC.seq (IC.reg r71_3) (IC.seq (IC.cond (.t 11) IC.skip (IC.exit 0)) (IC.seq (IC.block 1 (IC.seq (IC.reg r71_4) (IC.seq (IC.reg r71_5) (IC.reg r71_6)))) (IC.reg r71_7))))
abbrev r71_8 : List IOp := [⟨some 34, .op (.load (some 6)), [.t 1], none⟩,
  ⟨none, .op (.store 6), [.t 2, .t 34], none⟩]
abbrev c71 : IC := (IC.seq (IC.reg r71_0) (IC.seq (IC.reg r71_1) (IC.seq (IC.seq (IC.reg r71_2) (IC.block 0 (IC.loop b71_0))) (IC.seq (IC.reg r71_8) IC.ret))))
abbrev g71 : FC := ⟨c71, 35, [.cell 2 (some 6)]⟩
theorem comp71 : compF Go.Proofs.Try.prog (fun _ => 0) 71 = some g71 := by kernel_rfl

-- outlaw/queue.Next
abbrev r28_0 : List IOp := [⟨some 2, .op (.box 33), [.t 0], none⟩,
  ⟨some 4, .op (.alloc 46 [.int .i64 0, .int .i64 0, .str [], .str [], .str [], .str [], .bool false, .bool false, .int .i64 0, .int .i64 0]), [], none⟩,
  ⟨some 5, .op (.mov), [.c (.bool false)], none⟩]
abbrev r28_1 : List IOp := [⟨some 10, .op (.load (some 6)), [.t 2], none⟩,
  ⟨some 11, .call, [.f 79, .t 10], none⟩,
  ⟨some 12, .op (.bin .geq .prim), [.t 11, .c (.int .i64 4)], none⟩]
abbrev r28_2 : List IOp := [⟨some 13, .op (.bst [.int .i64 0, .int .i64 0, .str [], .str [], .str [], .str [], .bool false, .bool false, .int .i64 0, .int .i64 0] [(0, 1), (1, 5), (6, 1), (7, 1), (8, 1), (9, 1)] []), [], none⟩,
  ⟨none, .op (.store 10), [.t 4, .t 13], none⟩,
  ⟨some 5, .op (.mov), [.c (.bool false)], none⟩]
abbrev r28_3 : List IOp := [⟨some 14, .op (.mkfn 83), [.t 2], none⟩,
  ⟨some 15, .op (.bst [.nilf, .nilf] [(0, 1), (1, 1)] [0, 1]), [.f 82, .t 14], none⟩,
  ⟨some 16, .op (.mov), [.c (.int .i64 0)], none⟩]
abbrev r28_4 : List IOp := [⟨some 17, .op (.bin .lss .prim), [.t 16, .c (.int .i64 2)], none⟩]
abbrev r28_5 : List IOp := [⟨some 18, .op (.idxa 2 1 none), [.t 15, .t 16], none⟩,
  ⟨some 7, .op (.mov), [.t 18], none⟩]
abbrev r28_6 : List IOp := [⟨some 19, .op (.faddr 0), [.t 2], none⟩,
  ⟨some 20, .op (.load none), [.t 19], none⟩,
  ⟨some 21, .op (.len .slice), [.t 20], none⟩,
  ⟨some 22, .op (.mov), [.c (.int .i64 0)], none⟩]
abbrev r28_7 : List IOp := [⟨some 23, .op (.bin .lss .prim), [.t 22, .t 21], none⟩]
abbrev r28_8 : List IOp := [⟨some 24, .op (.iaddr 10), [.t 20, .t 22], none⟩,
  ⟨some 25, .op (.load (some 10)), [.t 24], none⟩,
  ⟨some 9, .op (.alloc 46 [.int .i64 0, .int .i64 0, .str [], .str [], .str [], .str [], .bool false, .bool false, .int .i64 0, .int .i64 0]), [], none⟩,
  ⟨none, .op (.store 10), [.t 9, .t 25], none⟩]
abbrev r28_9 : List IOp := [⟨some 26, .op (.mov), [.t 7], none⟩,
  ⟨some 27, .op (.load (some 10)), [.t 9], none⟩,
  ⟨some 28, .call, [.t 26, .t 27], none⟩,
  ⟨some 29, .op (.mov), [.t 28], none⟩,
  ⟨some 30, .op (.mov), [.t 1], some (29, true)⟩,
  ⟨some 31, .op (.faddr 0), [.t 9], some (29, true)⟩,
  ⟨some 32, .op (.load none), [.t 31], some (29, true)⟩,
  ⟨some 33, .call, [.f 84, .t 30, .t 32], some (29, true)⟩,
  ⟨some 34, .op (.un .not), [.t 33], some (29, true)⟩,
  ⟨some 35, .op (.pick), [.t 29, .t 34, .c (.bool false)], none⟩]
abbrev r28_10 : List IOp := [⟨some 36, .op (.load (some 10)), [.t 9], none⟩,
  ⟨none, .op (.store 10), [.t 4, .t 36], none⟩,
  ⟨some 5, .op (.mov), [.c (.bool true)], none⟩]
abbrev r28_11 : List IOp := [⟨some 37, .op (.bin .add .prim), [.t 22, .c (.int .i64 1)], none⟩,
  ⟨some 22, .op (.mov), [.t 37], none⟩]
abbrev b28_0 : IC := (IC.seq (IC.reg r28_7) (IC.seq (IC.cond (.t 23) IC.skip (IC.exit 2)) (IC.seq (IC.block 3 (IC.seq (IC.reg r28_8) (IC.seq (IC.reg r28_9) (IC.cond (.t 35) (IC.seq (IC.reg r28_10) IC.ret) IC.skip)))) (IC.reg r28_11))))
abbrev r28_12 : List IOp := [⟨some 38, .op (.bin .add .prim), [.t 16, .c (.int .i64 1)], none⟩,
  ⟨some 16, .op (.mov), [.t 38], none⟩]
abbrev b28_1 : IC := (IC.seq (IC.reg r28_4) (IC.seq (IC.cond (.t 17) IC.skip (IC.exit 0)) (IC.seq (IC.block 1 (IC.seq (IC.reg r28_5) (IC.seq (IC.reg r28_6) (IC.block 2 (IC.loop b28_0))))) (IC.reg r28_12))))
abbrev r28_13 : List IOp := [⟨some 39, .op (.bst [.int .i64 0, .int .i64 0, .str [], .str [], .str [], .str [], .bool false, .bool false, .int .i64 0, .int .i64 0] [(0, 1), (1, 5), (6, 1), (7, 1), (8, 1), (9, 1)] []), [], none⟩,
  ⟨none, .op (.store 10), [.t 4, .t 39], none⟩,
  ⟨some 5, .op (.mov), [.c (.bool false)], none⟩]
abbrev c28 : IC := (IC.seq (IC.reg r28_0) (IC.seq (IC.seq (IC.reg r28_1) (IC.cond (.t 12) (IC.seq (IC.reg r28_2) IC.ret) IC.skip)) (IC.seq (IC.seq (IC.reg r28_3) (IC.block 0 (IC.loop b28_1))) (IC.seq (IC.reg r28_13) IC.ret))))
abbrev g28 : FC := ⟨c28, 40, [.cell 4 (some 10), .t 5]⟩
theorem comp28 : compF Go.Proofs.Try.prog (fun _ => 0) 28 = some g28 := by kernel_rfl

-- outlaw/queue.clone
abbrev r72_0 : List IOp := [⟨some 1, .op (.box 33), [.t 0], none⟩,
  ⟨some 2, .op (.alloc 33 [.nils, .int .i64 0, .int .i64 0, .nils, .nils, .bool false]), [], none⟩]
abbrev r72_1 : List IOp := [⟨some 3, .op (.faddr 0), [.t 1], none⟩,
  ⟨some 4, .op (.load none), [.t 3], none⟩,
  ⟨some 5, .call, [.f 115, .t 4], none⟩,
  ⟨some 6, .op (.faddr 3), [.t 1], none⟩,
  ⟨some 7, .op (.load none), [.t 6], none⟩,
  ⟨some 8, .call, [.f 116, .t 7], none⟩,
  ⟨some 9, .op (.faddr 4), [.t 1], none⟩,
  ⟨some 10, .op (.load none), [.t 9], none⟩,
  ⟨some 11, .call, [.f 116, .t 10], none⟩,
  ⟨some 12, .op (.faddr 0), [.t 1], none⟩,
  ⟨none, .op (.store 1), [.t 12, .t 5], none⟩,
  ⟨some 13, .op (.faddr 3), [.t 1], none⟩,
  ⟨none, .op (.store 1), [.t 13, .t 8], none⟩,
  ⟨some 14, .op (.faddr 4), [.t 1], none⟩,
  ⟨none, .op (.store 1), [.t 14, .t 11], none⟩]
abbrev r72_2 : List IOp := [⟨some 15, .op (.load (some 6)), [.t 1], none⟩,
  ⟨none, .op (.store 6), [.t 2, .t 15], none⟩]
abbrev c72 : IC := (IC.seq (IC.reg r72_0) (IC.seq (IC.regD .alloc r72_1 (.take 0 (.take 1 (.take 3 (.take 4 (.take 6 (.take 7 (.take 2 (.take 5 (.take 8 (.take 9 (.take 10 (.take 11 (.take 12 (.take 13 (.take 14 (.done))))))))))))))))) (IC.seq (IC.reg r72_2) IC.ret)))
abbrev g72 : FC := ⟨c72, 16, [.cell 2 (some 6)]⟩
theorem comp72 : compF Go.Proofs.Try.prog (hintL [(1, 7)]) 72 = some g72 := by kernel_rfl

-- outlaw/queue.known
abbrev r73_0 : List IOp := [⟨some 1, .op (.box 28), [.t 0], none⟩,
  ⟨some 2, .op (.mov), [.c (.bool false)], none⟩]
abbrev r73_1 : List IOp := [⟨some 3, .op (.faddr 0), [.t 1], none⟩,
  ⟨some 4, .op (.load none), [.t 3], none⟩,
  ⟨some 5, .op (.bin .geq .prim), [.t 4, .c (.int .i64 1)], none⟩,
  ⟨some 6, .op (.mov), [.t 5], none⟩,
  ⟨some 7, .op (.faddr 0), [.t 1], some (6, true)⟩,
  ⟨some 8, .op (.load none), [.t 7], some (6, true)⟩,
  ⟨some 9, .op (.bin .leq .prim), [.t 8, .c (.int .i64 4)], some (6, true)⟩,
  ⟨some 10, .op (.pick), [.t 6, .t 9, .c (.bool false)], none⟩,
  ⟨some 2, .op (.mov), [.t 10], none⟩]
abbrev c73 : IC := (IC.seq (IC.reg r73_0) (IC.seq (IC.reg r73_1) IC.ret))
abbrev g73 : FC := ⟨c73, 11, [.t 2]⟩
theorem comp73 : compF Go.Proofs.Try.prog (fun _ => 0) 73 = some g73 := by kernel_rfl

-- outlaw/queue.actions
abbrev r75_0 : List IOp := [⟨some 1, .op (.box 33), [.t 0], none⟩,
  ⟨some 2, .op (.mov), [.c (.nils)], none⟩]
abbrev r75_1 : List IOp := [⟨some 3, .op (.mov), [.c (.nils)], none⟩]
abbrev r75_2 : List IOp := [⟨some 6, .op (.faddr 0), [.t 1], none⟩,
  ⟨some 7, .op (.load none), [.t 6], none⟩,
  ⟨some 8, .op (.len .slice), [.t 7], none⟩,
  ⟨some 9, .op (.mov), [.c (.int .i64 0)], none⟩]
abbrev r75_3 : List IOp := [⟨some 10, .op (.bin .lss .prim), [.t 9, .t 8], none⟩]
abbrev r75_4 : List IOp := [⟨some 11, .op (.iaddr 10), [.t 7, .t 9], none⟩,
  ⟨some 12, .op (.load (some 10)), [.t 11], none⟩,
  ⟨some 5, .op (.alloc 46 [.int .i64 0, .int .i64 0, .str [], .str [], .str [], .str [], .bool false, .bool false, .int .i64 0, .int .i64 0]), [], none⟩,
  ⟨none, .op (.store 10), [.t 5, .t 12], none⟩]
abbrev r75_5 : List IOp := [⟨some 13, .op (.mov), [.t 3], none⟩,
  ⟨some 14, .op (.faddr 1), [.t 5], none⟩,
  ⟨some 15, .op (.load (some 5)), [.t 14], none⟩,
  ⟨some 16, .op (.bsl 28 5 false), [.t 15], none⟩,
  ⟨some 17, .op (.app 28 5 72), [.t 13, .t 16], none⟩,
  ⟨some 3, .op (.mov), [.t 17], none⟩]
abbrev r75_6 : List IOp := [⟨some 18, .op (.bin .add .prim), [.t 9, .c (.int .i64 1)], none⟩,
  ⟨some 9, .op (.mov), [.t 18], none⟩]
abbrev b75_0 : IC := (IC.seq (IC.reg r75_3) (IC.seq (IC.cond (.t 10) IC.skip (IC.exit 0)) (IC.seq (IC.block 1 (IC.seq (IC.reg r75_4) (IC.reg r75_5))) (IC.reg r75_6))))
abbrev r75_7 : List IOp := [⟨some 19, .op (.mov), [.t 3], none⟩,
  ⟨some 20, .op (.faddr 3), [.t 1], none⟩,
  ⟨some 21, .op (.load none), [.t 20], none⟩,
  ⟨some 22, .op (.faddr 4), [.t 1], none⟩,
  ⟨some 23, .op (.load none), [.t 22], none⟩,
  ⟨some 24, .op (.bsl 31 1 false), [.t 19, .t 21, .t 23], none⟩,
  ⟨some 25, .call, [.f 118, .t 24], none⟩,
  ⟨some 2, .op (.mov), [.t 25], none⟩]
abbrev c75 : IC := (IC.seq (IC.reg r75_0) (IC.seq (IC.reg r75_1) (IC.seq (IC.seq (IC.reg r75_2) (IC.block 0 (IC.loop b75_0))) (IC.seq (IC.reg r75_7) IC.ret))))
abbrev g75 : FC := ⟨c75, 26, [.t 2]⟩
theorem comp75 : compF Go.Proofs.Try.prog (fun _ => 0) 75 = some g75 := by kernel_rfl

-- outlaw/queue.Put$1
abbrev r76_0 : List IOp := [⟨some 2, .op (.box 28), [.t 0], none⟩,
  ⟨some 3, .op (.mov), [.c (.bool false)], none⟩]
abbrev r76_1 : List IOp := [⟨some 4, .op (.load (some 5)), [.t 1], none⟩,
  ⟨some 5, .op (.load (some 5)), [.t 2], none⟩,
  ⟨some 6, .call, [.f 33, .t 4, .t 5], none⟩,
  ⟨some 3, .op (.mov), [.t 6], none⟩]
abbrev c76 : IC := (IC.seq (IC.reg r76_0) (IC.seq (IC.reg r76_1) IC.ret))
abbrev g76 : FC := ⟨c76, 7, [.t 3]⟩
theorem comp76 : compF Go.Proofs.Try.prog (fun _ => 0) 76 = some g76 := by kernel_rfl

-- slices.ContainsFunc[[]outlaw/api.Action,outlaw/api.Action]
abbrev r74_0 : List IOp := [⟨some 4, .op (.mov), [.c (.bool false)], none⟩]
abbrev r74_1 : List IOp := [⟨some 5, .op (.mov), [.t 0], none⟩,
  ⟨some 6, .op (.mov), [.t 1], none⟩,
  ⟨some 7, .call, [.f 117, .t 5, .t 6], none⟩,
  ⟨some 8, .op (.bin .geq .prim), [.t 7, .c (.int .i64 0)], none⟩,
  ⟨some 4, .op (.mov), [.t 8], none⟩]
abbrev c74 : IC := (IC.seq (IC.reg r74_0) (IC.seq (IC.reg r74_1) IC.ret))
abbrev g74 : FC := ⟨c74, 9, [.t 4]⟩
theorem comp74 : compF Go.Proofs.Try.prog (fun _ => 0) 74 = some g74 := by kernel_rfl

-- outlaw/queue.at
abbrev r77_0 : List IOp := [⟨some 2, .op (.box 33), [.t 0], none⟩,
  ⟨some 3, .op (.box 2), [.t 1], none⟩,
  ⟨some 4, .op (.mov), [.c (.int .i64 0)], none⟩]
abbrev r77_1 : List IOp := [⟨some 5, .op (.faddr 0), [.t 2], none⟩,
  ⟨some 6, .op (.load none), [.t 5], none⟩,
  ⟨some 7, .op (.mkfn 120), [.t 3], none⟩,
  ⟨some 8, .call, [.f 119, .t 6, .t 7], none⟩,
  ⟨some 4, .op (.mov), [.t 8], none⟩]
abbrev c77 : IC := (IC.seq (IC.reg r77_0) (IC.seq (IC.reg r77_1) IC.ret))
abbrev g77 : FC := ⟨c77, 9, [.t 4]⟩
theorem comp77 : compF Go.Proofs.Try.prog (fun _ => 0) 77 = some g77 := by kernel_rfl

-- outlaw/queue.waits
abbrev r78_0 : List IOp := [⟨some 1, .op (.box 46), [.t 0], none⟩,
  ⟨some 2, .op (.mov), [.c (.bool false)], none⟩]
abbrev r78_1 : List IOp := [⟨some 3, .op (.faddr 6), [.t 1], none⟩,
  ⟨some 4, .op (.load none), [.t 3], none⟩,
  ⟨some 5, .op (.un .not), [.t 4], none⟩,
  ⟨some 6, .op (.mov), [.t 5], none⟩,
  ⟨some 7, .op (.faddr 7), [.t 1], some (6, true)⟩,
  ⟨some 8, .op (.load none), [.t 7], some (6, true)⟩,
  ⟨some 9, .op (.un .not), [.t 8], some (6, true)⟩,
  ⟨some 10, .op (.pick), [.t 6, .t 9, .c (.bool false)], none⟩,
  ⟨some 2, .op (.mov), [.t 10], none⟩]
abbrev c78 : IC := (IC.seq (IC.reg r78_0) (IC.seq (IC.reg r78_1) IC.ret))
abbrev g78 : FC := ⟨c78, 11, [.t 2]⟩
theorem comp78 : compF Go.Proofs.Try.prog (fun _ => 0) 78 = some g78 := by kernel_rfl

-- outlaw/queue.flying
abbrev r79_0 : List IOp := [⟨some 1, .op (.box 33), [.t 0], none⟩,
  ⟨some 2, .op (.mov), [.c (.int .i64 0)], none⟩]
abbrev r79_1 : List IOp := [⟨some 3, .op (.mov), [.c (.int .i64 0)], none⟩]
abbrev r79_2 : List IOp := [⟨some 6, .op (.faddr 0), [.t 1], none⟩,
  ⟨some 7, .op (.load none), [.t 6], none⟩,
  ⟨some 8, .op (.len .slice), [.t 7], none⟩,
  ⟨some 9, .op (.mov), [.c (.int .i64 0)], none⟩]
abbrev r79_3 : List IOp := [⟨some 10, .op (.bin .lss .prim), [.t 9, .t 8], none⟩]
abbrev r79_4 : List IOp := [⟨some 11, .op (.iaddr 10), [.t 7, .t 9], none⟩,
  ⟨some 12, .op (.load (some 10)), [.t 11], none⟩,
  ⟨some 5, .op (.alloc 46 [.int .i64 0, .int .i64 0, .str [], .str [], .str [], .str [], .bool false, .bool false, .int .i64 0, .int .i64 0]), [], none⟩,
  ⟨none, .op (.store 10), [.t 5, .t 12], none⟩]
abbrev r79_5 : List IOp := [⟨some 13, .op (.faddr 6), [.t 5], none⟩,
  ⟨some 14, .op (.load none), [.t 13], none⟩]
abbrev r79_6 : List IOp := [⟨some 15, .op (.mov), [.t 3], none⟩,
  ⟨some 16, .op (.bin .add .prim), [.t 15, .c (.int .i64 1)], none⟩,
  ⟨some 3, .op (.mov), [.t 16], none⟩]
abbrev r79_7 : List IOp := [⟨some 17, .op (.bin .add .prim), [.t 9, .c (.int .i64 1)], none⟩,
  ⟨some 9, .op (.mov), [.t 17], none⟩]
abbrev b79_0 : IC := (IC.seq (IC.reg r79_3) (IC.seq (IC.cond (.t 10) IC.skip (IC.exit 0)) (IC.seq (IC.block 1 (IC.seq (IC.reg r79_4) (IC.seq (IC.reg r79_5) (IC.cond (.t 14) (IC.reg r79_6) IC.skip)))) (IC.reg r79_7))))
abbrev r79_8 : List IOp := [⟨some 18, .op (.mov), [.t 3], none⟩,
  ⟨some 2, .op (.mov), [.t 18], none⟩]
abbrev c79 : IC := (IC.seq (IC.reg r79_0) (IC.seq (IC.reg r79_1) (IC.seq (IC.seq (IC.reg r79_2) (IC.block 0 (IC.loop b79_0))) (IC.seq (IC.reg r79_8) IC.ret))))
abbrev g79 : FC := ⟨c79, 19, [.t 2]⟩
theorem comp79 : compF Go.Proofs.Try.prog (fun _ => 0) 79 = some g79 := by kernel_rfl

-- slices.Delete[[]outlaw/api.Action,outlaw/api.Action]
abbrev r80_0 : List IOp := [⟨some 6, .op (.mov), [.c (.nils)], none⟩]
abbrev r80_1 : List IOp := [⟨some 8, .op (.mov), [.t 0], none⟩,
  ⟨some 9, .op (.mov), [.t 1], none⟩,
  ⟨some 10, .op (.mov), [.t 2], none⟩,
  ⟨some 11, .op (.mov), [.t 0], none⟩,
  ⟨some 12, .op (.len .slice), [.t 11], none⟩,
  ⟨some 13, .op (.slice 5 true true true), [.t 8, .t 9, .t 10, .t 12], none⟩]
abbrev r80_2 : List IOp := [⟨some 14, .op (.mov), [.t 1], none⟩,
  ⟨some 15, .op (.mov), [.t 2], none⟩,
  ⟨some 16, .op (.bin .eql .prim), [.t 14, .t 15], none⟩]
abbrev r80_3 : List IOp := [⟨some 17, .op (.mov), [.t 0], none⟩,
  ⟨some 6, .op (.mov), [.t 17], none⟩]
abbrev r80_4 : List IOp := [⟨some 18, .op (.mov), [.t 0], none⟩,
  ⟨some 19, .op (.len .slice), [.t 18], none⟩,
  ⟨some 7, .op (.mov), [.t 19], none⟩]
abbrev r80_5 : List IOp := [⟨some 20, .op (.mov), [.t 0], none⟩,
  ⟨some 21, .op (.mov), [.t 1], none⟩,
  ⟨some 22, .op (.slice 5 false true false), [.t 20, .t 21], none⟩,
  ⟨some 23, .op (.mov), [.t 0], none⟩,
  ⟨some 24, .op (.mov), [.t 2], none⟩,
  ⟨some 25, .op (.slice 5 true false false), [.t 23, .t 24], none⟩,
  ⟨some 26, .op (.app 28 5 72), [.t 22, .t 25], none⟩,
  ⟨some 0, .op (.mov), [.t 26], none⟩]
abbrev r80_6 : List IOp := [⟨some 27, .op (.mov), [.t 0], none⟩,
  ⟨some 28, .op (.mov), [.t 0], none⟩,
  ⟨some 29, .op (.len .slice), [.t 28], none⟩,
  ⟨some 30, .op (.mov), [.t 7], none⟩,
  ⟨some 31, .op (.slice 5 true true false), [.t 27, .t 29, .t 30], none⟩,
  ⟨none, .op (.clear [.int .i64 0, .str [], .str [], .str [], .str []]), [.t 31], none⟩]
abbrev r80_7 : List IOp := [⟨some 32, .op (.mov), [.t 0], none⟩,
  ⟨some 6, .op (.mov), [.t 32], none⟩]
abbrev c80 : IC := (IC.seq (IC.reg r80_0) (IC.seq (IC.reg r80_1) (IC.seq (IC.seq (IC.reg r80_2) (IC.cond (.t 16) (IC.seq (IC.reg r80_3) IC.ret) IC.skip)) (IC.seq (IC.reg r80_4) (IC.seq (IC.regD .wild r80_5 (.take 0 (.take 1 (.take 2 (.take 3 (.take 4 (.take 5 (.take 6 (.take 7 (.done)))))))))) (IC.seq (IC.reg r80_6) (IC.seq (IC.reg r80_7) IC.ret)))))))
abbrev g80 : FC := ⟨c80, 33, [.t 6]⟩
theorem comp80 : compF Go.Proofs.Try.prog (hintL [(5, 6)]) 80 = some g80 := by kernel_rfl

-- slices.Delete[[]outlaw/api.Job,outlaw/api.Job]
abbrev r81_0 : List IOp := [⟨some 6, .op (.mov), [.c (.nils)], none⟩]
abbrev r81_1 : List IOp := [⟨some 8, .op (.mov), [.t 0], none⟩,
  ⟨some 9, .op (.mov), [.t 1], none⟩,
  ⟨some 10, .op (.mov), [.t 2], none⟩,
  ⟨some 11, .op (.mov), [.t 0], none⟩,
  ⟨some 12, .op (.len .slice), [.t 11], none⟩,
  ⟨some 13, .op (.slice 10 true true true), [.t 8, .t 9, .t 10, .t 12], none⟩]
abbrev r81_2 : List IOp := [⟨some 14, .op (.mov), [.t 1], none⟩,
  ⟨some 15, .op (.mov), [.t 2], none⟩,
  ⟨some 16, .op (.bin .eql .prim), [.t 14, .t 15], none⟩]
abbrev r81_3 : List IOp := [⟨some 17, .op (.mov), [.t 0], none⟩,
  ⟨some 6, .op (.mov), [.t 17], none⟩]
abbrev r81_4 : List IOp := [⟨some 18, .op (.mov), [.t 0], none⟩,
  ⟨some 19, .op (.len .slice), [.t 18], none⟩,
  ⟨some 7, .op (.mov), [.t 19], none⟩]
abbrev r81_5 : List IOp := [⟨some 20, .op (.mov), [.t 0], none⟩,
  ⟨some 21, .op (.mov), [.t 1], none⟩,
  ⟨some 22, .op (.slice 10 false true false), [.t 20, .t 21], none⟩,
  ⟨some 23, .op (.mov), [.t 0], none⟩,
  ⟨some 24, .op (.mov), [.t 2], none⟩,
  ⟨some 25, .op (.slice 10 true false false), [.t 23, .t 24], none⟩,
  ⟨some 26, .op (.app 46 10 104), [.t 22, .t 25], none⟩,
  ⟨some 0, .op (.mov), [.t 26], none⟩]
abbrev r81_6 : List IOp := [⟨some 27, .op (.mov), [.t 0], none⟩,
  ⟨some 28, .op (.mov), [.t 0], none⟩,
  ⟨some 29, .op (.len .slice), [.t 28], none⟩,
  ⟨some 30, .op (.mov), [.t 7], none⟩,
  ⟨some 31, .op (.slice 10 true true false), [.t 27, .t 29, .t 30], none⟩,
  ⟨none, .op (.clear [.int .i64 0, .int .i64 0, .str [], .str [], .str [], .str [], .bool false, .bool false, .int .i64 0, .int .i64 0]), [.t 31], none⟩]
abbrev r81_7 : List IOp := [⟨some 32, .op (.mov), [.t 0], none⟩,
  ⟨some 6, .op (.mov), [.t 32], none⟩]
abbrev c81 : IC := (IC.seq (IC.reg r81_0) (IC.seq (IC.reg r81_1) (IC.seq (IC.seq (IC.reg r81_2) (IC.cond (.t 16) (IC.seq (IC.reg r81_3) IC.ret) IC.skip)) (IC.seq (IC.reg r81_4) (IC.seq (IC.regD .wild r81_5 (.take 0 (.take 1 (.take 2 (.take 3 (.take 4 (.take 5 (.take 6 (.take 7 (.done)))))))))) (IC.seq (IC.reg r81_6) (IC.seq (IC.reg r81_7) IC.ret)))))))
abbrev g81 : FC := ⟨c81, 33, [.t 6]⟩
theorem comp81 : compF Go.Proofs.Try.prog (hintL [(5, 6)]) 81 = some g81 := by kernel_rfl

-- outlaw/queue.Withdraw$1
abbrev r87_0 : List IOp := [⟨some 3, .op (.box 46), [.t 0], none⟩,
  ⟨some 4, .op (.mov), [.c (.bool false)], none⟩]
abbrev r87_1 : List IOp := [⟨some 6, .op (.load (some 10)), [.t 3], none⟩,
  ⟨some 7, .call, [.f 78, .t 6], none⟩,
  ⟨some 8, .op (.mov), [.t 7], none⟩,
  ⟨some 9, .op (.load none), [.t 1], some (8, true)⟩,
  ⟨some 10, .op (.faddr 1), [.t 3], some (8, true)⟩,
  ⟨some 11, .op (.load (some 5)), [.t 10], some (8, true)⟩,
  ⟨some 12, .call, [.f 88, .t 9, .t 11], some (8, true)⟩,
  ⟨some 13, .op (.un .not), [.t 12], some (8, true)⟩,
  ⟨some 14, .op (.pick), [.t 8, .t 13, .c (.bool false)], none⟩,
  ⟨some 5, .op (.mov), [.t 14], none⟩]
abbrev r87_2 : List IOp := [⟨some 15, .op (.mov), [.t 5], none⟩]
abbrev r87_3 : List IOp := [⟨some 16, .op (.load none), [.t 2], none⟩,
  ⟨some 17, .op (.load (some 10)), [.t 3], none⟩,
  ⟨some 18, .op (.bsl 46 10 false), [.t 17], none⟩,
  ⟨some 19, .op (.app 46 10 104), [.t 16, .t 18], none⟩,
  ⟨none, .op (.store 1), [.t 2, .t 19], none⟩]
abbrev r87_4 : List IOp := [⟨some 20, .op (.mov), [.t 5], none⟩,
  ⟨some 4, .op (.mov), [.t 20], none⟩]
abbrev c87 : IC := (IC.seq (IC.reg r87_0) (IC.seq (IC.reg r87_1) (IC.seq (IC.seq (IC.reg r87_2) (IC.cond (.t 15) (IC.reg r87_3) IC.skip)) (IC.seq (IC.reg r87_4) IC.ret))))
abbrev g87 : FC := ⟨c87, 21, [.t 4]⟩
theorem comp87 : compF Go.Proofs.Try.prog (fun _ => 0) 87 = some g87 := by kernel_rfl

-- slices.DeleteFunc[[]outlaw/api.Job,outlaw/api.Job]
abbrev r86_0 : List IOp := [⟨some 4, .op (.mov), [.c (.nils)], none⟩]
abbrev r86_1 : List IOp := [⟨some 8, .op (.mov), [.t 0], none⟩,
  ⟨some 9, .op (.mov), [.t 1], none⟩,
  ⟨some 10, .call, [.f 119, .t 8, .t 9], none⟩,
  ⟨some 5, .op (.mov), [.t 10], none⟩]
abbrev r86_2 : List IOp := [⟨some 11, .op (.mov), [.t 5], none⟩,
  ⟨some 12, .op (.bin .eql .prim), [.t 11, .c (.int .i64 (-1))], none⟩]
abbrev r86_3 : List IOp := [⟨some 13, .op (.mov), [.t 0], none⟩,
  ⟨some 4, .op (.mov), [.t 13], none⟩]
abbrev r86_4 : List IOp := [⟨some 14, .op (.mov), [.t 5], none⟩,
  ⟨some 15, .op (.bin .add .prim), [.t 14, .c (.int .i64 1)], none⟩,
  ⟨some 6, .op (.mov), [.t 15], none⟩]
abbrev r86_5 : List IOp := [⟨some 16, .op (.mov), [.t 6], none⟩,
  ⟨some 17, .op (.mov), [.t 0], none⟩,
  ⟨some 18, .op (.len .slice), [.t 17], none⟩,
  ⟨some 19, .op (.bin .lss .prim), [.t 16, .t 18], none⟩]
abbrev r86_6 : List IOp := [⟨some 22, .op (.mov), [.t 0], none⟩,
  ⟨some 23, .op (.mov), [.t 6], none⟩,
  ⟨some 24, .op (.iaddr 10), [.t 22, .t 23], none⟩,
  ⟨some 25, .op (.load (some 10)), [.t 24], none⟩,
  ⟨some 7, .op (.alloc 46 [.int .i64 0, .int .i64 0, .str [], .str [], .str [], .str [], .bool false, .bool false, .int .i64 0, .int .i64 0]), [], none⟩,
  ⟨none, .op (.store 10), [.t 7, .t 25], none⟩]
abbrev r86_7 : List IOp := [⟨some 26, .op (.mov), [.t 1], none⟩,
  ⟨some 27, .op (.load (some 10)), [.t 7], none⟩,
  ⟨some 28, .call, [.t 26, .t 27], none⟩,
  ⟨some 29, .op (.un .not), [.t 28], none⟩]
abbrev r86_8 : List IOp := [⟨some 30, .op (.mov), [.t 0], none⟩,
  ⟨some 31, .op (.mov), [.t 5], none⟩,
  ⟨some 32, .op (.load (some 10)), [.t 7], none⟩,
  ⟨some 33, .op (.iaddr 10), [.t 30, .t 31], none⟩,
  ⟨none, .op (.store 10), [.t 33, .t 32], none⟩]
abbrev r86_9 : List IOp := [⟨some 34, .op (.mov), [.t 5], none⟩,
  ⟨some 35, .op (.bin .add .prim), [.t 34, .c (.int .i64 1)], none⟩,
  ⟨some 5, .op (.mov), [.t 35], none⟩]
abbrev r86_10 : List IOp := [⟨some 20, .op (.mov), [.t 6], none⟩,
  ⟨some 21, .op (.bin .add .prim), [.t 20, .c (.int .i64 1)], none⟩,
  ⟨some 6, .op (.mov), [.t 21], none⟩]
abbrev b86_0 : IC := (IC.seq (IC.seq (IC.reg r86_5) (IC.cond (.t 19) IC.skip (IC.exit 0))) (IC.seq (IC.block 1 (IC.seq (IC.reg r86_6) (IC.seq (IC.reg r86_7) (IC.cond (.t 29) (IC.seq (IC.reg r86_8) (IC.reg r86_9)) IC.skip)))) (IC.reg r86_10)))
abbrev r86_11 : List IOp := [⟨some 36, .op (.mov), [.t 0], none⟩,
  ⟨some 37, .op (.mov), [.t 5], none⟩,
  ⟨some 38, .op (.slice 10 true false false), [.t 36, .t 37], none⟩,
  ⟨none, .op (.clear [.int .i64 0, .int .i64 0, .str [], .str [], .str [], .str [], .bool false, .bool false, .int .i64 0, .int .i64 0]), [.t 38], none⟩]
abbrev r86_12 : List IOp := [⟨some 39, .op (.mov), [.t 0], none⟩,
  ⟨some 40, .op (.mov), [.t 5], none⟩,
  ⟨some 41, .op (.slice 10 false true false), [.t 39, .t 40], none⟩,
  ⟨some 4, .op (.mov), [.t 41], none⟩]
abbrev c86 : IC := (IC.seq (IC.reg r86_0) (IC.seq (IC.reg r86_1) (IC.seq (IC.seq (IC.reg r86_2) (IC.cond (.t 12) (IC.seq (IC.reg r86_3) IC.ret) IC.skip)) (IC.seq (IC.seq (IC.reg r86_4) (IC.block 0 (IC.loop b86_0))) (IC.seq (IC.reg r86_11) (IC.seq (IC.reg r86_12) IC.ret))))))
abbrev g86 : FC := ⟨c86, 42, [.t 4]⟩
theorem comp86 : compF Go.Proofs.Try.prog (fun _ => 0) 86 = some g86 := by kernel_rfl

-- outlaw/queue.Withdraw$2
abbrev r90_0 : List IOp := [⟨some 2, .op (.box 28), [.t 0], none⟩,
  ⟨some 3, .op (.mov), [.c (.bool false)], none⟩]
abbrev r90_1 : List IOp := [⟨some 4, .op (.load none), [.t 1], none⟩,
  ⟨some 5, .op (.load (some 5)), [.t 2], none⟩,
  ⟨some 6, .call, [.f 88, .t 4, .t 5], none⟩,
  ⟨some 7, .op (.un .not), [.t 6], none⟩,
  ⟨some 3, .op (.mov), [.t 7], none⟩]
abbrev c90 : IC := (IC.seq (IC.reg r90_0) (IC.seq (IC.reg r90_1) IC.ret))
abbrev g90 : FC := ⟨c90, 8, [.t 3]⟩
theorem comp90 : compF Go.Proofs.Try.prog (fun _ => 0) 90 = some g90 := by kernel_rfl

-- slices.DeleteFunc[[]outlaw/api.Action,outlaw/api.Action]
abbrev r89_0 : List IOp := [⟨some 4, .op (.mov), [.c (.nils)], none⟩]
abbrev r89_1 : List IOp := [⟨some 8, .op (.mov), [.t 0], none⟩,
  ⟨some 9, .op (.mov), [.t 1], none⟩,
  ⟨some 10, .call, [.f 117, .t 8, .t 9], none⟩,
  ⟨some 5, .op (.mov), [.t 10], none⟩]
abbrev r89_2 : List IOp := [⟨some 11, .op (.mov), [.t 5], none⟩,
  ⟨some 12, .op (.bin .eql .prim), [.t 11, .c (.int .i64 (-1))], none⟩]
abbrev r89_3 : List IOp := [⟨some 13, .op (.mov), [.t 0], none⟩,
  ⟨some 4, .op (.mov), [.t 13], none⟩]
abbrev r89_4 : List IOp := [⟨some 14, .op (.mov), [.t 5], none⟩,
  ⟨some 15, .op (.bin .add .prim), [.t 14, .c (.int .i64 1)], none⟩,
  ⟨some 6, .op (.mov), [.t 15], none⟩]
abbrev r89_5 : List IOp := [⟨some 16, .op (.mov), [.t 6], none⟩,
  ⟨some 17, .op (.mov), [.t 0], none⟩,
  ⟨some 18, .op (.len .slice), [.t 17], none⟩,
  ⟨some 19, .op (.bin .lss .prim), [.t 16, .t 18], none⟩]
abbrev r89_6 : List IOp := [⟨some 22, .op (.mov), [.t 0], none⟩,
  ⟨some 23, .op (.mov), [.t 6], none⟩,
  ⟨some 24, .op (.iaddr 5), [.t 22, .t 23], none⟩,
  ⟨some 25, .op (.load (some 5)), [.t 24], none⟩,
  ⟨some 7, .op (.alloc 28 [.int .i64 0, .str [], .str [], .str [], .str []]), [], none⟩,
  ⟨none, .op (.store 5), [.t 7, .t 25], none⟩]
abbrev r89_7 : List IOp := [⟨some 26, .op (.mov), [.t 1], none⟩,
  ⟨some 27, .op (.load (some 5)), [.t 7], none⟩,
  ⟨some 28, .call, [.t 26, .t 27], none⟩,
  ⟨some 29, .op (.un .not), [.t 28], none⟩]
abbrev r89_8 : List IOp := [⟨some 30, .op (.mov), [.t 0], none⟩,
  ⟨some 31, .op (.mov), [.t 5], none⟩,
  ⟨some 32, .op (.load (some 5)), [.t 7], none⟩,
  ⟨some 33, .op (.iaddr 5), [.t 30, .t 31], none⟩,
  ⟨none, .op (.store 5), [.t 33, .t 32], none⟩]
abbrev r89_9 : List IOp := [⟨some 34, .op (.mov), [.t 5], none⟩,
  ⟨some 35, .op (.bin .add .prim), [.t 34, .c (.int .i64 1)], none⟩,
  ⟨some 5, .op (.mov), [.t 35], none⟩]
abbrev r89_10 : List IOp := [⟨some 20, .op (.mov), [.t 6], none⟩,
  ⟨some 21, .op (.bin .add .prim), [.t 20, .c (.int .i64 1)], none⟩,
  ⟨some 6, .op (.mov), [.t 21], none⟩]
abbrev b89_0 : IC := (IC.seq (IC.seq (IC.reg r89_5) (IC.cond (.t 19) IC.skip (IC.exit 0))) (IC.seq (IC.block 1 (IC.seq (IC.reg r89_6) (IC.seq (IC.reg r89_7) (IC.cond (.t 29) (IC.seq (IC.reg r89_8) (IC.reg r89_9)) IC.skip)))) (IC.reg r89_10)))
abbrev r89_11 : List IOp := [⟨some 36, .op (.mov), [.t 0], none⟩,
  ⟨some 37, .op (.mov), [.t 5], none⟩,
  ⟨some 38, .op (.slice 5 true false false), [.t 36, .t 37], none⟩,
  ⟨none, .op (.clear [.int .i64 0, .str [], .str [], .str [], .str []]), [.t 38], none⟩]
abbrev r89_12 : List IOp := [⟨some 39, .op (.mov), [.t 0], none⟩,
  ⟨some 40, .op (.mov), [.t 5], none⟩,
  ⟨some 41, .op (.slice 5 false true false), [.t 39, .t 40], none⟩,
  ⟨some 4, .op (.mov), [.t 41], none⟩]
abbrev c89 : IC := (IC.seq (IC.reg r89_0) (IC.seq (IC.reg r89_1) (IC.seq (IC.seq (IC.reg r89_2) (IC.cond (.t 12) (IC.seq (IC.reg r89_3) IC.ret) IC.skip)) (IC.seq (IC.seq (IC.reg r89_4) (IC.block 0 (IC.loop b89_0))) (IC.seq (IC.reg r89_11) (IC.seq (IC.reg r89_12) IC.ret))))))
abbrev g89 : FC := ⟨c89, 42, [.t 4]⟩
theorem comp89 : compF Go.Proofs.Try.prog (fun _ => 0) 89 = some g89 := by kernel_rfl

-- slices.Equal[[]outlaw/api.Job,outlaw/api.Job]
abbrev r91_0 : List IOp := [⟨some 4, .op (.mov), [.c (.bool false)], none⟩]
abbrev r91_1 : List IOp := [⟨some 6, .op (.mov), [.t 0], none⟩,
  ⟨some 7, .op (.len .slice), [.t 6], none⟩,
  ⟨some 8, .op (.mov), [.t 1], none⟩,
  ⟨some 9, .op (.len .slice), [.t 8], none⟩,
  ⟨some 10, .op (.bin .neq .prim), [.t 7, .t 9], none⟩]
abbrev r91_2 : List IOp := [⟨some 4, .op (.mov), [.c (.bool false)], none⟩]
abbrev r91_3 : List IOp := [⟨some 11, .op (.mov), [.t 0], none⟩,
  ⟨some 12, .op (.len .slice), [.t 11], none⟩,
  ⟨some 13, .op (.mov), [.c (.int .i64 0)], none⟩]
abbrev r91_4 : List IOp := [⟨some 14, .op (.bin .lss .prim), [.t 13, .t 12], none⟩]
abbrev r91_5 : List IOp := [⟨some 15, .op (.mov), [.t 13], none⟩,
  ⟨some 5, .op (.mov), [.t 15], none⟩]
abbrev r91_6 : List IOp := [⟨some 16, .op (.mov), [.t 0], none⟩,
  ⟨some 17, .op (.mov), [.t 5], none⟩,
  ⟨some 18, .op (.iaddr 10), [.t 16, .t 17], none⟩,
  ⟨some 19, .op (.load (some 10)), [.t 18], none⟩,
  ⟨some 20, .op (.mov), [.t 1], none⟩,
  ⟨some 21, .op (.mov), [.t 5], none⟩,
  ⟨some 22, .op (.iaddr 10), [.t 20, .t 21], none⟩,
  ⟨some 23, .op (.load (some 10)), [.t 22], none⟩,
  ⟨some 24, .op (.bin .neq (.st [.int, .int, .str, .str, .str, .str, .bool, .bool, .int, .int])), [.t 19, .t 23], none⟩]
abbrev r91_7 : List IOp := [⟨some 4, .op (.mov), [.c (.bool false)], none⟩]
abbrev r91_8 : List IOp := [⟨some 25, .op (.bin .add .prim), [.t 13, .c (.int .i64 1)], none⟩,
  ⟨some 13, .op (.mov), [.t 25], none⟩]
abbrev b91_0 : IC := (IC.seq (IC.reg r91_4) (IC.seq (IC.cond (.t 14) IC.skip (IC.exit 0)) (IC.seq (IC.block 1 (IC.seq (IC.reg r91_5) (IC.seq (IC.regD .wild r91_6 (.take 0 (.take 1 (.take 2 (.take 3 (.take 4 (.take 5 (.take 6 (.take 7 (.take 8 (.done))))))))))) (IC.cond (.t 24) (IC.seq (IC.reg r91_7) IC.ret) IC.skip)))) (IC.reg r91_8))))
abbrev r91_9 : List IOp := [⟨some 4, .op (.mov), [.c (.bool true)], none⟩]
abbrev c91 : IC := (IC.seq (IC.reg r91_0) (IC.seq (IC.seq (IC.reg r91_1) (IC.cond (.t 10) (IC.seq (IC.reg r91_2) IC.ret) IC.skip)) (IC.seq (IC.seq (IC.reg r91_3) (IC.block 0 (IC.loop b91_0))) (IC.seq (IC.reg r91_9) IC.ret))))
abbrev g91 : FC := ⟨c91, 26, [.t 4]⟩
theorem comp91 : compF Go.Proofs.Try.prog (hintL [(6, 6)]) 91 = some g91 := by kernel_rfl

-- slices.Equal[[]outlaw/api.Action,outlaw/api.Action]
abbrev r92_0 : List IOp := [⟨some 4, .op (.mov), [.c (.bool false)], none⟩]
abbrev r92_1 : List IOp := [⟨some 6, .op (.mov), [.t 0], none⟩,
  ⟨some 7, .op (.len .slice), [.t 6], none⟩,
  ⟨some 8, .op (.mov), [.t 1], none⟩,
  ⟨some 9, .op (.len .slice), [.t 8], none⟩,
  ⟨some 10, .op (.bin .neq .prim), [.t 7, .t 9], none⟩]
abbrev r92_2 : List IOp := [⟨some 4, .op (.mov), [.c (.bool false)], none⟩]
abbrev r92_3 : List IOp := [⟨some 11, .op (.mov), [.t 0], none⟩,
  ⟨some 12, .op (.len .slice), [.t 11], none⟩,
  ⟨some 13, .op (.mov), [.c (.int .i64 0)], none⟩]
abbrev r92_4 : List IOp := [⟨some 14, .op (.bin .lss .prim), [.t 13, .t 12], none⟩]
abbrev r92_5 : List IOp := [⟨some 15, .op (.mov), [.t 13], none⟩,
  ⟨some 5, .op (.mov), [.t 15], none⟩]
abbrev r92_6 : List IOp := [⟨some 16, .op (.mov), [.t 0], none⟩,
  ⟨some 17, .op (.mov), [.t 5], none⟩,
  ⟨some 18, .op (.iaddr 5), [.t 16, .t 17], none⟩,
  ⟨some 19, .op (.load (some 5)), [.t 18], none⟩,
  ⟨some 20, .op (.mov), [.t 1], none⟩,
  ⟨some 21, .op (.mov), [.t 5], none⟩,
  ⟨some 22, .op (.iaddr 5), [.t 20, .t 21], none⟩,
  ⟨some 23, .op (.load (some 5)), [.t 22], none⟩,
  ⟨some 24, .op (.bin .neq (.st [.int, .str, .str, .str, .str])), [.t 19, .t 23], none⟩]
abbrev r92_7 : List IOp := [⟨some 4, .op (.mov), [.c (.bool false)], none⟩]
abbrev r92_8 : List IOp := [⟨some 25, .op (.bin .add .prim), [.t 13, .c (.int .i64 1)], none⟩,
  ⟨some 13, .op (.mov), [.t 25], none⟩]
abbrev b92_0 : IC := (IC.seq (IC.reg r92_4) (IC.seq (IC.cond (.t 14) IC.skip (IC.exit 0)) (IC.seq (IC.block 1 (IC.seq (IC.reg r92_5) (IC.seq (IC.regD .wild r92_6 (.take 0 (.take 1 (.take 2 (.take 3 (.take 4 (.take 5 (.take 6 (.take 7 (.take 8 (.done))))))))))) (IC.cond (.t 24) (IC.seq (IC.reg r92_7) IC.ret) IC.skip)))) (IC.reg r92_8))))
abbrev r92_9 : List IOp := [⟨some 4, .op (.mov), [.c (.bool true)], none⟩]
abbrev c92 : IC := (IC.seq (IC.reg r92_0) (IC.seq (IC.seq (IC.reg r92_1) (IC.cond (.t 10) (IC.seq (IC.reg r92_2) IC.ret) IC.skip)) (IC.seq (IC.seq (IC.reg r92_3) (IC.block 0 (IC.loop b92_0))) (IC.seq (IC.reg r92_9) IC.ret))))
abbrev g92 : FC := ⟨c92, 26, [.t 4]⟩
theorem comp92 : compF Go.Proofs.Try.prog (hintL [(6, 6)]) 92 = some g92 := by kernel_rfl

-- outlaw/queue.Check$1
abbrev r93_0 : List IOp := [⟨some 2, .op (.box 28), [.t 0], none⟩,
  ⟨some 3, .op (.mov), [.c (.bool false)], none⟩]
abbrev r93_1 : List IOp := [⟨some 4, .op (.load (some 5)), [.t 1], none⟩,
  ⟨some 5, .op (.load (some 5)), [.t 2], none⟩,
  ⟨some 6, .call, [.f 33, .t 4, .t 5], none⟩,
  ⟨some 3, .op (.mov), [.t 6], none⟩]
abbrev c93 : IC := (IC.seq (IC.reg r93_0) (IC.seq (IC.reg r93_1) IC.ret))
abbrev g93 : FC := ⟨c93, 7, [.t 3]⟩
theorem comp93 : compF Go.Proofs.Try.prog (fun _ => 0) 93 = some g93 := by kernel_rfl

-- outlaw/queue.Next$2
abbrev r83_0 : List IOp := [⟨some 2, .op (.box 46), [.t 0], none⟩,
  ⟨some 3, .op (.mov), [.c (.bool false)], none⟩]
abbrev r83_1 : List IOp := [⟨some 4, .op (.load (some 10)), [.t 2], none⟩,
  ⟨some 5, .call, [.f 78, .t 4], none⟩,
  ⟨some 6, .op (.mov), [.t 5], none⟩,
  ⟨some 7, .op (.faddr 9), [.t 2], some (6, true)⟩,
  ⟨some 8, .op (.load none), [.t 7], some (6, true)⟩,
  ⟨some 9, .op (.faddr 2), [.t 1], some (6, true)⟩,
  ⟨some 10, .op (.load none), [.t 9], some (6, true)⟩,
  ⟨some 11, .op (.bin .leq .prim), [.t 8, .t 10], some (6, true)⟩,
  ⟨some 12, .op (.pick), [.t 6, .t 11, .c (.bool false)], none⟩,
  ⟨some 3, .op (.mov), [.t 12], none⟩]
abbrev c83 : IC := (IC.seq (IC.reg r83_0) (IC.seq (IC.reg r83_1) IC.ret))
abbrev g83 : FC := ⟨c83, 13, [.t 3]⟩
theorem comp83 : compF Go.Proofs.Try.prog (fun _ => 0) 83 = some g83 := by kernel_rfl

-- outlaw/queue.Next$1
abbrev r82_0 : List IOp := [⟨some 1, .op (.box 46), [.t 0], none⟩,
  ⟨some 2, .op (.mov), [.c (.bool false)], none⟩]
abbrev r82_1 : List IOp := [⟨some 3, .op (.faddr 7), [.t 1], none⟩,
  ⟨some 4, .op (.load none), [.t 3], none⟩,
  ⟨some 5, .op (.mov), [.t 4], none⟩,
  ⟨some 6, .op (.faddr 6), [.t 1], some (5, true)⟩,
  ⟨some 7, .op (.load none), [.t 6], some (5, true)⟩,
  ⟨some 8, .op (.un .not), [.t 7], some (5, true)⟩,
  ⟨some 9, .op (.pick), [.t 5, .t 8, .c (.bool false)], none⟩,
  ⟨some 2, .op (.mov), [.t 9], none⟩]
abbrev c82 : IC := (IC.seq (IC.reg r82_0) (IC.seq (IC.reg r82_1) IC.ret))
abbrev g82 : FC := ⟨c82, 10, [.t 2]⟩
theorem comp82 : compF Go.Proofs.Try.prog (fun _ => 0) 82 = some g82 := by kernel_rfl

-- slices.Contains[[]int64,int64]
abbrev r84_0 : List IOp := [⟨some 4, .op (.mov), [.c (.bool false)], none⟩]
abbrev r84_1 : List IOp := [⟨some 5, .op (.mov), [.t 0], none⟩,
  ⟨some 6, .op (.mov), [.t 1], none⟩,
  ⟨some 7, .call, [.f 121, .t 5, .t 6], none⟩,
  ⟨some 8, .op (.bin .geq .prim), [.t 7, .c (.int .i64 0)], none⟩,
  ⟨some 4, .op (.mov), [.t 8], none⟩]
abbrev c84 : IC := (IC.seq (IC.reg r84_0) (IC.seq (IC.reg r84_1) IC.ret))
abbrev g84 : FC := ⟨c84, 9, [.t 4]⟩
theorem comp84 : compF Go.Proofs.Try.prog (fun _ => 0) 84 = some g84 := by kernel_rfl

-- slices.Clone[[]outlaw/api.Job,outlaw/api.Job]
abbrev r115_0 : List IOp := [⟨some 2, .op (.mov), [.c (.nils)], none⟩]
abbrev r115_1 : List IOp := [⟨some 3, .op (.mov), [.t 0], none⟩,
  ⟨some 4, .op (.bin .eql .slice), [.t 3, .c (.nils)], none⟩]
abbrev r115_2 : List IOp := [⟨some 2, .op (.mov), [.c (.nils)], none⟩]
abbrev r115_3 : List IOp := [⟨some 5, .op (.bsl 46 10 false), [], none⟩,
  ⟨some 6, .op (.mov), [.t 0], none⟩,
  ⟨some 7, .op (.app 46 10 104), [.t 5, .t 6], none⟩,
  ⟨some 2, .op (.mov), [.t 7], none⟩]
abbrev c115 : IC := (IC.seq (IC.reg r115_0) (IC.seq (IC.seq (IC.reg r115_1) (IC.cond (.t 4) (IC.seq (IC.reg r115_2) IC.ret) IC.skip)) (IC.seq (IC.reg r115_3) IC.ret)))
abbrev g115 : FC := ⟨c115, 8, [.t 2]⟩
theorem comp115 : compF Go.Proofs.Try.prog (fun _ => 0) 115 = some g115 := by kernel_rfl

-- slices.Clone[[]outlaw/api.Action,outlaw/api.Action]
abbrev r116_0 : List IOp := [⟨some 2, .op (.mov), [.c (.nils)], none⟩]
abbrev r116_1 : List IOp := [⟨some 3, .op (.mov), [.t 0], none⟩,
  ⟨some 4, .op (.bin .eql .slice), [.t 3, .c (.nils)], none⟩]
abbrev r116_2 : List IOp := [⟨some 2, .op (.mov), [.c (.nils)], none⟩]
abbrev r116_3 : List IOp := [⟨some 5, .op (.bsl 28 5 false), [], none⟩,
  ⟨some 6, .op (.mov), [.t 0], none⟩,
  ⟨some 7, .op (.app 28 5 72), [.t 5, .t 6], none⟩,
  ⟨some 2, .op (.mov), [.t 7], none⟩]
abbrev c116 : IC := (IC.seq (IC.reg r116_0) (IC.seq (IC.seq (IC.reg r116_1) (IC.cond (.t 4) (IC.seq (IC.reg r116_2) IC.ret) IC.skip)) (IC.seq (IC.reg r116_3) IC.ret)))
abbrev g116 : FC := ⟨c116, 8, [.t 2]⟩
theorem comp116 : compF Go.Proofs.Try.prog (fun _ => 0) 116 = some g116 := by kernel_rfl

-- slices.Concat[[]outlaw/api.Action,outlaw/api.Action]
abbrev r118_0 : List IOp := [⟨some 2, .op (.mov), [.c (.nils)], none⟩]
abbrev r118_1 : List IOp := [⟨some 3, .op (.mov), [.c (.int .i64 0)], none⟩]
abbrev r118_2 : List IOp := [⟨some 9, .op (.mov), [.t 0], none⟩,
  ⟨some 10, .op (.len .slice), [.t 9], none⟩,
  ⟨some 11, .op (.mov), [.c (.int .i64 0)], none⟩]
abbrev r118_3 : List IOp := [⟨some 12, .op (.bin .lss .prim), [.t 11, .t 10], none⟩]
abbrev r118_4 : List IOp := [⟨some 13, .op (.iaddr 1), [.t 9, .t 11], none⟩,
  ⟨some 14, .op (.load none), [.t 13], none⟩,
  ⟨some 5, .op (.mov), [.t 14], none⟩]
abbrev r118_5 : List IOp := [⟨some 15, .op (.mov), [.t 3], none⟩,
  ⟨some 16, .op (.mov), [.t 5], none⟩,
  ⟨some 17, .op (.len .slice), [.t 16], none⟩,
  ⟨some 18, .op (.bin .add .prim), [.t 15, .t 17], none⟩,
  ⟨some 3, .op (.mov), [.t 18], none⟩]
abbrev r118_6 : List IOp := [⟨some 19, .op (.mov), [.t 3], none⟩,
  ⟨some 20, .op (.bin .lss .prim), [.t 19, .c (.int .i64 0)], none⟩]
abbrev r118_7 : List IOp := [⟨some 21, .op (.mkif 9), [.c (.str [108, 101, 110, 32, 111, 117, 116, 32, 111, 102, 32, 114, 97, 110, 103, 101])], none⟩,
  ⟨none, .op (.never), [], none⟩]
abbrev r118_8 : List IOp := [⟨some 22, .op (.bin .add .prim), [.t 11, .c (.int .i64 1)], none⟩,
  ⟨some 11, .op (.mov), [.t 22], none⟩]
abbrev b118_0 : IC := (IC.seq (IC.reg r118_3) (IC.seq (IC.cond (.t 12) IC.skip (IC.exit 0)) (IC.seq (IC.block 1 (IC.seq (IC.reg r118_4) (IC.seq (IC.reg r118_5) (IC.seq (IC.reg r118_6) (IC.cond (.t 20) (IC.reg r118_7) IC.skip))))) (IC.reg r118_8))))
abbrev r118_9 : List IOp := [⟨some 23, .op (.mov), [.t 3], none⟩,
  ⟨some 24, .call, [.f 131, .c (.nils), .t 23], none⟩,
  ⟨some 6, .op (.mov), [.t 24], none⟩]
abbrev r118_10 : List IOp := [⟨some 25, .op (.mov), [.t 0], none⟩,
  ⟨some 26, .op (.len .slice), [.t 25], none⟩,
  ⟨some 27, .op (.mov), [.c (.int .i64 0)], none⟩]
abbrev r118_11 : List IOp := [⟨some 28, .op (.bin .lss .prim), [.t 27, .t 26], none⟩]
abbrev r118_12 : List IOp := [⟨some 29, .op (.iaddr 1), [.t 25, .t 27], none⟩,
  ⟨some 30, .op (.load none), [.t 29], none⟩,
  ⟨some 8, .op (.mov), [.t 30], none⟩]
abbrev r118_13 : List IOp := [⟨some 31, .op (.mov), [.t 6], none⟩,
  ⟨some 32, .op (.mov), [.t 8], none⟩,
  ⟨some 33, .op (.app 28 5 72), [.t 31, .t 32], none⟩,
  ⟨some 6, .op (.mov), [.t 33], none⟩]
abbrev r118_14 : List IOp := [⟨some 34, .op (.bin .add .prim), [.t 27, .c (.int .i64 1)], none⟩,
  ⟨some 27, .op (.mov), [.t 34], none⟩]
abbrev b118_1 : IC := (IC.seq (IC.reg r118_11) (IC.seq (IC.cond (.t 28) IC.skip (IC.exit 2)) (IC.seq (IC.block 3 (IC.seq (IC.reg r118_12) (IC.reg r118_13))) (IC.reg r118_14))))
abbrev r118_15 : List IOp := [⟨some 35, .op (.mov), [.t 6], none⟩,
  ⟨some 2, .op (.mov), [.t 35], none⟩]
abbrev c118 : IC := (IC.seq (IC.reg r118_0) (IC.seq (IC.reg r118_1) (IC.seq (IC.seq (IC.reg r118_2) (IC.block 0 (IC.loop b118_0))) (IC.seq (IC.reg r118_9) (IC.seq (IC.seq (IC.reg r118_10) (IC.block 2 (IC.loop b118_1))) (IC.seq (IC.reg r118_15) IC.ret))))))
abbrev g118 : FC := ⟨c118, 36, [.t 2]⟩
theorem comp118 : compF Go.Proofs.Try.prog (fun _ => 0) 118 = some g118 := by kernel_rfl

-- slices.IndexFunc[[]outlaw/api.Action,outlaw/api.Action]
abbrev r117_0 : List IOp := [⟨some 4, .op (.mov), [.c (.int .i64 0)], none⟩]
abbrev r117_1 : List IOp := [⟨some 6, .op (.mov), [.t 0], none⟩,
  ⟨some 7, .op (.len .slice), [.t 6], none⟩,
  ⟨some 8, .op (.mov), [.c (.int .i64 0)], none⟩]
abbrev r117_2 : List IOp := [⟨some 9, .op (.bin .lss .prim), [.t 8, .t 7], none⟩]
abbrev r117_3 : List IOp := [⟨some 10, .op (.mov), [.t 8], none⟩,
  ⟨some 5, .op (.mov), [.t 10], none⟩]
abbrev r117_4 : List IOp := [⟨some 11, .op (.mov), [.t 1], none⟩,
  ⟨some 12, .op (.mov), [.t 0], none⟩,
  ⟨some 13, .op (.mov), [.t 5], none⟩,
  ⟨some 14, .op (.iaddr 5), [.t 12, .t 13], none⟩,
  ⟨some 15, .op (.load (some 5)), [.t 14], none⟩,
  ⟨some 16, .call, [.t 11, .t 15], none⟩]
abbrev r117_5 : List IOp := [⟨some 17, .op (.mov), [.t 5], none⟩,
  ⟨some 4, .op (.mov), [.t 17], none⟩]
abbrev r117_6 : List IOp := [⟨some 18, .op (.bin .add .prim), [.t 8, .c (.int .i64 1)], none⟩,
  ⟨some 8, .op (.mov), [.t 18], none⟩]
abbrev b117_0 : IC := (IC.seq (IC.reg r117_2) (IC.seq (IC.cond (.t 9) IC.skip (IC.exit 0)) (IC.seq (IC.block 1 (IC.seq (IC.reg r117_3) (IC.seq (IC.reg r117_4) (IC.cond (.t 16) (IC.seq (IC.reg r117_5) IC.ret) IC.skip)))) (IC.reg r117_6))))
abbrev r117_7 : List IOp := [⟨some 4, .op (.mov), [.c (.int .i64 (-1))], none⟩]
abbrev c117 : IC := (IC.seq (IC.reg r117_0) (IC.seq (IC.seq (IC.reg r117_1) (IC.block 0 (IC.loop b117_0))) (IC.seq (IC.reg r117_7) IC.ret)))
abbrev g117 : FC := ⟨c117, 19, [.t 4]⟩
theorem comp117 : compF Go.Proofs.Try.prog (fun _ => 0) 117 = some g117 := by kernel_rfl

-- outlaw/queue.at$1
abbrev r120_0 : List IOp := [⟨some 2, .op (.box 46), [.t 0], none⟩,
  ⟨some 3, .op (.mov), [.c (.bool false)], none⟩]
abbrev r120_1 : List IOp := [⟨some 4, .op (.faddr 0), [.t 2], none⟩,
  ⟨some 5, .op (.load none), [.t 4], none⟩,
  ⟨some 6, .op (.load none), [.t 1], none⟩,
  ⟨some 7, .op (.bin .eql .prim), [.t 5, .t 6], none⟩,
  ⟨some 3, .op (.mov), [.t 7], none⟩]
abbrev c120 : IC := (IC.seq (IC.reg r120_0) (IC.seq (IC.reg r120_1) IC.ret))
abbrev g120 : FC := ⟨c120, 8, [.t 3]⟩
theorem comp120 : compF Go.Proofs.Try.prog (fun _ => 0) 120 = some g120 := by kernel_rfl

-- slices.IndexFunc[[]outlaw/api.Job,outlaw/api.Job]
abbrev r119_0 : List IOp := [⟨some 4, .op (.mov), [.c (.int .i64 0)], none⟩]
abbrev r119_1 : List IOp := [⟨some 6, .op (.mov), [.t 0], none⟩,
  ⟨some 7, .op (.len .slice), [.t 6], none⟩,
  ⟨some 8, .op (.mov), [.c (.int .i64 0)], none⟩]
abbrev r119_2 : List IOp := [⟨some 9, .op (.bin .lss .prim), [.t 8, .t 7], none⟩]
abbrev r119_3 : List IOp := [⟨some 10, .op (.mov), [.t 8], none⟩,
  ⟨some 5, .op (.mov), [.t 10], none⟩]
abbrev r119_4 : List IOp := [⟨some 11, .op (.mov), [.t 1], none⟩,
  ⟨some 12, .op (.mov), [.t 0], none⟩,
  ⟨some 13, .op (.mov), [.t 5], none⟩,
  ⟨some 14, .op (.iaddr 10), [.t 12, .t 13], none⟩,
  ⟨some 15, .op (.load (some 10)), [.t 14], none⟩,
  ⟨some 16, .call, [.t 11, .t 15], none⟩]
abbrev r119_5 : List IOp := [⟨some 17, .op (.mov), [.t 5], none⟩,
  ⟨some 4, .op (.mov), [.t 17], none⟩]
abbrev r119_6 : List IOp := [⟨some 18, .op (.bin .add .prim), [.t 8, .c (.int .i64 1)], none⟩,
  ⟨some 8, .op (.mov), [.t 18], none⟩]
abbrev b119_0 : IC := (IC.seq (IC.reg r119_2) (IC.seq (IC.cond (.t 9) IC.skip (IC.exit 0)) (IC.seq (IC.block 1 (IC.seq (IC.reg r119_3) (IC.seq (IC.reg r119_4) (IC.cond (.t 16) (IC.seq (IC.reg r119_5) IC.ret) IC.skip)))) (IC.reg r119_6))))
abbrev r119_7 : List IOp := [⟨some 4, .op (.mov), [.c (.int .i64 (-1))], none⟩]
abbrev c119 : IC := (IC.seq (IC.reg r119_0) (IC.seq (IC.seq (IC.reg r119_1) (IC.block 0 (IC.loop b119_0))) (IC.seq (IC.reg r119_7) IC.ret)))
abbrev g119 : FC := ⟨c119, 19, [.t 4]⟩
theorem comp119 : compF Go.Proofs.Try.prog (fun _ => 0) 119 = some g119 := by kernel_rfl

-- slices.Contains[[]outlaw/api.Action,outlaw/api.Action]
abbrev r88_0 : List IOp := [⟨some 3, .op (.box 28), [.t 1], none⟩,
  ⟨some 4, .op (.mov), [.c (.bool false)], none⟩]
abbrev r88_1 : List IOp := [⟨some 5, .op (.mov), [.t 0], none⟩,
  ⟨some 6, .op (.load (some 5)), [.t 3], none⟩,
  ⟨some 7, .call, [.f 122, .t 5, .t 6], none⟩,
  ⟨some 8, .op (.bin .geq .prim), [.t 7, .c (.int .i64 0)], none⟩,
  ⟨some 4, .op (.mov), [.t 8], none⟩]
abbrev c88 : IC := (IC.seq (IC.reg r88_0) (IC.seq (IC.reg r88_1) IC.ret))
abbrev g88 : FC := ⟨c88, 9, [.t 4]⟩
theorem comp88 : compF Go.Proofs.Try.prog (fun _ => 0) 88 = some g88 := by kernel_rfl

-- slices.Index[[]int64,int64]
abbrev r121_0 : List IOp := [⟨some 4, .op (.mov), [.c (.int .i64 0)], none⟩]
abbrev r121_1 : List IOp := [⟨some 6, .op (.mov), [.t 0], none⟩,
  ⟨some 7, .op (.len .slice), [.t 6], none⟩,
  ⟨some 8, .op (.mov), [.c (.int .i64 0)], none⟩]
abbrev r121_2 : List IOp := [⟨some 9, .op (.bin .lss .prim), [.t 8, .t 7], none⟩]
abbrev r121_3 : List IOp := [⟨some 10, .op (.mov), [.t 8], none⟩,
  ⟨some 5, .op (.mov), [.t 10], none⟩]
abbrev r121_4 : List IOp := [⟨some 11, .op (.mov), [.t 1], none⟩,
  ⟨some 12, .op (.mov), [.t 0], none⟩,
  ⟨some 13, .op (.mov), [.t 5], none⟩,
  ⟨some 14, .op (.iaddr 1), [.t 12, .t 13], none⟩,
  ⟨some 15, .op (.load none), [.t 14], none⟩,
  ⟨some 16, .op (.bin .eql .prim), [.t 11, .t 15], none⟩]
abbrev r121_5 : List IOp := [⟨some 17, .op (.mov), [.t 5], none⟩,
  ⟨some 4, .op (.mov), [.t 17], none⟩]
abbrev r121_6 : List IOp := [⟨some 18, .op (.bin .add .prim), [.t 8, .c (.int .i64 1)], none⟩,
  ⟨some 8, .op (.mov), [.t 18], none⟩]
abbrev b121_0 : IC := (IC.seq (IC.reg r121_2) (IC.seq (IC.cond (.t 9) IC.skip (IC.exit 0)) (IC.seq (IC.block 1 (IC.seq (IC.reg r121_3) (IC.seq (IC.reg r121_4) (IC.cond (.t 16) (IC.seq (IC.reg r121_5) IC.ret) IC.skip)))) (IC.reg r121_6))))
abbrev r121_7 : List IOp := [⟨some 4, .op (.mov), [.c (.int .i64 (-1))], none⟩]
abbrev c121 : IC := (IC.seq (IC.reg r121_0) (IC.seq (IC.seq (IC.reg r121_1) (IC.block 0 (IC.loop b121_0))) (IC.seq (IC.reg r121_7) IC.ret)))
abbrev g121 : FC := ⟨c121, 19, [.t 4]⟩
theorem comp121 : compF Go.Proofs.Try.prog (fun _ => 0) 121 = some g121 := by kernel_rfl

-- slices.Grow[[]outlaw/api.Action,outlaw/api.Action]
abbrev r131_0 : List IOp := [⟨some 4, .op (.mov), [.c (.nils)], none⟩]
abbrev r131_1 : List IOp := [⟨some 5, .op (.mov), [.t 1], none⟩,
  ⟨some 6, .op (.bin .lss .prim), [.t 5, .c (.int .i64 0)], none⟩]
abbrev r131_2 : List IOp := [⟨some 7, .op (.mkif 9), [.c (.str [99, 97, 110, 110, 111, 116, 32, 98, 101, 32, 110, 101, 103, 97, 116, 105, 118, 101])], none⟩,
  ⟨none, .op (.never), [], none⟩]
abbrev r131_3 : List IOp := [⟨some 8, .op (.mov), [.t 1], none⟩,
  ⟨some 9, .op (.mov), [.t 0], none⟩,
  ⟨some 10, .op (.cap), [.t 9], none⟩,
  ⟨some 11, .op (.mov), [.t 0], none⟩,
  ⟨some 12, .op (.len .slice), [.t 11], none⟩,
  ⟨some 13, .op (.bin .sub .prim), [.t 10, .t 12], none⟩,
  ⟨some 14, .op (.bin .sub .prim), [.t 8, .t 13], none⟩,
  ⟨some 1, .op (.mov), [.t 14], none⟩]
abbrev r131_4 : List IOp := [⟨some 15, .op (.mov), [.t 1], none⟩,
  ⟨some 16, .op (.bin .gtr .prim), [.t 15, .c (.int .i64 0)], none⟩]
abbrev r131_5 : List IOp := [⟨some 17, .op (.mov), [.t 0], none⟩,
  ⟨some 18, .op (.mov), [.t 0], none⟩,
  ⟨some 19, .op (.cap), [.t 18], none⟩,
  ⟨some 20, .op (.slice 5 false true false), [.t 17, .t 19], none⟩,
  ⟨some 21, .op (.mov), [.t 1], none⟩,
  ⟨some 22, .op (.appz 28 [.int .i64 0, .str [], .str [], .str [], .str []] 72), [.t 20, .t 21], none⟩,
  ⟨some 23, .op (.mov), [.t 0], none⟩,
  ⟨some 24, .op (.len .slice), [.t 23], none⟩,
  ⟨some 25, .op (.slice 5 false true false), [.t 22, .t 24], none⟩,
  ⟨some 0, .op (.mov), [.t 25], none⟩]
abbrev r131_6 : List IOp := [⟨some 26, .op (.mov), [.t 0], none⟩,
  ⟨some 4, .op (.mov), [.t 26], none⟩]
abbrev c131 : IC := (IC.seq (IC.reg r131_0) (IC.seq (IC.seq (IC.reg r131_1) (IC.cond (.t 6) (IC.reg r131_2) IC.skip)) (IC.seq (IC.seq (IC.reg r131_3) (IC.seq (IC.reg r131_4) (IC.cond (.t 16) (IC.reg r131_5) IC.skip))) (IC.seq (IC.reg r131_6) IC.ret))))
abbrev g131 : FC := ⟨c131, 27, [.t 4]⟩
theorem comp131 : compF Go.Proofs.Try.prog (fun _ => 0) 131 = some g131 := by kernel_rfl

-- slices.Index[[]outlaw/api.Action,outlaw/api.Action]
abbrev r122_0 : List IOp := [⟨some 3, .op (.box 28), [.t 1], none⟩,
  ⟨some 4, .op (.mov), [.c (.int .i64 0)], none⟩]
abbrev r122_1 : List IOp := [⟨some 6, .op (.mov), [.t 0], none⟩,
  ⟨some 7, .op (.len .slice), [.t 6], none⟩,
  ⟨some 8, .op (.mov), [.c (.int .i64 0)], none⟩]
abbrev r122_2 : List IOp := [⟨some 9, .op (.bin .lss .prim), [.t 8, .t 7], none⟩]
abbrev r122_3 : List IOp := [⟨some 10, .op (.mov), [.t 8], none⟩,
  ⟨some 5, .op (.mov), [.t 10], none⟩]
abbrev r122_4 : List IOp := [⟨some 11, .op (.load (some 5)), [.t 3], none⟩,
  ⟨some 12, .op (.mov), [.t 0], none⟩,
  ⟨some 13, .op (.mov), [.t 5], none⟩,
  ⟨some 14, .op (.iaddr 5), [.t 12, .t 13], none⟩,
  ⟨some 15, .op (.load (some 5)), [.t 14], none⟩,
  ⟨some 16, .op (.bin .eql (.st [.int, .str, .str, .str, .str])), [.t 11, .t 15], none⟩]
abbrev r122_5 : List IOp := [⟨some 17, .op (.mov), [.t 5], none⟩,
  ⟨some 4, .op (.mov), [.t 17], none⟩]
abbrev r122_6 : List IOp := [⟨some 18, .op (.bin .add .prim), [.t 8, .c (.int .i64 1)], none⟩,
  ⟨some 8, .op (.mov), [.t 18], none⟩]
abbrev b122_0 : IC := (IC.seq (IC.reg r122_2) (IC.seq (IC.cond (.t 9) IC.skip (IC.exit 0)) (IC.seq (IC.block 1 (IC.seq (IC.reg r122_3) (IC.seq (IC.regD .wild r122_4 (.take 0 (.take 1 (.take 2 (.take 3 (.take 4 (.take 5 (.done)))))))) (IC.cond (.t 16) (IC.seq (IC.reg r122_5) IC.ret) IC.skip)))) (IC.reg r122_6))))
abbrev r122_7 : List IOp := [⟨some 4, .op (.mov), [.c (.int .i64 (-1))], none⟩]
abbrev c122 : IC := (IC.seq (IC.reg r122_0) (IC.seq (IC.seq (IC.reg r122_1) (IC.block 0 (IC.loop b122_0))) (IC.seq (IC.reg r122_7) IC.ret)))
abbrev g122 : FC := ⟨c122, 19, [.t 4]⟩
theorem comp122 : compF Go.Proofs.Try.prog (hintL [(4, 6)]) 122 = some g122 := by kernel_rfl

set_option maxRecDepth 100000 in
abbrev FT : FTr := (.node 79 g79 (.node 35 g35 (.node 23 g23 (.node 20 g20 (.node 18 g18 (.node 7 g7 .nil .nil) .nil) (.node 22 g22 (.node 21 g21 .nil .nil) .nil)) (.node 28 g28 (.node 27 g27 (.node 24 g24 .nil .nil) .nil) (.node 34 g34 (.node 33 g33 .nil .nil) .nil))) (.node 73 g73 (.node 38 g38 (.node 37 g37 (.node 36 g36 .nil .nil) .nil) (.node 72 g72 (.node 71 g71 .nil .nil) .nil)) (.node 76 g76 (.node 75 g75 (.node 74 g74 .nil .nil) .nil) (.node 78 g78 (.node 77 g77 .nil .nil) .nil)))) (.node 92 g92 (.node 86 g86 (.node 82 g82 (.node 81 g81 (.node 80 g80 .nil .nil) .nil) (.node 84 g84 (.node 83 g83 .nil .nil) .nil)) (.node 89 g89 (.node 88 g88 (.node 87 g87 .nil .nil) .nil) (.node 91 g91 (.node 90 g90 .nil .nil) .nil))) (.node 119 g119 (.node 116 g116 (.node 115 g115 (.node 93 g93 .nil .nil) .nil) (.node 118 g118 (.node 117 g117 .nil .nil) .nil)) (.node 122 g122 (.node 121 g121 (.node 120 g120 .nil .nil) .nil) (.node 131 g131 .nil .nil)))))
set_option maxRecDepth 100000 in
theorem FT_ok : FT.All (FOk Go.Proofs.Try.prog) := ⟨⟨_, comp79, by decide⟩, ⟨⟨_, comp35, by decide⟩, ⟨⟨_, comp23, by decide⟩, ⟨⟨_, comp20, by decide⟩, ⟨⟨_, comp18, by decide⟩, ⟨⟨_, comp7, by decide⟩, trivial, trivial⟩, trivial⟩, ⟨⟨_, comp22, by decide⟩, ⟨⟨_, comp21, by decide⟩, trivial, trivial⟩, trivial⟩⟩, ⟨⟨_, comp28, by decide⟩, ⟨⟨_, comp27, by decide⟩, ⟨⟨_, comp24, by decide⟩, trivial, trivial⟩, trivial⟩, ⟨⟨_, comp34, by decide⟩, ⟨⟨_, comp33, by decide⟩, trivial, trivial⟩, trivial⟩⟩⟩, ⟨⟨_, comp73, by decide⟩, ⟨⟨_, comp38, by decide⟩, ⟨⟨_, comp37, by decide⟩, ⟨⟨_, comp36, by decide⟩, trivial, trivial⟩, trivial⟩, ⟨⟨_, comp72, by decide⟩, ⟨⟨_, comp71, by decide⟩, trivial, trivial⟩, trivial⟩⟩, ⟨⟨_, comp76, by decide⟩, ⟨⟨_, comp75, by decide⟩, ⟨⟨_, comp74, by decide⟩, trivial, trivial⟩, trivial⟩, ⟨⟨_, comp78, by decide⟩, ⟨⟨_, comp77, by decide⟩, trivial, trivial⟩, trivial⟩⟩⟩⟩, ⟨⟨_, comp92, by decide⟩, ⟨⟨_, comp86, by decide⟩, ⟨⟨_, comp82, by decide⟩, ⟨⟨_, comp81, by decide⟩, ⟨⟨_, comp80, by decide⟩, trivial, trivial⟩, trivial⟩, ⟨⟨_, comp84, by decide⟩, ⟨⟨_, comp83, by decide⟩, trivial, trivial⟩, trivial⟩⟩, ⟨⟨_, comp89, by decide⟩, ⟨⟨_, comp88, by decide⟩, ⟨⟨_, comp87, by decide⟩, trivial, trivial⟩, trivial⟩, ⟨⟨_, comp91, by decide⟩, ⟨⟨_, comp90, by decide⟩, trivial, trivial⟩, trivial⟩⟩⟩, ⟨⟨_, comp119, by decide⟩, ⟨⟨_, comp116, by decide⟩, ⟨⟨_, comp115, by decide⟩, ⟨⟨_, comp93, by decide⟩, trivial, trivial⟩, trivial⟩, ⟨⟨_, comp118, by decide⟩, ⟨⟨_, comp117, by decide⟩, trivial, trivial⟩, trivial⟩⟩, ⟨⟨_, comp122, by decide⟩, ⟨⟨_, comp121, by decide⟩, ⟨⟨_, comp120, by decide⟩, trivial, trivial⟩, trivial⟩, ⟨⟨_, comp131, by decide⟩, trivial, trivial⟩⟩⟩⟩⟩
end Go.Gi
