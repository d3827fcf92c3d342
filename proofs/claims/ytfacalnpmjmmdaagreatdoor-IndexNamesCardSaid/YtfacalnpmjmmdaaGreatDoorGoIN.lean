/- Functions of the program in the form of the abstract machine, printed by a program; each is checked against the translation. -/
import Derived.Test.YtfacalnpmjmmdaaGreatDoorGiXE
import Derived.Test.YtfacalnpmjmmdaaGreatDoorProg
import Derived.KernelRfl
set_option linter.unusedVariables false
namespace Go.Gi
open Go
-- outlaw/outlawlaw10.IndexNames
abbrev r3_0 : List IOp := [⟨some 0, .op (.mov), [.c (.bool false)], none⟩]
abbrev r3_1 : List IOp := [⟨some 2, .call none, [.f 5, .c (.int .i64 0)], none⟩,
  ⟨some 1, .op (.mov), [.t 2], none⟩]
abbrev r3_2 : List IOp := [⟨some 3, .call none, [.f 6], none⟩,
  ⟨some 4, .op (.mov), [.t 3], none⟩,
  ⟨some 5, .op (.mov), [.t 1], some (4, true)⟩,
  ⟨some 6, .call none, [.f 7, .t 5, .c (.int .i64 (-1)), .c (.str [97]), .c (.bool false)], some (4, true)⟩,
  ⟨some 7, .op (.bin .eql .prim), [.t 6, .c (.int .i64 2)], some (4, true)⟩,
  ⟨some 8, .op (.pick), [.t 4, .t 7, .c (.bool false)], none⟩,
  ⟨some 9, .op (.mov), [.t 8], none⟩,
  ⟨some 10, .op (.mov), [.t 1], some (9, true)⟩,
  ⟨some 11, .call none, [.f 7, .t 10, .c (.int .i64 5), .c (.str []), .c (.bool false)], some (9, true)⟩,
  ⟨some 12, .op (.bin .eql .prim), [.t 11, .c (.int .i64 2)], some (9, true)⟩,
  ⟨some 13, .op (.pick), [.t 9, .t 12, .c (.bool false)], none⟩,
  ⟨some 14, .op (.mov), [.t 13], none⟩,
  ⟨some 15, .op (.mov), [.t 1], some (14, true)⟩,
  ⟨some 16, .call none, [.f 7, .t 15, .c (.int .i64 5), .c (.str [65]), .c (.bool true)], some (14, true)⟩,
  ⟨some 17, .op (.bin .eql .prim), [.t 16, .c (.int .i64 0)], some (14, true)⟩,
  ⟨some 18, .op (.pick), [.t 14, .t 17, .c (.bool false)], none⟩,
  ⟨some 19, .op (.mov), [.t 18], none⟩,
  ⟨some 20, .op (.mov), [.t 1], some (19, true)⟩,
  ⟨some 21, .call none, [.f 7, .t 20, .c (.int .i64 5), .c (.str [98]), .c (.bool false)], some (19, true)⟩,
  ⟨some 22, .op (.bin .eql .prim), [.t 21, .c (.int .i64 8)], some (19, true)⟩,
  ⟨some 23, .op (.pick), [.t 19, .t 22, .c (.bool false)], none⟩,
  ⟨some 24, .op (.mov), [.t 23], none⟩,
  ⟨some 25, .op (.mov), [.t 1], some (24, true)⟩,
  ⟨some 26, .call none, [.f 9, .t 25, .c (.str [97])], some (24, true)⟩,
  ⟨some 27, .op (.bsl 3 1 false), [.c (.int .i64 5)], some (24, true)⟩,
  ⟨some 28, .call none, [.f 8, .t 26, .t 27], some (24, true)⟩,
  ⟨some 29, .op (.pick), [.t 24, .t 28, .c (.bool false)], none⟩,
  ⟨some 30, .op (.mov), [.t 29], none⟩,
  ⟨some 31, .op (.mov), [.t 1], some (30, true)⟩,
  ⟨some 32, .call none, [.f 10, .t 31, .c (.int .i64 5)], some (30, true)⟩,
  ⟨some 33, .op (.pick), [.t 30, .t 32, .c (.bool false)], none⟩,
  ⟨some 34, .op (.mov), [.t 33], none⟩,
  ⟨some 35, .op (.mov), [.t 1], some (34, true)⟩,
  ⟨some 36, .call none, [.f 11, .t 35, .c (.int .i64 5)], some (34, true)⟩,
  ⟨some 37, .op (.bin .eql .prim), [.t 36, .c (.int .i64 0)], some (34, true)⟩,
  ⟨some 38, .op (.pick), [.t 34, .t 37, .c (.bool false)], none⟩,
  ⟨some 39, .op (.mov), [.t 38], none⟩,
  ⟨some 40, .op (.mov), [.t 1], some (39, true)⟩,
  ⟨some 41, .call none, [.f 11, .t 40, .c (.int .i64 5)], some (39, true)⟩,
  ⟨some 42, .op (.bin .eql .prim), [.t 41, .c (.int .i64 12)], some (39, true)⟩,
  ⟨some 43, .op (.pick), [.t 39, .t 42, .c (.bool false)], none⟩,
  ⟨some 44, .op (.mov), [.t 43], none⟩,
  ⟨some 45, .op (.mov), [.t 1], some (44, true)⟩,
  ⟨some 46, .call none, [.f 12, .t 45], some (44, true)⟩,
  ⟨some 47, .op (.bin .eql .prim), [.t 46, .c (.int .i64 0)], some (44, true)⟩,
  ⟨some 48, .op (.pick), [.t 44, .t 47, .c (.bool false)], none⟩,
  ⟨some 0, .op (.mov), [.t 48], none⟩]
abbrev c3 : IC := (IC.seq (IC.reg r3_0) (IC.seq (IC.reg r3_1) (IC.seq (IC.reg r3_2) IC.ret)))
abbrev g3 : FC := ⟨c3, 49, [.t 0]⟩
theorem comp3 : compF Go.Proofs.Tryz.prog (fun _ => 0) 3 = some g3 := by kernel_rfl

-- outlaw/index.New
abbrev r5_0 : List IOp := [⟨some 2, .op (.mov), [.c (.nilp)], none⟩]
abbrev r5_1 : List IOp := [⟨some 3, .op (.mov), [.t 0], none⟩,
  ⟨some 4, .op (.max), [.t 3, .c (.int .i64 1)], none⟩,
  ⟨some 5, .op (.min), [.t 4, .c (.int .i64 256)], none⟩,
  ⟨some 6, .op (.mkmap false), [], none⟩,
  ⟨some 7, .op (.mkmap false), [], none⟩,
  ⟨some 8, .op (.mkmap false), [], none⟩,
  ⟨some 9, .op (.mkmap false), [], none⟩,
  ⟨some 10, .op (.bst [.int .i64 0, .nilm, .nilm, .nilm, .nilm] [(0, 1), (1, 1), (2, 1), (3, 1), (4, 1)] [0, 1, 2, 3, 4]), [.t 5, .t 6, .t 7, .t 8, .t 9], none⟩,
  ⟨some 11, .op (.box 52), [.t 10], none⟩,
  ⟨some 2, .op (.mov), [.t 11], none⟩]
abbrev c5 : IC := (IC.seq (IC.reg r5_0) (IC.seq (IC.reg r5_1) IC.ret))
abbrev g5 : FC := ⟨c5, 12, [.t 2]⟩
theorem comp5 : compF Go.Proofs.Tryz.prog (fun _ => 0) 5 = some g5 := by kernel_rfl

-- outlaw/outlawlaw10.lives
abbrev r6_0 : List IOp := [⟨some 0, .op (.mov), [.c (.bool false)], none⟩]
abbrev r6_1 : List IOp := [⟨some 2, .call none, [.f 5, .c (.int .i64 10)], none⟩,
  ⟨some 1, .op (.mov), [.t 2], none⟩]
abbrev r6_2 : List IOp := [⟨some 3, .op (.mov), [.t 1], none⟩,
  ⟨some 4, .call none, [.f 7, .t 3, .c (.int .i64 3), .c (.str [97, 42]), .c (.bool false)], none⟩,
  ⟨some 5, .op (.bin .eql .prim), [.t 4, .c (.int .i64 0)], none⟩,
  ⟨some 6, .op (.mov), [.t 5], none⟩,
  ⟨some 7, .op (.mov), [.t 1], some (6, true)⟩,
  ⟨some 8, .call none, [.f 7, .t 7, .c (.int .i64 1), .c (.str [97, 98]), .c (.bool false)], some (6, true)⟩,
  ⟨some 9, .op (.bin .eql .prim), [.t 8, .c (.int .i64 0)], some (6, true)⟩,
  ⟨some 10, .op (.pick), [.t 6, .t 9, .c (.bool false)], none⟩,
  ⟨some 11, .op (.mov), [.t 10], none⟩,
  ⟨some 12, .op (.mov), [.t 1], some (11, true)⟩,
  ⟨some 13, .call none, [.f 7, .t 12, .c (.int .i64 2), .c (.str [98]), .c (.bool false)], some (11, true)⟩,
  ⟨some 14, .op (.bin .eql .prim), [.t 13, .c (.int .i64 0)], some (11, true)⟩,
  ⟨some 15, .op (.pick), [.t 11, .t 14, .c (.bool false)], none⟩,
  ⟨some 16, .op (.mov), [.t 15], none⟩,
  ⟨some 17, .op (.mov), [.t 1], some (16, true)⟩,
  ⟨some 18, .call none, [.f 9, .t 17, .c (.str [97, 98])], some (16, true)⟩,
  ⟨some 19, .op (.bsl 3 1 false), [.c (.int .i64 1), .c (.int .i64 3)], some (16, true)⟩,
  ⟨some 20, .call none, [.f 8, .t 18, .t 19], some (16, true)⟩,
  ⟨some 21, .op (.pick), [.t 16, .t 20, .c (.bool false)], none⟩,
  ⟨some 0, .op (.mov), [.t 21], none⟩]
abbrev c6 : IC := (IC.seq (IC.reg r6_0) (IC.seq (IC.reg r6_1) (IC.seq (IC.reg r6_2) IC.ret)))
abbrev g6 : FC := ⟨c6, 22, [.t 0]⟩
theorem comp6 : compF Go.Proofs.Tryz.prog (fun _ => 0) 6 = some g6 := by kernel_rfl

-- (*outlaw/index.Index).Put
abbrev r7_0 : List IOp := [⟨some 8, .op (.mov), [.c (.int .i64 0)], none⟩]
abbrev r7_1 : List IOp := [⟨some 16, .op (.mov), [.t 0], none⟩,
  ⟨some 17, .call none, [.f 28, .t 16], none⟩,
  ⟨some 18, .op (.un .not), [.t 17], none⟩,
  ⟨some 15, .op (.mov), [.t 18], none⟩]
abbrev r7_2 : List IOp := [⟨some 8, .op (.mov), [.c (.int .i64 1)], none⟩]
abbrev r7_3 : List IOp := [⟨some 20, .op (.mov), [.t 1], none⟩,
  ⟨some 21, .op (.bin .lss .prim), [.t 20, .c (.int .i64 0)], none⟩,
  ⟨some 19, .op (.mov), [.t 21], none⟩]
abbrev r7_4 : List IOp := [⟨some 8, .op (.mov), [.c (.int .i64 2)], none⟩]
abbrev r7_5 : List IOp := [⟨some 23, .op (.mov), [.t 0], none⟩,
  ⟨some 24, .op (.mov), [.t 1], none⟩,
  ⟨some 25, .call none, [.f 10, .t 23, .t 24], none⟩,
  ⟨some 22, .op (.mov), [.t 25], none⟩]
abbrev r7_6 : List IOp := [⟨some 8, .op (.mov), [.c (.int .i64 8)], none⟩]
abbrev r7_7 : List IOp := [⟨some 26, .op (.mov), [.t 2], none⟩,
  ⟨some 27, .call none, [.f 29, .t 26], none⟩,
  ⟨some 9, .op (.mov), [.t 27], none⟩]
abbrev r7_8 : List IOp := [⟨some 28, .op (.mov), [.t 9], none⟩,
  ⟨some 29, .op (.bin .neq .prim), [.t 28, .c (.int .i64 0)], none⟩]
abbrev r7_9 : List IOp := [⟨some 30, .op (.mov), [.t 9], none⟩,
  ⟨some 8, .op (.mov), [.t 30], none⟩]
abbrev r7_10 : List IOp := [⟨some 31, .op (.mov), [.t 0], none⟩,
  ⟨some 32, .op (.nilchk), [.t 31], none⟩,
  ⟨some 33, .op (.faddr 1), [.t 32], none⟩,
  ⟨some 34, .op (.load none), [.t 33], none⟩,
  ⟨some 35, .op (.len .map), [.t 34], none⟩,
  ⟨some 36, .op (.bin .geq .prim), [.t 35, .c (.int .i64 200)], none⟩]
abbrev r7_11 : List IOp := [⟨some 8, .op (.mov), [.c (.int .i64 13)], none⟩]
abbrev r7_12 : List IOp := [⟨some 37, .op (.mov), [.t 1], none⟩,
  ⟨some 38, .op (.mov), [.t 2], none⟩,
  ⟨some 39, .op (.mov), [.t 3], none⟩,
  ⟨some 40, .op (.bst [.int .i64 0, .str [], .bool false] [(0, 1), (1, 1), (2, 1)] [0, 1, 2]), [.t 37, .t 38, .t 39], none⟩,
  ⟨some 41, .op (.bst [.int .i64 0, .str [], .bool false, .nilp] [(0, 3), (3, 1)] [0]), [.t 40], none⟩,
  ⟨some 42, .op (.box 58), [.t 41], none⟩,
  ⟨some 10, .op (.mov), [.t 42], none⟩]
abbrev r7_13 : List IOp := [⟨some 43, .op (.mov), [.t 0], none⟩,
  ⟨some 44, .op (.nilchk), [.t 43], none⟩,
  ⟨some 45, .op (.faddr 1), [.t 44], none⟩,
  ⟨some 46, .op (.load none), [.t 45], none⟩,
  ⟨some 47, .op (.mov), [.t 1], none⟩,
  ⟨some 48, .op (.mov), [.t 10], none⟩,
  ⟨none, .op (.mapup .int), [.t 46, .t 47, .t 48], none⟩]
abbrev r7_14 : List IOp := [⟨some 50, .op (.mov), [.t 2], none⟩,
  ⟨some 51, .call none, [.f 30, .t 50], none⟩,
  ⟨some 49, .op (.mov), [.t 51], none⟩,
  ⟨some 52, .op (.extract 0), [.t 49], none⟩,
  ⟨some 53, .op (.extract 1), [.t 49], none⟩,
  ⟨some 11, .op (.mov), [.t 52], none⟩,
  ⟨some 12, .op (.mov), [.t 53], none⟩]
abbrev r7_15 : List IOp := [⟨some 54, .op (.mov), [.t 12], none⟩]
abbrev r7_16 : List IOp := [⟨some 56, .op (.mov), [.t 0], none⟩,
  ⟨some 57, .op (.mov), [.t 10], none⟩,
  ⟨some 58, .op (.nilchk), [.t 57], none⟩,
  ⟨some 59, .op (.faddr 0), [.t 58], none⟩,
  ⟨some 60, .op (.load (some 3)), [.t 59], none⟩,
  ⟨some 61, .call none, [.f 31, .t 56, .t 60], none⟩,
  ⟨some 55, .op (.mov), [.t 61], none⟩,
  ⟨some 62, .op (.extract 0), [.t 55], none⟩,
  ⟨some 63, .op (.extract 1), [.t 55], none⟩,
  ⟨some 13, .op (.mov), [.t 62], none⟩,
  ⟨some 14, .op (.mov), [.t 63], none⟩]
abbrev r7_17 : List IOp := [⟨some 64, .op (.mov), [.t 13], none⟩,
  ⟨some 65, .op (.mov), [.t 14], none⟩,
  ⟨some 66, .op (.mov), [.t 13], none⟩,
  ⟨some 67, .op (.mov), [.t 14], none⟩,
  ⟨some 68, .op (.look .str (.nils) false), [.t 66, .t 67], none⟩,
  ⟨some 69, .op (.mov), [.t 1], none⟩,
  ⟨some 70, .op (.bsl 3 1 false), [.t 69], none⟩,
  ⟨some 71, .op (.app 3 1 8), [.t 68, .t 70], none⟩,
  ⟨none, .op (.mapup .str), [.t 64, .t 65, .t 71], none⟩]
abbrev r7_18 : List IOp := [⟨some 8, .op (.mov), [.c (.int .i64 0)], none⟩]
abbrev r7_19 : List IOp := [⟨some 73, .op (.mov), [.t 10], none⟩,
  ⟨some 74, .op (.mov), [.t 2], none⟩,
  ⟨some 75, .op (.mov), [.t 3], none⟩,
  ⟨some 76, .op (.mov), [.t 0], none⟩,
  ⟨some 77, .op (.nilchk), [.t 76], none⟩,
  ⟨some 78, .op (.faddr 0), [.t 77], none⟩,
  ⟨some 79, .op (.load none), [.t 78], none⟩,
  ⟨some 80, .call none, [.f 32, .t 74, .t 75, .t 79], none⟩,
  ⟨some 72, .op (.mov), [.t 80], none⟩,
  ⟨some 81, .op (.extract 0), [.t 72], none⟩,
  ⟨some 82, .op (.extract 1), [.t 72], none⟩,
  ⟨some 83, .op (.nilchk), [.t 73], none⟩,
  ⟨some 84, .op (.faddr 3), [.t 83], none⟩,
  ⟨none, .op (.store 1), [.t 84, .t 81], none⟩]
abbrev r7_20 : List IOp := [⟨some 85, .op (.mov), [.t 0], none⟩,
  ⟨some 86, .op (.nilchk), [.t 85], none⟩,
  ⟨some 87, .op (.faddr 4), [.t 86], none⟩,
  ⟨some 88, .op (.load none), [.t 87], none⟩,
  ⟨some 89, .op (.mov), [.t 1], none⟩,
  ⟨some 90, .op (.mov), [.t 10], none⟩,
  ⟨none, .op (.mapup .int), [.t 88, .t 89, .t 90], none⟩]
abbrev r7_21 : List IOp := [⟨some 8, .op (.mov), [.c (.int .i64 0)], none⟩]
abbrev c7 : IC := (IC.seq (IC.reg r7_0) (IC.seq (IC.block 0 (IC.seq (IC.reg r7_1) (IC.cond (.t 15) (IC.seq (IC.reg r7_2) IC.ret) (IC.seq (IC.reg r7_3) (IC.cond (.t 19) (IC.seq (IC.reg r7_4) IC.ret) (IC.seq (IC.reg r7_5) (IC.cond (.t 22) (IC.seq (IC.reg r7_6) IC.ret) IC.skip))))))) (IC.seq (IC.seq (IC.reg r7_7) (IC.seq (IC.reg r7_8) (IC.cond (.t 29) (IC.seq (IC.reg r7_9) IC.ret) IC.skip))) (IC.seq (IC.seq (IC.reg r7_10) (IC.cond (.t 36) (IC.seq (IC.reg r7_11) IC.ret) IC.skip)) (IC.seq (IC.reg r7_12) (IC.seq (IC.reg r7_13) (IC.seq (IC.seq (IC.reg r7_14) (IC.seq (IC.reg r7_15) (IC.cond (.t 54) (IC.seq (IC.reg r7_16) (IC.seq (IC.reg r7_17) (IC.seq (IC.reg r7_18) IC.ret))) IC.skip))) (IC.seq (IC.reg r7_19) (IC.seq (IC.reg r7_20) (IC.seq (IC.reg r7_21) IC.ret))))))))))
abbrev g7 : FC := ⟨c7, 91, [.t 8]⟩
theorem comp7 : compF Go.Proofs.Tryz.prog (fun _ => 0) 7 = some g7 := by kernel_rfl

-- (*outlaw/index.Index).Match
abbrev r9_0 : List IOp := [⟨some 4, .op (.mov), [.c (.nils)], none⟩]
abbrev r9_1 : List IOp := [⟨some 8, .op (.mov), [.t 0], none⟩,
  ⟨some 9, .call none, [.f 28, .t 8], none⟩,
  ⟨some 10, .op (.un .not), [.t 9], none⟩]
abbrev r9_2 : List IOp := [⟨some 4, .op (.mov), [.c (.nils)], none⟩]
abbrev r9_3 : List IOp := [⟨some 11, .op (.mov), [.t 0], none⟩,
  ⟨some 12, .op (.nilchk), [.t 11], none⟩,
  ⟨some 13, .op (.faddr 2), [.t 12], none⟩,
  ⟨some 14, .op (.load none), [.t 13], none⟩,
  ⟨some 15, .op (.mov), [.t 1], none⟩,
  ⟨some 16, .op (.look .str (.nils) false), [.t 14, .t 15], none⟩,
  ⟨some 17, .op (.mov), [.t 0], none⟩,
  ⟨some 18, .op (.nilchk), [.t 17], none⟩,
  ⟨some 19, .op (.faddr 3), [.t 18], none⟩,
  ⟨some 20, .op (.load none), [.t 19], none⟩,
  ⟨some 21, .op (.mov), [.t 1], none⟩,
  ⟨some 22, .call none, [.f 34, .t 21], none⟩,
  ⟨some 23, .op (.look .str (.nils) false), [.t 20, .t 22], none⟩,
  ⟨some 24, .op (.bsl 28 1 false), [.t 16, .t 23], none⟩,
  ⟨some 25, .call none, [.f 33, .t 24], none⟩,
  ⟨some 5, .op (.mov), [.t 25], none⟩]
abbrev r9_4 : List IOp := [⟨some 26, .op (.mov), [.t 0], none⟩,
  ⟨some 27, .op (.nilchk), [.t 26], none⟩,
  ⟨some 28, .op (.faddr 4), [.t 27], none⟩,
  ⟨some 29, .op (.load none), [.t 28], none⟩,
  ⟨some 30, .call none, [.f 36, .t 29], none⟩,
  ⟨some 31, .call none, [.f 35, .t 30], none⟩,
  ⟨some 32, .op (.len .slice), [.t 31], none⟩,
  ⟨some 33, .op (.mov), [.c (.int .i64 0)], none⟩]
abbrev r9_5 : List IOp := [⟨some 34, .op (.bin .lss .prim), [.t 33, .t 32], none⟩]
abbrev r9_6 : List IOp := [⟨some 35, .op (.iaddr 1), [.t 31, .t 33], none⟩,
  ⟨some 36, .op (.load none), [.t 35], none⟩,
  ⟨some 7, .op (.mov), [.t 36], none⟩]
abbrev r9_7 : List IOp := [⟨some 37, .op (.mov), [.t 0], none⟩,
  ⟨some 38, .op (.nilchk), [.t 37], none⟩,
  ⟨some 39, .op (.faddr 4), [.t 38], none⟩,
  ⟨some 40, .op (.load none), [.t 39], none⟩,
  ⟨some 41, .op (.mov), [.t 7], none⟩,
  ⟨some 42, .op (.look .int (.nilp) false), [.t 40, .t 41], none⟩,
  ⟨some 43, .op (.nilchk), [.t 42], none⟩,
  ⟨some 44, .op (.faddr 3), [.t 43], none⟩,
  ⟨some 45, .op (.load none), [.t 44], none⟩,
  ⟨some 46, .op (.mov), [.t 1], none⟩,
  ⟨some 47, .call none, [.f 37, .t 45, .t 46], none⟩]
abbrev r9_8 : List IOp := [⟨some 48, .op (.mov), [.t 5], none⟩,
  ⟨some 49, .op (.mov), [.t 7], none⟩,
  ⟨some 50, .op (.bsl 3 1 false), [.t 49], none⟩,
  ⟨some 51, .op (.app 3 1 8), [.t 48, .t 50], none⟩,
  ⟨some 5, .op (.mov), [.t 51], none⟩]
abbrev r9_9 : List IOp := [⟨some 52, .op (.bin .add .prim), [.t 33, .c (.int .i64 1)], none⟩,
  ⟨some 33, .op (.mov), [.t 52], none⟩]
abbrev b9_0 : IC := (IC.seq (IC.reg r9_5) (IC.seq (IC.cond (.t 34) IC.skip (IC.exit 0)) (IC.seq (IC.block 1 (IC.seq (IC.reg r9_6) (IC.seq (IC.reg r9_7) (IC.cond (.t 47) (IC.reg r9_8) IC.skip)))) (IC.reg r9_9))))
abbrev r9_10 : List IOp := [⟨some 53, .op (.mov), [.t 5], none⟩,
  ⟨some 54, .call none, [.f 38, .t 53], none⟩]
abbrev r9_11 : List IOp := [⟨some 55, .op (.mov), [.t 5], none⟩,
  ⟨some 4, .op (.mov), [.t 55], none⟩]
abbrev c9 : IC := (IC.seq (IC.reg r9_0) (IC.seq (IC.seq (IC.reg r9_1) (IC.cond (.t 10) (IC.seq (IC.reg r9_2) IC.ret) IC.skip)) (IC.seq (IC.regD .alloc r9_3 (.take 0 (.take 1 (.take 2 (.take 3 (.take 4 (.take 5 (.take 6 (.take 7 (.take 8 (.take 9 (.take 10 (.take 11 (.take 12 (.take 13 (.take 14 (.take 15 (.done)))))))))))))))))) (IC.seq (IC.seq (IC.reg r9_4) (IC.block 0 (IC.loop b9_0))) (IC.seq (IC.reg r9_10) (IC.seq (IC.reg r9_11) IC.ret))))))
abbrev g9 : FC := ⟨c9, 56, [.t 4]⟩
theorem comp9 : compF Go.Proofs.Tryz.prog (hintL [(3, 7)]) 9 = some g9 := by kernel_rfl

-- outlaw/outlawkit.Same[int]
abbrev r8_0 : List IOp := [⟨some 4, .op (.mov), [.c (.bool false)], none⟩]
abbrev r8_1 : List IOp := [⟨some 6, .op (.mov), [.t 0], none⟩,
  ⟨some 7, .op (.len .slice), [.t 6], none⟩,
  ⟨some 8, .op (.mov), [.t 1], none⟩,
  ⟨some 9, .op (.len .slice), [.t 8], none⟩,
  ⟨some 10, .op (.bin .neq .prim), [.t 7, .t 9], none⟩]
abbrev r8_2 : List IOp := [⟨some 4, .op (.mov), [.c (.bool false)], none⟩]
abbrev r8_3 : List IOp := [⟨some 5, .op (.mov), [.c (.int .i64 0)], none⟩]
abbrev r8_4 : List IOp := [⟨some 11, .op (.mov), [.t 5], none⟩,
  ⟨some 12, .op (.mov), [.t 0], none⟩,
  ⟨some 13, .op (.len .slice), [.t 12], none⟩,
  ⟨some 14, .op (.bin .lss .prim), [.t 11, .t 13], none⟩]
abbrev r8_5 : List IOp := [⟨some 17, .op (.mov), [.t 0], none⟩,
  ⟨some 18, .op (.mov), [.t 5], none⟩,
  ⟨some 19, .op (.iaddr 1), [.t 17, .t 18], none⟩,
  ⟨some 20, .op (.load none), [.t 19], none⟩,
  ⟨some 21, .op (.mov), [.t 1], none⟩,
  ⟨some 22, .op (.mov), [.t 5], none⟩,
  ⟨some 23, .op (.iaddr 1), [.t 21, .t 22], none⟩,
  ⟨some 24, .op (.load none), [.t 23], none⟩,
  ⟨some 25, .op (.bin .neq .prim), [.t 20, .t 24], none⟩]
abbrev r8_6 : List IOp := [⟨some 4, .op (.mov), [.c (.bool false)], none⟩]
abbrev r8_7 : List IOp := [⟨some 15, .op (.mov), [.t 5], none⟩,
  ⟨some 16, .op (.bin .add .prim), [.t 15, .c (.int .i64 1)], none⟩,
  ⟨some 5, .op (.mov), [.t 16], none⟩]
abbrev b8_0 : IC := (IC.seq (IC.seq (IC.reg r8_4) (IC.cond (.t 14) IC.skip (IC.exit 0))) (IC.seq (IC.block 1 (IC.seq (IC.regD .wild r8_5 (.take 0 (.take 1 (.take 2 (.take 3 (.take 4 (.take 5 (.take 6 (.take 7 (.take 8 (.done))))))))))) (IC.cond (.t 25) (IC.seq (IC.reg r8_6) IC.ret) IC.skip))) (IC.reg r8_7)))
abbrev r8_8 : List IOp := [⟨some 4, .op (.mov), [.c (.bool true)], none⟩]
abbrev c8 : IC := (IC.seq (IC.reg r8_0) (IC.seq (IC.seq (IC.reg r8_1) (IC.cond (.t 10) (IC.seq (IC.reg r8_2) IC.ret) IC.skip)) (IC.seq (IC.seq (IC.reg r8_3) (IC.block 0 (IC.loop b8_0))) (IC.seq (IC.reg r8_8) IC.ret))))
abbrev g8 : FC := ⟨c8, 26, [.t 4]⟩
theorem comp8 : compF Go.Proofs.Tryz.prog (hintL [(6, 6)]) 8 = some g8 := by kernel_rfl

-- (*outlaw/index.Index).Has
abbrev r10_0 : List IOp := [⟨some 4, .op (.mov), [.c (.bool false)], none⟩]
abbrev r10_1 : List IOp := [⟨some 7, .op (.mov), [.t 0], none⟩,
  ⟨some 8, .call none, [.f 28, .t 7], none⟩,
  ⟨some 9, .op (.un .not), [.t 8], none⟩]
abbrev r10_2 : List IOp := [⟨some 4, .op (.mov), [.c (.bool false)], none⟩]
abbrev r10_3 : List IOp := [⟨some 11, .op (.mov), [.t 0], none⟩,
  ⟨some 12, .op (.nilchk), [.t 11], none⟩,
  ⟨some 13, .op (.faddr 1), [.t 12], none⟩,
  ⟨some 14, .op (.load none), [.t 13], none⟩,
  ⟨some 15, .op (.mov), [.t 1], none⟩,
  ⟨some 16, .op (.look .int (.nilp) true), [.t 14, .t 15], none⟩,
  ⟨some 10, .op (.mov), [.t 16], none⟩,
  ⟨some 17, .op (.extract 0), [.t 10], none⟩,
  ⟨some 18, .op (.extract 1), [.t 10], none⟩,
  ⟨some 5, .op (.mov), [.t 17], none⟩,
  ⟨some 6, .op (.mov), [.t 18], none⟩]
abbrev r10_4 : List IOp := [⟨some 19, .op (.mov), [.t 6], none⟩,
  ⟨some 4, .op (.mov), [.t 19], none⟩]
abbrev c10 : IC := (IC.seq (IC.reg r10_0) (IC.seq (IC.seq (IC.reg r10_1) (IC.cond (.t 9) (IC.seq (IC.reg r10_2) IC.ret) IC.skip)) (IC.seq (IC.reg r10_3) (IC.seq (IC.reg r10_4) IC.ret))))
abbrev g10 : FC := ⟨c10, 20, [.t 4]⟩
theorem comp10 : compF Go.Proofs.Tryz.prog (fun _ => 0) 10 = some g10 := by kernel_rfl

-- (*outlaw/index.Index).Drop
abbrev r11_0 : List IOp := [⟨some 3, .op (.box 3), [.t 1], none⟩,
  ⟨some 4, .op (.mov), [.c (.int .i64 0)], none⟩]
abbrev r11_1 : List IOp := [⟨some 9, .op (.mov), [.t 0], none⟩,
  ⟨some 10, .call none, [.f 28, .t 9], none⟩,
  ⟨some 11, .op (.un .not), [.t 10], none⟩]
abbrev r11_2 : List IOp := [⟨some 4, .op (.mov), [.c (.int .i64 1)], none⟩]
abbrev r11_3 : List IOp := [⟨some 13, .op (.mov), [.t 0], none⟩,
  ⟨some 14, .op (.nilchk), [.t 13], none⟩,
  ⟨some 15, .op (.faddr 1), [.t 14], none⟩,
  ⟨some 16, .op (.load none), [.t 15], none⟩,
  ⟨some 17, .op (.load none), [.t 3], none⟩,
  ⟨some 18, .op (.look .int (.nilp) true), [.t 16, .t 17], none⟩,
  ⟨some 12, .op (.mov), [.t 18], none⟩,
  ⟨some 19, .op (.extract 0), [.t 12], none⟩,
  ⟨some 20, .op (.extract 1), [.t 12], none⟩,
  ⟨some 5, .op (.mov), [.t 19], none⟩,
  ⟨some 6, .op (.mov), [.t 20], none⟩]
abbrev r11_4 : List IOp := [⟨some 21, .op (.mov), [.t 6], none⟩,
  ⟨some 22, .op (.un .not), [.t 21], none⟩]
abbrev r11_5 : List IOp := [⟨some 4, .op (.mov), [.c (.int .i64 12)], none⟩]
abbrev r11_6 : List IOp := [⟨some 23, .op (.mov), [.t 0], none⟩,
  ⟨some 24, .op (.nilchk), [.t 23], none⟩,
  ⟨some 25, .op (.faddr 1), [.t 24], none⟩,
  ⟨some 26, .op (.load none), [.t 25], none⟩,
  ⟨some 27, .op (.load none), [.t 3], none⟩,
  ⟨none, .op (.del .int), [.t 26, .t 27], none⟩]
abbrev r11_7 : List IOp := [⟨some 28, .op (.mov), [.t 5], none⟩,
  ⟨some 29, .op (.nilchk), [.t 28], none⟩,
  ⟨some 30, .op (.faddr 3), [.t 29], none⟩,
  ⟨some 31, .op (.load none), [.t 30], none⟩,
  ⟨some 32, .op (.bin .neq .ptr), [.t 31, .c (.nilp)], none⟩]
abbrev r11_8 : List IOp := [⟨some 33, .op (.mov), [.t 0], none⟩,
  ⟨some 34, .op (.nilchk), [.t 33], none⟩,
  ⟨some 35, .op (.faddr 4), [.t 34], none⟩,
  ⟨some 36, .op (.load none), [.t 35], none⟩,
  ⟨some 37, .op (.load none), [.t 3], none⟩,
  ⟨none, .op (.del .int), [.t 36, .t 37], none⟩]
abbrev r11_9 : List IOp := [⟨some 4, .op (.mov), [.c (.int .i64 0)], none⟩]
abbrev r11_10 : List IOp := [⟨some 39, .op (.mov), [.t 0], none⟩,
  ⟨some 40, .op (.mov), [.t 5], none⟩,
  ⟨some 41, .op (.nilchk), [.t 40], none⟩,
  ⟨some 42, .op (.faddr 0), [.t 41], none⟩,
  ⟨some 43, .op (.load (some 3)), [.t 42], none⟩,
  ⟨some 44, .call none, [.f 31, .t 39, .t 43], none⟩,
  ⟨some 38, .op (.mov), [.t 44], none⟩,
  ⟨some 45, .op (.extract 0), [.t 38], none⟩,
  ⟨some 46, .op (.extract 1), [.t 38], none⟩,
  ⟨some 7, .op (.mov), [.t 45], none⟩,
  ⟨some 8, .op (.mov), [.t 46], none⟩]
abbrev r11_11 : List IOp := [⟨some 47, .op (.mov), [.t 7], none⟩,
  ⟨some 48, .op (.mov), [.t 8], none⟩,
  ⟨some 49, .op (.mov), [.t 7], none⟩,
  ⟨some 50, .op (.mov), [.t 8], none⟩,
  ⟨some 51, .op (.look .str (.nils) false), [.t 49, .t 50], none⟩,
  ⟨some 52, .op (.mkfn 40), [.t 3], none⟩,
  ⟨some 53, .call none, [.f 39, .t 51, .t 52], none⟩,
  ⟨none, .op (.mapup .str), [.t 47, .t 48, .t 53], none⟩]
abbrev r11_12 : List IOp := [⟨some 54, .op (.mov), [.t 7], none⟩,
  ⟨some 55, .op (.mov), [.t 8], none⟩,
  ⟨some 56, .op (.look .str (.nils) false), [.t 54, .t 55], none⟩,
  ⟨some 57, .op (.len .slice), [.t 56], none⟩,
  ⟨some 58, .op (.bin .eql .prim), [.t 57, .c (.int .i64 0)], none⟩]
abbrev r11_13 : List IOp := [⟨some 59, .op (.mov), [.t 7], none⟩,
  ⟨some 60, .op (.mov), [.t 8], none⟩,
  ⟨none, .op (.del .str), [.t 59, .t 60], none⟩]
abbrev r11_14 : List IOp := [⟨some 4, .op (.mov), [.c (.int .i64 0)], none⟩]
abbrev c11 : IC := (IC.seq (IC.reg r11_0) (IC.seq (IC.seq (IC.reg r11_1) (IC.cond (.t 11) (IC.seq (IC.reg r11_2) IC.ret) IC.skip)) (IC.seq (IC.regD .wild r11_3 (.take 0 (.take 1 (.take 2 (.take 3 (.take 4 (.take 5 (.take 6 (.take 7 (.take 8 (.take 9 (.take 10 (.done))))))))))))) (IC.seq (IC.seq (IC.reg r11_4) (IC.cond (.t 22) (IC.seq (IC.reg r11_5) IC.ret) IC.skip)) (IC.seq (IC.regD .wild r11_6 (.take 0 (.take 1 (.take 2 (.take 3 (.take 4 (.take 5 (.done)))))))) (IC.seq (IC.seq (IC.reg r11_7) (IC.cond (.t 32) (IC.seq (IC.regD .wild r11_8 (.take 0 (.take 1 (.take 2 (.take 3 (.take 4 (.take 5 (.done)))))))) (IC.seq (IC.reg r11_9) IC.ret)) IC.skip)) (IC.seq (IC.reg r11_10) (IC.seq (IC.reg r11_11) (IC.seq (IC.seq (IC.reg r11_12) (IC.cond (.t 58) (IC.reg r11_13) IC.skip)) (IC.seq (IC.reg r11_14) IC.ret))))))))))
abbrev g11 : FC := ⟨c11, 61, [.t 4]⟩
theorem comp11 : compF Go.Proofs.Tryz.prog (hintL [(3, 6), (6, 6), (8, 6)]) 11 = some g11 := by kernel_rfl

-- (*outlaw/index.Index).Len
abbrev r12_0 : List IOp := [⟨some 2, .op (.mov), [.c (.int .i64 0)], none⟩]
abbrev r12_1 : List IOp := [⟨some 3, .op (.mov), [.t 0], none⟩,
  ⟨some 4, .call none, [.f 28, .t 3], none⟩,
  ⟨some 5, .op (.un .not), [.t 4], none⟩]
abbrev r12_2 : List IOp := [⟨some 2, .op (.mov), [.c (.int .i64 0)], none⟩]
abbrev r12_3 : List IOp := [⟨some 6, .op (.mov), [.t 0], none⟩,
  ⟨some 7, .op (.nilchk), [.t 6], none⟩,
  ⟨some 8, .op (.faddr 1), [.t 7], none⟩,
  ⟨some 9, .op (.load none), [.t 8], none⟩,
  ⟨some 10, .op (.len .map), [.t 9], none⟩,
  ⟨some 2, .op (.mov), [.t 10], none⟩]
abbrev c12 : IC := (IC.seq (IC.reg r12_0) (IC.seq (IC.seq (IC.reg r12_1) (IC.cond (.t 5) (IC.seq (IC.reg r12_2) IC.ret) IC.skip)) (IC.seq (IC.reg r12_3) IC.ret)))
abbrev g12 : FC := ⟨c12, 11, [.t 2]⟩
theorem comp12 : compF Go.Proofs.Tryz.prog (fun _ => 0) 12 = some g12 := by kernel_rfl

-- (*outlaw/index.Index).made
abbrev r28_0 : List IOp := [⟨some 2, .op (.mov), [.c (.bool false)], none⟩]
abbrev r28_1 : List IOp := [⟨some 3, .op (.mov), [.t 0], none⟩,
  ⟨some 4, .op (.bin .neq .ptr), [.t 3, .c (.nilp)], none⟩,
  ⟨some 5, .op (.mov), [.t 4], none⟩,
  ⟨some 6, .op (.mov), [.t 0], some (5, true)⟩,
  ⟨some 7, .op (.nilchk), [.t 6], some (5, true)⟩,
  ⟨some 8, .op (.faddr 1), [.t 7], some (5, true)⟩,
  ⟨some 9, .op (.load none), [.t 8], some (5, true)⟩,
  ⟨some 10, .op (.bin .neq .map), [.t 9, .c (.nilm)], some (5, true)⟩,
  ⟨some 11, .op (.pick), [.t 5, .t 10, .c (.bool false)], none⟩,
  ⟨some 2, .op (.mov), [.t 11], none⟩]
abbrev c28 : IC := (IC.seq (IC.reg r28_0) (IC.seq (IC.reg r28_1) IC.ret))
abbrev g28 : FC := ⟨c28, 12, [.t 2]⟩
theorem comp28 : compF Go.Proofs.Tryz.prog (fun _ => 0) 28 = some g28 := by kernel_rfl

-- outlaw/glob.Check
abbrev r29_0 : List IOp := [⟨some 2, .op (.mov), [.c (.int .i64 0)], none⟩]
abbrev r29_1 : List IOp := [⟨some 4, .op (.mov), [.t 0], none⟩,
  ⟨some 5, .op (.bin .eql .prim), [.t 4, .c (.str [])], none⟩,
  ⟨some 3, .op (.mov), [.t 5], none⟩]
abbrev r29_2 : List IOp := [⟨some 2, .op (.mov), [.c (.int .i64 2)], none⟩]
abbrev r29_3 : List IOp := [⟨some 7, .op (.mov), [.t 0], none⟩,
  ⟨some 8, .op (.len .str), [.t 7], none⟩,
  ⟨some 9, .op (.bin .gtr .prim), [.t 8, .c (.int .i64 255)], none⟩,
  ⟨some 6, .op (.mov), [.t 9], none⟩]
abbrev r29_4 : List IOp := [⟨some 2, .op (.mov), [.c (.int .i64 4)], none⟩]
abbrev r29_5 : List IOp := [⟨some 2, .op (.mov), [.c (.int .i64 0)], none⟩]
abbrev c29 : IC := (IC.seq (IC.reg r29_0) (IC.seq (IC.block 0 (IC.seq (IC.reg r29_1) (IC.cond (.t 3) (IC.seq (IC.reg r29_2) IC.ret) (IC.seq (IC.reg r29_3) (IC.cond (.t 6) (IC.seq (IC.reg r29_4) IC.ret) IC.skip))))) (IC.seq (IC.reg r29_5) IC.ret)))
abbrev g29 : FC := ⟨c29, 10, [.t 2]⟩
theorem comp29 : compF Go.Proofs.Tryz.prog (fun _ => 0) 29 = some g29 := by kernel_rfl

-- outlaw/glob.Literal
abbrev r30_0 : List IOp := [⟨some 2, .op (.mov), [.c (.str [])], none⟩,
  ⟨some 3, .op (.mov), [.c (.bool false)], none⟩]
abbrev r30_1 : List IOp := [⟨some 4, .op (.mov), [.t 0], none⟩,
  ⟨some 5, .op (.s2b 5), [.t 4], none⟩,
  ⟨some 6, .call none, [.f 53, .t 5, .c (.str [42, 63])], none⟩]
abbrev r30_2 : List IOp := [⟨some 2, .op (.mov), [.c (.str [])], none⟩,
  ⟨some 3, .op (.mov), [.c (.bool false)], none⟩]
abbrev r30_3 : List IOp := [⟨some 7, .op (.mov), [.t 0], none⟩,
  ⟨some 2, .op (.mov), [.t 7], none⟩,
  ⟨some 3, .op (.mov), [.c (.bool true)], none⟩]
abbrev c30 : IC := (IC.seq (IC.reg r30_0) (IC.seq (IC.seq (IC.reg r30_1) (IC.cond (.t 6) (IC.seq (IC.reg r30_2) IC.ret) IC.skip)) (IC.seq (IC.reg r30_3) IC.ret)))
abbrev g30 : FC := ⟨c30, 8, [.t 2, .t 3]⟩
theorem comp30 : compF Go.Proofs.Tryz.prog (fun _ => 0) 30 = some g30 := by kernel_rfl

-- (*outlaw/index.Index).lists
abbrev r31_0 : List IOp := [⟨some 3, .op (.box 55), [.t 1], none⟩,
  ⟨some 4, .op (.mov), [.c (.nilm)], none⟩,
  ⟨some 5, .op (.mov), [.c (.str [])], none⟩]
abbrev r31_1 : List IOp := [⟨some 6, .op (.faddr 2), [.t 3], none⟩,
  ⟨some 7, .op (.load none), [.t 6], none⟩]
abbrev r31_2 : List IOp := [⟨some 8, .op (.mov), [.t 0], none⟩,
  ⟨some 9, .op (.nilchk), [.t 8], none⟩,
  ⟨some 10, .op (.faddr 3), [.t 9], none⟩,
  ⟨some 11, .op (.load none), [.t 10], none⟩,
  ⟨some 12, .op (.faddr 1), [.t 3], none⟩,
  ⟨some 13, .op (.load none), [.t 12], none⟩,
  ⟨some 14, .call none, [.f 34, .t 13], none⟩,
  ⟨some 4, .op (.mov), [.t 11], none⟩,
  ⟨some 5, .op (.mov), [.t 14], none⟩]
abbrev r31_3 : List IOp := [⟨some 15, .op (.mov), [.t 0], none⟩,
  ⟨some 16, .op (.nilchk), [.t 15], none⟩,
  ⟨some 17, .op (.faddr 2), [.t 16], none⟩,
  ⟨some 18, .op (.load none), [.t 17], none⟩,
  ⟨some 19, .op (.faddr 1), [.t 3], none⟩,
  ⟨some 20, .op (.load none), [.t 19], none⟩,
  ⟨some 4, .op (.mov), [.t 18], none⟩,
  ⟨some 5, .op (.mov), [.t 20], none⟩]
abbrev c31 : IC := (IC.seq (IC.reg r31_0) (IC.seq (IC.seq (IC.reg r31_1) (IC.cond (.t 7) (IC.seq (IC.regD .alloc r31_2 (.take 0 (.take 1 (.take 2 (.take 3 (.take 4 (.take 5 (.take 6 (.take 7 (.take 8 (.done))))))))))) IC.ret) IC.skip)) (IC.seq (IC.regD .wild r31_3 (.take 0 (.take 1 (.take 2 (.take 3 (.take 4 (.take 5 (.take 6 (.take 7 (.done)))))))))) IC.ret)))
abbrev g31 : FC := ⟨c31, 21, [.t 4, .t 5]⟩
theorem comp31 : compF Go.Proofs.Tryz.prog (hintL [(2, 7), (3, 6)]) 31 = some g31 := by kernel_rfl

-- outlaw/dfa.New
abbrev r32_0 : List IOp := [⟨some 6, .op (.mov), [.c (.nilp)], none⟩,
  ⟨some 7, .op (.mov), [.c (.int .i64 0)], none⟩]
abbrev r32_1 : List IOp := [⟨some 13, .op (.mov), [.t 0], none⟩,
  ⟨some 14, .op (.mov), [.t 1], none⟩,
  ⟨some 15, .call none, [.f 54, .t 13, .t 14], none⟩,
  ⟨some 12, .op (.mov), [.t 15], none⟩,
  ⟨some 16, .op (.extract 0), [.t 12], none⟩,
  ⟨some 17, .op (.extract 1), [.t 12], none⟩,
  ⟨some 8, .op (.mov), [.t 16], none⟩,
  ⟨some 9, .op (.mov), [.t 17], none⟩]
abbrev r32_2 : List IOp := [⟨some 18, .op (.mov), [.t 9], none⟩,
  ⟨some 19, .op (.bin .neq .prim), [.t 18, .c (.int .i64 0)], none⟩]
abbrev r32_3 : List IOp := [⟨some 20, .op (.mov), [.t 9], none⟩,
  ⟨some 6, .op (.mov), [.c (.nilp)], none⟩,
  ⟨some 7, .op (.mov), [.t 20], none⟩]
abbrev r32_4 : List IOp := [⟨some 21, .op (.mov), [.t 2], none⟩,
  ⟨some 22, .op (.bin .lss .prim), [.t 21, .c (.int .i64 1)], none⟩,
  ⟨some 23, .op (.mov), [.t 22], none⟩,
  ⟨some 24, .op (.mov), [.t 2], some (23, false)⟩,
  ⟨some 25, .op (.bin .gtr .prim), [.t 24, .c (.int .i64 256)], some (23, false)⟩,
  ⟨some 26, .op (.pick), [.t 23, .c (.bool true), .t 25], none⟩]
abbrev r32_5 : List IOp := [⟨some 6, .op (.mov), [.c (.nilp)], none⟩,
  ⟨some 7, .op (.mov), [.c (.int .i64 2)], none⟩]
abbrev r32_6 : List IOp := [⟨some 28, .op (.mov), [.t 0], none⟩,
  ⟨some 29, .op (.mov), [.t 1], none⟩,
  ⟨some 30, .op (.mov), [.t 2], none⟩,
  ⟨some 31, .call none, [.f 55, .t 28, .t 29, .t 30], none⟩,
  ⟨some 27, .op (.mov), [.t 31], none⟩,
  ⟨some 32, .op (.extract 0), [.t 27], none⟩,
  ⟨some 33, .op (.extract 1), [.t 27], none⟩,
  ⟨some 10, .op (.alloc 103 [.nils, .nils, .nils]), [], none⟩,
  ⟨none, .op (.store 3), [.t 10, .t 32], none⟩,
  ⟨some 11, .op (.mov), [.t 33], none⟩]
abbrev r32_7 : List IOp := [⟨some 34, .op (.mov), [.t 11], none⟩]
abbrev r32_8 : List IOp := [⟨some 35, .op (.load (some 3)), [.t 10], none⟩,
  ⟨some 36, .op (.bst [.nils, .nils, .nils] [(0, 3)] [0]), [.t 35], none⟩,
  ⟨some 37, .op (.mkif 107), [.t 36], none⟩,
  ⟨some 38, .op (.bst [.nili] [(0, 1)] [0]), [.t 37], none⟩,
  ⟨some 39, .op (.box 111), [.t 38], none⟩,
  ⟨some 6, .op (.mov), [.t 39], none⟩,
  ⟨some 7, .op (.mov), [.c (.int .i64 0)], none⟩]
abbrev r32_9 : List IOp := [⟨some 40, .op (.mov), [.t 8], none⟩,
  ⟨some 41, .op (.bst [.nilp] [(0, 1)] [0]), [.t 40], none⟩,
  ⟨some 42, .op (.mkif 113), [.t 41], none⟩,
  ⟨some 43, .op (.bst [.nili] [(0, 1)] [0]), [.t 42], none⟩,
  ⟨some 44, .op (.box 111), [.t 43], none⟩,
  ⟨some 6, .op (.mov), [.t 44], none⟩,
  ⟨some 7, .op (.mov), [.c (.int .i64 0)], none⟩]
abbrev c32 : IC := (IC.seq (IC.reg r32_0) (IC.seq (IC.reg r32_1) (IC.seq (IC.seq (IC.reg r32_2) (IC.cond (.t 19) (IC.seq (IC.reg r32_3) IC.ret) IC.skip)) (IC.seq (IC.seq (IC.reg r32_4) (IC.cond (.t 26) (IC.seq (IC.reg r32_5) IC.ret) IC.skip)) (IC.seq (IC.seq (IC.reg r32_6) (IC.seq (IC.reg r32_7) (IC.cond (.t 34) (IC.seq (IC.reg r32_8) IC.ret) IC.skip))) (IC.seq (IC.reg r32_9) IC.ret))))))
abbrev g32 : FC := ⟨c32, 45, [.t 6, .t 7]⟩
theorem comp32 : compF Go.Proofs.Tryz.prog (fun _ => 0) 32 = some g32 := by kernel_rfl

-- outlaw/glob.Fold
abbrev r34_0 : List IOp := [⟨some 2, .op (.mov), [.c (.str [])], none⟩]
abbrev r34_1 : List IOp := [⟨some 5, .op (.mov), [.t 0], none⟩,
  ⟨some 6, .op (.s2b 5), [.t 5], none⟩,
  ⟨some 3, .op (.mov), [.t 6], none⟩]
abbrev r34_2 : List IOp := [⟨some 7, .op (.mov), [.t 3], none⟩,
  ⟨some 8, .op (.len .slice), [.t 7], none⟩,
  ⟨some 9, .op (.mov), [.c (.int .i64 0)], none⟩]
abbrev r34_3 : List IOp := [⟨some 10, .op (.bin .lss .prim), [.t 9, .t 8], none⟩]
abbrev r34_4 : List IOp := [⟨some 11, .op (.mov), [.t 9], none⟩,
  ⟨some 4, .op (.mov), [.t 11], none⟩]
abbrev r34_5 : List IOp := [⟨some 12, .op (.mov), [.t 3], none⟩,
  ⟨some 13, .op (.mov), [.t 4], none⟩,
  ⟨some 14, .op (.mov), [.t 3], none⟩,
  ⟨some 15, .op (.mov), [.t 4], none⟩,
  ⟨some 16, .op (.iaddr 1), [.t 14, .t 15], none⟩,
  ⟨some 17, .op (.load none), [.t 16], none⟩,
  ⟨some 18, .call none, [.f 57, .t 17], none⟩,
  ⟨some 19, .op (.iaddr 1), [.t 12, .t 13], none⟩,
  ⟨none, .op (.store 1), [.t 19, .t 18], none⟩]
abbrev r34_6 : List IOp := [⟨some 20, .op (.bin .add .prim), [.t 9, .c (.int .i64 1)], none⟩,
  ⟨some 9, .op (.mov), [.t 20], none⟩]
abbrev b34_0 : IC := (IC.seq (IC.reg r34_3) (IC.seq (IC.cond (.t 10) IC.skip (IC.exit 0)) (IC.seq (IC.block 1 (IC.seq (IC.reg r34_4) (IC.reg r34_5))) (IC.reg r34_6))))
abbrev r34_7 : List IOp := [⟨some 21, .op (.mov), [.t 3], none⟩,
  ⟨some 22, .op (.b2s), [.t 21], none⟩,
  ⟨some 2, .op (.mov), [.t 22], none⟩]
abbrev c34 : IC := (IC.seq (IC.reg r34_0) (IC.seq (IC.reg r34_1) (IC.seq (IC.seq (IC.reg r34_2) (IC.block 0 (IC.loop b34_0))) (IC.seq (IC.reg r34_7) IC.ret))))
abbrev g34 : FC := ⟨c34, 23, [.t 2]⟩
theorem comp34 : compF Go.Proofs.Tryz.prog (fun _ => 0) 34 = some g34 := by kernel_rfl

-- slices.Concat[[]int,int]
abbrev r33_0 : List IOp := [⟨some 2, .op (.mov), [.c (.nils)], none⟩]
abbrev r33_1 : List IOp := [⟨some 3, .op (.mov), [.c (.int .i64 0)], none⟩]
abbrev r33_2 : List IOp := [⟨some 9, .op (.mov), [.t 0], none⟩,
  ⟨some 10, .op (.len .slice), [.t 9], none⟩,
  ⟨some 11, .op (.mov), [.c (.int .i64 0)], none⟩]
abbrev r33_3 : List IOp := [⟨some 12, .op (.bin .lss .prim), [.t 11, .t 10], none⟩]
abbrev r33_4 : List IOp := [⟨some 13, .op (.iaddr 1), [.t 9, .t 11], none⟩,
  ⟨some 14, .op (.load none), [.t 13], none⟩,
  ⟨some 5, .op (.mov), [.t 14], none⟩]
abbrev r33_5 : List IOp := [⟨some 15, .op (.mov), [.t 3], none⟩,
  ⟨some 16, .op (.mov), [.t 5], none⟩,
  ⟨some 17, .op (.len .slice), [.t 16], none⟩,
  ⟨some 18, .op (.bin .add .prim), [.t 15, .t 17], none⟩,
  ⟨some 3, .op (.mov), [.t 18], none⟩]
abbrev r33_6 : List IOp := [⟨some 19, .op (.mov), [.t 3], none⟩,
  ⟨some 20, .op (.bin .lss .prim), [.t 19, .c (.int .i64 0)], none⟩]
abbrev r33_7 : List IOp := [⟨some 21, .op (.mkif 9), [.c (.str [108, 101, 110, 32, 111, 117, 116, 32, 111, 102, 32, 114, 97, 110, 103, 101])], none⟩,
  ⟨none, .op (.never), [], none⟩]
abbrev r33_8 : List IOp := [⟨some 22, .op (.bin .add .prim), [.t 11, .c (.int .i64 1)], none⟩,
  ⟨some 11, .op (.mov), [.t 22], none⟩]
abbrev b33_0 : IC := (IC.seq (IC.reg r33_3) (IC.seq (IC.cond (.t 12) IC.skip (IC.exit 0)) (IC.seq (IC.block 1 (IC.seq (IC.reg r33_4) (IC.seq (IC.reg r33_5) (IC.seq (IC.reg r33_6) (IC.cond (.t 20) (IC.reg r33_7) IC.skip))))) (IC.reg r33_8))))
abbrev r33_9 : List IOp := [⟨some 23, .op (.mov), [.t 3], none⟩,
  ⟨some 24, .call none, [.f 56, .c (.nils), .t 23], none⟩,
  ⟨some 6, .op (.mov), [.t 24], none⟩]
abbrev r33_10 : List IOp := [⟨some 25, .op (.mov), [.t 0], none⟩,
  ⟨some 26, .op (.len .slice), [.t 25], none⟩,
  ⟨some 27, .op (.mov), [.c (.int .i64 0)], none⟩]
abbrev r33_11 : List IOp := [⟨some 28, .op (.bin .lss .prim), [.t 27, .t 26], none⟩]
abbrev r33_12 : List IOp := [⟨some 29, .op (.iaddr 1), [.t 25, .t 27], none⟩,
  ⟨some 30, .op (.load none), [.t 29], none⟩,
  ⟨some 8, .op (.mov), [.t 30], none⟩]
abbrev r33_13 : List IOp := [⟨some 31, .op (.mov), [.t 6], none⟩,
  ⟨some 32, .op (.mov), [.t 8], none⟩,
  ⟨some 33, .op (.app 3 1 8), [.t 31, .t 32], none⟩,
  ⟨some 6, .op (.mov), [.t 33], none⟩]
abbrev r33_14 : List IOp := [⟨some 34, .op (.bin .add .prim), [.t 27, .c (.int .i64 1)], none⟩,
  ⟨some 27, .op (.mov), [.t 34], none⟩]
abbrev b33_1 : IC := (IC.seq (IC.reg r33_11) (IC.seq (IC.cond (.t 28) IC.skip (IC.exit 2)) (IC.seq (IC.block 3 (IC.seq (IC.reg r33_12) (IC.reg r33_13))) (IC.reg r33_14))))
abbrev r33_15 : List IOp := [⟨some 35, .op (.mov), [.t 6], none⟩,
  ⟨some 2, .op (.mov), [.t 35], none⟩]
abbrev c33 : IC := (IC.seq (IC.reg r33_0) (IC.seq (IC.reg r33_1) (IC.seq (IC.seq (IC.reg r33_2) (IC.block 0 (IC.loop b33_0))) (IC.seq (IC.reg r33_9) (IC.seq (IC.seq (IC.reg r33_10) (IC.block 2 (IC.loop b33_1))) (IC.seq (IC.reg r33_15) IC.ret))))))
abbrev g33 : FC := ⟨c33, 36, [.t 2]⟩
theorem comp33 : compF Go.Proofs.Tryz.prog (fun _ => 0) 33 = some g33 := by kernel_rfl

-- maps.Keys[map[int]*outlaw/index.entry,int,*outlaw/index.entry]
abbrev r36_0 : List IOp := [⟨some 1, .op (.box 49), [.t 0], none⟩,
  ⟨some 2, .op (.mov), [.c (.nilf)], none⟩]
abbrev r36_1 : List IOp := [⟨some 3, .op (.mkfn 59), [.t 1], none⟩,
  ⟨some 2, .op (.mov), [.t 3], none⟩]
abbrev c36 : IC := (IC.seq (IC.reg r36_0) (IC.seq (IC.reg r36_1) IC.ret))
abbrev g36 : FC := ⟨c36, 4, [.t 2]⟩
theorem comp36 : compF Go.Proofs.Tryz.prog (fun _ => 0) 36 = some g36 := by kernel_rfl

-- slices.Sorted[int]
abbrev r35_0 : List IOp := [⟨some 2, .op (.mov), [.c (.nils)], none⟩]
abbrev r35_1 : List IOp := [⟨some 4, .op (.mov), [.t 0], none⟩,
  ⟨some 5, .call none, [.f 58, .t 4], none⟩,
  ⟨some 3, .op (.mov), [.t 5], none⟩]
abbrev r35_2 : List IOp := [⟨some 6, .op (.mov), [.t 3], none⟩,
  ⟨some 7, .call none, [.f 38, .t 6], none⟩]
abbrev r35_3 : List IOp := [⟨some 8, .op (.mov), [.t 3], none⟩,
  ⟨some 2, .op (.mov), [.t 8], none⟩]
abbrev c35 : IC := (IC.seq (IC.reg r35_0) (IC.seq (IC.reg r35_1) (IC.seq (IC.reg r35_2) (IC.seq (IC.reg r35_3) IC.ret))))
abbrev g35 : FC := ⟨c35, 9, [.t 2]⟩
theorem comp35 : compF Go.Proofs.Tryz.prog (fun _ => 0) 35 = some g35 := by kernel_rfl

-- (*outlaw/dfa.Auto).Match
abbrev r37_0 : List IOp := [⟨some 4, .op (.mov), [.c (.bool false)], none⟩]
abbrev r37_1 : List IOp := [⟨some 5, .op (.mov), [.t 0], none⟩,
  ⟨some 6, .op (.bin .neq .ptr), [.t 5, .c (.nilp)], none⟩,
  ⟨some 7, .op (.mov), [.t 6], none⟩,
  ⟨some 8, .op (.mov), [.t 0], some (7, true)⟩,
  ⟨some 9, .op (.nilchk), [.t 8], some (7, true)⟩,
  ⟨some 10, .op (.faddr 0), [.t 9], some (7, true)⟩,
  ⟨some 11, .op (.load none), [.t 10], some (7, true)⟩,
  ⟨some 12, .op (.bin .neq (.iface true)), [.t 11, .c (.nili)], some (7, true)⟩,
  ⟨some 13, .op (.pick), [.t 7, .t 12, .c (.bool false)], none⟩,
  ⟨some 14, .op (.mov), [.t 13], none⟩,
  ⟨some 15, .op (.mov), [.t 0], some (14, true)⟩,
  ⟨some 16, .op (.nilchk), [.t 15], some (14, true)⟩,
  ⟨some 17, .op (.faddr 0), [.t 16], some (14, true)⟩,
  ⟨some 18, .op (.load none), [.t 17], some (14, true)⟩,
  ⟨some 19, .op (.mov), [.t 1], some (14, true)⟩,
  ⟨some 20, .call (some [(107, 233), (113, 236)]), [.t 18, .t 19], some (14, true)⟩,
  ⟨some 21, .op (.pick), [.t 14, .t 20, .c (.bool false)], none⟩,
  ⟨some 4, .op (.mov), [.t 21], none⟩]
abbrev c37 : IC := (IC.seq (IC.reg r37_0) (IC.seq (IC.reg r37_1) IC.ret))
abbrev g37 : FC := ⟨c37, 22, [.t 4]⟩
theorem comp37 : compF Go.Proofs.Tryz.prog (fun _ => 0) 37 = some g37 := by kernel_rfl

-- slices.Sort[[]int,int]
abbrev r38_0 : List IOp := [⟨some 3, .op (.mov), [.t 0], none⟩,
  ⟨some 4, .op (.len .slice), [.t 3], none⟩,
  ⟨some 2, .op (.mov), [.t 4], none⟩]
abbrev r38_1 : List IOp := [⟨some 5, .op (.mov), [.t 0], none⟩,
  ⟨some 6, .op (.mov), [.t 2], none⟩,
  ⟨some 7, .op (.mov), [.t 2], none⟩,
  ⟨some 8, .op (.toInt .u64), [.t 7], none⟩,
  ⟨some 9, .call none, [.f 61, .t 8], none⟩,
  ⟨some 10, .call none, [.f 60, .t 5, .c (.int .i64 0), .t 6, .t 9], none⟩]
abbrev c38 : IC := (IC.seq (IC.reg r38_0) (IC.reg r38_1))
abbrev g38 : FC := ⟨c38, 11, []⟩
theorem comp38 : compF Go.Proofs.Tryz.prog (fun _ => 0) 38 = some g38 := by kernel_rfl

-- (*outlaw/index.Index).Drop$1
abbrev r40_0 : List IOp := [⟨some 3, .op (.mov), [.c (.bool false)], none⟩]
abbrev r40_1 : List IOp := [⟨some 4, .op (.mov), [.t 0], none⟩,
  ⟨some 5, .op (.load none), [.t 1], none⟩,
  ⟨some 6, .op (.bin .eql .prim), [.t 4, .t 5], none⟩,
  ⟨some 3, .op (.mov), [.t 6], none⟩]
abbrev c40 : IC := (IC.seq (IC.reg r40_0) (IC.seq (IC.reg r40_1) IC.ret))
abbrev g40 : FC := ⟨c40, 7, [.t 3]⟩
theorem comp40 : compF Go.Proofs.Tryz.prog (fun _ => 0) 40 = some g40 := by kernel_rfl

-- slices.DeleteFunc[[]int,int]
abbrev r39_0 : List IOp := [⟨some 4, .op (.mov), [.c (.nils)], none⟩]
abbrev r39_1 : List IOp := [⟨some 8, .op (.mov), [.t 0], none⟩,
  ⟨some 9, .op (.mov), [.t 1], none⟩,
  ⟨some 10, .call none, [.f 62, .t 8, .t 9], none⟩,
  ⟨some 5, .op (.mov), [.t 10], none⟩]
abbrev r39_2 : List IOp := [⟨some 11, .op (.mov), [.t 5], none⟩,
  ⟨some 12, .op (.bin .eql .prim), [.t 11, .c (.int .i64 (-1))], none⟩]
abbrev r39_3 : List IOp := [⟨some 13, .op (.mov), [.t 0], none⟩,
  ⟨some 4, .op (.mov), [.t 13], none⟩]
abbrev r39_4 : List IOp := [⟨some 14, .op (.mov), [.t 5], none⟩,
  ⟨some 15, .op (.bin .add .prim), [.t 14, .c (.int .i64 1)], none⟩,
  ⟨some 6, .op (.mov), [.t 15], none⟩]
abbrev r39_5 : List IOp := [⟨some 16, .op (.mov), [.t 6], none⟩,
  ⟨some 17, .op (.mov), [.t 0], none⟩,
  ⟨some 18, .op (.len .slice), [.t 17], none⟩,
  ⟨some 19, .op (.bin .lss .prim), [.t 16, .t 18], none⟩]
abbrev r39_6 : List IOp := [⟨some 22, .op (.mov), [.t 0], none⟩,
  ⟨some 23, .op (.mov), [.t 6], none⟩,
  ⟨some 24, .op (.iaddr 1), [.t 22, .t 23], none⟩,
  ⟨some 25, .op (.load none), [.t 24], none⟩,
  ⟨some 7, .op (.mov), [.t 25], none⟩]
abbrev r39_7 : List IOp := [⟨some 26, .op (.mov), [.t 1], none⟩,
  ⟨some 27, .op (.mov), [.t 7], none⟩,
  ⟨some 28, .call none, [.t 26, .t 27], none⟩,
  ⟨some 29, .op (.un .not), [.t 28], none⟩]
abbrev r39_8 : List IOp := [⟨some 30, .op (.mov), [.t 0], none⟩,
  ⟨some 31, .op (.mov), [.t 5], none⟩,
  ⟨some 32, .op (.mov), [.t 7], none⟩,
  ⟨some 33, .op (.iaddr 1), [.t 30, .t 31], none⟩,
  ⟨none, .op (.store 1), [.t 33, .t 32], none⟩]
abbrev r39_9 : List IOp := [⟨some 34, .op (.mov), [.t 5], none⟩,
  ⟨some 35, .op (.bin .add .prim), [.t 34, .c (.int .i64 1)], none⟩,
  ⟨some 5, .op (.mov), [.t 35], none⟩]
abbrev r39_10 : List IOp := [⟨some 20, .op (.mov), [.t 6], none⟩,
  ⟨some 21, .op (.bin .add .prim), [.t 20, .c (.int .i64 1)], none⟩,
  ⟨some 6, .op (.mov), [.t 21], none⟩]
abbrev b39_0 : IC := (IC.seq (IC.seq (IC.reg r39_5) (IC.cond (.t 19) IC.skip (IC.exit 0))) (IC.seq (IC.block 1 (IC.seq (IC.reg r39_6) (IC.seq (IC.reg r39_7) (IC.cond (.t 29) (IC.seq (IC.reg r39_8) (IC.reg r39_9)) IC.skip)))) (IC.reg r39_10)))
abbrev r39_11 : List IOp := [⟨some 36, .op (.mov), [.t 0], none⟩,
  ⟨some 37, .op (.mov), [.t 5], none⟩,
  ⟨some 38, .op (.slice 1 true false false), [.t 36, .t 37], none⟩,
  ⟨none, .op (.clear [.int .i64 0]), [.t 38], none⟩]
abbrev r39_12 : List IOp := [⟨some 39, .op (.mov), [.t 0], none⟩,
  ⟨some 40, .op (.mov), [.t 5], none⟩,
  ⟨some 41, .op (.slice 1 false true false), [.t 39, .t 40], none⟩,
  ⟨some 4, .op (.mov), [.t 41], none⟩]
abbrev c39 : IC := (IC.seq (IC.reg r39_0) (IC.seq (IC.reg r39_1) (IC.seq (IC.seq (IC.reg r39_2) (IC.cond (.t 12) (IC.seq (IC.reg r39_3) IC.ret) IC.skip)) (IC.seq (IC.seq (IC.reg r39_4) (IC.block 0 (IC.loop b39_0))) (IC.seq (IC.reg r39_11) (IC.seq (IC.reg r39_12) IC.ret))))))
abbrev g39 : FC := ⟨c39, 42, [.t 4]⟩
theorem comp39 : compF Go.Proofs.Tryz.prog (fun _ => 0) 39 = some g39 := by kernel_rfl

-- bytes.ContainsAny
abbrev r53_0 : List IOp := [⟨some 4, .op (.mov), [.c (.bool false)], none⟩]
abbrev r53_1 : List IOp := [⟨some 5, .op (.mov), [.t 0], none⟩,
  ⟨some 6, .op (.mov), [.t 1], none⟩,
  ⟨some 7, .call none, [.f 82, .t 5, .t 6], none⟩,
  ⟨some 8, .op (.bin .geq .prim), [.t 7, .c (.int .i64 0)], none⟩,
  ⟨some 4, .op (.mov), [.t 8], none⟩]
abbrev c53 : IC := (IC.seq (IC.reg r53_0) (IC.seq (IC.reg r53_1) IC.ret))
abbrev g53 : FC := ⟨c53, 9, [.t 4]⟩
theorem comp53 : compF Go.Proofs.Tryz.prog (fun _ => 0) 53 = some g53 := by kernel_rfl

-- outlaw/nfa.New
abbrev r54_0 : List IOp := [⟨some 4, .op (.mov), [.c (.nilp)], none⟩,
  ⟨some 5, .op (.mov), [.c (.int .i64 0)], none⟩]
abbrev r54_1 : List IOp := [⟨some 7, .op (.mov), [.t 0], none⟩,
  ⟨some 8, .call none, [.f 29, .t 7], none⟩,
  ⟨some 6, .op (.mov), [.t 8], none⟩]
abbrev r54_2 : List IOp := [⟨some 9, .op (.mov), [.t 6], none⟩,
  ⟨some 10, .op (.bin .neq .prim), [.t 9, .c (.int .i64 0)], none⟩]
abbrev r54_3 : List IOp := [⟨some 11, .op (.mov), [.t 6], none⟩,
  ⟨some 4, .op (.mov), [.c (.nilp)], none⟩,
  ⟨some 5, .op (.mov), [.t 11], none⟩]
abbrev r54_4 : List IOp := [⟨some 12, .op (.mov), [.t 0], none⟩,
  ⟨some 13, .call none, [.f 83, .t 12], none⟩,
  ⟨some 14, .op (.mov), [.t 1], none⟩,
  ⟨some 15, .op (.bst [.str [], .bool false] [(0, 1), (1, 1)] [0, 1]), [.t 13, .t 14], none⟩,
  ⟨some 16, .op (.box 131), [.t 15], none⟩,
  ⟨some 4, .op (.mov), [.t 16], none⟩,
  ⟨some 5, .op (.mov), [.c (.int .i64 0)], none⟩]
abbrev c54 : IC := (IC.seq (IC.reg r54_0) (IC.seq (IC.seq (IC.reg r54_1) (IC.seq (IC.reg r54_2) (IC.cond (.t 10) (IC.seq (IC.reg r54_3) IC.ret) IC.skip))) (IC.seq (IC.reg r54_4) IC.ret)))
abbrev g54 : FC := ⟨c54, 17, [.t 4, .t 5]⟩
theorem comp54 : compF Go.Proofs.Tryz.prog (fun _ => 0) 54 = some g54 := by kernel_rfl

-- outlaw/dfa.Build
abbrev r55_0 : List IOp := [⟨some 6, .op (.alloc 103 [.nils, .nils, .nils]), [], none⟩,
  ⟨some 7, .op (.mov), [.c (.bool false)], none⟩]
abbrev r55_1 : List IOp := [⟨some 23, .op (.mov), [.t 0], none⟩,
  ⟨some 24, .op (.mov), [.t 1], none⟩,
  ⟨some 25, .call none, [.f 54, .t 23, .t 24], none⟩,
  ⟨some 22, .op (.mov), [.t 25], none⟩,
  ⟨some 26, .op (.extract 0), [.t 22], none⟩,
  ⟨some 27, .op (.extract 1), [.t 22], none⟩,
  ⟨some 8, .op (.mov), [.t 26], none⟩,
  ⟨some 9, .op (.mov), [.t 27], none⟩]
abbrev r55_2 : List IOp := [⟨some 28, .op (.mov), [.t 9], none⟩,
  ⟨some 29, .op (.bin .neq .prim), [.t 28, .c (.int .i64 0)], none⟩,
  ⟨some 30, .op (.mov), [.t 29], none⟩,
  ⟨some 31, .op (.mov), [.t 2], some (30, false)⟩,
  ⟨some 32, .op (.bin .lss .prim), [.t 31, .c (.int .i64 1)], some (30, false)⟩,
  ⟨some 33, .op (.pick), [.t 30, .c (.bool true), .t 32], none⟩,
  ⟨some 34, .op (.mov), [.t 33], none⟩,
  ⟨some 35, .op (.mov), [.t 2], some (34, false)⟩,
  ⟨some 36, .op (.bin .gtr .prim), [.t 35, .c (.int .i64 256)], some (34, false)⟩,
  ⟨some 37, .op (.pick), [.t 34, .c (.bool true), .t 36], none⟩]
abbrev r55_3 : List IOp := [⟨some 38, .op (.bst [.nils, .nils, .nils] [(0, 1), (1, 1), (2, 1)] []), [], none⟩,
  ⟨none, .op (.store 3), [.t 6, .t 38], none⟩,
  ⟨some 7, .op (.mov), [.c (.bool false)], none⟩]
abbrev r55_4 : List IOp := [⟨some 40, .op (.mov), [.t 8], none⟩,
  ⟨some 41, .call none, [.f 84, .t 40], none⟩,
  ⟨some 39, .op (.mov), [.t 41], none⟩,
  ⟨some 42, .op (.extract 0), [.t 39], none⟩,
  ⟨some 43, .op (.extract 1), [.t 39], none⟩,
  ⟨some 10, .op (.mov), [.t 42], none⟩,
  ⟨some 11, .op (.mov), [.t 43], none⟩]
abbrev r55_5 : List IOp := [⟨some 45, .op (.mov), [.t 10], none⟩,
  ⟨some 46, .op (.mov), [.t 1], none⟩,
  ⟨some 47, .call none, [.f 85, .t 45, .t 46], none⟩,
  ⟨some 44, .op (.mov), [.t 47], none⟩,
  ⟨some 48, .op (.extract 0), [.t 44], none⟩,
  ⟨some 49, .op (.extract 1), [.t 44], none⟩,
  ⟨some 12, .op (.alloc 133 [.int .i64 0, .int .i64 0, .int .i64 0, .int .i64 0, .int .i64 0, .int .i64 0, .int .i64 0, .int .i64 0, .int .i64 0, .int .i64 0, .int .i64 0, .int .i64 0, .int .i64 0, .int .i64 0, .int .i64 0, .int .i64 0, .int .i64 0, .int .i64 0, .int .i64 0, .int .i64 0, .int .i64 0, .int .i64 0, .int .i64 0, .int .i64 0, .int .i64 0, .int .i64 0, .int .i64 0, .int .i64 0, .int .i64 0, .int .i64 0, .int .i64 0, .int .i64 0, .int .i64 0, .int .i64 0, .int .i64 0, .int .i64 0, .int .i64 0, .int .i64 0, .int .i64 0, .int .i64 0, .int .i64 0, .int .i64 0, .int .i64 0, .int .i64 0, .int .i64 0, .int .i64 0, .int .i64 0, .int .i64 0, .int .i64 0, .int .i64 0, .int .i64 0, .int .i64 0, .int .i64 0, .int .i64 0, .int .i64 0, .int .i64 0, .int .i64 0, .int .i64 0, .int .i64 0, .int .i64 0, .int .i64 0, .int .i64 0, .int .i64 0, .int .i64 0, .int .i64 0, .int .i64 0, .int .i64 0, .int .i64 0, .int .i64 0, .int .i64 0, .int .i64 0, .int .i64 0, .int .i64 0, .int .i64 0, .int .i64 0, .int .i64 0, .int .i64 0, .int .i64 0, .int .i64 0, .int .i64 0, .int .i64 0, .int .i64 0, .int .i64 0, .int .i64 0, .int .i64 0, .int .i64 0, .int .i64 0, .int .i64 0, .int .i64 0, .int .i64 0, .int .i64 0, .int .i64 0, .int .i64 0, .int .i64 0, .int .i64 0, .int .i64 0, .int .i64 0, .int .i64 0, .int .i64 0, .int .i64 0, .int .i64 0, .int .i64 0, .int .i64 0, .int .i64 0, .int .i64 0, .int .i64 0, .int .i64 0, .int .i64 0, .int .i64 0, .int .i64 0, .int .i64 0, .int .i64 0, .int .i64 0, .int .i64 0, .int .i64 0, .int .i64 0, .int .i64 0, .int .i64 0, .int .i64 0, .int .i64 0, .int .i64 0, .int .i64 0, .int .i64 0, .int .i64 0, .int .i64 0, .int .i64 0, .int .i64 0, .int .i64 0, .int .i64 0, .int .i64 0, .int .i64 0, .int .i64 0, .int .i64 0, .int .i64 0, .int .i64 0, .int .i64 0, .int .i64 0, .int .i64 0, .int .i64 0, .int .i64 0, .int .i64 0, .int .i64 0, .int .i64 0, .int .i64 0, .int .i64 0, .int .i64 0, .int .i64 0, .int .i64 0, .int .i64 0, .int .i64 0, .int .i64 0, .int .i64 0, .int .i64 0, .int .i64 0, .int .i64 0, .int .i64 0, .int .i64 0, .int .i64 0, .int .i64 0, .int .i64 0, .int .i64 0, .int .i64 0, .int .i64 0, .int .i64 0, .int .i64 0, .int .i64 0, .int .i64 0, .int .i64 0, .int .i64 0, .int .i64 0, .int .i64 0, .int .i64 0, .int .i64 0, .int .i64 0, .int .i64 0, .int .i64 0, .int .i64 0, .int .i64 0, .int .i64 0, .int .i64 0, .int .i64 0, .int .i64 0, .int .i64 0, .int .i64 0, .int .i64 0, .int .i64 0, .int .i64 0, .int .i64 0, .int .i64 0, .int .i64 0, .int .i64 0, .int .i64 0, .int .i64 0, .int .i64 0, .int .i64 0, .int .i64 0, .int .i64 0, .int .i64 0, .int .i64 0, .int .i64 0, .int .i64 0, .int .i64 0, .int .i64 0, .int .i64 0, .int .i64 0, .int .i64 0, .int .i64 0, .int .i64 0, .int .i64 0, .int .i64 0, .int .i64 0, .int .i64 0, .int .i64 0, .int .i64 0, .int .i64 0, .int .i64 0, .int .i64 0, .int .i64 0, .int .i64 0, .int .i64 0, .int .i64 0, .int .i64 0, .int .i64 0, .int .i64 0, .int .i64 0, .int .i64 0, .int .i64 0, .int .i64 0, .int .i64 0, .int .i64 0, .int .i64 0, .int .i64 0, .int .i64 0, .int .i64 0, .int .i64 0, .int .i64 0, .int .i64 0, .int .i64 0, .int .i64 0, .int .i64 0, .int .i64 0, .int .i64 0, .int .i64 0, .int .i64 0, .int .i64 0, .int .i64 0, .int .i64 0, .int .i64 0, .int .i64 0, .int .i64 0, .int .i64 0, .int .i64 0, .int .i64 0, .int .i64 0, .int .i64 0, .int .i64 0]), [], none⟩,
  ⟨none, .op (.store 256), [.t 12, .t 48], none⟩,
  ⟨some 13, .op (.mov), [.t 49], none⟩]
abbrev r55_6 : List IOp := [⟨some 50, .op (.aslice 256 1 false false false), [.t 12], none⟩,
  ⟨some 51, .op (.bst [.nils, .nils, .nils] [(0, 1), (1, 1), (2, 1)] [0]), [.t 50], none⟩,
  ⟨some 14, .op (.alloc 103 [.nils, .nils, .nils]), [], none⟩,
  ⟨none, .op (.store 3), [.t 14, .t 51], none⟩]
abbrev r55_7 : List IOp := [⟨some 52, .op (.mkmap false), [], none⟩,
  ⟨some 15, .op (.alloc 136 [.nilm]), [], none⟩,
  ⟨none, .op (.store 1), [.t 15, .t 52], none⟩]
abbrev r55_8 : List IOp := [⟨some 16, .op (.alloc 100 [.nils]), [], none⟩]
abbrev r55_9 : List IOp := [⟨some 53, .op (.mkfn 86), [.t 15, .t 16], none⟩,
  ⟨some 17, .op (.mov), [.t 53], none⟩]
abbrev r55_10 : List IOp := [⟨some 54, .op (.mov), [.t 17], none⟩,
  ⟨some 55, .op (.mov), [.t 8], none⟩,
  ⟨some 56, .call none, [.f 88, .t 55], none⟩,
  ⟨some 57, .call none, [.t 54, .t 56], none⟩]
abbrev r55_11 : List IOp := [⟨some 18, .op (.mov), [.c (.int .i64 0)], none⟩]
abbrev r55_12 : List IOp := [⟨some 58, .op (.mov), [.t 18], none⟩,
  ⟨some 59, .op (.load none), [.t 16], none⟩,
  ⟨some 60, .op (.len .slice), [.t 59], none⟩,
  ⟨some 61, .op (.bin .lss .prim), [.t 58, .t 60], none⟩]
abbrev r55_13 : List IOp := [⟨some 64, .op (.load none), [.t 16], none⟩,
  ⟨some 65, .op (.len .slice), [.t 64], none⟩,
  ⟨some 66, .op (.mov), [.t 2], none⟩,
  ⟨some 67, .op (.bin .gtr .prim), [.t 65, .t 66], none⟩]
abbrev r55_14 : List IOp := [⟨some 68, .op (.bst [.nils, .nils, .nils] [(0, 1), (1, 1), (2, 1)] []), [], none⟩,
  ⟨none, .op (.store 3), [.t 6, .t 68], none⟩,
  ⟨some 7, .op (.mov), [.c (.bool false)], none⟩]
abbrev r55_15 : List IOp := [⟨some 19, .op (.mov), [.c (.nils)], none⟩]
abbrev r55_16 : List IOp := [⟨some 69, .op (.mov), [.t 13], none⟩,
  ⟨some 70, .op (.len .slice), [.t 69], none⟩,
  ⟨some 71, .op (.mov), [.c (.int .i64 0)], none⟩]
abbrev r55_17 : List IOp := [⟨some 72, .op (.bin .lss .prim), [.t 71, .t 70], none⟩]
abbrev r55_18 : List IOp := [⟨some 73, .op (.iaddr 1), [.t 69, .t 71], none⟩,
  ⟨some 74, .op (.load none), [.t 73], none⟩,
  ⟨some 21, .op (.mov), [.t 74], none⟩]
abbrev r55_19 : List IOp := [⟨some 75, .op (.mov), [.t 21], none⟩,
  ⟨some 76, .op (.bin .lss .prim), [.t 75, .c (.int .i64 0)], none⟩]
abbrev r55_20 : List IOp := [⟨some 77, .op (.mov), [.t 19], none⟩,
  ⟨some 78, .op (.bsl 3 1 false), [.c (.int .i64 0)], none⟩,
  ⟨some 79, .op (.app 3 1 8), [.t 77, .t 78], none⟩,
  ⟨some 19, .op (.mov), [.t 79], none⟩]
abbrev r55_21 : List IOp := [⟨some 80, .op (.mov), [.t 19], none⟩,
  ⟨some 81, .op (.mov), [.t 17], none⟩,
  ⟨some 82, .op (.mov), [.t 8], none⟩,
  ⟨some 83, .op (.load none), [.t 16], none⟩,
  ⟨some 84, .op (.mov), [.t 18], none⟩,
  ⟨some 85, .op (.iaddr 1), [.t 83, .t 84], none⟩,
  ⟨some 86, .op (.load none), [.t 85], none⟩,
  ⟨some 87, .op (.mov), [.t 21], none⟩,
  ⟨some 88, .op (.toInt .u8), [.t 87], none⟩,
  ⟨some 89, .call none, [.f 89, .t 82, .t 86, .t 88], none⟩,
  ⟨some 90, .call none, [.t 81, .t 89], none⟩,
  ⟨some 91, .op (.bsl 3 1 false), [.t 90], none⟩,
  ⟨some 92, .op (.app 3 1 8), [.t 80, .t 91], none⟩,
  ⟨some 19, .op (.mov), [.t 92], none⟩]
abbrev r55_22 : List IOp := [⟨some 93, .op (.bin .add .prim), [.t 71, .c (.int .i64 1)], none⟩,
  ⟨some 71, .op (.mov), [.t 93], none⟩]
abbrev b55_0 : IC := (IC.seq (IC.reg r55_17) (IC.seq (IC.cond (.t 72) IC.skip (IC.exit 2)) (IC.seq (IC.block 3 (IC.seq (IC.reg r55_18) (IC.seq (IC.seq (IC.reg r55_19) (IC.cond (.t 76) (IC.seq (IC.reg r55_20) (IC.exit 3)) IC.skip)) (IC.reg r55_21)))) (IC.reg r55_22))))
abbrev r55_23 : List IOp := [⟨some 94, .op (.faddr 1), [.t 14], none⟩,
  ⟨some 95, .op (.load none), [.t 94], none⟩,
  ⟨some 96, .op (.mov), [.t 19], none⟩,
  ⟨some 97, .op (.bsl 28 1 false), [.t 96], none⟩,
  ⟨some 98, .op (.app 28 1 24), [.t 95, .t 97], none⟩,
  ⟨some 99, .op (.faddr 1), [.t 14], none⟩,
  ⟨none, .op (.store 1), [.t 99, .t 98], none⟩]
abbrev r55_24 : List IOp := [⟨some 100, .op (.faddr 2), [.t 14], none⟩,
  ⟨some 101, .op (.load none), [.t 100], none⟩,
  ⟨some 102, .op (.mov), [.t 8], none⟩,
  ⟨some 103, .op (.load none), [.t 16], none⟩,
  ⟨some 104, .op (.mov), [.t 18], none⟩,
  ⟨some 105, .op (.iaddr 1), [.t 103, .t 104], none⟩,
  ⟨some 106, .op (.load none), [.t 105], none⟩,
  ⟨some 107, .call none, [.f 90, .t 102, .t 106], none⟩,
  ⟨some 108, .op (.bsl 4 1 false), [.t 107], none⟩,
  ⟨some 109, .op (.app 4 1 1), [.t 101, .t 108], none⟩,
  ⟨some 110, .op (.faddr 2), [.t 14], none⟩,
  ⟨none, .op (.store 1), [.t 110, .t 109], none⟩]
abbrev r55_25 : List IOp := [⟨some 62, .op (.mov), [.t 18], none⟩,
  ⟨some 63, .op (.bin .add .prim), [.t 62, .c (.int .i64 1)], none⟩,
  ⟨some 18, .op (.mov), [.t 63], none⟩]
abbrev b55_1 : IC := (IC.seq (IC.seq (IC.reg r55_12) (IC.cond (.t 61) IC.skip (IC.exit 0))) (IC.seq (IC.block 1 (IC.seq (IC.seq (IC.reg r55_13) (IC.cond (.t 67) (IC.seq (IC.reg r55_14) IC.ret) IC.skip)) (IC.seq (IC.reg r55_15) (IC.seq (IC.seq (IC.reg r55_16) (IC.block 2 (IC.loop b55_0))) (IC.seq (IC.reg r55_23) (IC.regD .alloc r55_24 (.take 0 (.take 1 (.take 2 (.take 3 (.take 4 (.take 5 (.take 6 (.take 7 (.take 8 (.take 9 (.take 10 (.take 11 (.done))))))))))))))))))) (IC.reg r55_25)))
abbrev r55_26 : List IOp := [⟨some 111, .op (.load (some 3)), [.t 14], none⟩,
  ⟨none, .op (.store 3), [.t 6, .t 111], none⟩,
  ⟨some 7, .op (.mov), [.c (.bool true)], none⟩]
abbrev c55 : IC := (IC.seq (IC.reg r55_0) (IC.seq (IC.reg r55_1) (IC.seq (IC.seq (IC.reg r55_2) (IC.cond (.t 37) (IC.seq (IC.reg r55_3) IC.ret) IC.skip)) (IC.seq (IC.reg r55_4) (IC.seq (IC.reg r55_5) (IC.seq (IC.reg r55_6) (IC.seq (IC.reg r55_7) (IC.seq (IC.reg r55_8) (IC.seq (IC.reg r55_9) (IC.seq (IC.reg r55_10) (IC.seq (IC.seq (IC.reg r55_11) (IC.block 0 (IC.loop b55_1))) (IC.seq (IC.reg r55_26) IC.ret))))))))))))
abbrev g55 : FC := ⟨c55, 112, [.cell 6 (some 3), .t 7]⟩
theorem comp55 : compF Go.Proofs.Tryz.prog (hintL [(25, 7)]) 55 = some g55 := by kernel_rfl

-- outlaw/glob.fold
abbrev r57_0 : List IOp := [⟨some 2, .op (.mov), [.c (.int .u8 0)], none⟩]
abbrev r57_1 : List IOp := [⟨some 3, .op (.mov), [.t 0], none⟩,
  ⟨some 4, .op (.bin .geq .prim), [.t 3, .c (.int .u8 65)], none⟩,
  ⟨some 5, .op (.mov), [.t 4], none⟩,
  ⟨some 6, .op (.mov), [.t 0], some (5, true)⟩,
  ⟨some 7, .op (.bin .leq .prim), [.t 6, .c (.int .u8 90)], some (5, true)⟩,
  ⟨some 8, .op (.pick), [.t 5, .t 7, .c (.bool false)], none⟩]
abbrev r57_2 : List IOp := [⟨some 9, .op (.mov), [.t 0], none⟩,
  ⟨some 10, .op (.bin .add .prim), [.t 9, .c (.int .u8 32)], none⟩,
  ⟨some 2, .op (.mov), [.t 10], none⟩]
abbrev r57_3 : List IOp := [⟨some 11, .op (.mov), [.t 0], none⟩,
  ⟨some 2, .op (.mov), [.t 11], none⟩]
abbrev c57 : IC := (IC.seq (IC.reg r57_0) (IC.seq (IC.seq (IC.reg r57_1) (IC.cond (.t 8) (IC.seq (IC.reg r57_2) IC.ret) IC.skip)) (IC.seq (IC.reg r57_3) IC.ret)))
abbrev g57 : FC := ⟨c57, 12, [.t 2]⟩
theorem comp57 : compF Go.Proofs.Tryz.prog (fun _ => 0) 57 = some g57 := by kernel_rfl

-- slices.Grow[[]int,int]
abbrev r56_0 : List IOp := [⟨some 4, .op (.mov), [.c (.nils)], none⟩]
abbrev r56_1 : List IOp := [⟨some 5, .op (.mov), [.t 1], none⟩,
  ⟨some 6, .op (.bin .lss .prim), [.t 5, .c (.int .i64 0)], none⟩]
abbrev r56_2 : List IOp := [⟨some 7, .op (.mkif 9), [.c (.str [99, 97, 110, 110, 111, 116, 32, 98, 101, 32, 110, 101, 103, 97, 116, 105, 118, 101])], none⟩,
  ⟨none, .op (.never), [], none⟩]
abbrev r56_3 : List IOp := [⟨some 8, .op (.mov), [.t 1], none⟩,
  ⟨some 9, .op (.mov), [.t 0], none⟩,
  ⟨some 10, .op (.cap), [.t 9], none⟩,
  ⟨some 11, .op (.mov), [.t 0], none⟩,
  ⟨some 12, .op (.len .slice), [.t 11], none⟩,
  ⟨some 13, .op (.bin .sub .prim), [.t 10, .t 12], none⟩,
  ⟨some 14, .op (.bin .sub .prim), [.t 8, .t 13], none⟩,
  ⟨some 1, .op (.mov), [.t 14], none⟩]
abbrev r56_4 : List IOp := [⟨some 15, .op (.mov), [.t 1], none⟩,
  ⟨some 16, .op (.bin .gtr .prim), [.t 15, .c (.int .i64 0)], none⟩]
abbrev r56_5 : List IOp := [⟨some 17, .op (.mov), [.t 0], none⟩,
  ⟨some 18, .op (.mov), [.t 0], none⟩,
  ⟨some 19, .op (.cap), [.t 18], none⟩,
  ⟨some 20, .op (.slice 1 false true false), [.t 17, .t 19], none⟩,
  ⟨some 21, .op (.mov), [.t 1], none⟩,
  ⟨some 22, .op (.appz 3 [.int .i64 0] 8), [.t 20, .t 21], none⟩,
  ⟨some 23, .op (.mov), [.t 0], none⟩,
  ⟨some 24, .op (.len .slice), [.t 23], none⟩,
  ⟨some 25, .op (.slice 1 false true false), [.t 22, .t 24], none⟩,
  ⟨some 0, .op (.mov), [.t 25], none⟩]
abbrev r56_6 : List IOp := [⟨some 26, .op (.mov), [.t 0], none⟩,
  ⟨some 4, .op (.mov), [.t 26], none⟩]
abbrev c56 : IC := (IC.seq (IC.reg r56_0) (IC.seq (IC.seq (IC.reg r56_1) (IC.cond (.t 6) (IC.reg r56_2) IC.skip)) (IC.seq (IC.seq (IC.reg r56_3) (IC.seq (IC.reg r56_4) (IC.cond (.t 16) (IC.reg r56_5) IC.skip))) (IC.seq (IC.reg r56_6) IC.ret))))
abbrev g56 : FC := ⟨c56, 27, [.t 4]⟩
theorem comp56 : compF Go.Proofs.Tryz.prog (fun _ => 0) 56 = some g56 := by kernel_rfl

-- maps.Keys[map[int]*outlaw/index.entry,int,*outlaw/index.entry]$1
abbrev r59_0 : List IOp := [⟨some 4, .op (.load none), [.t 1], none⟩,
  ⟨some 5, .op (.rangem), [.t 4], none⟩]
abbrev r59_1 : List IOp := [⟨some 6, .op (.nextm), [.t 5], none⟩,
  ⟨some 7, .op (.extract 0), [.t 6], none⟩]
abbrev r59_2 : List IOp := [⟨some 8, .op (.entm), [.t 5], none⟩,
  ⟨some 9, .op (.extract 0), [.t 8], none⟩,
  ⟨some 3, .op (.mov), [.t 9], none⟩]
abbrev r59_3 : List IOp := [⟨some 10, .op (.mov), [.t 0], none⟩,
  ⟨some 11, .op (.mov), [.t 3], none⟩,
  ⟨some 12, .call none, [.t 10, .t 11], none⟩,
  ⟨some 13, .op (.un .not), [.t 12], none⟩]
abbrev b59_0 : IC := (IC.seq (IC.reg r59_1) (IC.seq (IC.cond (.t 7) IC.skip (IC.exit 0)) (IC.block 1 (IC.seq (IC.reg r59_2) (IC.seq (IC.reg r59_3) (IC.cond (.t 13) IC.ret IC.skip))))))
abbrev c59 : IC := (IC.seq (IC.reg r59_0) (IC.block 0 (IC.loop b59_0)))
abbrev g59 : FC := ⟨c59, 14, []⟩
theorem comp59 : compF Go.Proofs.Tryz.prog (fun _ => 0) 59 = some g59 := by kernel_rfl

-- slices.Collect[int]
abbrev r58_0 : List IOp := [⟨some 2, .op (.mov), [.c (.nils)], none⟩]
abbrev r58_1 : List IOp := [⟨some 3, .op (.mov), [.t 0], none⟩,
  ⟨some 4, .call none, [.f 91, .c (.nils), .t 3], none⟩,
  ⟨some 2, .op (.mov), [.t 4], none⟩]
abbrev c58 : IC := (IC.seq (IC.reg r58_0) (IC.seq (IC.reg r58_1) IC.ret))
abbrev g58 : FC := ⟨c58, 5, [.t 2]⟩
theorem comp58 : compF Go.Proofs.Tryz.prog (fun _ => 0) 58 = some g58 := by kernel_rfl

-- (outlaw/dfa.table).match
abbrev r233_0 : List IOp := [⟨some 2, .op (.box 107), [.t 0], none⟩,
  ⟨some 4, .op (.mov), [.c (.bool false)], none⟩]
abbrev r233_1 : List IOp := [⟨some 5, .op (.faddr 0), [.t 2], none⟩,
  ⟨some 6, .op (.load (some 3)), [.t 5], none⟩,
  ⟨some 7, .op (.mov), [.t 1], none⟩,
  ⟨some 8, .call none, [.f 235, .t 6, .t 7], none⟩,
  ⟨some 4, .op (.mov), [.t 8], none⟩]
abbrev c233 : IC := (IC.seq (IC.reg r233_0) (IC.seq (IC.reg r233_1) IC.ret))
abbrev g233 : FC := ⟨c233, 9, [.t 4]⟩
theorem comp233 : compF Go.Proofs.Tryz.prog (fun _ => 0) 233 = some g233 := by kernel_rfl

-- math/bits.Len
abbrev r61_0 : List IOp := [⟨some 2, .op (.mov), [.c (.int .i64 0)], none⟩]
abbrev r61_1 : List IOp := [⟨some 3, .op (.mov), [.t 0], none⟩,
  ⟨some 4, .op (.toInt .u32), [.t 3], none⟩,
  ⟨some 5, .call none, [.f 101, .t 4], none⟩,
  ⟨some 2, .op (.mov), [.t 5], none⟩]
abbrev r61_2 : List IOp := [⟨some 6, .op (.mov), [.t 0], none⟩,
  ⟨some 7, .call none, [.f 102, .t 6], none⟩,
  ⟨some 2, .op (.mov), [.t 7], none⟩]
abbrev c61 : IC := (IC.seq (IC.reg r61_0) (IC.seq (IC.cond (.c (.bool false)) (IC.seq (IC.reg r61_1) IC.ret) IC.skip) (IC.seq (IC.reg r61_2) IC.ret)))
abbrev g61 : FC := ⟨c61, 8, [.t 2]⟩
theorem comp61 : compF Go.Proofs.Tryz.prog (fun _ => 0) 61 = some g61 := by kernel_rfl

-- slices.pdqsortOrdered[int]
abbrev r60_0 : List IOp := [⟨some 8, .op (.mov), [.c (.bool true)], none⟩]
abbrev r60_1 : List IOp := [⟨some 9, .op (.mov), [.c (.bool true)], none⟩]
abbrev r60_2 : List IOp := [⟨some 19, .op (.mov), [.t 2], none⟩,
  ⟨some 20, .op (.mov), [.t 1], none⟩,
  ⟨some 21, .op (.bin .sub .prim), [.t 19, .t 20], none⟩,
  ⟨some 10, .op (.mov), [.t 21], none⟩]
abbrev r60_3 : List IOp := [⟨some 22, .op (.mov), [.t 10], none⟩,
  ⟨some 23, .op (.bin .leq .prim), [.t 22, .c (.int .i64 12)], none⟩]
abbrev r60_4 : List IOp := [⟨some 24, .op (.mov), [.t 0], none⟩,
  ⟨some 25, .op (.mov), [.t 1], none⟩,
  ⟨some 26, .op (.mov), [.t 2], none⟩,
  ⟨some 27, .call none, [.f 92, .t 24, .t 25, .t 26], none⟩]
abbrev r60_5 : List IOp := [⟨some 28, .op (.mov), [.t 3], none⟩,
  ⟨some 29, .op (.bin .eql .prim), [.t 28, .c (.int .i64 0)], none⟩]
abbrev r60_6 : List IOp := [⟨some 30, .op (.mov), [.t 0], none⟩,
  ⟨some 31, .op (.mov), [.t 1], none⟩,
  ⟨some 32, .op (.mov), [.t 2], none⟩,
  ⟨some 33, .call none, [.f 93, .t 30, .t 31, .t 32], none⟩]
abbrev r60_7 : List IOp := [⟨some 34, .op (.mov), [.t 8], none⟩,
  ⟨some 35, .op (.un .not), [.t 34], none⟩]
abbrev r60_8 : List IOp := [⟨some 36, .op (.mov), [.t 0], none⟩,
  ⟨some 37, .op (.mov), [.t 1], none⟩,
  ⟨some 38, .op (.mov), [.t 2], none⟩,
  ⟨some 39, .call none, [.f 94, .t 36, .t 37, .t 38], none⟩]
abbrev r60_9 : List IOp := [⟨some 40, .op (.mov), [.t 3], none⟩,
  ⟨some 41, .op (.bin .sub .prim), [.t 40, .c (.int .i64 1)], none⟩,
  ⟨some 3, .op (.mov), [.t 41], none⟩]
abbrev r60_10 : List IOp := [⟨some 43, .op (.mov), [.t 0], none⟩,
  ⟨some 44, .op (.mov), [.t 1], none⟩,
  ⟨some 45, .op (.mov), [.t 2], none⟩,
  ⟨some 46, .call none, [.f 95, .t 43, .t 44, .t 45], none⟩,
  ⟨some 42, .op (.mov), [.t 46], none⟩,
  ⟨some 47, .op (.extract 0), [.t 42], none⟩,
  ⟨some 48, .op (.extract 1), [.t 42], none⟩,
  ⟨some 11, .op (.mov), [.t 47], none⟩,
  ⟨some 12, .op (.mov), [.t 48], none⟩]
abbrev r60_11 : List IOp := [⟨some 49, .op (.mov), [.t 12], none⟩,
  ⟨some 50, .op (.bin .eql .prim), [.t 49, .c (.int .i64 2)], none⟩]
abbrev r60_12 : List IOp := [⟨some 51, .op (.mov), [.t 0], none⟩,
  ⟨some 52, .op (.mov), [.t 1], none⟩,
  ⟨some 53, .op (.mov), [.t 2], none⟩,
  ⟨some 54, .call none, [.f 96, .t 51, .t 52, .t 53], none⟩]
abbrev r60_13 : List IOp := [⟨some 55, .op (.mov), [.t 2], none⟩,
  ⟨some 56, .op (.bin .sub .prim), [.t 55, .c (.int .i64 1)], none⟩,
  ⟨some 57, .op (.mov), [.t 11], none⟩,
  ⟨some 58, .op (.mov), [.t 1], none⟩,
  ⟨some 59, .op (.bin .sub .prim), [.t 57, .t 58], none⟩,
  ⟨some 60, .op (.bin .sub .prim), [.t 56, .t 59], none⟩,
  ⟨some 11, .op (.mov), [.t 60], none⟩]
abbrev r60_14 : List IOp := [⟨some 12, .op (.mov), [.c (.int .i64 1)], none⟩]
abbrev r60_15 : List IOp := [⟨some 61, .op (.mov), [.t 8], none⟩,
  ⟨some 62, .op (.mov), [.t 61], none⟩,
  ⟨some 63, .op (.mov), [.t 9], some (62, true)⟩,
  ⟨some 64, .op (.pick), [.t 62, .t 63, .c (.bool false)], none⟩,
  ⟨some 65, .op (.mov), [.t 64], none⟩,
  ⟨some 66, .op (.mov), [.t 12], some (65, true)⟩,
  ⟨some 67, .op (.bin .eql .prim), [.t 66, .c (.int .i64 1)], some (65, true)⟩,
  ⟨some 68, .op (.pick), [.t 65, .t 67, .c (.bool false)], none⟩]
abbrev r60_16 : List IOp := [⟨some 69, .op (.mov), [.t 0], none⟩,
  ⟨some 70, .op (.mov), [.t 1], none⟩,
  ⟨some 71, .op (.mov), [.t 2], none⟩,
  ⟨some 72, .call none, [.f 97, .t 69, .t 70, .t 71], none⟩]
abbrev r60_17 : List IOp := [⟨some 73, .op (.mov), [.t 1], none⟩,
  ⟨some 74, .op (.bin .gtr .prim), [.t 73, .c (.int .i64 0)], none⟩,
  ⟨some 75, .op (.mov), [.t 74], none⟩,
  ⟨some 76, .op (.mov), [.t 0], some (75, true)⟩,
  ⟨some 77, .op (.mov), [.t 1], some (75, true)⟩,
  ⟨some 78, .op (.bin .sub .prim), [.t 77, .c (.int .i64 1)], some (75, true)⟩,
  ⟨some 79, .op (.iaddr 1), [.t 76, .t 78], some (75, true)⟩,
  ⟨some 80, .op (.load none), [.t 79], some (75, true)⟩,
  ⟨some 81, .op (.mov), [.t 0], some (75, true)⟩,
  ⟨some 82, .op (.mov), [.t 11], some (75, true)⟩,
  ⟨some 83, .op (.iaddr 1), [.t 81, .t 82], some (75, true)⟩,
  ⟨some 84, .op (.load none), [.t 83], some (75, true)⟩,
  ⟨some 85, .call none, [.f 98, .t 80, .t 84], some (75, true)⟩,
  ⟨some 86, .op (.un .not), [.t 85], some (75, true)⟩,
  ⟨some 87, .op (.pick), [.t 75, .t 86, .c (.bool false)], none⟩]
abbrev r60_18 : List IOp := [⟨some 88, .op (.mov), [.t 0], none⟩,
  ⟨some 89, .op (.mov), [.t 1], none⟩,
  ⟨some 90, .op (.mov), [.t 2], none⟩,
  ⟨some 91, .op (.mov), [.t 11], none⟩,
  ⟨some 92, .call none, [.f 99, .t 88, .t 89, .t 90, .t 91], none⟩,
  ⟨some 13, .op (.mov), [.t 92], none⟩]
abbrev r60_19 : List IOp := [⟨some 93, .op (.mov), [.t 13], none⟩,
  ⟨some 1, .op (.mov), [.t 93], none⟩]
abbrev r60_20 : List IOp := [⟨some 95, .op (.mov), [.t 0], none⟩,
  ⟨some 96, .op (.mov), [.t 1], none⟩,
  ⟨some 97, .op (.mov), [.t 2], none⟩,
  ⟨some 98, .op (.mov), [.t 11], none⟩,
  ⟨some 99, .call none, [.f 100, .t 95, .t 96, .t 97, .t 98], none⟩,
  ⟨some 94, .op (.mov), [.t 99], none⟩,
  ⟨some 100, .op (.extract 0), [.t 94], none⟩,
  ⟨some 101, .op (.extract 1), [.t 94], none⟩,
  ⟨some 14, .op (.mov), [.t 100], none⟩,
  ⟨some 15, .op (.mov), [.t 101], none⟩]
abbrev r60_21 : List IOp := [⟨some 102, .op (.mov), [.t 15], none⟩,
  ⟨some 9, .op (.mov), [.t 102], none⟩]
abbrev r60_22 : List IOp := [⟨some 103, .op (.mov), [.t 14], none⟩,
  ⟨some 104, .op (.mov), [.t 1], none⟩,
  ⟨some 105, .op (.bin .sub .prim), [.t 103, .t 104], none⟩,
  ⟨some 106, .op (.mov), [.t 2], none⟩,
  ⟨some 107, .op (.mov), [.t 14], none⟩,
  ⟨some 108, .op (.bin .sub .prim), [.t 106, .t 107], none⟩,
  ⟨some 16, .op (.mov), [.t 105], none⟩,
  ⟨some 17, .op (.mov), [.t 108], none⟩]
abbrev r60_23 : List IOp := [⟨some 109, .op (.mov), [.t 10], none⟩,
  ⟨some 110, .op (.bin .quo .prim), [.t 109, .c (.int .i64 8)], none⟩,
  ⟨some 18, .op (.mov), [.t 110], none⟩]
abbrev r60_24 : List IOp := [⟨some 111, .op (.mov), [.t 16], none⟩,
  ⟨some 112, .op (.mov), [.t 17], none⟩,
  ⟨some 113, .op (.bin .lss .prim), [.t 111, .t 112], none⟩]
abbrev r60_25 : List IOp := [⟨some 114, .op (.mov), [.t 16], none⟩,
  ⟨some 115, .op (.mov), [.t 18], none⟩,
  ⟨some 116, .op (.bin .geq .prim), [.t 114, .t 115], none⟩,
  ⟨some 8, .op (.mov), [.t 116], none⟩]
abbrev r60_26 : List IOp := [⟨some 117, .op (.mov), [.t 0], none⟩,
  ⟨some 118, .op (.mov), [.t 1], none⟩,
  ⟨some 119, .op (.mov), [.t 14], none⟩,
  ⟨some 120, .op (.mov), [.t 3], none⟩,
  ⟨some 121, .call none, [.f 60, .t 117, .t 118, .t 119, .t 120], none⟩]
abbrev r60_27 : List IOp := [⟨some 122, .op (.mov), [.t 14], none⟩,
  ⟨some 123, .op (.bin .add .prim), [.t 122, .c (.int .i64 1)], none⟩,
  ⟨some 1, .op (.mov), [.t 123], none⟩]
abbrev r60_28 : List IOp := [⟨some 124, .op (.mov), [.t 17], none⟩,
  ⟨some 125, .op (.mov), [.t 18], none⟩,
  ⟨some 126, .op (.bin .geq .prim), [.t 124, .t 125], none⟩,
  ⟨some 8, .op (.mov), [.t 126], none⟩]
abbrev r60_29 : List IOp := [⟨some 127, .op (.mov), [.t 0], none⟩,
  ⟨some 128, .op (.mov), [.t 14], none⟩,
  ⟨some 129, .op (.bin .add .prim), [.t 128, .c (.int .i64 1)], none⟩,
  ⟨some 130, .op (.mov), [.t 2], none⟩,
  ⟨some 131, .op (.mov), [.t 3], none⟩,
  ⟨some 132, .call none, [.f 60, .t 127, .t 129, .t 130, .t 131], none⟩]
abbrev r60_30 : List IOp := [⟨some 133, .op (.mov), [.t 14], none⟩,
  ⟨some 2, .op (.mov), [.t 133], none⟩]
abbrev b60_0 : IC := (IC.block 1 (IC.seq (IC.reg r60_2) (IC.seq (IC.seq (IC.reg r60_3) (IC.cond (.t 23) (IC.seq (IC.reg r60_4) IC.ret) IC.skip)) (IC.seq (IC.seq (IC.reg r60_5) (IC.cond (.t 29) (IC.seq (IC.reg r60_6) IC.ret) IC.skip)) (IC.seq (IC.seq (IC.reg r60_7) (IC.cond (.t 35) (IC.seq (IC.reg r60_8) (IC.reg r60_9)) IC.skip)) (IC.seq (IC.reg r60_10) (IC.seq (IC.seq (IC.reg r60_11) (IC.cond (.t 50) (IC.seq (IC.reg r60_12) (IC.seq (IC.reg r60_13) (IC.reg r60_14))) IC.skip)) (IC.seq (IC.seq (IC.reg r60_15) (IC.cond (.t 68) (IC.seq (IC.reg r60_16) (IC.cond (.t 72) IC.ret IC.skip)) IC.skip)) (IC.seq (IC.seq (IC.regD .wild r60_17 (.take 0 (.take 1 (.take 2 (.take 3 (.take 4 (.take 5 (.take 6 (.take 7 (.take 8 (.take 9 (.take 10 (.take 11 (.take 12 (.take 13 (.take 14 (.done))))))))))))))))) (IC.cond (.t 87) (IC.seq (IC.reg r60_18) (IC.seq (IC.reg r60_19) (IC.exit 1))) IC.skip)) (IC.seq (IC.reg r60_20) (IC.seq (IC.reg r60_21) (IC.seq (IC.reg r60_22) (IC.seq (IC.reg r60_23) (IC.seq (IC.reg r60_24) (IC.cond (.t 113) (IC.seq (IC.reg r60_25) (IC.seq (IC.reg r60_26) (IC.reg r60_27))) (IC.seq (IC.reg r60_28) (IC.seq (IC.reg r60_29) (IC.reg r60_30))))))))))))))))))
abbrev c60 : IC := (IC.seq (IC.reg r60_0) (IC.seq (IC.reg r60_1) (IC.block 0 (IC.loop b60_0))))
abbrev g60 : FC := ⟨c60, 134, []⟩
theorem comp60 : compF Go.Proofs.Tryz.prog (hintL [(17, 6)]) 60 = some g60 := by kernel_rfl

-- slices.IndexFunc[[]int,int]
abbrev r62_0 : List IOp := [⟨some 4, .op (.mov), [.c (.int .i64 0)], none⟩]
abbrev r62_1 : List IOp := [⟨some 6, .op (.mov), [.t 0], none⟩,
  ⟨some 7, .op (.len .slice), [.t 6], none⟩,
  ⟨some 8, .op (.mov), [.c (.int .i64 0)], none⟩]
abbrev r62_2 : List IOp := [⟨some 9, .op (.bin .lss .prim), [.t 8, .t 7], none⟩]
abbrev r62_3 : List IOp := [⟨some 10, .op (.mov), [.t 8], none⟩,
  ⟨some 5, .op (.mov), [.t 10], none⟩]
abbrev r62_4 : List IOp := [⟨some 11, .op (.mov), [.t 1], none⟩,
  ⟨some 12, .op (.mov), [.t 0], none⟩,
  ⟨some 13, .op (.mov), [.t 5], none⟩,
  ⟨some 14, .op (.iaddr 1), [.t 12, .t 13], none⟩,
  ⟨some 15, .op (.load none), [.t 14], none⟩,
  ⟨some 16, .call none, [.t 11, .t 15], none⟩]
abbrev r62_5 : List IOp := [⟨some 17, .op (.mov), [.t 5], none⟩,
  ⟨some 4, .op (.mov), [.t 17], none⟩]
abbrev r62_6 : List IOp := [⟨some 18, .op (.bin .add .prim), [.t 8, .c (.int .i64 1)], none⟩,
  ⟨some 8, .op (.mov), [.t 18], none⟩]
abbrev b62_0 : IC := (IC.seq (IC.reg r62_2) (IC.seq (IC.cond (.t 9) IC.skip (IC.exit 0)) (IC.seq (IC.block 1 (IC.seq (IC.reg r62_3) (IC.seq (IC.reg r62_4) (IC.cond (.t 16) (IC.seq (IC.reg r62_5) IC.ret) IC.skip)))) (IC.reg r62_6))))
abbrev r62_7 : List IOp := [⟨some 4, .op (.mov), [.c (.int .i64 (-1))], none⟩]
abbrev c62 : IC := (IC.seq (IC.reg r62_0) (IC.seq (IC.seq (IC.reg r62_1) (IC.block 0 (IC.loop b62_0))) (IC.seq (IC.reg r62_7) IC.ret)))
abbrev g62 : FC := ⟨c62, 19, [.t 4]⟩
theorem comp62 : compF Go.Proofs.Tryz.prog (fun _ => 0) 62 = some g62 := by kernel_rfl

-- bytes.IndexAny
abbrev r82_0 : List IOp := [⟨some 4, .op (.mov), [.c (.int .i64 0)], none⟩]
abbrev r82_1 : List IOp := [⟨some 16, .op (.mov), [.t 1], none⟩,
  ⟨some 17, .op (.bin .eql .prim), [.t 16, .c (.str [])], none⟩]
abbrev r82_2 : List IOp := [⟨some 4, .op (.mov), [.c (.int .i64 (-1))], none⟩]
abbrev r82_3 : List IOp := [⟨some 18, .op (.mov), [.t 0], none⟩,
  ⟨some 19, .op (.len .slice), [.t 18], none⟩,
  ⟨some 20, .op (.bin .eql .prim), [.t 19, .c (.int .i64 1)], none⟩]
abbrev r82_4 : List IOp := [⟨some 21, .op (.mov), [.t 0], none⟩,
  ⟨some 22, .op (.iaddr 1), [.t 21, .c (.int .i64 0)], none⟩,
  ⟨some 23, .op (.load none), [.t 22], none⟩,
  ⟨some 24, .op (.toInt .i32), [.t 23], none⟩,
  ⟨some 5, .op (.mov), [.t 24], none⟩]
abbrev r82_5 : List IOp := [⟨some 25, .op (.mov), [.t 5], none⟩,
  ⟨some 26, .op (.bin .geq .prim), [.t 25, .c (.int .i32 128)], none⟩]
abbrev r82_6 : List IOp := [⟨some 27, .op (.mov), [.t 1], none⟩,
  ⟨some 28, .op (.never), [], none⟩]
abbrev r82_7 : List IOp := [⟨some 29, .op (.never), [], none⟩,
  ⟨some 30, .op (.extract 0), [.t 29], none⟩]
abbrev r82_8 : List IOp := [⟨some 31, .op (.extract 2), [.t 29], none⟩,
  ⟨some 5, .op (.mov), [.t 31], none⟩]
abbrev r82_9 : List IOp := [⟨some 32, .op (.mov), [.t 5], none⟩,
  ⟨some 33, .op (.bin .eql .prim), [.t 32, .c (.int .i32 65533)], none⟩]
abbrev r82_10 : List IOp := [⟨some 4, .op (.mov), [.c (.int .i64 0)], none⟩]
abbrev b82_0 : IC := (IC.seq (IC.reg r82_7) (IC.seq (IC.cond (.t 30) IC.skip (IC.exit 0)) (IC.block 1 (IC.seq (IC.reg r82_8) (IC.seq (IC.reg r82_9) (IC.cond (.t 33) (IC.seq (IC.reg r82_10) IC.ret) IC.skip))))))
abbrev r82_11 : List IOp := [⟨some 4, .op (.mov), [.c (.int .i64 (-1))], none⟩]
abbrev r82_12 : List IOp := [⟨some 34, .op (.mov), [.t 1], none⟩,
  ⟨some 35, .op (.mov), [.t 0], none⟩,
  ⟨some 36, .op (.iaddr 1), [.t 35, .c (.int .i64 0)], none⟩,
  ⟨some 37, .op (.load none), [.t 36], none⟩,
  ⟨some 38, .call none, [.f 119, .t 34, .t 37], none⟩,
  ⟨some 39, .op (.bin .geq .prim), [.t 38, .c (.int .i64 0)], none⟩]
abbrev r82_13 : List IOp := [⟨some 4, .op (.mov), [.c (.int .i64 0)], none⟩]
abbrev r82_14 : List IOp := [⟨some 4, .op (.mov), [.c (.int .i64 (-1))], none⟩]
abbrev r82_15 : List IOp := [⟨some 40, .op (.mov), [.t 1], none⟩,
  ⟨some 41, .op (.len .str), [.t 40], none⟩,
  ⟨some 42, .op (.bin .eql .prim), [.t 41, .c (.int .i64 1)], none⟩]
abbrev r82_16 : List IOp := [⟨some 43, .op (.mov), [.t 1], none⟩,
  ⟨some 44, .op (.idxs), [.t 43, .c (.int .i64 0)], none⟩,
  ⟨some 45, .op (.toInt .i32), [.t 44], none⟩,
  ⟨some 6, .op (.mov), [.t 45], none⟩]
abbrev r82_17 : List IOp := [⟨some 46, .op (.mov), [.t 6], none⟩,
  ⟨some 47, .op (.bin .geq .prim), [.t 46, .c (.int .i32 128)], none⟩]
abbrev r82_18 : List IOp := [⟨some 6, .op (.mov), [.c (.int .i32 65533)], none⟩]
abbrev r82_19 : List IOp := [⟨some 48, .op (.mov), [.t 0], none⟩,
  ⟨some 49, .op (.mov), [.t 6], none⟩,
  ⟨some 50, .call none, [.f 120, .t 48, .t 49], none⟩,
  ⟨some 4, .op (.mov), [.t 50], none⟩]
abbrev r82_20 : List IOp := [⟨some 51, .op (.mov), [.t 0], none⟩,
  ⟨some 52, .op (.len .slice), [.t 51], none⟩,
  ⟨some 53, .call none, [.f 121, .t 52], none⟩]
abbrev r82_21 : List IOp := [⟨some 55, .op (.mov), [.t 1], none⟩,
  ⟨some 56, .call none, [.f 122, .t 55], none⟩,
  ⟨some 54, .op (.mov), [.t 56], none⟩,
  ⟨some 57, .op (.extract 0), [.t 54], none⟩,
  ⟨some 58, .op (.extract 1), [.t 54], none⟩,
  ⟨some 7, .op (.alloc 172 [.bool false, .bool false, .bool false, .bool false, .bool false, .bool false, .bool false, .bool false, .bool false, .bool false, .bool false, .bool false, .bool false, .bool false, .bool false, .bool false, .bool false, .bool false, .bool false, .bool false, .bool false, .bool false, .bool false, .bool false, .bool false, .bool false, .bool false, .bool false, .bool false, .bool false, .bool false, .bool false, .bool false, .bool false, .bool false, .bool false, .bool false, .bool false, .bool false, .bool false, .bool false, .bool false, .bool false, .bool false, .bool false, .bool false, .bool false, .bool false, .bool false, .bool false, .bool false, .bool false, .bool false, .bool false, .bool false, .bool false, .bool false, .bool false, .bool false, .bool false, .bool false, .bool false, .bool false, .bool false, .bool false, .bool false, .bool false, .bool false, .bool false, .bool false, .bool false, .bool false, .bool false, .bool false, .bool false, .bool false, .bool false, .bool false, .bool false, .bool false, .bool false, .bool false, .bool false, .bool false, .bool false, .bool false, .bool false, .bool false, .bool false, .bool false, .bool false, .bool false, .bool false, .bool false, .bool false, .bool false, .bool false, .bool false, .bool false, .bool false, .bool false, .bool false, .bool false, .bool false, .bool false, .bool false, .bool false, .bool false, .bool false, .bool false, .bool false, .bool false, .bool false, .bool false, .bool false, .bool false, .bool false, .bool false, .bool false, .bool false, .bool false, .bool false, .bool false, .bool false, .bool false, .bool false, .bool false, .bool false, .bool false, .bool false, .bool false, .bool false, .bool false, .bool false, .bool false, .bool false, .bool false, .bool false, .bool false, .bool false, .bool false, .bool false, .bool false, .bool false, .bool false, .bool false, .bool false, .bool false, .bool false, .bool false, .bool false, .bool false, .bool false, .bool false, .bool false, .bool false, .bool false, .bool false, .bool false, .bool false, .bool false, .bool false, .bool false, .bool false, .bool false, .bool false, .bool false, .bool false, .bool false, .bool false, .bool false, .bool false, .bool false, .bool false, .bool false, .bool false, .bool false, .bool false, .bool false, .bool false, .bool false, .bool false, .bool false, .bool false, .bool false, .bool false, .bool false, .bool false, .bool false, .bool false, .bool false, .bool false, .bool false, .bool false, .bool false, .bool false, .bool false, .bool false, .bool false, .bool false, .bool false, .bool false, .bool false, .bool false, .bool false, .bool false, .bool false, .bool false, .bool false, .bool false, .bool false, .bool false, .bool false, .bool false, .bool false, .bool false, .bool false, .bool false, .bool false, .bool false, .bool false, .bool false, .bool false, .bool false, .bool false, .bool false, .bool false, .bool false, .bool false, .bool false, .bool false, .bool false, .bool false, .bool false, .bool false, .bool false, .bool false, .bool false, .bool false, .bool false, .bool false, .bool false, .bool false, .bool false, .bool false, .bool false, .bool false, .bool false, .bool false, .bool false, .bool false, .bool false, .bool false, .bool false, .bool false, .bool false]), [], none⟩,
  ⟨none, .op (.store 256), [.t 7, .t 57], none⟩,
  ⟨some 8, .op (.mov), [.t 58], none⟩]
abbrev r82_22 : List IOp := [⟨some 59, .op (.mov), [.t 8], none⟩]
abbrev r82_23 : List IOp := [⟨some 60, .op (.mov), [.t 0], none⟩,
  ⟨some 61, .op (.len .slice), [.t 60], none⟩,
  ⟨some 62, .op (.mov), [.c (.int .i64 0)], none⟩]
abbrev r82_24 : List IOp := [⟨some 63, .op (.bin .lss .prim), [.t 62, .t 61], none⟩]
abbrev r82_25 : List IOp := [⟨some 64, .op (.mov), [.t 62], none⟩,
  ⟨some 65, .op (.iaddr 1), [.t 60, .t 62], none⟩,
  ⟨some 66, .op (.load none), [.t 65], none⟩,
  ⟨some 9, .op (.mov), [.t 64], none⟩,
  ⟨some 10, .op (.mov), [.t 66], none⟩]
abbrev r82_26 : List IOp := [⟨some 67, .op (.mov), [.t 10], none⟩,
  ⟨some 68, .call none, [.f 123, .t 7, .t 67], none⟩]
abbrev r82_27 : List IOp := [⟨some 69, .op (.mov), [.t 9], none⟩,
  ⟨some 4, .op (.mov), [.t 69], none⟩]
abbrev r82_28 : List IOp := [⟨some 70, .op (.bin .add .prim), [.t 62, .c (.int .i64 1)], none⟩,
  ⟨some 62, .op (.mov), [.t 70], none⟩]
abbrev b82_1 : IC := (IC.seq (IC.reg r82_24) (IC.seq (IC.cond (.t 63) IC.skip (IC.exit 2)) (IC.seq (IC.block 3 (IC.seq (IC.reg r82_25) (IC.seq (IC.reg r82_26) (IC.cond (.t 68) (IC.seq (IC.reg r82_27) IC.ret) IC.skip)))) (IC.reg r82_28))))
abbrev r82_29 : List IOp := [⟨some 4, .op (.mov), [.c (.int .i64 (-1))], none⟩]
abbrev r82_30 : List IOp := [⟨some 11, .op (.mov), [.c (.int .i64 0)], none⟩]
abbrev r82_31 : List IOp := [⟨some 12, .op (.mov), [.c (.int .i64 0)], none⟩]
abbrev r82_32 : List IOp := [⟨some 71, .op (.mov), [.t 12], none⟩,
  ⟨some 72, .op (.mov), [.t 0], none⟩,
  ⟨some 73, .op (.len .slice), [.t 72], none⟩,
  ⟨some 74, .op (.bin .lss .prim), [.t 71, .t 73], none⟩]
abbrev r82_33 : List IOp := [⟨some 78, .op (.mov), [.t 0], none⟩,
  ⟨some 79, .op (.mov), [.t 12], none⟩,
  ⟨some 80, .op (.iaddr 1), [.t 78, .t 79], none⟩,
  ⟨some 81, .op (.load none), [.t 80], none⟩,
  ⟨some 82, .op (.toInt .i32), [.t 81], none⟩,
  ⟨some 13, .op (.mov), [.t 82], none⟩]
abbrev r82_34 : List IOp := [⟨some 83, .op (.mov), [.t 13], none⟩,
  ⟨some 84, .op (.bin .lss .prim), [.t 83, .c (.int .i32 128)], none⟩]
abbrev r82_35 : List IOp := [⟨some 85, .op (.mov), [.t 1], none⟩,
  ⟨some 86, .op (.mov), [.t 0], none⟩,
  ⟨some 87, .op (.mov), [.t 12], none⟩,
  ⟨some 88, .op (.iaddr 1), [.t 86, .t 87], none⟩,
  ⟨some 89, .op (.load none), [.t 88], none⟩,
  ⟨some 90, .call none, [.f 119, .t 85, .t 89], none⟩,
  ⟨some 91, .op (.bin .geq .prim), [.t 90, .c (.int .i64 0)], none⟩]
abbrev r82_36 : List IOp := [⟨some 92, .op (.mov), [.t 12], none⟩,
  ⟨some 4, .op (.mov), [.t 92], none⟩]
abbrev r82_37 : List IOp := [⟨some 11, .op (.mov), [.c (.int .i64 1)], none⟩]
abbrev r82_38 : List IOp := [⟨some 94, .op (.mov), [.t 0], none⟩,
  ⟨some 95, .op (.mov), [.t 12], none⟩,
  ⟨some 96, .op (.slice 1 true false false), [.t 94, .t 95], none⟩,
  ⟨some 97, .call none, [.f 124, .t 96], none⟩,
  ⟨some 93, .op (.mov), [.t 97], none⟩,
  ⟨some 98, .op (.extract 0), [.t 93], none⟩,
  ⟨some 99, .op (.extract 1), [.t 93], none⟩,
  ⟨some 13, .op (.mov), [.t 98], none⟩,
  ⟨some 11, .op (.mov), [.t 99], none⟩]
abbrev r82_39 : List IOp := [⟨some 100, .op (.mov), [.t 13], none⟩,
  ⟨some 101, .op (.bin .neq .prim), [.t 100, .c (.int .i32 65533)], none⟩]
abbrev r82_40 : List IOp := [⟨some 102, .op (.mov), [.t 1], none⟩,
  ⟨some 103, .op (.len .str), [.t 102], none⟩,
  ⟨some 104, .op (.mov), [.t 11], none⟩,
  ⟨some 105, .op (.bin .eql .prim), [.t 103, .t 104], none⟩]
abbrev r82_41 : List IOp := [⟨some 106, .op (.mov), [.t 1], none⟩,
  ⟨some 107, .op (.mov), [.t 13], none⟩,
  ⟨some 108, .op (.never), [], none⟩,
  ⟨some 109, .op (.bin .eql .prim), [.t 106, .t 108], none⟩]
abbrev r82_42 : List IOp := [⟨some 110, .op (.mov), [.t 12], none⟩,
  ⟨some 4, .op (.mov), [.t 110], none⟩]
abbrev r82_43 : List IOp := [⟨some 111, .op (.never), [], none⟩,
  ⟨some 112, .op (.mov), [.t 11], none⟩,
  ⟨some 113, .op (.bin .geq .prim), [.t 111, .t 112], none⟩]
abbrev r82_44 : List IOp := [⟨some 114, .op (.mov), [.t 1], none⟩,
  ⟨some 115, .op (.mov), [.t 13], none⟩,
  ⟨some 116, .op (.never), [], none⟩,
  ⟨some 117, .call none, [.f 125, .t 114, .t 116], none⟩,
  ⟨some 118, .op (.bin .geq .prim), [.t 117, .c (.int .i64 0)], none⟩]
abbrev r82_45 : List IOp := [⟨some 119, .op (.mov), [.t 12], none⟩,
  ⟨some 4, .op (.mov), [.t 119], none⟩]
abbrev r82_46 : List IOp := [⟨some 120, .op (.mov), [.t 1], none⟩,
  ⟨some 121, .op (.never), [], none⟩]
abbrev r82_47 : List IOp := [⟨some 122, .op (.never), [], none⟩,
  ⟨some 123, .op (.extract 0), [.t 122], none⟩]
abbrev r82_48 : List IOp := [⟨some 124, .op (.extract 2), [.t 122], none⟩,
  ⟨some 15, .op (.mov), [.t 124], none⟩]
abbrev r82_49 : List IOp := [⟨some 125, .op (.mov), [.t 13], none⟩,
  ⟨some 126, .op (.mov), [.t 15], none⟩,
  ⟨some 127, .op (.bin .eql .prim), [.t 125, .t 126], none⟩]
abbrev r82_50 : List IOp := [⟨some 128, .op (.mov), [.t 12], none⟩,
  ⟨some 4, .op (.mov), [.t 128], none⟩]
abbrev b82_2 : IC := (IC.seq (IC.reg r82_47) (IC.seq (IC.cond (.t 123) IC.skip (IC.exit 6)) (IC.block 7 (IC.seq (IC.reg r82_48) (IC.seq (IC.reg r82_49) (IC.cond (.t 127) (IC.seq (IC.reg r82_50) IC.ret) IC.skip))))))
abbrev r82_51 : List IOp := [⟨some 75, .op (.mov), [.t 12], none⟩,
  ⟨some 76, .op (.mov), [.t 11], none⟩,
  ⟨some 77, .op (.bin .add .prim), [.t 75, .t 76], none⟩,
  ⟨some 12, .op (.mov), [.t 77], none⟩]
abbrev b82_3 : IC := (IC.seq (IC.seq (IC.reg r82_32) (IC.cond (.t 74) IC.skip (IC.exit 4))) (IC.seq (IC.block 5 (IC.seq (IC.reg r82_33) (IC.seq (IC.seq (IC.reg r82_34) (IC.cond (.t 84) (IC.seq (IC.seq (IC.reg r82_35) (IC.cond (.t 91) (IC.seq (IC.reg r82_36) IC.ret) IC.skip)) (IC.seq (IC.reg r82_37) (IC.exit 5))) IC.skip)) (IC.seq (IC.reg r82_38) (IC.seq (IC.seq (IC.reg r82_39) (IC.cond (.t 101) (IC.seq (IC.seq (IC.reg r82_40) (IC.cond (.t 105) (IC.seq (IC.seq (IC.reg r82_41) (IC.cond (.t 109) (IC.seq (IC.reg r82_42) IC.ret) IC.skip)) (IC.exit 5)) IC.skip)) (IC.seq (IC.reg r82_43) (IC.cond (.t 113) (IC.seq (IC.seq (IC.reg r82_44) (IC.cond (.t 118) (IC.seq (IC.reg r82_45) IC.ret) IC.skip)) (IC.exit 5)) IC.skip))) IC.skip)) (IC.seq (IC.reg r82_46) (IC.block 6 (IC.loop b82_2)))))))) (IC.reg r82_51)))
abbrev r82_52 : List IOp := [⟨some 4, .op (.mov), [.c (.int .i64 (-1))], none⟩]
abbrev c82 : IC := (IC.seq (IC.reg r82_0) (IC.seq (IC.seq (IC.reg r82_1) (IC.cond (.t 17) (IC.seq (IC.reg r82_2) IC.ret) IC.skip)) (IC.seq (IC.seq (IC.reg r82_3) (IC.cond (.t 20) (IC.seq (IC.reg r82_4) (IC.seq (IC.seq (IC.reg r82_5) (IC.cond (.t 26) (IC.seq (IC.seq (IC.reg r82_6) (IC.block 0 (IC.loop b82_0))) (IC.seq (IC.reg r82_11) IC.ret)) IC.skip)) (IC.seq (IC.seq (IC.reg r82_12) (IC.cond (.t 39) (IC.seq (IC.reg r82_13) IC.ret) IC.skip)) (IC.seq (IC.reg r82_14) IC.ret)))) IC.skip)) (IC.seq (IC.seq (IC.reg r82_15) (IC.cond (.t 42) (IC.seq (IC.reg r82_16) (IC.seq (IC.seq (IC.reg r82_17) (IC.cond (.t 47) (IC.reg r82_18) IC.skip)) (IC.seq (IC.reg r82_19) IC.ret))) IC.skip)) (IC.seq (IC.seq (IC.reg r82_20) (IC.cond (.t 53) (IC.seq (IC.reg r82_21) (IC.seq (IC.reg r82_22) (IC.cond (.t 59) (IC.seq (IC.seq (IC.reg r82_23) (IC.block 2 (IC.loop b82_1))) (IC.seq (IC.reg r82_29) IC.ret)) IC.skip))) IC.skip)) (IC.seq (IC.reg r82_30) (IC.seq (IC.seq (IC.reg r82_31) (IC.block 4 (IC.loop b82_3))) (IC.seq (IC.reg r82_52) IC.ret))))))))
abbrev g82 : FC := ⟨c82, 129, [.t 4]⟩
theorem comp82 : compF Go.Proofs.Tryz.prog (fun _ => 0) 82 = some g82 := by kernel_rfl

-- outlaw/glob.Norm
abbrev r83_0 : List IOp := [⟨some 2, .op (.mov), [.c (.str [])], none⟩]
abbrev r83_1 : List IOp := [⟨some 3, .op (.mov), [.c (.nils)], none⟩]
abbrev r83_2 : List IOp := [⟨some 4, .op (.mov), [.c (.int .i64 0)], none⟩]
abbrev r83_3 : List IOp := [⟨some 7, .op (.mov), [.t 4], none⟩,
  ⟨some 8, .op (.mov), [.t 0], none⟩,
  ⟨some 9, .op (.len .str), [.t 8], none⟩,
  ⟨some 10, .op (.bin .lss .prim), [.t 7, .t 9], none⟩]
abbrev r83_4 : List IOp := [⟨some 11, .op (.mov), [.t 4], none⟩,
  ⟨some 5, .op (.mov), [.t 11], none⟩]
abbrev r83_5 : List IOp := [⟨some 12, .op (.mov), [.t 5], none⟩,
  ⟨some 13, .op (.mov), [.t 0], none⟩,
  ⟨some 14, .op (.len .str), [.t 13], none⟩,
  ⟨some 15, .op (.bin .lss .prim), [.t 12, .t 14], none⟩,
  ⟨some 16, .op (.mov), [.t 15], none⟩,
  ⟨some 17, .op (.mov), [.t 0], some (16, true)⟩,
  ⟨some 18, .op (.mov), [.t 5], some (16, true)⟩,
  ⟨some 19, .op (.idxs), [.t 17, .t 18], some (16, true)⟩,
  ⟨some 20, .op (.bin .eql .prim), [.t 19, .c (.int .u8 42)], some (16, true)⟩,
  ⟨some 21, .op (.mov), [.t 20], some (16, true)⟩,
  ⟨some 22, .op (.mov), [.t 0], some (21, false)⟩,
  ⟨some 23, .op (.mov), [.t 5], some (21, false)⟩,
  ⟨some 24, .op (.idxs), [.t 22, .t 23], some (21, false)⟩,
  ⟨some 25, .op (.bin .eql .prim), [.t 24, .c (.int .u8 63)], some (21, false)⟩,
  ⟨some 26, .op (.pick), [.t 21, .c (.bool true), .t 25], some (16, true)⟩,
  ⟨some 27, .op (.pick), [.t 16, .t 26, .c (.bool false)], none⟩]
abbrev r83_6 : List IOp := [⟨some 28, .op (.mov), [.t 5], none⟩,
  ⟨some 29, .op (.bin .add .prim), [.t 28, .c (.int .i64 1)], none⟩,
  ⟨some 5, .op (.mov), [.t 29], none⟩]
abbrev b83_0 : IC := (IC.seq (IC.seq (IC.reg r83_5) (IC.cond (.t 27) IC.skip (IC.exit 2))) (IC.block 3 (IC.reg r83_6)))
abbrev r83_7 : List IOp := [⟨some 30, .op (.mov), [.t 5], none⟩,
  ⟨some 31, .op (.mov), [.t 4], none⟩,
  ⟨some 32, .op (.bin .eql .prim), [.t 30, .t 31], none⟩]
abbrev r83_8 : List IOp := [⟨some 33, .op (.mov), [.t 3], none⟩,
  ⟨some 34, .op (.mov), [.t 0], none⟩,
  ⟨some 35, .op (.mov), [.t 4], none⟩,
  ⟨some 36, .op (.idxs), [.t 34, .t 35], none⟩,
  ⟨some 37, .op (.bsl 5 1 false), [.t 36], none⟩,
  ⟨some 38, .op (.app 5 1 1), [.t 33, .t 37], none⟩,
  ⟨some 3, .op (.mov), [.t 38], none⟩]
abbrev r83_9 : List IOp := [⟨some 39, .op (.mov), [.t 4], none⟩,
  ⟨some 40, .op (.bin .add .prim), [.t 39, .c (.int .i64 1)], none⟩,
  ⟨some 4, .op (.mov), [.t 40], none⟩]
abbrev r83_10 : List IOp := [⟨some 41, .op (.mov), [.t 0], none⟩,
  ⟨some 42, .op (.mov), [.t 4], none⟩,
  ⟨some 43, .op (.mov), [.t 5], none⟩,
  ⟨some 44, .op (.sslice true true false), [.t 41, .t 42, .t 43], none⟩,
  ⟨some 45, .op (.s2b 5), [.t 44], none⟩,
  ⟨some 46, .op (.bsl 5 1 false), [.c (.int .u8 63)], none⟩,
  ⟨some 47, .op (.cvs), [.t 46], none⟩,
  ⟨some 48, .call none, [.f 126, .t 45, .t 47], none⟩,
  ⟨some 6, .op (.mov), [.t 48], none⟩]
abbrev r83_11 : List IOp := [⟨some 49, .op (.mov), [.t 3], none⟩,
  ⟨some 50, .op (.bsl 5 1 false), [.c (.int .u8 63)], none⟩,
  ⟨some 51, .op (.cvs), [.t 50], none⟩,
  ⟨some 52, .op (.mov), [.t 6], none⟩,
  ⟨some 53, .call none, [.f 127, .t 51, .t 52], none⟩,
  ⟨some 54, .op (.app 5 1 1), [.t 49, .t 53], none⟩,
  ⟨some 3, .op (.mov), [.t 54], none⟩]
abbrev r83_12 : List IOp := [⟨some 55, .op (.mov), [.t 6], none⟩,
  ⟨some 56, .op (.mov), [.t 5], none⟩,
  ⟨some 57, .op (.mov), [.t 4], none⟩,
  ⟨some 58, .op (.bin .sub .prim), [.t 56, .t 57], none⟩,
  ⟨some 59, .op (.bin .lss .prim), [.t 55, .t 58], none⟩]
abbrev r83_13 : List IOp := [⟨some 60, .op (.mov), [.t 3], none⟩,
  ⟨some 61, .op (.bsl 5 1 false), [.c (.int .u8 42)], none⟩,
  ⟨some 62, .op (.app 5 1 1), [.t 60, .t 61], none⟩,
  ⟨some 3, .op (.mov), [.t 62], none⟩]
abbrev r83_14 : List IOp := [⟨some 63, .op (.mov), [.t 5], none⟩,
  ⟨some 4, .op (.mov), [.t 63], none⟩]
abbrev b83_1 : IC := (IC.seq (IC.seq (IC.reg r83_3) (IC.cond (.t 10) IC.skip (IC.exit 0))) (IC.block 1 (IC.seq (IC.reg r83_4) (IC.seq (IC.block 2 (IC.loop b83_0)) (IC.seq (IC.seq (IC.reg r83_7) (IC.cond (.t 32) (IC.seq (IC.reg r83_8) (IC.seq (IC.reg r83_9) (IC.exit 1))) IC.skip)) (IC.seq (IC.reg r83_10) (IC.seq (IC.reg r83_11) (IC.seq (IC.seq (IC.reg r83_12) (IC.cond (.t 59) (IC.reg r83_13) IC.skip)) (IC.reg r83_14)))))))))
abbrev r83_15 : List IOp := [⟨some 64, .op (.mov), [.t 3], none⟩,
  ⟨some 65, .op (.b2s), [.t 64], none⟩,
  ⟨some 2, .op (.mov), [.t 65], none⟩]
abbrev c83 : IC := (IC.seq (IC.reg r83_0) (IC.seq (IC.reg r83_1) (IC.seq (IC.seq (IC.reg r83_2) (IC.block 0 (IC.loop b83_1))) (IC.seq (IC.reg r83_15) IC.ret))))
abbrev g83 : FC := ⟨c83, 66, [.t 2]⟩
theorem comp83 : compF Go.Proofs.Tryz.prog (fun _ => 0) 83 = some g83 := by kernel_rfl

-- (*outlaw/nfa.Nfa).Pattern
abbrev r84_0 : List IOp := [⟨some 2, .op (.mov), [.c (.str [])], none⟩,
  ⟨some 3, .op (.mov), [.c (.bool false)], none⟩]
abbrev r84_1 : List IOp := [⟨some 4, .op (.mov), [.t 0], none⟩,
  ⟨some 5, .op (.bin .eql .ptr), [.t 4, .c (.nilp)], none⟩]
abbrev r84_2 : List IOp := [⟨some 2, .op (.mov), [.c (.str [])], none⟩,
  ⟨some 3, .op (.mov), [.c (.bool false)], none⟩]
abbrev r84_3 : List IOp := [⟨some 6, .op (.mov), [.t 0], none⟩,
  ⟨some 7, .op (.nilchk), [.t 6], none⟩,
  ⟨some 8, .op (.faddr 0), [.t 7], none⟩,
  ⟨some 9, .op (.load none), [.t 8], none⟩,
  ⟨some 10, .op (.mov), [.t 0], none⟩,
  ⟨some 11, .op (.nilchk), [.t 10], none⟩,
  ⟨some 12, .op (.faddr 1), [.t 11], none⟩,
  ⟨some 13, .op (.load none), [.t 12], none⟩,
  ⟨some 2, .op (.mov), [.t 9], none⟩,
  ⟨some 3, .op (.mov), [.t 13], none⟩]
abbrev c84 : IC := (IC.seq (IC.reg r84_0) (IC.seq (IC.seq (IC.reg r84_1) (IC.cond (.t 5) (IC.seq (IC.reg r84_2) IC.ret) IC.skip)) (IC.seq (IC.regD .wild r84_3 (.take 0 (.take 1 (.take 2 (.take 3 (.take 4 (.take 5 (.take 6 (.take 7 (.take 8 (.take 9 (.done)))))))))))) IC.ret)))
abbrev g84 : FC := ⟨c84, 14, [.t 2, .t 3]⟩
theorem comp84 : compF Go.Proofs.Tryz.prog (hintL [(3, 6)]) 84 = some g84 := by kernel_rfl

-- outlaw/dfa.classes
abbrev r85_0 : List IOp := [⟨some 4, .op (.alloc 133 [.int .i64 0, .int .i64 0, .int .i64 0, .int .i64 0, .int .i64 0, .int .i64 0, .int .i64 0, .int .i64 0, .int .i64 0, .int .i64 0, .int .i64 0, .int .i64 0, .int .i64 0, .int .i64 0, .int .i64 0, .int .i64 0, .int .i64 0, .int .i64 0, .int .i64 0, .int .i64 0, .int .i64 0, .int .i64 0, .int .i64 0, .int .i64 0, .int .i64 0, .int .i64 0, .int .i64 0, .int .i64 0, .int .i64 0, .int .i64 0, .int .i64 0, .int .i64 0, .int .i64 0, .int .i64 0, .int .i64 0, .int .i64 0, .int .i64 0, .int .i64 0, .int .i64 0, .int .i64 0, .int .i64 0, .int .i64 0, .int .i64 0, .int .i64 0, .int .i64 0, .int .i64 0, .int .i64 0, .int .i64 0, .int .i64 0, .int .i64 0, .int .i64 0, .int .i64 0, .int .i64 0, .int .i64 0, .int .i64 0, .int .i64 0, .int .i64 0, .int .i64 0, .int .i64 0, .int .i64 0, .int .i64 0, .int .i64 0, .int .i64 0, .int .i64 0, .int .i64 0, .int .i64 0, .int .i64 0, .int .i64 0, .int .i64 0, .int .i64 0, .int .i64 0, .int .i64 0, .int .i64 0, .int .i64 0, .int .i64 0, .int .i64 0, .int .i64 0, .int .i64 0, .int .i64 0, .int .i64 0, .int .i64 0, .int .i64 0, .int .i64 0, .int .i64 0, .int .i64 0, .int .i64 0, .int .i64 0, .int .i64 0, .int .i64 0, .int .i64 0, .int .i64 0, .int .i64 0, .int .i64 0, .int .i64 0, .int .i64 0, .int .i64 0, .int .i64 0, .int .i64 0, .int .i64 0, .int .i64 0, .int .i64 0, .int .i64 0, .int .i64 0, .int .i64 0, .int .i64 0, .int .i64 0, .int .i64 0, .int .i64 0, .int .i64 0, .int .i64 0, .int .i64 0, .int .i64 0, .int .i64 0, .int .i64 0, .int .i64 0, .int .i64 0, .int .i64 0, .int .i64 0, .int .i64 0, .int .i64 0, .int .i64 0, .int .i64 0, .int .i64 0, .int .i64 0, .int .i64 0, .int .i64 0, .int .i64 0, .int .i64 0, .int .i64 0, .int .i64 0, .int .i64 0, .int .i64 0, .int .i64 0, .int .i64 0, .int .i64 0, .int .i64 0, .int .i64 0, .int .i64 0, .int .i64 0, .int .i64 0, .int .i64 0, .int .i64 0, .int .i64 0, .int .i64 0, .int .i64 0, .int .i64 0, .int .i64 0, .int .i64 0, .int .i64 0, .int .i64 0, .int .i64 0, .int .i64 0, .int .i64 0, .int .i64 0, .int .i64 0, .int .i64 0, .int .i64 0, .int .i64 0, .int .i64 0, .int .i64 0, .int .i64 0, .int .i64 0, .int .i64 0, .int .i64 0, .int .i64 0, .int .i64 0, .int .i64 0, .int .i64 0, .int .i64 0, .int .i64 0, .int .i64 0, .int .i64 0, .int .i64 0, .int .i64 0, .int .i64 0, .int .i64 0, .int .i64 0, .int .i64 0, .int .i64 0, .int .i64 0, .int .i64 0, .int .i64 0, .int .i64 0, .int .i64 0, .int .i64 0, .int .i64 0, .int .i64 0, .int .i64 0, .int .i64 0, .int .i64 0, .int .i64 0, .int .i64 0, .int .i64 0, .int .i64 0, .int .i64 0, .int .i64 0, .int .i64 0, .int .i64 0, .int .i64 0, .int .i64 0, .int .i64 0, .int .i64 0, .int .i64 0, .int .i64 0, .int .i64 0, .int .i64 0, .int .i64 0, .int .i64 0, .int .i64 0, .int .i64 0, .int .i64 0, .int .i64 0, .int .i64 0, .int .i64 0, .int .i64 0, .int .i64 0, .int .i64 0, .int .i64 0, .int .i64 0, .int .i64 0, .int .i64 0, .int .i64 0, .int .i64 0, .int .i64 0, .int .i64 0, .int .i64 0, .int .i64 0, .int .i64 0, .int .i64 0, .int .i64 0, .int .i64 0, .int .i64 0, .int .i64 0, .int .i64 0, .int .i64 0, .int .i64 0, .int .i64 0, .int .i64 0, .int .i64 0, .int .i64 0, .int .i64 0, .int .i64 0, .int .i64 0, .int .i64 0, .int .i64 0, .int .i64 0, .int .i64 0, .int .i64 0, .int .i64 0, .int .i64 0, .int .i64 0, .int .i64 0, .int .i64 0, .int .i64 0, .int .i64 0, .int .i64 0]), [], none⟩,
  ⟨some 5, .op (.mov), [.c (.nils)], none⟩]
abbrev r85_1 : List IOp := [⟨some 6, .op (.mov), [.f 128], none⟩]
abbrev r85_2 : List IOp := [⟨some 16, .op (.mov), [.t 1], none⟩]
abbrev r85_3 : List IOp := [⟨some 6, .op (.mov), [.f 129], none⟩]
abbrev r85_4 : List IOp := [⟨some 7, .op (.mov), [.c (.nils)], none⟩]
abbrev r85_5 : List IOp := [⟨some 17, .op (.mov), [.t 0], none⟩,
  ⟨some 18, .op (.len .str), [.t 17], none⟩,
  ⟨some 19, .op (.mov), [.c (.int .i64 0)], none⟩]
abbrev r85_6 : List IOp := [⟨some 20, .op (.bin .lss .prim), [.t 19, .t 18], none⟩]
abbrev r85_7 : List IOp := [⟨some 21, .op (.mov), [.t 19], none⟩,
  ⟨some 8, .op (.mov), [.t 21], none⟩]
abbrev r85_8 : List IOp := [⟨some 22, .op (.mov), [.t 0], none⟩,
  ⟨some 23, .op (.mov), [.t 8], none⟩,
  ⟨some 24, .op (.idxs), [.t 22, .t 23], none⟩,
  ⟨some 25, .op (.bin .neq .prim), [.t 24, .c (.int .u8 42)], none⟩,
  ⟨some 26, .op (.mov), [.t 25], none⟩,
  ⟨some 27, .op (.mov), [.t 0], some (26, true)⟩,
  ⟨some 28, .op (.mov), [.t 8], some (26, true)⟩,
  ⟨some 29, .op (.idxs), [.t 27, .t 28], some (26, true)⟩,
  ⟨some 30, .op (.bin .neq .prim), [.t 29, .c (.int .u8 63)], some (26, true)⟩,
  ⟨some 31, .op (.pick), [.t 26, .t 30, .c (.bool false)], none⟩]
abbrev r85_9 : List IOp := [⟨some 32, .op (.mov), [.t 7], none⟩,
  ⟨some 33, .op (.mov), [.t 6], none⟩,
  ⟨some 34, .op (.mov), [.t 0], none⟩,
  ⟨some 35, .op (.mov), [.t 8], none⟩,
  ⟨some 36, .op (.idxs), [.t 34, .t 35], none⟩,
  ⟨some 37, .call none, [.t 33, .t 36], none⟩,
  ⟨some 38, .op (.bsl 5 1 false), [.t 37], none⟩,
  ⟨some 39, .op (.app 5 1 1), [.t 32, .t 38], none⟩,
  ⟨some 7, .op (.mov), [.t 39], none⟩]
abbrev r85_10 : List IOp := [⟨some 40, .op (.bin .add .prim), [.t 19, .c (.int .i64 1)], none⟩,
  ⟨some 19, .op (.mov), [.t 40], none⟩]
abbrev b85_0 : IC := (IC.seq (IC.reg r85_6) (IC.seq (IC.cond (.t 20) IC.skip (IC.exit 0)) (IC.seq (IC.block 1 (IC.seq (IC.reg r85_7) (IC.seq (IC.reg r85_8) (IC.cond (.t 31) (IC.reg r85_9) IC.skip)))) (IC.reg r85_10))))
abbrev r85_11 : List IOp := [⟨some 41, .op (.mov), [.t 7], none⟩,
  ⟨some 42, .call none, [.f 130, .t 41], none⟩]
abbrev r85_12 : List IOp := [⟨some 43, .op (.mov), [.t 7], none⟩,
  ⟨some 44, .call none, [.f 131, .t 43], none⟩,
  ⟨some 7, .op (.mov), [.t 44], none⟩]
abbrev r85_13 : List IOp := [⟨some 9, .op (.alloc 133 [.int .i64 0, .int .i64 0, .int .i64 0, .int .i64 0, .int .i64 0, .int .i64 0, .int .i64 0, .int .i64 0, .int .i64 0, .int .i64 0, .int .i64 0, .int .i64 0, .int .i64 0, .int .i64 0, .int .i64 0, .int .i64 0, .int .i64 0, .int .i64 0, .int .i64 0, .int .i64 0, .int .i64 0, .int .i64 0, .int .i64 0, .int .i64 0, .int .i64 0, .int .i64 0, .int .i64 0, .int .i64 0, .int .i64 0, .int .i64 0, .int .i64 0, .int .i64 0, .int .i64 0, .int .i64 0, .int .i64 0, .int .i64 0, .int .i64 0, .int .i64 0, .int .i64 0, .int .i64 0, .int .i64 0, .int .i64 0, .int .i64 0, .int .i64 0, .int .i64 0, .int .i64 0, .int .i64 0, .int .i64 0, .int .i64 0, .int .i64 0, .int .i64 0, .int .i64 0, .int .i64 0, .int .i64 0, .int .i64 0, .int .i64 0, .int .i64 0, .int .i64 0, .int .i64 0, .int .i64 0, .int .i64 0, .int .i64 0, .int .i64 0, .int .i64 0, .int .i64 0, .int .i64 0, .int .i64 0, .int .i64 0, .int .i64 0, .int .i64 0, .int .i64 0, .int .i64 0, .int .i64 0, .int .i64 0, .int .i64 0, .int .i64 0, .int .i64 0, .int .i64 0, .int .i64 0, .int .i64 0, .int .i64 0, .int .i64 0, .int .i64 0, .int .i64 0, .int .i64 0, .int .i64 0, .int .i64 0, .int .i64 0, .int .i64 0, .int .i64 0, .int .i64 0, .int .i64 0, .int .i64 0, .int .i64 0, .int .i64 0, .int .i64 0, .int .i64 0, .int .i64 0, .int .i64 0, .int .i64 0, .int .i64 0, .int .i64 0, .int .i64 0, .int .i64 0, .int .i64 0, .int .i64 0, .int .i64 0, .int .i64 0, .int .i64 0, .int .i64 0, .int .i64 0, .int .i64 0, .int .i64 0, .int .i64 0, .int .i64 0, .int .i64 0, .int .i64 0, .int .i64 0, .int .i64 0, .int .i64 0, .int .i64 0, .int .i64 0, .int .i64 0, .int .i64 0, .int .i64 0, .int .i64 0, .int .i64 0, .int .i64 0, .int .i64 0, .int .i64 0, .int .i64 0, .int .i64 0, .int .i64 0, .int .i64 0, .int .i64 0, .int .i64 0, .int .i64 0, .int .i64 0, .int .i64 0, .int .i64 0, .int .i64 0, .int .i64 0, .int .i64 0, .int .i64 0, .int .i64 0, .int .i64 0, .int .i64 0, .int .i64 0, .int .i64 0, .int .i64 0, .int .i64 0, .int .i64 0, .int .i64 0, .int .i64 0, .int .i64 0, .int .i64 0, .int .i64 0, .int .i64 0, .int .i64 0, .int .i64 0, .int .i64 0, .int .i64 0, .int .i64 0, .int .i64 0, .int .i64 0, .int .i64 0, .int .i64 0, .int .i64 0, .int .i64 0, .int .i64 0, .int .i64 0, .int .i64 0, .int .i64 0, .int .i64 0, .int .i64 0, .int .i64 0, .int .i64 0, .int .i64 0, .int .i64 0, .int .i64 0, .int .i64 0, .int .i64 0, .int .i64 0, .int .i64 0, .int .i64 0, .int .i64 0, .int .i64 0, .int .i64 0, .int .i64 0, .int .i64 0, .int .i64 0, .int .i64 0, .int .i64 0, .int .i64 0, .int .i64 0, .int .i64 0, .int .i64 0, .int .i64 0, .int .i64 0, .int .i64 0, .int .i64 0, .int .i64 0, .int .i64 0, .int .i64 0, .int .i64 0, .int .i64 0, .int .i64 0, .int .i64 0, .int .i64 0, .int .i64 0, .int .i64 0, .int .i64 0, .int .i64 0, .int .i64 0, .int .i64 0, .int .i64 0, .int .i64 0, .int .i64 0, .int .i64 0, .int .i64 0, .int .i64 0, .int .i64 0, .int .i64 0, .int .i64 0, .int .i64 0, .int .i64 0, .int .i64 0, .int .i64 0, .int .i64 0, .int .i64 0, .int .i64 0, .int .i64 0, .int .i64 0, .int .i64 0, .int .i64 0, .int .i64 0, .int .i64 0, .int .i64 0, .int .i64 0, .int .i64 0, .int .i64 0, .int .i64 0, .int .i64 0, .int .i64 0, .int .i64 0, .int .i64 0, .int .i64 0, .int .i64 0, .int .i64 0, .int .i64 0, .int .i64 0, .int .i64 0, .int .i64 0, .int .i64 0, .int .i64 0, .int .i64 0]), [], none⟩]
abbrev r85_14 : List IOp := [⟨some 45, .op (.bsl 3 1 false), [.c (.int .i64 (-1))], none⟩,
  ⟨some 10, .op (.mov), [.t 45], none⟩]
abbrev r85_15 : List IOp := [⟨some 46, .op (.mov), [.t 7], none⟩,
  ⟨some 47, .op (.len .slice), [.t 46], none⟩,
  ⟨some 48, .op (.mov), [.c (.int .i64 0)], none⟩]
abbrev r85_16 : List IOp := [⟨some 49, .op (.bin .lss .prim), [.t 48, .t 47], none⟩]
abbrev r85_17 : List IOp := [⟨some 50, .op (.iaddr 1), [.t 46, .t 48], none⟩,
  ⟨some 51, .op (.load none), [.t 50], none⟩,
  ⟨some 12, .op (.mov), [.t 51], none⟩]
abbrev r85_18 : List IOp := [⟨some 52, .op (.mov), [.t 10], none⟩,
  ⟨some 53, .op (.mov), [.t 12], none⟩,
  ⟨some 54, .op (.toInt .i64), [.t 53], none⟩,
  ⟨some 55, .op (.bsl 3 1 false), [.t 54], none⟩,
  ⟨some 56, .op (.app 3 1 8), [.t 52, .t 55], none⟩,
  ⟨some 10, .op (.mov), [.t 56], none⟩]
abbrev r85_19 : List IOp := [⟨some 57, .op (.bin .add .prim), [.t 48, .c (.int .i64 1)], none⟩,
  ⟨some 48, .op (.mov), [.t 57], none⟩]
abbrev b85_1 : IC := (IC.seq (IC.reg r85_16) (IC.seq (IC.cond (.t 49) IC.skip (IC.exit 2)) (IC.seq (IC.block 3 (IC.seq (IC.reg r85_17) (IC.reg r85_18))) (IC.reg r85_19))))
abbrev r85_20 : List IOp := [⟨some 58, .op (.mov), [.c (.int .i64 0)], none⟩]
abbrev r85_21 : List IOp := [⟨some 59, .op (.bin .lss .prim), [.t 58, .c (.int .i64 256)], none⟩]
abbrev r85_22 : List IOp := [⟨some 60, .op (.mov), [.t 58], none⟩,
  ⟨some 13, .op (.mov), [.t 60], none⟩]
abbrev r85_23 : List IOp := [⟨some 62, .op (.mov), [.t 7], none⟩,
  ⟨some 63, .op (.mov), [.t 6], none⟩,
  ⟨some 64, .op (.mov), [.t 13], none⟩,
  ⟨some 65, .op (.toInt .u8), [.t 64], none⟩,
  ⟨some 66, .call none, [.t 63, .t 65], none⟩,
  ⟨some 67, .call none, [.f 132, .t 62, .t 66], none⟩,
  ⟨some 61, .op (.mov), [.t 67], none⟩,
  ⟨some 68, .op (.extract 0), [.t 61], none⟩,
  ⟨some 69, .op (.extract 1), [.t 61], none⟩,
  ⟨some 14, .op (.mov), [.t 68], none⟩,
  ⟨some 15, .op (.mov), [.t 69], none⟩]
abbrev r85_24 : List IOp := [⟨some 70, .op (.mov), [.t 15], none⟩]
abbrev r85_25 : List IOp := [⟨some 71, .op (.mov), [.t 13], none⟩,
  ⟨some 72, .op (.mov), [.t 14], none⟩,
  ⟨some 73, .op (.bin .add .prim), [.t 72, .c (.int .i64 1)], none⟩,
  ⟨some 74, .op (.aaddr 256 1), [.t 9, .t 71], none⟩,
  ⟨none, .op (.store 1), [.t 74, .t 73], none⟩]
abbrev r85_26 : List IOp := [⟨some 75, .op (.mov), [.t 10], none⟩,
  ⟨some 76, .op (.mov), [.t 13], none⟩,
  ⟨some 77, .op (.iaddr 1), [.t 75, .c (.int .i64 0)], none⟩,
  ⟨none, .op (.store 1), [.t 77, .t 76], none⟩]
abbrev r85_27 : List IOp := [⟨some 78, .op (.bin .add .prim), [.t 58, .c (.int .i64 1)], none⟩,
  ⟨some 58, .op (.mov), [.t 78], none⟩]
abbrev b85_2 : IC := (IC.seq (IC.reg r85_21) (IC.seq (IC.cond (.t 59) IC.skip (IC.exit 4)) (IC.seq (IC.block 5 (IC.seq (IC.reg r85_22) (IC.seq (IC.reg r85_23) (IC.seq (IC.reg r85_24) (IC.cond (.t 70) (IC.reg r85_25) (IC.reg r85_26)))))) (IC.reg r85_27))))
abbrev r85_28 : List IOp := [⟨some 79, .op (.load (some 256)), [.t 9], none⟩,
  ⟨some 80, .op (.mov), [.t 10], none⟩,
  ⟨none, .op (.store 256), [.t 4, .t 79], none⟩,
  ⟨some 5, .op (.mov), [.t 80], none⟩]
abbrev c85 : IC := (IC.seq (IC.reg r85_0) (IC.seq (IC.reg r85_1) (IC.seq (IC.seq (IC.reg r85_2) (IC.cond (.t 16) (IC.reg r85_3) IC.skip)) (IC.seq (IC.reg r85_4) (IC.seq (IC.seq (IC.reg r85_5) (IC.block 0 (IC.loop b85_0))) (IC.seq (IC.reg r85_11) (IC.seq (IC.reg r85_12) (IC.seq (IC.reg r85_13) (IC.seq (IC.reg r85_14) (IC.seq (IC.seq (IC.reg r85_15) (IC.block 2 (IC.loop b85_1))) (IC.seq (IC.seq (IC.reg r85_20) (IC.block 4 (IC.loop b85_2))) (IC.seq (IC.reg r85_28) IC.ret))))))))))))
abbrev g85 : FC := ⟨c85, 81, [.cell 4 (some 256), .t 5]⟩
theorem comp85 : compF Go.Proofs.Tryz.prog (fun _ => 0) 85 = some g85 := by kernel_rfl

-- outlaw/dfa.Build$1
abbrev r86_0 : List IOp := [⟨some 4, .op (.mov), [.c (.int .i64 0)], none⟩]
abbrev r86_1 : List IOp := [⟨some 8, .op (.load none), [.t 1], none⟩,
  ⟨some 9, .op (.mov), [.t 0], none⟩,
  ⟨some 10, .call none, [.f 87, .t 9], none⟩,
  ⟨some 11, .op (.look .str (.agg [.int .i64 0]) true), [.t 8, .t 10], none⟩,
  ⟨some 7, .op (.mov), [.t 11], none⟩,
  ⟨some 12, .op (.extract 0), [.t 7], none⟩,
  ⟨some 13, .op (.extract 1), [.t 7], none⟩,
  ⟨some 5, .op (.alloc 138 [.int .i64 0]), [], none⟩,
  ⟨none, .op (.store 1), [.t 5, .t 12], none⟩,
  ⟨some 6, .op (.mov), [.t 13], none⟩]
abbrev r86_2 : List IOp := [⟨some 14, .op (.mov), [.t 6], none⟩,
  ⟨some 15, .op (.un .not), [.t 14], none⟩]
abbrev r86_3 : List IOp := [⟨some 16, .op (.load none), [.t 2], none⟩,
  ⟨some 17, .op (.len .slice), [.t 16], none⟩,
  ⟨some 18, .op (.bst [.int .i64 0] [(0, 1)] [0]), [.t 17], none⟩,
  ⟨none, .op (.store 1), [.t 5, .t 18], none⟩]
abbrev r86_4 : List IOp := [⟨some 19, .op (.load none), [.t 1], none⟩,
  ⟨some 20, .op (.mov), [.t 0], none⟩,
  ⟨some 21, .call none, [.f 87, .t 20], none⟩,
  ⟨some 22, .op (.load (some 1)), [.t 5], none⟩,
  ⟨none, .op (.mapup .str), [.t 19, .t 21, .t 22], none⟩]
abbrev r86_5 : List IOp := [⟨some 23, .op (.load none), [.t 2], none⟩,
  ⟨some 24, .op (.mov), [.t 0], none⟩,
  ⟨some 25, .op (.bsl 28 1 false), [.t 24], none⟩,
  ⟨some 26, .op (.app 28 1 24), [.t 23, .t 25], none⟩,
  ⟨none, .op (.store 1), [.t 2, .t 26], none⟩]
abbrev r86_6 : List IOp := [⟨some 27, .op (.faddr 0), [.t 5], none⟩,
  ⟨some 28, .op (.load none), [.t 27], none⟩,
  ⟨some 4, .op (.mov), [.t 28], none⟩]
abbrev c86 : IC := (IC.seq (IC.reg r86_0) (IC.seq (IC.regD .wild r86_1 (.take 1 (.fork [(0, .fork [(2, .take 3 (.take 4 (.take 5 (.take 6 (.take 7 (.take 8 (.take 9 (.done)))))))), (7, .take 2 (.take 3 (.take 4 (.take 5 (.take 6 (.take 8 (.take 9 (.done))))))))]), (2, .take 0 (.take 3 (.take 4 (.take 5 (.take 6 (.take 7 (.take 8 (.take 9 (.done))))))))), (7, .fork [(0, .take 2 (.take 3 (.take 4 (.take 5 (.take 6 (.take 8 (.take 9 (.done)))))))), (2, .take 0 (.take 3 (.take 4 (.take 5 (.take 6 (.take 8 (.take 9 (.done))))))))])]))) (IC.seq (IC.seq (IC.reg r86_2) (IC.cond (.t 15) (IC.seq (IC.reg r86_3) (IC.seq (IC.regD .alloc r86_4 (.take 0 (.take 1 (.take 3 (.take 2 (.take 4 (.done))))))) (IC.reg r86_5))) IC.skip)) (IC.seq (IC.reg r86_6) IC.ret))))
abbrev g86 : FC := ⟨c86, 29, [.t 4]⟩
theorem comp86 : compF Go.Proofs.Tryz.prog (hintL [(1, 6), (4, 7)]) 86 = some g86 := by kernel_rfl

-- (*outlaw/nfa.Nfa).Start
abbrev r88_0 : List IOp := [⟨some 2, .op (.mov), [.c (.nils)], none⟩]
abbrev r88_1 : List IOp := [⟨some 3, .op (.mov), [.t 0], none⟩,
  ⟨some 4, .call none, [.f 133, .t 3], none⟩,
  ⟨some 5, .call none, [.f 134, .t 4], none⟩,
  ⟨some 2, .op (.mov), [.t 5], none⟩]
abbrev c88 : IC := (IC.seq (IC.reg r88_0) (IC.seq (IC.reg r88_1) IC.ret))
abbrev g88 : FC := ⟨c88, 6, [.t 2]⟩
theorem comp88 : compF Go.Proofs.Tryz.prog (fun _ => 0) 88 = some g88 := by kernel_rfl

-- (*outlaw/nfa.Nfa).Step
abbrev r89_0 : List IOp := [⟨some 6, .op (.mov), [.c (.nils)], none⟩]
abbrev r89_1 : List IOp := [⟨some 7, .op (.mov), [.t 0], none⟩,
  ⟨some 8, .op (.mov), [.t 0], none⟩,
  ⟨some 9, .op (.mov), [.t 1], none⟩,
  ⟨some 10, .call none, [.f 136, .t 8, .t 9], none⟩,
  ⟨some 11, .op (.mov), [.t 2], none⟩,
  ⟨some 12, .call none, [.f 135, .t 7, .t 10, .t 11], none⟩,
  ⟨some 13, .call none, [.f 134, .t 12], none⟩,
  ⟨some 6, .op (.mov), [.t 13], none⟩]
abbrev c89 : IC := (IC.seq (IC.reg r89_0) (IC.seq (IC.reg r89_1) IC.ret))
abbrev g89 : FC := ⟨c89, 14, [.t 6]⟩
theorem comp89 : compF Go.Proofs.Tryz.prog (fun _ => 0) 89 = some g89 := by kernel_rfl

-- (*outlaw/nfa.Nfa).Accepts
abbrev r90_0 : List IOp := [⟨some 4, .op (.mov), [.c (.bool false)], none⟩]
abbrev r90_1 : List IOp := [⟨some 6, .op (.mov), [.t 0], none⟩,
  ⟨some 7, .op (.mov), [.t 1], none⟩,
  ⟨some 8, .call none, [.f 136, .t 6, .t 7], none⟩,
  ⟨some 5, .op (.mov), [.t 8], none⟩]
abbrev r90_2 : List IOp := [⟨some 9, .op (.mov), [.t 5], none⟩,
  ⟨some 10, .op (.len .slice), [.t 9], none⟩,
  ⟨some 11, .op (.bin .gtr .prim), [.t 10, .c (.int .i64 0)], none⟩,
  ⟨some 12, .op (.mov), [.t 11], none⟩,
  ⟨some 13, .op (.mov), [.t 5], some (12, true)⟩,
  ⟨some 14, .op (.mov), [.t 5], some (12, true)⟩,
  ⟨some 15, .op (.len .slice), [.t 14], some (12, true)⟩,
  ⟨some 16, .op (.bin .sub .prim), [.t 15, .c (.int .i64 1)], some (12, true)⟩,
  ⟨some 17, .op (.iaddr 1), [.t 13, .t 16], some (12, true)⟩,
  ⟨some 18, .op (.load none), [.t 17], some (12, true)⟩,
  ⟨some 19, .op (.pick), [.t 12, .t 18, .c (.bool false)], none⟩,
  ⟨some 4, .op (.mov), [.t 19], none⟩]
abbrev c90 : IC := (IC.seq (IC.reg r90_0) (IC.seq (IC.reg r90_1) (IC.seq (IC.reg r90_2) IC.ret)))
abbrev g90 : FC := ⟨c90, 20, [.t 4]⟩
theorem comp90 : compF Go.Proofs.Tryz.prog (fun _ => 0) 90 = some g90 := by kernel_rfl

-- slices.AppendSeq[[]int,int]
abbrev r91_0 : List IOp := [⟨some 2, .op (.box 28), [.t 0], none⟩,
  ⟨some 4, .op (.mov), [.c (.nils)], none⟩]
abbrev r91_1 : List IOp := [⟨some 6, .op (.mov), [.t 1], none⟩]
abbrev r91_2 : List IOp := [⟨some 12, .op (.load none), [.t 2], none⟩,
  ⟨some 4, .op (.mov), [.t 12], none⟩]
abbrev r91_3 : List IOp := [⟨some 5, .op (.mov), [.t 7], none⟩]
abbrev r91_4 : List IOp := [⟨some 8, .op (.load none), [.t 2], none⟩,
  ⟨some 9, .op (.mov), [.t 5], none⟩,
  ⟨some 10, .op (.bsl 3 1 false), [.t 9], none⟩,
  ⟨some 11, .op (.app 3 1 8), [.t 8, .t 10], none⟩,
  ⟨none, .op (.store 1), [.t 2, .t 11], none⟩]
abbrev c91 : IC := (IC.seq (IC.reg r91_0) (IC.seq (IC.seq (IC.reg r91_1) (IC.block 0 (IC.rangeF 91000 13 (.t 6)))) (IC.seq (IC.reg r91_2) IC.ret)))
abbrev g91 : FC := ⟨c91, 13, [.t 4]⟩
theorem comp91 : compF Go.Proofs.Tryz.prog (hintL [(1000002, 91000), (2000002, 13)]) 91 = some g91 := by kernel_rfl
abbrev li91000 : LI := ⟨13, [7], (IC.reg r91_3), (IC.block 1 (IC.reg r91_4))⟩
theorem keys91 : KeysF Go.Proofs.Tryz.prog (hintL [(1000002, 91000), (2000002, 13)]) 91 := keysF_of (by kernel_rfl)
theorem lok91000 : LOk Go.Proofs.Tryz.prog 91000 li91000 := ⟨hintL [(1000002, 91000), (2000002, 13)], by kernel_rfl, by kernel_rfl, by kernel_rfl, by kernel_rfl, by decide⟩

-- outlaw/dfa.through
abbrev r235_0 : List IOp := [⟨some 2, .op (.box 103), [.t 0], none⟩,
  ⟨some 4, .op (.mov), [.c (.bool false)], none⟩]
abbrev r235_1 : List IOp := [⟨some 5, .op (.mov), [.c (.int .i64 0)], none⟩]
abbrev r235_2 : List IOp := [⟨some 7, .op (.mov), [.t 1], none⟩,
  ⟨some 8, .op (.len .str), [.t 7], none⟩,
  ⟨some 9, .op (.mov), [.c (.int .i64 0)], none⟩]
abbrev r235_3 : List IOp := [⟨some 10, .op (.bin .lss .prim), [.t 9, .t 8], none⟩]
abbrev r235_4 : List IOp := [⟨some 11, .op (.mov), [.t 9], none⟩,
  ⟨some 6, .op (.mov), [.t 11], none⟩]
abbrev r235_5 : List IOp := [⟨some 12, .op (.faddr 1), [.t 2], none⟩,
  ⟨some 13, .op (.load none), [.t 12], none⟩,
  ⟨some 14, .op (.mov), [.t 5], none⟩,
  ⟨some 15, .op (.iaddr 1), [.t 13, .t 14], none⟩,
  ⟨some 16, .op (.load none), [.t 15], none⟩,
  ⟨some 17, .op (.faddr 0), [.t 2], none⟩,
  ⟨some 18, .op (.load none), [.t 17], none⟩,
  ⟨some 19, .op (.mov), [.t 1], none⟩,
  ⟨some 20, .op (.mov), [.t 6], none⟩,
  ⟨some 21, .op (.idxs), [.t 19, .t 20], none⟩,
  ⟨some 22, .op (.iaddr 1), [.t 18, .t 21], none⟩,
  ⟨some 23, .op (.load none), [.t 22], none⟩,
  ⟨some 24, .op (.iaddr 1), [.t 16, .t 23], none⟩,
  ⟨some 25, .op (.load none), [.t 24], none⟩,
  ⟨some 5, .op (.mov), [.t 25], none⟩]
abbrev r235_6 : List IOp := [⟨some 26, .op (.bin .add .prim), [.t 9, .c (.int .i64 1)], none⟩,
  ⟨some 9, .op (.mov), [.t 26], none⟩]
abbrev b235_0 : IC := (IC.seq (IC.reg r235_3) (IC.seq (IC.cond (.t 10) IC.skip (IC.exit 0)) (IC.seq (IC.block 1 (IC.seq (IC.reg r235_4) (IC.regD .wild r235_5 (.take 0 (.take 1 (.take 2 (.take 3 (.take 4 (.take 5 (.take 6 (.take 7 (.take 8 (.take 9 (.take 10 (.take 11 (.take 12 (.take 13 (.take 14 (.done))))))))))))))))))) (IC.reg r235_6))))
abbrev r235_7 : List IOp := [⟨some 27, .op (.faddr 2), [.t 2], none⟩,
  ⟨some 28, .op (.load none), [.t 27], none⟩,
  ⟨some 29, .op (.mov), [.t 5], none⟩,
  ⟨some 30, .op (.iaddr 1), [.t 28, .t 29], none⟩,
  ⟨some 31, .op (.load none), [.t 30], none⟩,
  ⟨some 4, .op (.mov), [.t 31], none⟩]
abbrev c235 : IC := (IC.seq (IC.reg r235_0) (IC.seq (IC.reg r235_1) (IC.seq (IC.seq (IC.reg r235_2) (IC.block 0 (IC.loop b235_0))) (IC.seq (IC.reg r235_7) IC.ret))))
abbrev g235 : FC := ⟨c235, 32, [.t 4]⟩
theorem comp235 : compF Go.Proofs.Tryz.prog (hintL [(5, 6)]) 235 = some g235 := by kernel_rfl

-- math/bits.Len64
abbrev r102_0 : List IOp := [⟨some 2, .op (.mov), [.c (.int .i64 0)], none⟩]
abbrev r102_1 : List IOp := [⟨some 3, .op (.mov), [.t 0], none⟩,
  ⟨some 4, .op (.bin .geq .prim), [.t 3, .c (.int .u64 4294967296)], none⟩]
abbrev r102_2 : List IOp := [⟨some 5, .op (.mov), [.t 0], none⟩,
  ⟨some 6, .op (.bin .shr .prim), [.t 5, .c (.int .u64 32)], none⟩,
  ⟨some 0, .op (.mov), [.t 6], none⟩]
abbrev r102_3 : List IOp := [⟨some 2, .op (.mov), [.c (.int .i64 32)], none⟩]
abbrev r102_4 : List IOp := [⟨some 7, .op (.mov), [.t 0], none⟩,
  ⟨some 8, .op (.bin .geq .prim), [.t 7, .c (.int .u64 65536)], none⟩]
abbrev r102_5 : List IOp := [⟨some 9, .op (.mov), [.t 0], none⟩,
  ⟨some 10, .op (.bin .shr .prim), [.t 9, .c (.int .u64 16)], none⟩,
  ⟨some 0, .op (.mov), [.t 10], none⟩]
abbrev r102_6 : List IOp := [⟨some 11, .op (.mov), [.t 2], none⟩,
  ⟨some 12, .op (.bin .add .prim), [.t 11, .c (.int .i64 16)], none⟩,
  ⟨some 2, .op (.mov), [.t 12], none⟩]
abbrev r102_7 : List IOp := [⟨some 13, .op (.mov), [.t 0], none⟩,
  ⟨some 14, .op (.bin .geq .prim), [.t 13, .c (.int .u64 256)], none⟩]
abbrev r102_8 : List IOp := [⟨some 15, .op (.mov), [.t 0], none⟩,
  ⟨some 16, .op (.bin .shr .prim), [.t 15, .c (.int .u64 8)], none⟩,
  ⟨some 0, .op (.mov), [.t 16], none⟩]
abbrev r102_9 : List IOp := [⟨some 17, .op (.mov), [.t 2], none⟩,
  ⟨some 18, .op (.bin .add .prim), [.t 17, .c (.int .i64 8)], none⟩,
  ⟨some 2, .op (.mov), [.t 18], none⟩]
abbrev r102_10 : List IOp := [⟨some 19, .op (.mov), [.t 2], none⟩,
  ⟨some 20, .op (.mov), [.t 0], none⟩,
  ⟨some 21, .op (.toInt .u8), [.t 20], none⟩,
  ⟨some 22, .op (.idxs), [.c (.str [0, 1, 2, 2, 3, 3, 3, 3, 4, 4, 4, 4, 4, 4, 4, 4, 5, 5, 5, 5, 5, 5, 5, 5, 5, 5, 5, 5, 5, 5, 5, 5, 6, 6, 6, 6, 6, 6, 6, 6, 6, 6, 6, 6, 6, 6, 6, 6, 6, 6, 6, 6, 6, 6, 6, 6, 6, 6, 6, 6, 6, 6, 6, 6, 7, 7, 7, 7, 7, 7, 7, 7, 7, 7, 7, 7, 7, 7, 7, 7, 7, 7, 7, 7, 7, 7, 7, 7, 7, 7, 7, 7, 7, 7, 7, 7, 7, 7, 7, 7, 7, 7, 7, 7, 7, 7, 7, 7, 7, 7, 7, 7, 7, 7, 7, 7, 7, 7, 7, 7, 7, 7, 7, 7, 7, 7, 7, 7, 8, 8, 8, 8, 8, 8, 8, 8, 8, 8, 8, 8, 8, 8, 8, 8, 8, 8, 8, 8, 8, 8, 8, 8, 8, 8, 8, 8, 8, 8, 8, 8, 8, 8, 8, 8, 8, 8, 8, 8, 8, 8, 8, 8, 8, 8, 8, 8, 8, 8, 8, 8, 8, 8, 8, 8, 8, 8, 8, 8, 8, 8, 8, 8, 8, 8, 8, 8, 8, 8, 8, 8, 8, 8, 8, 8, 8, 8, 8, 8, 8, 8, 8, 8, 8, 8, 8, 8, 8, 8, 8, 8, 8, 8, 8, 8, 8, 8, 8, 8, 8, 8, 8, 8, 8, 8, 8, 8, 8, 8, 8, 8, 8, 8, 8, 8, 8, 8, 8, 8, 8, 8, 8, 8, 8, 8, 8, 8]), .t 21], none⟩,
  ⟨some 23, .op (.toInt .i64), [.t 22], none⟩,
  ⟨some 24, .op (.bin .add .prim), [.t 19, .t 23], none⟩,
  ⟨some 2, .op (.mov), [.t 24], none⟩]
abbrev c102 : IC := (IC.seq (IC.reg r102_0) (IC.seq (IC.seq (IC.reg r102_1) (IC.cond (.t 4) (IC.seq (IC.reg r102_2) (IC.reg r102_3)) IC.skip)) (IC.seq (IC.seq (IC.reg r102_4) (IC.cond (.t 8) (IC.seq (IC.reg r102_5) (IC.reg r102_6)) IC.skip)) (IC.seq (IC.seq (IC.reg r102_7) (IC.cond (.t 14) (IC.seq (IC.reg r102_8) (IC.reg r102_9)) IC.skip)) (IC.seq (IC.reg r102_10) IC.ret)))))
abbrev g102 : FC := ⟨c102, 25, [.t 2]⟩
theorem comp102 : compF Go.Proofs.Tryz.prog (fun _ => 0) 102 = some g102 := by kernel_rfl

-- slices.insertionSortOrdered[int]
abbrev r92_0 : List IOp := [⟨some 8, .op (.mov), [.t 1], none⟩,
  ⟨some 9, .op (.bin .add .prim), [.t 8, .c (.int .i64 1)], none⟩,
  ⟨some 6, .op (.mov), [.t 9], none⟩]
abbrev r92_1 : List IOp := [⟨some 10, .op (.mov), [.t 6], none⟩,
  ⟨some 11, .op (.mov), [.t 2], none⟩,
  ⟨some 12, .op (.bin .lss .prim), [.t 10, .t 11], none⟩]
abbrev r92_2 : List IOp := [⟨some 15, .op (.mov), [.t 6], none⟩,
  ⟨some 7, .op (.mov), [.t 15], none⟩]
abbrev r92_3 : List IOp := [⟨some 16, .op (.mov), [.t 7], none⟩,
  ⟨some 17, .op (.mov), [.t 1], none⟩,
  ⟨some 18, .op (.bin .gtr .prim), [.t 16, .t 17], none⟩,
  ⟨some 19, .op (.mov), [.t 18], none⟩,
  ⟨some 20, .op (.mov), [.t 0], some (19, true)⟩,
  ⟨some 21, .op (.mov), [.t 7], some (19, true)⟩,
  ⟨some 22, .op (.iaddr 1), [.t 20, .t 21], some (19, true)⟩,
  ⟨some 23, .op (.load none), [.t 22], some (19, true)⟩,
  ⟨some 24, .op (.mov), [.t 0], some (19, true)⟩,
  ⟨some 25, .op (.mov), [.t 7], some (19, true)⟩,
  ⟨some 26, .op (.bin .sub .prim), [.t 25, .c (.int .i64 1)], some (19, true)⟩,
  ⟨some 27, .op (.iaddr 1), [.t 24, .t 26], some (19, true)⟩,
  ⟨some 28, .op (.load none), [.t 27], some (19, true)⟩,
  ⟨some 29, .call none, [.f 98, .t 23, .t 28], some (19, true)⟩,
  ⟨some 30, .op (.pick), [.t 19, .t 29, .c (.bool false)], none⟩]
abbrev r92_4 : List IOp := [⟨some 33, .op (.mov), [.t 0], none⟩,
  ⟨some 34, .op (.mov), [.t 7], none⟩,
  ⟨some 35, .op (.mov), [.t 0], none⟩,
  ⟨some 36, .op (.mov), [.t 7], none⟩,
  ⟨some 37, .op (.bin .sub .prim), [.t 36, .c (.int .i64 1)], none⟩,
  ⟨some 38, .op (.mov), [.t 0], none⟩,
  ⟨some 39, .op (.mov), [.t 7], none⟩,
  ⟨some 40, .op (.bin .sub .prim), [.t 39, .c (.int .i64 1)], none⟩,
  ⟨some 41, .op (.iaddr 1), [.t 38, .t 40], none⟩,
  ⟨some 42, .op (.load none), [.t 41], none⟩,
  ⟨some 43, .op (.mov), [.t 0], none⟩,
  ⟨some 44, .op (.mov), [.t 7], none⟩,
  ⟨some 45, .op (.iaddr 1), [.t 43, .t 44], none⟩,
  ⟨some 46, .op (.load none), [.t 45], none⟩,
  ⟨some 47, .op (.iaddr 1), [.t 33, .t 34], none⟩,
  ⟨none, .op (.store 1), [.t 47, .t 42], none⟩,
  ⟨some 48, .op (.iaddr 1), [.t 35, .t 37], none⟩,
  ⟨none, .op (.store 1), [.t 48, .t 46], none⟩]
abbrev r92_5 : List IOp := [⟨some 31, .op (.mov), [.t 7], none⟩,
  ⟨some 32, .op (.bin .sub .prim), [.t 31, .c (.int .i64 1)], none⟩,
  ⟨some 7, .op (.mov), [.t 32], none⟩]
abbrev b92_0 : IC := (IC.seq (IC.seq (IC.regD .wild r92_3 (.take 0 (.take 1 (.take 2 (.take 3 (.take 4 (.take 5 (.take 6 (.take 7 (.take 8 (.take 9 (.take 10 (.take 11 (.take 12 (.take 13 (.take 14 (.done))))))))))))))))) (IC.cond (.t 30) IC.skip (IC.exit 2))) (IC.seq (IC.block 3 (IC.regD .wild r92_4 (.take 0 (.take 1 (.take 2 (.take 3 (.take 4 (.take 5 (.take 6 (.take 7 (.take 8 (.take 9 (.take 10 (.take 11 (.take 12 (.take 13 (.take 14 (.take 15 (.take 16 (.take 17 (.done))))))))))))))))))))) (IC.reg r92_5)))
abbrev r92_6 : List IOp := [⟨some 13, .op (.mov), [.t 6], none⟩,
  ⟨some 14, .op (.bin .add .prim), [.t 13, .c (.int .i64 1)], none⟩,
  ⟨some 6, .op (.mov), [.t 14], none⟩]
abbrev b92_1 : IC := (IC.seq (IC.seq (IC.reg r92_1) (IC.cond (.t 12) IC.skip (IC.exit 0))) (IC.seq (IC.block 1 (IC.seq (IC.reg r92_2) (IC.block 2 (IC.loop b92_0)))) (IC.reg r92_6)))
abbrev c92 : IC := (IC.seq (IC.reg r92_0) (IC.block 0 (IC.loop b92_1)))
abbrev g92 : FC := ⟨c92, 49, []⟩
theorem comp92 : compF Go.Proofs.Tryz.prog (hintL [(4, 6), (6, 6)]) 92 = some g92 := by kernel_rfl

-- cmp.Less[int]
abbrev r98_0 : List IOp := [⟨some 4, .op (.mov), [.c (.bool false)], none⟩]
abbrev r98_1 : List IOp := [⟨some 5, .op (.mov), [.t 0], none⟩,
  ⟨some 6, .call none, [.f 142, .t 5], none⟩,
  ⟨some 7, .op (.mov), [.t 6], none⟩,
  ⟨some 8, .op (.mov), [.t 1], some (7, true)⟩,
  ⟨some 9, .call none, [.f 142, .t 8], some (7, true)⟩,
  ⟨some 10, .op (.un .not), [.t 9], some (7, true)⟩,
  ⟨some 11, .op (.pick), [.t 7, .t 10, .c (.bool false)], none⟩,
  ⟨some 12, .op (.mov), [.t 11], none⟩,
  ⟨some 13, .op (.mov), [.t 0], some (12, false)⟩,
  ⟨some 14, .op (.mov), [.t 1], some (12, false)⟩,
  ⟨some 15, .op (.bin .lss .prim), [.t 13, .t 14], some (12, false)⟩,
  ⟨some 16, .op (.pick), [.t 12, .c (.bool true), .t 15], none⟩,
  ⟨some 4, .op (.mov), [.t 16], none⟩]
abbrev c98 : IC := (IC.seq (IC.reg r98_0) (IC.seq (IC.reg r98_1) IC.ret))
abbrev g98 : FC := ⟨c98, 17, [.t 4]⟩
theorem comp98 : compF Go.Proofs.Tryz.prog (fun _ => 0) 98 = some g98 := by kernel_rfl

-- bytes.shouldUseASCIISet
abbrev r121_0 : List IOp := [⟨some 2, .op (.mov), [.c (.bool false)], none⟩]
abbrev r121_1 : List IOp := [⟨some 3, .op (.mov), [.t 0], none⟩,
  ⟨some 4, .op (.bin .gtr .prim), [.t 3, .c (.int .i64 8)], none⟩,
  ⟨some 2, .op (.mov), [.t 4], none⟩]
abbrev c121 : IC := (IC.seq (IC.reg r121_0) (IC.seq (IC.reg r121_1) IC.ret))
abbrev g121 : FC := ⟨c121, 5, [.t 2]⟩
theorem comp121 : compF Go.Proofs.Tryz.prog (fun _ => 0) 121 = some g121 := by kernel_rfl

-- bytes.Count
abbrev r126_0 : List IOp := [⟨some 4, .op (.mov), [.c (.int .i64 0)], none⟩]
abbrev r126_1 : List IOp := [⟨some 7, .op (.mov), [.t 1], none⟩,
  ⟨some 8, .op (.len .slice), [.t 7], none⟩,
  ⟨some 9, .op (.bin .eql .prim), [.t 8, .c (.int .i64 0)], none⟩]
abbrev r126_2 : List IOp := [⟨some 10, .op (.mov), [.t 0], none⟩,
  ⟨some 11, .call none, [.f 172, .t 10], none⟩,
  ⟨some 12, .op (.bin .add .prim), [.t 11, .c (.int .i64 1)], none⟩,
  ⟨some 4, .op (.mov), [.t 12], none⟩]
abbrev r126_3 : List IOp := [⟨some 13, .op (.mov), [.t 1], none⟩,
  ⟨some 14, .op (.len .slice), [.t 13], none⟩,
  ⟨some 15, .op (.bin .eql .prim), [.t 14, .c (.int .i64 1)], none⟩]
abbrev r126_4 : List IOp := [⟨some 16, .op (.mov), [.t 0], none⟩,
  ⟨some 17, .op (.mov), [.t 1], none⟩,
  ⟨some 18, .op (.iaddr 1), [.t 17, .c (.int .i64 0)], none⟩,
  ⟨some 19, .op (.load none), [.t 18], none⟩,
  ⟨some 20, .call none, [.f 173, .t 16, .t 19], none⟩,
  ⟨some 4, .op (.mov), [.t 20], none⟩]
abbrev r126_5 : List IOp := [⟨some 5, .op (.mov), [.c (.int .i64 0)], none⟩]
abbrev r126_6 : List IOp := [⟨some 21, .op (.mov), [.t 0], none⟩,
  ⟨some 22, .op (.mov), [.t 1], none⟩,
  ⟨some 23, .call none, [.f 174, .t 21, .t 22], none⟩,
  ⟨some 6, .op (.mov), [.t 23], none⟩]
abbrev r126_7 : List IOp := [⟨some 24, .op (.mov), [.t 6], none⟩,
  ⟨some 25, .op (.bin .eql .prim), [.t 24, .c (.int .i64 (-1))], none⟩]
abbrev r126_8 : List IOp := [⟨some 26, .op (.mov), [.t 5], none⟩,
  ⟨some 4, .op (.mov), [.t 26], none⟩]
abbrev r126_9 : List IOp := [⟨some 27, .op (.mov), [.t 5], none⟩,
  ⟨some 28, .op (.bin .add .prim), [.t 27, .c (.int .i64 1)], none⟩,
  ⟨some 5, .op (.mov), [.t 28], none⟩]
abbrev r126_10 : List IOp := [⟨some 29, .op (.mov), [.t 0], none⟩,
  ⟨some 30, .op (.mov), [.t 6], none⟩,
  ⟨some 31, .op (.mov), [.t 1], none⟩,
  ⟨some 32, .op (.len .slice), [.t 31], none⟩,
  ⟨some 33, .op (.bin .add .prim), [.t 30, .t 32], none⟩,
  ⟨some 34, .op (.slice 1 true false false), [.t 29, .t 33], none⟩,
  ⟨some 0, .op (.mov), [.t 34], none⟩]
abbrev b126_0 : IC := (IC.block 1 (IC.seq (IC.reg r126_6) (IC.seq (IC.seq (IC.reg r126_7) (IC.cond (.t 25) (IC.seq (IC.reg r126_8) IC.ret) IC.skip)) (IC.seq (IC.reg r126_9) (IC.reg r126_10)))))
abbrev c126 : IC := (IC.seq (IC.reg r126_0) (IC.seq (IC.seq (IC.reg r126_1) (IC.cond (.t 9) (IC.seq (IC.reg r126_2) IC.ret) IC.skip)) (IC.seq (IC.seq (IC.reg r126_3) (IC.cond (.t 15) (IC.seq (IC.reg r126_4) IC.ret) IC.skip)) (IC.seq (IC.reg r126_5) (IC.block 0 (IC.loop b126_0))))))
abbrev g126 : FC := ⟨c126, 35, [.t 4]⟩
theorem comp126 : compF Go.Proofs.Tryz.prog (fun _ => 0) 126 = some g126 := by kernel_rfl

-- bytes.Repeat
abbrev r127_0 : List IOp := [⟨some 4, .op (.mov), [.c (.nils)], none⟩]
abbrev r127_1 : List IOp := [⟨some 12, .op (.mov), [.t 1], none⟩,
  ⟨some 13, .op (.bin .eql .prim), [.t 12, .c (.int .i64 0)], none⟩]
abbrev r127_2 : List IOp := [⟨some 14, .op (.bsl 5 1 false), [], none⟩,
  ⟨some 4, .op (.mov), [.t 14], none⟩]
abbrev r127_3 : List IOp := [⟨some 15, .op (.mov), [.t 1], none⟩,
  ⟨some 16, .op (.bin .lss .prim), [.t 15, .c (.int .i64 0)], none⟩]
abbrev r127_4 : List IOp := [⟨some 17, .op (.mkif 9), [.c (.str [98, 121, 116, 101, 115, 58, 32, 110, 101, 103, 97, 116, 105, 118, 101, 32, 82, 101, 112, 101, 97, 116, 32, 99, 111, 117, 110, 116])], none⟩,
  ⟨none, .op (.never), [], none⟩]
abbrev r127_5 : List IOp := [⟨some 19, .op (.mov), [.t 0], none⟩,
  ⟨some 20, .op (.len .slice), [.t 19], none⟩,
  ⟨some 21, .op (.toInt .u64), [.t 20], none⟩,
  ⟨some 22, .op (.mov), [.t 1], none⟩,
  ⟨some 23, .op (.toInt .u64), [.t 22], none⟩,
  ⟨some 24, .call none, [.f 175, .t 21, .t 23], none⟩,
  ⟨some 18, .op (.mov), [.t 24], none⟩,
  ⟨some 25, .op (.extract 0), [.t 18], none⟩,
  ⟨some 26, .op (.extract 1), [.t 18], none⟩,
  ⟨some 5, .op (.mov), [.t 25], none⟩,
  ⟨some 6, .op (.mov), [.t 26], none⟩]
abbrev r127_6 : List IOp := [⟨some 27, .op (.mov), [.t 5], none⟩,
  ⟨some 28, .op (.bin .gtr .prim), [.t 27, .c (.int .u64 0)], none⟩,
  ⟨some 29, .op (.mov), [.t 28], none⟩,
  ⟨some 30, .op (.mov), [.t 6], some (29, false)⟩,
  ⟨some 31, .op (.bin .gtr .prim), [.t 30, .c (.int .u64 9223372036854775807)], some (29, false)⟩,
  ⟨some 32, .op (.pick), [.t 29, .c (.bool true), .t 31], none⟩]
abbrev r127_7 : List IOp := [⟨some 33, .op (.mkif 9), [.c (.str [98, 121, 116, 101, 115, 58, 32, 82, 101, 112, 101, 97, 116, 32, 111, 117, 116, 112, 117, 116, 32, 108, 101, 110, 103, 116, 104, 32, 111, 118, 101, 114, 102, 108, 111, 119])], none⟩,
  ⟨none, .op (.never), [], none⟩]
abbrev r127_8 : List IOp := [⟨some 34, .op (.mov), [.t 6], none⟩,
  ⟨some 35, .op (.toInt .i64), [.t 34], none⟩,
  ⟨some 7, .op (.mov), [.t 35], none⟩]
abbrev r127_9 : List IOp := [⟨some 36, .op (.mov), [.t 0], none⟩,
  ⟨some 37, .op (.len .slice), [.t 36], none⟩,
  ⟨some 38, .op (.bin .eql .prim), [.t 37, .c (.int .i64 0)], none⟩]
abbrev r127_10 : List IOp := [⟨some 39, .op (.bsl 5 1 false), [], none⟩,
  ⟨some 4, .op (.mov), [.t 39], none⟩]
abbrev r127_11 : List IOp := [⟨some 40, .op (.mov), [.t 7], none⟩,
  ⟨some 8, .op (.mov), [.t 40], none⟩]
abbrev r127_12 : List IOp := [⟨some 41, .op (.mov), [.t 8], none⟩,
  ⟨some 42, .op (.bin .gtr .prim), [.t 41, .c (.int .i64 8192)], none⟩]
abbrev r127_13 : List IOp := [⟨some 43, .op (.mov), [.t 0], none⟩,
  ⟨some 44, .op (.len .slice), [.t 43], none⟩,
  ⟨some 45, .op (.bin .quo .prim), [.c (.int .i64 8192), .t 44], none⟩,
  ⟨some 46, .op (.mov), [.t 0], none⟩,
  ⟨some 47, .op (.len .slice), [.t 46], none⟩,
  ⟨some 48, .op (.bin .mul .prim), [.t 45, .t 47], none⟩,
  ⟨some 8, .op (.mov), [.t 48], none⟩]
abbrev r127_14 : List IOp := [⟨some 49, .op (.mov), [.t 8], none⟩,
  ⟨some 50, .op (.bin .eql .prim), [.t 49, .c (.int .i64 0)], none⟩]
abbrev r127_15 : List IOp := [⟨some 51, .op (.mov), [.t 0], none⟩,
  ⟨some 52, .op (.len .slice), [.t 51], none⟩,
  ⟨some 8, .op (.mov), [.t 52], none⟩]
abbrev r127_16 : List IOp := [⟨some 53, .op (.mov), [.t 7], none⟩,
  ⟨some 54, .call none, [.f 176, .t 53], none⟩,
  ⟨some 55, .op (.mov), [.t 7], none⟩,
  ⟨some 56, .op (.mov), [.t 7], none⟩,
  ⟨some 57, .op (.slice 1 false true true), [.t 54, .t 55, .t 56], none⟩,
  ⟨some 9, .op (.mov), [.t 57], none⟩]
abbrev r127_17 : List IOp := [⟨some 58, .op (.mov), [.t 9], none⟩,
  ⟨some 59, .op (.mov), [.t 0], none⟩,
  ⟨some 60, .op (.cpy 1), [.t 58, .t 59], none⟩,
  ⟨some 10, .op (.mov), [.t 60], none⟩]
abbrev r127_18 : List IOp := [⟨some 61, .op (.mov), [.t 10], none⟩,
  ⟨some 62, .op (.mov), [.t 7], none⟩,
  ⟨some 63, .op (.bin .lss .prim), [.t 61, .t 62], none⟩]
abbrev r127_19 : List IOp := [⟨some 64, .op (.mov), [.t 10], none⟩,
  ⟨some 65, .op (.mov), [.t 8], none⟩,
  ⟨some 66, .op (.min), [.t 64, .t 65], none⟩,
  ⟨some 11, .op (.mov), [.t 66], none⟩]
abbrev r127_20 : List IOp := [⟨some 67, .op (.mov), [.t 10], none⟩,
  ⟨some 68, .op (.mov), [.t 9], none⟩,
  ⟨some 69, .op (.mov), [.t 10], none⟩,
  ⟨some 70, .op (.slice 1 true false false), [.t 68, .t 69], none⟩,
  ⟨some 71, .op (.mov), [.t 9], none⟩,
  ⟨some 72, .op (.mov), [.t 11], none⟩,
  ⟨some 73, .op (.slice 1 false true false), [.t 71, .t 72], none⟩,
  ⟨some 74, .op (.cpy 1), [.t 70, .t 73], none⟩,
  ⟨some 75, .op (.bin .add .prim), [.t 67, .t 74], none⟩,
  ⟨some 10, .op (.mov), [.t 75], none⟩]
abbrev b127_0 : IC := (IC.seq (IC.seq (IC.reg r127_18) (IC.cond (.t 63) IC.skip (IC.exit 0))) (IC.block 1 (IC.seq (IC.reg r127_19) (IC.regD .wild r127_20 (.take 0 (.take 1 (.take 2 (.take 3 (.take 4 (.take 5 (.take 6 (.take 7 (.take 8 (.take 9 (.done)))))))))))))))
abbrev r127_21 : List IOp := [⟨some 76, .op (.mov), [.t 9], none⟩,
  ⟨some 4, .op (.mov), [.t 76], none⟩]
abbrev c127 : IC := (IC.seq (IC.reg r127_0) (IC.seq (IC.seq (IC.reg r127_1) (IC.cond (.t 13) (IC.seq (IC.reg r127_2) IC.ret) IC.skip)) (IC.seq (IC.seq (IC.reg r127_3) (IC.cond (.t 16) (IC.reg r127_4) IC.skip)) (IC.seq (IC.reg r127_5) (IC.seq (IC.seq (IC.reg r127_6) (IC.cond (.t 32) (IC.reg r127_7) IC.skip)) (IC.seq (IC.reg r127_8) (IC.seq (IC.seq (IC.reg r127_9) (IC.cond (.t 38) (IC.seq (IC.reg r127_10) IC.ret) IC.skip)) (IC.seq (IC.reg r127_11) (IC.seq (IC.seq (IC.reg r127_12) (IC.cond (.t 42) (IC.seq (IC.reg r127_13) (IC.seq (IC.reg r127_14) (IC.cond (.t 50) (IC.reg r127_15) IC.skip))) IC.skip)) (IC.seq (IC.reg r127_16) (IC.seq (IC.reg r127_17) (IC.seq (IC.block 0 (IC.loop b127_0)) (IC.seq (IC.reg r127_21) IC.ret)))))))))))))
abbrev g127 : FC := ⟨c127, 77, [.t 4]⟩
theorem comp127 : compF Go.Proofs.Tryz.prog (hintL [(20, 6)]) 127 = some g127 := by kernel_rfl

-- outlaw/dfa.classes$1
abbrev r128_0 : List IOp := [⟨some 2, .op (.mov), [.c (.int .u8 0)], none⟩]
abbrev r128_1 : List IOp := [⟨some 3, .op (.mov), [.t 0], none⟩,
  ⟨some 2, .op (.mov), [.t 3], none⟩]
abbrev c128 : IC := (IC.seq (IC.reg r128_0) (IC.seq (IC.reg r128_1) IC.ret))
abbrev g128 : FC := ⟨c128, 4, [.t 2]⟩
theorem comp128 : compF Go.Proofs.Tryz.prog (fun _ => 0) 128 = some g128 := by kernel_rfl

-- slices.Sort[[]byte,byte]
abbrev r130_0 : List IOp := [⟨some 3, .op (.mov), [.t 0], none⟩,
  ⟨some 4, .op (.len .slice), [.t 3], none⟩,
  ⟨some 2, .op (.mov), [.t 4], none⟩]
abbrev r130_1 : List IOp := [⟨some 5, .op (.mov), [.t 0], none⟩,
  ⟨some 6, .op (.mov), [.t 2], none⟩,
  ⟨some 7, .op (.mov), [.t 2], none⟩,
  ⟨some 8, .op (.toInt .u64), [.t 7], none⟩,
  ⟨some 9, .call none, [.f 61, .t 8], none⟩,
  ⟨some 10, .call none, [.f 177, .t 5, .c (.int .i64 0), .t 6, .t 9], none⟩]
abbrev c130 : IC := (IC.seq (IC.reg r130_0) (IC.reg r130_1))
abbrev g130 : FC := ⟨c130, 11, []⟩
theorem comp130 : compF Go.Proofs.Tryz.prog (fun _ => 0) 130 = some g130 := by kernel_rfl

-- slices.Compact[[]byte,byte]
abbrev r131_0 : List IOp := [⟨some 2, .op (.mov), [.c (.nils)], none⟩]
abbrev r131_1 : List IOp := [⟨some 6, .op (.mov), [.t 0], none⟩,
  ⟨some 7, .op (.len .slice), [.t 6], none⟩,
  ⟨some 8, .op (.bin .lss .prim), [.t 7, .c (.int .i64 2)], none⟩]
abbrev r131_2 : List IOp := [⟨some 9, .op (.mov), [.t 0], none⟩,
  ⟨some 2, .op (.mov), [.t 9], none⟩]
abbrev r131_3 : List IOp := [⟨some 3, .op (.mov), [.c (.int .i64 1)], none⟩]
abbrev r131_4 : List IOp := [⟨some 10, .op (.mov), [.t 3], none⟩,
  ⟨some 11, .op (.mov), [.t 0], none⟩,
  ⟨some 12, .op (.len .slice), [.t 11], none⟩,
  ⟨some 13, .op (.bin .lss .prim), [.t 10, .t 12], none⟩]
abbrev r131_5 : List IOp := [⟨some 16, .op (.mov), [.t 0], none⟩,
  ⟨some 17, .op (.mov), [.t 3], none⟩,
  ⟨some 18, .op (.iaddr 1), [.t 16, .t 17], none⟩,
  ⟨some 19, .op (.load none), [.t 18], none⟩,
  ⟨some 20, .op (.mov), [.t 0], none⟩,
  ⟨some 21, .op (.mov), [.t 3], none⟩,
  ⟨some 22, .op (.bin .sub .prim), [.t 21, .c (.int .i64 1)], none⟩,
  ⟨some 23, .op (.iaddr 1), [.t 20, .t 22], none⟩,
  ⟨some 24, .op (.load none), [.t 23], none⟩,
  ⟨some 25, .op (.bin .eql .prim), [.t 19, .t 24], none⟩]
abbrev r131_6 : List IOp := [⟨some 26, .op (.mov), [.t 0], none⟩,
  ⟨some 27, .op (.mov), [.t 3], none⟩,
  ⟨some 28, .op (.slice 1 true false false), [.t 26, .t 27], none⟩,
  ⟨some 4, .op (.mov), [.t 28], none⟩]
abbrev r131_7 : List IOp := [⟨some 5, .op (.mov), [.c (.int .i64 1)], none⟩]
abbrev r131_8 : List IOp := [⟨some 29, .op (.mov), [.t 5], none⟩,
  ⟨some 30, .op (.mov), [.t 4], none⟩,
  ⟨some 31, .op (.len .slice), [.t 30], none⟩,
  ⟨some 32, .op (.bin .lss .prim), [.t 29, .t 31], none⟩]
abbrev r131_9 : List IOp := [⟨some 35, .op (.mov), [.t 4], none⟩,
  ⟨some 36, .op (.mov), [.t 5], none⟩,
  ⟨some 37, .op (.iaddr 1), [.t 35, .t 36], none⟩,
  ⟨some 38, .op (.load none), [.t 37], none⟩,
  ⟨some 39, .op (.mov), [.t 4], none⟩,
  ⟨some 40, .op (.mov), [.t 5], none⟩,
  ⟨some 41, .op (.bin .sub .prim), [.t 40, .c (.int .i64 1)], none⟩,
  ⟨some 42, .op (.iaddr 1), [.t 39, .t 41], none⟩,
  ⟨some 43, .op (.load none), [.t 42], none⟩,
  ⟨some 44, .op (.bin .neq .prim), [.t 38, .t 43], none⟩]
abbrev r131_10 : List IOp := [⟨some 45, .op (.mov), [.t 0], none⟩,
  ⟨some 46, .op (.mov), [.t 3], none⟩,
  ⟨some 47, .op (.mov), [.t 4], none⟩,
  ⟨some 48, .op (.mov), [.t 5], none⟩,
  ⟨some 49, .op (.iaddr 1), [.t 47, .t 48], none⟩,
  ⟨some 50, .op (.load none), [.t 49], none⟩,
  ⟨some 51, .op (.iaddr 1), [.t 45, .t 46], none⟩,
  ⟨none, .op (.store 1), [.t 51, .t 50], none⟩]
abbrev r131_11 : List IOp := [⟨some 52, .op (.mov), [.t 3], none⟩,
  ⟨some 53, .op (.bin .add .prim), [.t 52, .c (.int .i64 1)], none⟩,
  ⟨some 3, .op (.mov), [.t 53], none⟩]
abbrev r131_12 : List IOp := [⟨some 33, .op (.mov), [.t 5], none⟩,
  ⟨some 34, .op (.bin .add .prim), [.t 33, .c (.int .i64 1)], none⟩,
  ⟨some 5, .op (.mov), [.t 34], none⟩]
abbrev b131_0 : IC := (IC.seq (IC.seq (IC.reg r131_8) (IC.cond (.t 32) IC.skip (IC.exit 2))) (IC.seq (IC.block 3 (IC.seq (IC.regD .wild r131_9 (.take 0 (.take 1 (.take 2 (.take 3 (.take 4 (.take 5 (.take 6 (.take 7 (.take 8 (.take 9 (.done)))))))))))) (IC.cond (.t 44) (IC.seq (IC.reg r131_10) (IC.reg r131_11)) IC.skip))) (IC.reg r131_12)))
abbrev r131_13 : List IOp := [⟨some 54, .op (.mov), [.t 0], none⟩,
  ⟨some 55, .op (.mov), [.t 3], none⟩,
  ⟨some 56, .op (.slice 1 true false false), [.t 54, .t 55], none⟩,
  ⟨none, .op (.clear [.int .u8 0]), [.t 56], none⟩]
abbrev r131_14 : List IOp := [⟨some 57, .op (.mov), [.t 0], none⟩,
  ⟨some 58, .op (.mov), [.t 3], none⟩,
  ⟨some 59, .op (.slice 1 false true false), [.t 57, .t 58], none⟩,
  ⟨some 2, .op (.mov), [.t 59], none⟩]
abbrev r131_15 : List IOp := [⟨some 14, .op (.mov), [.t 3], none⟩,
  ⟨some 15, .op (.bin .add .prim), [.t 14, .c (.int .i64 1)], none⟩,
  ⟨some 3, .op (.mov), [.t 15], none⟩]
abbrev b131_1 : IC := (IC.seq (IC.seq (IC.reg r131_4) (IC.cond (.t 13) IC.skip (IC.exit 0))) (IC.seq (IC.block 1 (IC.seq (IC.regD .wild r131_5 (.take 0 (.take 1 (.take 2 (.take 3 (.take 4 (.take 5 (.take 6 (.take 7 (.take 8 (.take 9 (.done)))))))))))) (IC.cond (.t 25) (IC.seq (IC.reg r131_6) (IC.seq (IC.seq (IC.reg r131_7) (IC.block 2 (IC.loop b131_0))) (IC.seq (IC.reg r131_13) (IC.seq (IC.reg r131_14) IC.ret)))) IC.skip))) (IC.reg r131_15)))
abbrev r131_16 : List IOp := [⟨some 60, .op (.mov), [.t 0], none⟩,
  ⟨some 2, .op (.mov), [.t 60], none⟩]
abbrev c131 : IC := (IC.seq (IC.reg r131_0) (IC.seq (IC.seq (IC.reg r131_1) (IC.cond (.t 8) (IC.seq (IC.reg r131_2) IC.ret) IC.skip)) (IC.seq (IC.seq (IC.reg r131_3) (IC.block 0 (IC.loop b131_1))) (IC.seq (IC.reg r131_16) IC.ret))))
abbrev g131 : FC := ⟨c131, 61, [.t 2]⟩
theorem comp131 : compF Go.Proofs.Tryz.prog (hintL [(6, 6), (11, 6)]) 131 = some g131 := by kernel_rfl

-- slices.BinarySearch[[]byte,byte]
abbrev r132_0 : List IOp := [⟨some 4, .op (.mov), [.c (.int .i64 0)], none⟩,
  ⟨some 5, .op (.mov), [.c (.bool false)], none⟩]
abbrev r132_1 : List IOp := [⟨some 10, .op (.mov), [.t 0], none⟩,
  ⟨some 11, .op (.len .slice), [.t 10], none⟩,
  ⟨some 6, .op (.mov), [.t 11], none⟩]
abbrev r132_2 : List IOp := [⟨some 12, .op (.mov), [.t 6], none⟩,
  ⟨some 7, .op (.mov), [.c (.int .i64 0)], none⟩,
  ⟨some 8, .op (.mov), [.t 12], none⟩]
abbrev r132_3 : List IOp := [⟨some 13, .op (.mov), [.t 7], none⟩,
  ⟨some 14, .op (.mov), [.t 8], none⟩,
  ⟨some 15, .op (.bin .lss .prim), [.t 13, .t 14], none⟩]
abbrev r132_4 : List IOp := [⟨some 16, .op (.mov), [.t 7], none⟩,
  ⟨some 17, .op (.mov), [.t 8], none⟩,
  ⟨some 18, .op (.bin .add .prim), [.t 16, .t 17], none⟩,
  ⟨some 19, .op (.toInt .u64), [.t 18], none⟩,
  ⟨some 20, .op (.bin .shr .prim), [.t 19, .c (.int .u64 1)], none⟩,
  ⟨some 21, .op (.toInt .i64), [.t 20], none⟩,
  ⟨some 9, .op (.mov), [.t 21], none⟩]
abbrev r132_5 : List IOp := [⟨some 22, .op (.mov), [.t 0], none⟩,
  ⟨some 23, .op (.mov), [.t 9], none⟩,
  ⟨some 24, .op (.iaddr 1), [.t 22, .t 23], none⟩,
  ⟨some 25, .op (.load none), [.t 24], none⟩,
  ⟨some 26, .op (.mov), [.t 1], none⟩,
  ⟨some 27, .call none, [.f 178, .t 25, .t 26], none⟩]
abbrev r132_6 : List IOp := [⟨some 28, .op (.mov), [.t 9], none⟩,
  ⟨some 29, .op (.bin .add .prim), [.t 28, .c (.int .i64 1)], none⟩,
  ⟨some 7, .op (.mov), [.t 29], none⟩]
abbrev r132_7 : List IOp := [⟨some 30, .op (.mov), [.t 9], none⟩,
  ⟨some 8, .op (.mov), [.t 30], none⟩]
abbrev b132_0 : IC := (IC.seq (IC.seq (IC.reg r132_3) (IC.cond (.t 15) IC.skip (IC.exit 0))) (IC.block 1 (IC.seq (IC.reg r132_4) (IC.seq (IC.reg r132_5) (IC.cond (.t 27) (IC.reg r132_6) (IC.reg r132_7))))))
abbrev r132_8 : List IOp := [⟨some 31, .op (.mov), [.t 7], none⟩,
  ⟨some 32, .op (.mov), [.t 7], none⟩,
  ⟨some 33, .op (.mov), [.t 6], none⟩,
  ⟨some 34, .op (.bin .lss .prim), [.t 32, .t 33], none⟩,
  ⟨some 35, .op (.mov), [.t 34], none⟩,
  ⟨some 36, .op (.mov), [.t 0], some (35, true)⟩,
  ⟨some 37, .op (.mov), [.t 7], some (35, true)⟩,
  ⟨some 38, .op (.iaddr 1), [.t 36, .t 37], some (35, true)⟩,
  ⟨some 39, .op (.load none), [.t 38], some (35, true)⟩,
  ⟨some 40, .op (.mov), [.t 1], some (35, true)⟩,
  ⟨some 41, .op (.bin .eql .prim), [.t 39, .t 40], some (35, true)⟩,
  ⟨some 42, .op (.mov), [.t 41], some (35, true)⟩,
  ⟨some 43, .op (.mov), [.t 0], some (42, false)⟩,
  ⟨some 44, .op (.mov), [.t 7], some (42, false)⟩,
  ⟨some 45, .op (.iaddr 1), [.t 43, .t 44], some (42, false)⟩,
  ⟨some 46, .op (.load none), [.t 45], some (42, false)⟩,
  ⟨some 47, .call none, [.f 179, .t 46], some (42, false)⟩,
  ⟨some 48, .op (.mov), [.t 47], some (42, false)⟩,
  ⟨some 49, .op (.mov), [.t 1], some (48, true)⟩,
  ⟨some 50, .call none, [.f 179, .t 49], some (48, true)⟩,
  ⟨some 51, .op (.pick), [.t 48, .t 50, .c (.bool false)], some (42, false)⟩,
  ⟨some 52, .op (.pick), [.t 42, .c (.bool true), .t 51], some (35, true)⟩,
  ⟨some 53, .op (.pick), [.t 35, .t 52, .c (.bool false)], none⟩,
  ⟨some 4, .op (.mov), [.t 31], none⟩,
  ⟨some 5, .op (.mov), [.t 53], none⟩]
abbrev c132 : IC := (IC.seq (IC.reg r132_0) (IC.seq (IC.reg r132_1) (IC.seq (IC.reg r132_2) (IC.seq (IC.block 0 (IC.loop b132_0)) (IC.seq (IC.reg r132_8) IC.ret)))))
abbrev g132 : FC := ⟨c132, 54, [.t 4, .t 5]⟩
theorem comp132 : compF Go.Proofs.Tryz.prog (fun _ => 0) 132 = some g132 := by kernel_rfl

-- outlaw/dfa.key
abbrev r87_0 : List IOp := [⟨some 2, .op (.mov), [.c (.str [])], none⟩]
abbrev r87_1 : List IOp := [⟨some 3, .op (.mov), [.c (.nils)], none⟩]
abbrev r87_2 : List IOp := [⟨some 6, .op (.mov), [.t 0], none⟩,
  ⟨some 7, .op (.len .slice), [.t 6], none⟩,
  ⟨some 8, .op (.mov), [.c (.int .i64 0)], none⟩]
abbrev r87_3 : List IOp := [⟨some 9, .op (.bin .lss .prim), [.t 8, .t 7], none⟩]
abbrev r87_4 : List IOp := [⟨some 10, .op (.iaddr 1), [.t 6, .t 8], none⟩,
  ⟨some 11, .op (.load none), [.t 10], none⟩,
  ⟨some 5, .op (.mov), [.t 11], none⟩]
abbrev r87_5 : List IOp := [⟨some 12, .op (.mov), [.t 3], none⟩,
  ⟨some 13, .op (.mov), [.t 5], none⟩,
  ⟨some 14, .op (.toInt .u8), [.t 13], none⟩,
  ⟨some 15, .op (.bsl 5 1 false), [.t 14], none⟩,
  ⟨some 16, .op (.app 5 1 1), [.t 12, .t 15], none⟩,
  ⟨some 3, .op (.mov), [.t 16], none⟩]
abbrev r87_6 : List IOp := [⟨some 17, .op (.bin .add .prim), [.t 8, .c (.int .i64 1)], none⟩,
  ⟨some 8, .op (.mov), [.t 17], none⟩]
abbrev b87_0 : IC := (IC.seq (IC.reg r87_3) (IC.seq (IC.cond (.t 9) IC.skip (IC.exit 0)) (IC.seq (IC.block 1 (IC.seq (IC.reg r87_4) (IC.reg r87_5))) (IC.reg r87_6))))
abbrev r87_7 : List IOp := [⟨some 18, .op (.mov), [.t 3], none⟩,
  ⟨some 19, .op (.b2s), [.t 18], none⟩,
  ⟨some 2, .op (.mov), [.t 19], none⟩]
abbrev c87 : IC := (IC.seq (IC.reg r87_0) (IC.seq (IC.reg r87_1) (IC.seq (IC.seq (IC.reg r87_2) (IC.block 0 (IC.loop b87_0))) (IC.seq (IC.reg r87_7) IC.ret))))
abbrev g87 : FC := ⟨c87, 20, [.t 2]⟩
theorem comp87 : compF Go.Proofs.Tryz.prog (fun _ => 0) 87 = some g87 := by kernel_rfl

-- (*outlaw/nfa.Nfa).start
abbrev r133_0 : List IOp := [⟨some 2, .op (.mov), [.c (.nils)], none⟩]
abbrev r133_1 : List IOp := [⟨some 4, .op (.mov), [.t 0], none⟩,
  ⟨some 5, .call none, [.f 180, .t 4], none⟩,
  ⟨some 6, .op (.make 4 [.bool false] 1), [.t 5, .t 5], none⟩,
  ⟨some 3, .op (.mov), [.t 6], none⟩]
abbrev r133_2 : List IOp := [⟨some 7, .op (.mov), [.t 3], none⟩,
  ⟨some 8, .op (.len .slice), [.t 7], none⟩,
  ⟨some 9, .op (.bin .gtr .prim), [.t 8, .c (.int .i64 0)], none⟩]
abbrev r133_3 : List IOp := [⟨some 10, .op (.mov), [.t 0], none⟩,
  ⟨some 11, .op (.mov), [.t 3], none⟩,
  ⟨some 12, .call none, [.f 181, .t 10, .t 11, .c (.int .i64 0)], none⟩]
abbrev r133_4 : List IOp := [⟨some 13, .op (.mov), [.t 3], none⟩,
  ⟨some 2, .op (.mov), [.t 13], none⟩]
abbrev c133 : IC := (IC.seq (IC.reg r133_0) (IC.seq (IC.reg r133_1) (IC.seq (IC.seq (IC.reg r133_2) (IC.cond (.t 9) (IC.reg r133_3) IC.skip)) (IC.seq (IC.reg r133_4) IC.ret))))
abbrev g133 : FC := ⟨c133, 14, [.t 2]⟩
theorem comp133 : compF Go.Proofs.Tryz.prog (fun _ => 0) 133 = some g133 := by kernel_rfl

-- (outlaw/nfa.row).list
abbrev r134_0 : List IOp := [⟨some 2, .op (.mov), [.c (.nils)], none⟩]
abbrev r134_1 : List IOp := [⟨some 3, .op (.alloc 28 [.nils]), [], none⟩]
abbrev r134_2 : List IOp := [⟨some 5, .op (.mov), [.t 0], none⟩,
  ⟨some 6, .call none, [.f 182, .t 5], none⟩]
abbrev r134_3 : List IOp := [⟨some 12, .op (.load none), [.t 3], none⟩,
  ⟨some 2, .op (.mov), [.t 12], none⟩]
abbrev r134_4 : List IOp := [⟨some 4, .op (.mov), [.t 7], none⟩]
abbrev r134_5 : List IOp := [⟨some 8, .op (.load none), [.t 3], none⟩,
  ⟨some 9, .op (.mov), [.t 4], none⟩,
  ⟨some 10, .op (.bsl 3 1 false), [.t 9], none⟩,
  ⟨some 11, .op (.app 3 1 8), [.t 8, .t 10], none⟩,
  ⟨none, .op (.store 1), [.t 3, .t 11], none⟩]
abbrev c134 : IC := (IC.seq (IC.reg r134_0) (IC.seq (IC.reg r134_1) (IC.seq (IC.seq (IC.reg r134_2) (IC.block 0 (IC.rangeF 134000 13 (.t 6)))) (IC.seq (IC.reg r134_3) IC.ret))))
abbrev g134 : FC := ⟨c134, 13, [.t 2]⟩
theorem comp134 : compF Go.Proofs.Tryz.prog (hintL [(1000003, 134000), (2000003, 13)]) 134 = some g134 := by kernel_rfl
abbrev li134000 : LI := ⟨13, [7], (IC.reg r134_4), (IC.block 1 (IC.reg r134_5))⟩
theorem keys134 : KeysF Go.Proofs.Tryz.prog (hintL [(1000003, 134000), (2000003, 13)]) 134 := keysF_of (by kernel_rfl)
theorem lok134000 : LOk Go.Proofs.Tryz.prog 134000 li134000 := ⟨hintL [(1000003, 134000), (2000003, 13)], by kernel_rfl, by kernel_rfl, by kernel_rfl, by kernel_rfl, by decide⟩

-- (*outlaw/nfa.Nfa).of
abbrev r136_0 : List IOp := [⟨some 4, .op (.mov), [.c (.nils)], none⟩]
abbrev r136_1 : List IOp := [⟨some 8, .op (.mov), [.t 0], none⟩,
  ⟨some 9, .call none, [.f 180, .t 8], none⟩,
  ⟨some 10, .op (.make 4 [.bool false] 1), [.t 9, .t 9], none⟩,
  ⟨some 5, .op (.mov), [.t 10], none⟩]
abbrev r136_2 : List IOp := [⟨some 11, .op (.mov), [.t 1], none⟩,
  ⟨some 12, .op (.len .slice), [.t 11], none⟩,
  ⟨some 13, .op (.mov), [.c (.int .i64 0)], none⟩]
abbrev r136_3 : List IOp := [⟨some 14, .op (.bin .lss .prim), [.t 13, .t 12], none⟩]
abbrev r136_4 : List IOp := [⟨some 15, .op (.iaddr 1), [.t 11, .t 13], none⟩,
  ⟨some 16, .op (.load none), [.t 15], none⟩,
  ⟨some 7, .op (.mov), [.t 16], none⟩]
abbrev r136_5 : List IOp := [⟨some 17, .op (.mov), [.t 7], none⟩,
  ⟨some 18, .op (.bin .geq .prim), [.t 17, .c (.int .i64 0)], none⟩,
  ⟨some 19, .op (.mov), [.t 18], none⟩,
  ⟨some 20, .op (.mov), [.t 7], some (19, true)⟩,
  ⟨some 21, .op (.mov), [.t 5], some (19, true)⟩,
  ⟨some 22, .op (.len .slice), [.t 21], some (19, true)⟩,
  ⟨some 23, .op (.bin .lss .prim), [.t 20, .t 22], some (19, true)⟩,
  ⟨some 24, .op (.pick), [.t 19, .t 23, .c (.bool false)], none⟩]
abbrev r136_6 : List IOp := [⟨some 25, .op (.mov), [.t 5], none⟩,
  ⟨some 26, .op (.mov), [.t 7], none⟩,
  ⟨some 27, .op (.iaddr 1), [.t 25, .t 26], none⟩,
  ⟨none, .op (.store 1), [.t 27, .c (.bool true)], none⟩]
abbrev r136_7 : List IOp := [⟨some 28, .op (.bin .add .prim), [.t 13, .c (.int .i64 1)], none⟩,
  ⟨some 13, .op (.mov), [.t 28], none⟩]
abbrev b136_0 : IC := (IC.seq (IC.reg r136_3) (IC.seq (IC.cond (.t 14) IC.skip (IC.exit 0)) (IC.seq (IC.block 1 (IC.seq (IC.reg r136_4) (IC.seq (IC.reg r136_5) (IC.cond (.t 24) (IC.reg r136_6) IC.skip)))) (IC.reg r136_7))))
abbrev r136_8 : List IOp := [⟨some 29, .op (.mov), [.t 5], none⟩,
  ⟨some 4, .op (.mov), [.t 29], none⟩]
abbrev c136 : IC := (IC.seq (IC.reg r136_0) (IC.seq (IC.reg r136_1) (IC.seq (IC.seq (IC.reg r136_2) (IC.block 0 (IC.loop b136_0))) (IC.seq (IC.reg r136_8) IC.ret))))
abbrev g136 : FC := ⟨c136, 30, [.t 4]⟩
theorem comp136 : compF Go.Proofs.Tryz.prog (fun _ => 0) 136 = some g136 := by kernel_rfl

-- (*outlaw/nfa.Nfa).step
abbrev r135_0 : List IOp := [⟨some 3, .op (.box 97), [.t 0], none⟩,
  ⟨some 5, .op (.box 5), [.t 2], none⟩,
  ⟨some 6, .op (.mov), [.c (.nils)], none⟩]
abbrev r135_1 : List IOp := [⟨some 10, .op (.mov), [.t 1], none⟩,
  ⟨some 11, .op (.len .slice), [.t 10], none⟩,
  ⟨some 12, .op (.make 4 [.bool false] 1), [.t 11, .t 11], none⟩,
  ⟨some 7, .op (.alloc 182 [.nils]), [], none⟩,
  ⟨none, .op (.store 1), [.t 7, .t 12], none⟩]
abbrev r135_2 : List IOp := [⟨some 13, .op (.mov), [.t 1], none⟩,
  ⟨some 14, .call none, [.f 182, .t 13], none⟩]
abbrev r135_3 : List IOp := [⟨some 62, .op (.load none), [.t 7], none⟩,
  ⟨some 6, .op (.mov), [.t 62], none⟩]
abbrev r135_4 : List IOp := [⟨some 8, .op (.mov), [.t 15], none⟩]
abbrev r135_5 : List IOp := [⟨some 16, .op (.mov), [.t 8], none⟩,
  ⟨some 17, .op (.load none), [.t 3], none⟩,
  ⟨some 18, .op (.nilchk), [.t 17], none⟩,
  ⟨some 19, .op (.faddr 0), [.t 18], none⟩,
  ⟨some 20, .op (.load none), [.t 19], none⟩,
  ⟨some 21, .op (.len .str), [.t 20], none⟩,
  ⟨some 22, .op (.bin .eql .prim), [.t 16, .t 21], none⟩]
abbrev r135_6 : List IOp := [⟨some 23, .op (.load none), [.t 3], none⟩,
  ⟨some 24, .op (.nilchk), [.t 23], none⟩,
  ⟨some 25, .op (.faddr 0), [.t 24], none⟩,
  ⟨some 26, .op (.load none), [.t 25], none⟩,
  ⟨some 27, .op (.mov), [.t 8], none⟩,
  ⟨some 28, .op (.idxs), [.t 26, .t 27], none⟩,
  ⟨some 9, .op (.mov), [.t 28], none⟩]
abbrev r135_7 : List IOp := [⟨some 30, .op (.mov), [.t 9], none⟩,
  ⟨some 31, .op (.bin .eql .prim), [.t 30, .c (.int .u8 42)], none⟩,
  ⟨some 29, .op (.mov), [.t 31], none⟩]
abbrev r135_8 : List IOp := [⟨some 32, .op (.load none), [.t 3], none⟩,
  ⟨some 33, .op (.load none), [.t 7], none⟩,
  ⟨some 34, .op (.mov), [.t 8], none⟩,
  ⟨some 35, .call none, [.f 181, .t 32, .t 33, .t 34], none⟩]
abbrev r135_9 : List IOp := [⟨some 37, .op (.mov), [.t 9], none⟩,
  ⟨some 38, .op (.bin .eql .prim), [.t 37, .c (.int .u8 63)], none⟩,
  ⟨some 36, .op (.mov), [.t 38], none⟩]
abbrev r135_10 : List IOp := [⟨some 39, .op (.mov), [.t 9], none⟩,
  ⟨some 40, .op (.load none), [.t 5], none⟩,
  ⟨some 41, .op (.bin .eql .prim), [.t 39, .t 40], none⟩,
  ⟨some 36, .op (.mov), [.t 41], none⟩]
abbrev r135_11 : List IOp := [⟨some 42, .op (.load none), [.t 3], none⟩,
  ⟨some 43, .op (.nilchk), [.t 42], none⟩,
  ⟨some 44, .op (.faddr 1), [.t 43], none⟩,
  ⟨some 45, .op (.load none), [.t 44], none⟩,
  ⟨some 46, .op (.mov), [.t 45], none⟩,
  ⟨some 47, .op (.mov), [.t 9], some (46, true)⟩,
  ⟨some 48, .op (.bsl 5 1 true), [.t 47], some (46, true)⟩,
  ⟨some 49, .op (.b2s), [.t 48], some (46, true)⟩,
  ⟨some 50, .call none, [.f 34, .t 49], some (46, true)⟩,
  ⟨some 51, .op (.load none), [.t 5], some (46, true)⟩,
  ⟨some 52, .op (.bsl 5 1 true), [.t 51], some (46, true)⟩,
  ⟨some 53, .op (.b2s), [.t 52], some (46, true)⟩,
  ⟨some 54, .call none, [.f 34, .t 53], some (46, true)⟩,
  ⟨some 55, .op (.bin .eql .prim), [.t 50, .t 54], some (46, true)⟩,
  ⟨some 56, .op (.pick), [.t 46, .t 55, .c (.bool false)], none⟩,
  ⟨some 36, .op (.mov), [.t 56], none⟩]
abbrev r135_12 : List IOp := [⟨some 57, .op (.load none), [.t 3], none⟩,
  ⟨some 58, .op (.load none), [.t 7], none⟩,
  ⟨some 59, .op (.mov), [.t 8], none⟩,
  ⟨some 60, .op (.bin .add .prim), [.t 59, .c (.int .i64 1)], none⟩,
  ⟨some 61, .call none, [.f 181, .t 57, .t 58, .t 60], none⟩]
abbrev c135 : IC := (IC.seq (IC.reg r135_0) (IC.seq (IC.reg r135_1) (IC.seq (IC.seq (IC.reg r135_2) (IC.block 0 (IC.rangeF 135000 63 (.t 14)))) (IC.seq (IC.reg r135_3) IC.ret))))
abbrev g135 : FC := ⟨c135, 63, [.t 6]⟩
theorem comp135 : compF Go.Proofs.Tryz.prog (hintL [(10, 3), (1000003, 135000), (2000003, 63)]) 135 = some g135 := by kernel_rfl
abbrev li135000 : LI := ⟨63, [15], (IC.reg r135_4), (IC.block 1 (IC.seq (IC.seq (IC.reg r135_5) (IC.cond (.t 22) (IC.exit 0) IC.skip)) (IC.seq (IC.reg r135_6) (IC.block 2 (IC.seq (IC.reg r135_7) (IC.cond (.t 29) (IC.reg r135_8) (IC.seq (IC.seq (IC.reg r135_9) (IC.cond (.t 36) IC.skip (IC.seq (IC.reg r135_10) (IC.cond (.t 36) IC.skip (IC.regD .alloc r135_11 (.take 0 (.take 1 (.take 2 (.take 3 (.take 4 (.take 5 (.take 6 (.take 7 (.take 9 (.take 10 (.take 11 (.take 8 (.take 12 (.take 13 (.take 14 (.take 15 (.done)))))))))))))))))))))) (IC.cond (.t 36) (IC.reg r135_12) IC.skip))))))))⟩
theorem keys135 : KeysF Go.Proofs.Tryz.prog (hintL [(10, 3), (1000003, 135000), (2000003, 63)]) 135 := keysF_of (by kernel_rfl)
theorem lok135000 : LOk Go.Proofs.Tryz.prog 135000 li135000 := ⟨hintL [(10, 3), (1000003, 135000), (2000003, 63)], by kernel_rfl, by kernel_rfl, by kernel_rfl, by kernel_rfl, by decide⟩

-- cmp.isNaN[int]
abbrev r142_0 : List IOp := [⟨some 2, .op (.mov), [.c (.bool false)], none⟩]
abbrev r142_1 : List IOp := [⟨some 3, .op (.mov), [.t 0], none⟩,
  ⟨some 4, .op (.mov), [.t 0], none⟩,
  ⟨some 5, .op (.bin .neq .prim), [.t 3, .t 4], none⟩,
  ⟨some 2, .op (.mov), [.t 5], none⟩]
abbrev c142 : IC := (IC.seq (IC.reg r142_0) (IC.seq (IC.reg r142_1) IC.ret))
abbrev g142 : FC := ⟨c142, 6, [.t 2]⟩
theorem comp142 : compF Go.Proofs.Tryz.prog (fun _ => 0) 142 = some g142 := by kernel_rfl

-- slices.pdqsortOrdered[byte]
abbrev r177_0 : List IOp := [⟨some 8, .op (.mov), [.c (.bool true)], none⟩]
abbrev r177_1 : List IOp := [⟨some 9, .op (.mov), [.c (.bool true)], none⟩]
abbrev r177_2 : List IOp := [⟨some 19, .op (.mov), [.t 2], none⟩,
  ⟨some 20, .op (.mov), [.t 1], none⟩,
  ⟨some 21, .op (.bin .sub .prim), [.t 19, .t 20], none⟩,
  ⟨some 10, .op (.mov), [.t 21], none⟩]
abbrev r177_3 : List IOp := [⟨some 22, .op (.mov), [.t 10], none⟩,
  ⟨some 23, .op (.bin .leq .prim), [.t 22, .c (.int .i64 12)], none⟩]
abbrev r177_4 : List IOp := [⟨some 24, .op (.mov), [.t 0], none⟩,
  ⟨some 25, .op (.mov), [.t 1], none⟩,
  ⟨some 26, .op (.mov), [.t 2], none⟩,
  ⟨some 27, .call none, [.f 199, .t 24, .t 25, .t 26], none⟩]
abbrev r177_5 : List IOp := [⟨some 28, .op (.mov), [.t 3], none⟩,
  ⟨some 29, .op (.bin .eql .prim), [.t 28, .c (.int .i64 0)], none⟩]
abbrev r177_6 : List IOp := [⟨some 30, .op (.mov), [.t 0], none⟩,
  ⟨some 31, .op (.mov), [.t 1], none⟩,
  ⟨some 32, .op (.mov), [.t 2], none⟩,
  ⟨some 33, .call none, [.f 200, .t 30, .t 31, .t 32], none⟩]
abbrev r177_7 : List IOp := [⟨some 34, .op (.mov), [.t 8], none⟩,
  ⟨some 35, .op (.un .not), [.t 34], none⟩]
abbrev r177_8 : List IOp := [⟨some 36, .op (.mov), [.t 0], none⟩,
  ⟨some 37, .op (.mov), [.t 1], none⟩,
  ⟨some 38, .op (.mov), [.t 2], none⟩,
  ⟨some 39, .call none, [.f 201, .t 36, .t 37, .t 38], none⟩]
abbrev r177_9 : List IOp := [⟨some 40, .op (.mov), [.t 3], none⟩,
  ⟨some 41, .op (.bin .sub .prim), [.t 40, .c (.int .i64 1)], none⟩,
  ⟨some 3, .op (.mov), [.t 41], none⟩]
abbrev r177_10 : List IOp := [⟨some 43, .op (.mov), [.t 0], none⟩,
  ⟨some 44, .op (.mov), [.t 1], none⟩,
  ⟨some 45, .op (.mov), [.t 2], none⟩,
  ⟨some 46, .call none, [.f 202, .t 43, .t 44, .t 45], none⟩,
  ⟨some 42, .op (.mov), [.t 46], none⟩,
  ⟨some 47, .op (.extract 0), [.t 42], none⟩,
  ⟨some 48, .op (.extract 1), [.t 42], none⟩,
  ⟨some 11, .op (.mov), [.t 47], none⟩,
  ⟨some 12, .op (.mov), [.t 48], none⟩]
abbrev r177_11 : List IOp := [⟨some 49, .op (.mov), [.t 12], none⟩,
  ⟨some 50, .op (.bin .eql .prim), [.t 49, .c (.int .i64 2)], none⟩]
abbrev r177_12 : List IOp := [⟨some 51, .op (.mov), [.t 0], none⟩,
  ⟨some 52, .op (.mov), [.t 1], none⟩,
  ⟨some 53, .op (.mov), [.t 2], none⟩,
  ⟨some 54, .call none, [.f 203, .t 51, .t 52, .t 53], none⟩]
abbrev r177_13 : List IOp := [⟨some 55, .op (.mov), [.t 2], none⟩,
  ⟨some 56, .op (.bin .sub .prim), [.t 55, .c (.int .i64 1)], none⟩,
  ⟨some 57, .op (.mov), [.t 11], none⟩,
  ⟨some 58, .op (.mov), [.t 1], none⟩,
  ⟨some 59, .op (.bin .sub .prim), [.t 57, .t 58], none⟩,
  ⟨some 60, .op (.bin .sub .prim), [.t 56, .t 59], none⟩,
  ⟨some 11, .op (.mov), [.t 60], none⟩]
abbrev r177_14 : List IOp := [⟨some 12, .op (.mov), [.c (.int .i64 1)], none⟩]
abbrev r177_15 : List IOp := [⟨some 61, .op (.mov), [.t 8], none⟩,
  ⟨some 62, .op (.mov), [.t 61], none⟩,
  ⟨some 63, .op (.mov), [.t 9], some (62, true)⟩,
  ⟨some 64, .op (.pick), [.t 62, .t 63, .c (.bool false)], none⟩,
  ⟨some 65, .op (.mov), [.t 64], none⟩,
  ⟨some 66, .op (.mov), [.t 12], some (65, true)⟩,
  ⟨some 67, .op (.bin .eql .prim), [.t 66, .c (.int .i64 1)], some (65, true)⟩,
  ⟨some 68, .op (.pick), [.t 65, .t 67, .c (.bool false)], none⟩]
abbrev r177_16 : List IOp := [⟨some 69, .op (.mov), [.t 0], none⟩,
  ⟨some 70, .op (.mov), [.t 1], none⟩,
  ⟨some 71, .op (.mov), [.t 2], none⟩,
  ⟨some 72, .call none, [.f 204, .t 69, .t 70, .t 71], none⟩]
abbrev r177_17 : List IOp := [⟨some 73, .op (.mov), [.t 1], none⟩,
  ⟨some 74, .op (.bin .gtr .prim), [.t 73, .c (.int .i64 0)], none⟩,
  ⟨some 75, .op (.mov), [.t 74], none⟩,
  ⟨some 76, .op (.mov), [.t 0], some (75, true)⟩,
  ⟨some 77, .op (.mov), [.t 1], some (75, true)⟩,
  ⟨some 78, .op (.bin .sub .prim), [.t 77, .c (.int .i64 1)], some (75, true)⟩,
  ⟨some 79, .op (.iaddr 1), [.t 76, .t 78], some (75, true)⟩,
  ⟨some 80, .op (.load none), [.t 79], some (75, true)⟩,
  ⟨some 81, .op (.mov), [.t 0], some (75, true)⟩,
  ⟨some 82, .op (.mov), [.t 11], some (75, true)⟩,
  ⟨some 83, .op (.iaddr 1), [.t 81, .t 82], some (75, true)⟩,
  ⟨some 84, .op (.load none), [.t 83], some (75, true)⟩,
  ⟨some 85, .call none, [.f 178, .t 80, .t 84], some (75, true)⟩,
  ⟨some 86, .op (.un .not), [.t 85], some (75, true)⟩,
  ⟨some 87, .op (.pick), [.t 75, .t 86, .c (.bool false)], none⟩]
abbrev r177_18 : List IOp := [⟨some 88, .op (.mov), [.t 0], none⟩,
  ⟨some 89, .op (.mov), [.t 1], none⟩,
  ⟨some 90, .op (.mov), [.t 2], none⟩,
  ⟨some 91, .op (.mov), [.t 11], none⟩,
  ⟨some 92, .call none, [.f 205, .t 88, .t 89, .t 90, .t 91], none⟩,
  ⟨some 13, .op (.mov), [.t 92], none⟩]
abbrev r177_19 : List IOp := [⟨some 93, .op (.mov), [.t 13], none⟩,
  ⟨some 1, .op (.mov), [.t 93], none⟩]
abbrev r177_20 : List IOp := [⟨some 95, .op (.mov), [.t 0], none⟩,
  ⟨some 96, .op (.mov), [.t 1], none⟩,
  ⟨some 97, .op (.mov), [.t 2], none⟩,
  ⟨some 98, .op (.mov), [.t 11], none⟩,
  ⟨some 99, .call none, [.f 206, .t 95, .t 96, .t 97, .t 98], none⟩,
  ⟨some 94, .op (.mov), [.t 99], none⟩,
  ⟨some 100, .op (.extract 0), [.t 94], none⟩,
  ⟨some 101, .op (.extract 1), [.t 94], none⟩,
  ⟨some 14, .op (.mov), [.t 100], none⟩,
  ⟨some 15, .op (.mov), [.t 101], none⟩]
abbrev r177_21 : List IOp := [⟨some 102, .op (.mov), [.t 15], none⟩,
  ⟨some 9, .op (.mov), [.t 102], none⟩]
abbrev r177_22 : List IOp := [⟨some 103, .op (.mov), [.t 14], none⟩,
  ⟨some 104, .op (.mov), [.t 1], none⟩,
  ⟨some 105, .op (.bin .sub .prim), [.t 103, .t 104], none⟩,
  ⟨some 106, .op (.mov), [.t 2], none⟩,
  ⟨some 107, .op (.mov), [.t 14], none⟩,
  ⟨some 108, .op (.bin .sub .prim), [.t 106, .t 107], none⟩,
  ⟨some 16, .op (.mov), [.t 105], none⟩,
  ⟨some 17, .op (.mov), [.t 108], none⟩]
abbrev r177_23 : List IOp := [⟨some 109, .op (.mov), [.t 10], none⟩,
  ⟨some 110, .op (.bin .quo .prim), [.t 109, .c (.int .i64 8)], none⟩,
  ⟨some 18, .op (.mov), [.t 110], none⟩]
abbrev r177_24 : List IOp := [⟨some 111, .op (.mov), [.t 16], none⟩,
  ⟨some 112, .op (.mov), [.t 17], none⟩,
  ⟨some 113, .op (.bin .lss .prim), [.t 111, .t 112], none⟩]
abbrev r177_25 : List IOp := [⟨some 114, .op (.mov), [.t 16], none⟩,
  ⟨some 115, .op (.mov), [.t 18], none⟩,
  ⟨some 116, .op (.bin .geq .prim), [.t 114, .t 115], none⟩,
  ⟨some 8, .op (.mov), [.t 116], none⟩]
abbrev r177_26 : List IOp := [⟨some 117, .op (.mov), [.t 0], none⟩,
  ⟨some 118, .op (.mov), [.t 1], none⟩,
  ⟨some 119, .op (.mov), [.t 14], none⟩,
  ⟨some 120, .op (.mov), [.t 3], none⟩,
  ⟨some 121, .call none, [.f 177, .t 117, .t 118, .t 119, .t 120], none⟩]
abbrev r177_27 : List IOp := [⟨some 122, .op (.mov), [.t 14], none⟩,
  ⟨some 123, .op (.bin .add .prim), [.t 122, .c (.int .i64 1)], none⟩,
  ⟨some 1, .op (.mov), [.t 123], none⟩]
abbrev r177_28 : List IOp := [⟨some 124, .op (.mov), [.t 17], none⟩,
  ⟨some 125, .op (.mov), [.t 18], none⟩,
  ⟨some 126, .op (.bin .geq .prim), [.t 124, .t 125], none⟩,
  ⟨some 8, .op (.mov), [.t 126], none⟩]
abbrev r177_29 : List IOp := [⟨some 127, .op (.mov), [.t 0], none⟩,
  ⟨some 128, .op (.mov), [.t 14], none⟩,
  ⟨some 129, .op (.bin .add .prim), [.t 128, .c (.int .i64 1)], none⟩,
  ⟨some 130, .op (.mov), [.t 2], none⟩,
  ⟨some 131, .op (.mov), [.t 3], none⟩,
  ⟨some 132, .call none, [.f 177, .t 127, .t 129, .t 130, .t 131], none⟩]
abbrev r177_30 : List IOp := [⟨some 133, .op (.mov), [.t 14], none⟩,
  ⟨some 2, .op (.mov), [.t 133], none⟩]
abbrev b177_0 : IC := (IC.block 1 (IC.seq (IC.reg r177_2) (IC.seq (IC.seq (IC.reg r177_3) (IC.cond (.t 23) (IC.seq (IC.reg r177_4) IC.ret) IC.skip)) (IC.seq (IC.seq (IC.reg r177_5) (IC.cond (.t 29) (IC.seq (IC.reg r177_6) IC.ret) IC.skip)) (IC.seq (IC.seq (IC.reg r177_7) (IC.cond (.t 35) (IC.seq (IC.reg r177_8) (IC.reg r177_9)) IC.skip)) (IC.seq (IC.reg r177_10) (IC.seq (IC.seq (IC.reg r177_11) (IC.cond (.t 50) (IC.seq (IC.reg r177_12) (IC.seq (IC.reg r177_13) (IC.reg r177_14))) IC.skip)) (IC.seq (IC.seq (IC.reg r177_15) (IC.cond (.t 68) (IC.seq (IC.reg r177_16) (IC.cond (.t 72) IC.ret IC.skip)) IC.skip)) (IC.seq (IC.seq (IC.regD .wild r177_17 (.take 0 (.take 1 (.take 2 (.take 3 (.take 4 (.take 5 (.take 6 (.take 7 (.take 8 (.take 9 (.take 10 (.take 11 (.take 12 (.take 13 (.take 14 (.done))))))))))))))))) (IC.cond (.t 87) (IC.seq (IC.reg r177_18) (IC.seq (IC.reg r177_19) (IC.exit 1))) IC.skip)) (IC.seq (IC.reg r177_20) (IC.seq (IC.reg r177_21) (IC.seq (IC.reg r177_22) (IC.seq (IC.reg r177_23) (IC.seq (IC.reg r177_24) (IC.cond (.t 113) (IC.seq (IC.reg r177_25) (IC.seq (IC.reg r177_26) (IC.reg r177_27))) (IC.seq (IC.reg r177_28) (IC.seq (IC.reg r177_29) (IC.reg r177_30))))))))))))))))))
abbrev c177 : IC := (IC.seq (IC.reg r177_0) (IC.seq (IC.reg r177_1) (IC.block 0 (IC.loop b177_0))))
abbrev g177 : FC := ⟨c177, 134, []⟩
theorem comp177 : compF Go.Proofs.Tryz.prog (hintL [(17, 6)]) 177 = some g177 := by kernel_rfl

-- cmp.Less[byte]
abbrev r178_0 : List IOp := [⟨some 4, .op (.mov), [.c (.bool false)], none⟩]
abbrev r178_1 : List IOp := [⟨some 5, .op (.mov), [.t 0], none⟩,
  ⟨some 6, .call none, [.f 207, .t 5], none⟩,
  ⟨some 7, .op (.mov), [.t 6], none⟩,
  ⟨some 8, .op (.mov), [.t 1], some (7, true)⟩,
  ⟨some 9, .call none, [.f 207, .t 8], some (7, true)⟩,
  ⟨some 10, .op (.un .not), [.t 9], some (7, true)⟩,
  ⟨some 11, .op (.pick), [.t 7, .t 10, .c (.bool false)], none⟩,
  ⟨some 12, .op (.mov), [.t 11], none⟩,
  ⟨some 13, .op (.mov), [.t 0], some (12, false)⟩,
  ⟨some 14, .op (.mov), [.t 1], some (12, false)⟩,
  ⟨some 15, .op (.bin .lss .prim), [.t 13, .t 14], some (12, false)⟩,
  ⟨some 16, .op (.pick), [.t 12, .c (.bool true), .t 15], none⟩,
  ⟨some 4, .op (.mov), [.t 16], none⟩]
abbrev c178 : IC := (IC.seq (IC.reg r178_0) (IC.seq (IC.reg r178_1) IC.ret))
abbrev g178 : FC := ⟨c178, 17, [.t 4]⟩
theorem comp178 : compF Go.Proofs.Tryz.prog (fun _ => 0) 178 = some g178 := by kernel_rfl

-- slices.isNaN[byte]
abbrev r179_0 : List IOp := [⟨some 2, .op (.mov), [.c (.bool false)], none⟩]
abbrev r179_1 : List IOp := [⟨some 3, .op (.mov), [.t 0], none⟩,
  ⟨some 4, .op (.mov), [.t 0], none⟩,
  ⟨some 5, .op (.bin .neq .prim), [.t 3, .t 4], none⟩,
  ⟨some 2, .op (.mov), [.t 5], none⟩]
abbrev c179 : IC := (IC.seq (IC.reg r179_0) (IC.seq (IC.reg r179_1) IC.ret))
abbrev g179 : FC := ⟨c179, 6, [.t 2]⟩
theorem comp179 : compF Go.Proofs.Tryz.prog (fun _ => 0) 179 = some g179 := by kernel_rfl

-- (*outlaw/nfa.Nfa).States
abbrev r180_0 : List IOp := [⟨some 2, .op (.mov), [.c (.int .i64 0)], none⟩]
abbrev r180_1 : List IOp := [⟨some 3, .op (.mov), [.t 0], none⟩,
  ⟨some 4, .op (.bin .eql .ptr), [.t 3, .c (.nilp)], none⟩,
  ⟨some 5, .op (.mov), [.t 4], none⟩,
  ⟨some 6, .op (.mov), [.t 0], some (5, false)⟩,
  ⟨some 7, .op (.nilchk), [.t 6], some (5, false)⟩,
  ⟨some 8, .op (.faddr 0), [.t 7], some (5, false)⟩,
  ⟨some 9, .op (.load none), [.t 8], some (5, false)⟩,
  ⟨some 10, .op (.bin .eql .prim), [.t 9, .c (.str [])], some (5, false)⟩,
  ⟨some 11, .op (.pick), [.t 5, .c (.bool true), .t 10], none⟩]
abbrev r180_2 : List IOp := [⟨some 2, .op (.mov), [.c (.int .i64 0)], none⟩]
abbrev r180_3 : List IOp := [⟨some 12, .op (.mov), [.t 0], none⟩,
  ⟨some 13, .op (.nilchk), [.t 12], none⟩,
  ⟨some 14, .op (.faddr 0), [.t 13], none⟩,
  ⟨some 15, .op (.load none), [.t 14], none⟩,
  ⟨some 16, .op (.len .str), [.t 15], none⟩,
  ⟨some 17, .op (.bin .add .prim), [.t 16, .c (.int .i64 1)], none⟩,
  ⟨some 2, .op (.mov), [.t 17], none⟩]
abbrev c180 : IC := (IC.seq (IC.reg r180_0) (IC.seq (IC.seq (IC.reg r180_1) (IC.cond (.t 11) (IC.seq (IC.reg r180_2) IC.ret) IC.skip)) (IC.seq (IC.reg r180_3) IC.ret)))
abbrev g180 : FC := ⟨c180, 18, [.t 2]⟩
theorem comp180 : compF Go.Proofs.Tryz.prog (fun _ => 0) 180 = some g180 := by kernel_rfl

-- (*outlaw/nfa.Nfa).come
abbrev r181_0 : List IOp := [⟨some 6, .op (.mov), [.t 1], none⟩,
  ⟨some 7, .op (.mov), [.t 2], none⟩,
  ⟨some 8, .op (.iaddr 1), [.t 6, .t 7], none⟩,
  ⟨none, .op (.store 1), [.t 8, .c (.bool true)], none⟩]
abbrev r181_1 : List IOp := [⟨some 9, .op (.mov), [.t 2], none⟩,
  ⟨some 10, .op (.mov), [.t 0], none⟩,
  ⟨some 11, .op (.nilchk), [.t 10], none⟩,
  ⟨some 12, .op (.faddr 0), [.t 11], none⟩,
  ⟨some 13, .op (.load none), [.t 12], none⟩,
  ⟨some 14, .op (.len .str), [.t 13], none⟩,
  ⟨some 15, .op (.bin .lss .prim), [.t 9, .t 14], none⟩,
  ⟨some 16, .op (.mov), [.t 15], none⟩,
  ⟨some 17, .op (.mov), [.t 0], some (16, true)⟩,
  ⟨some 18, .op (.nilchk), [.t 17], some (16, true)⟩,
  ⟨some 19, .op (.faddr 0), [.t 18], some (16, true)⟩,
  ⟨some 20, .op (.load none), [.t 19], some (16, true)⟩,
  ⟨some 21, .op (.mov), [.t 2], some (16, true)⟩,
  ⟨some 22, .op (.idxs), [.t 20, .t 21], some (16, true)⟩,
  ⟨some 23, .op (.bin .eql .prim), [.t 22, .c (.int .u8 42)], some (16, true)⟩,
  ⟨some 24, .op (.pick), [.t 16, .t 23, .c (.bool false)], none⟩]
abbrev r181_2 : List IOp := [⟨some 28, .op (.mov), [.t 2], none⟩,
  ⟨some 29, .op (.bin .add .prim), [.t 28, .c (.int .i64 1)], none⟩,
  ⟨some 2, .op (.mov), [.t 29], none⟩]
abbrev r181_3 : List IOp := [⟨some 25, .op (.mov), [.t 1], none⟩,
  ⟨some 26, .op (.mov), [.t 2], none⟩,
  ⟨some 27, .op (.iaddr 1), [.t 25, .t 26], none⟩,
  ⟨none, .op (.store 1), [.t 27, .c (.bool true)], none⟩]
abbrev b181_0 : IC := (IC.seq (IC.seq (IC.reg r181_1) (IC.cond (.t 24) IC.skip (IC.exit 0))) (IC.seq (IC.block 1 (IC.reg r181_2)) (IC.reg r181_3)))
abbrev c181 : IC := (IC.seq (IC.reg r181_0) (IC.block 0 (IC.loop b181_0)))
abbrev g181 : FC := ⟨c181, 30, []⟩
theorem comp181 : compF Go.Proofs.Tryz.prog (fun _ => 0) 181 = some g181 := by kernel_rfl

-- (outlaw/nfa.row).all
abbrev r182_0 : List IOp := [⟨some 1, .op (.box 182), [.t 0], none⟩,
  ⟨some 2, .op (.mov), [.c (.nilf)], none⟩]
abbrev r182_1 : List IOp := [⟨some 3, .op (.mkfn 208), [.t 1], none⟩,
  ⟨some 2, .op (.mov), [.t 3], none⟩]
abbrev c182 : IC := (IC.seq (IC.reg r182_0) (IC.seq (IC.reg r182_1) IC.ret))
abbrev g182 : FC := ⟨c182, 4, [.t 2]⟩
theorem comp182 : compF Go.Proofs.Tryz.prog (fun _ => 0) 182 = some g182 := by kernel_rfl

-- slices.insertionSortOrdered[byte]
abbrev r199_0 : List IOp := [⟨some 8, .op (.mov), [.t 1], none⟩,
  ⟨some 9, .op (.bin .add .prim), [.t 8, .c (.int .i64 1)], none⟩,
  ⟨some 6, .op (.mov), [.t 9], none⟩]
abbrev r199_1 : List IOp := [⟨some 10, .op (.mov), [.t 6], none⟩,
  ⟨some 11, .op (.mov), [.t 2], none⟩,
  ⟨some 12, .op (.bin .lss .prim), [.t 10, .t 11], none⟩]
abbrev r199_2 : List IOp := [⟨some 15, .op (.mov), [.t 6], none⟩,
  ⟨some 7, .op (.mov), [.t 15], none⟩]
abbrev r199_3 : List IOp := [⟨some 16, .op (.mov), [.t 7], none⟩,
  ⟨some 17, .op (.mov), [.t 1], none⟩,
  ⟨some 18, .op (.bin .gtr .prim), [.t 16, .t 17], none⟩,
  ⟨some 19, .op (.mov), [.t 18], none⟩,
  ⟨some 20, .op (.mov), [.t 0], some (19, true)⟩,
  ⟨some 21, .op (.mov), [.t 7], some (19, true)⟩,
  ⟨some 22, .op (.iaddr 1), [.t 20, .t 21], some (19, true)⟩,
  ⟨some 23, .op (.load none), [.t 22], some (19, true)⟩,
  ⟨some 24, .op (.mov), [.t 0], some (19, true)⟩,
  ⟨some 25, .op (.mov), [.t 7], some (19, true)⟩,
  ⟨some 26, .op (.bin .sub .prim), [.t 25, .c (.int .i64 1)], some (19, true)⟩,
  ⟨some 27, .op (.iaddr 1), [.t 24, .t 26], some (19, true)⟩,
  ⟨some 28, .op (.load none), [.t 27], some (19, true)⟩,
  ⟨some 29, .call none, [.f 178, .t 23, .t 28], some (19, true)⟩,
  ⟨some 30, .op (.pick), [.t 19, .t 29, .c (.bool false)], none⟩]
abbrev r199_4 : List IOp := [⟨some 33, .op (.mov), [.t 0], none⟩,
  ⟨some 34, .op (.mov), [.t 7], none⟩,
  ⟨some 35, .op (.mov), [.t 0], none⟩,
  ⟨some 36, .op (.mov), [.t 7], none⟩,
  ⟨some 37, .op (.bin .sub .prim), [.t 36, .c (.int .i64 1)], none⟩,
  ⟨some 38, .op (.mov), [.t 0], none⟩,
  ⟨some 39, .op (.mov), [.t 7], none⟩,
  ⟨some 40, .op (.bin .sub .prim), [.t 39, .c (.int .i64 1)], none⟩,
  ⟨some 41, .op (.iaddr 1), [.t 38, .t 40], none⟩,
  ⟨some 42, .op (.load none), [.t 41], none⟩,
  ⟨some 43, .op (.mov), [.t 0], none⟩,
  ⟨some 44, .op (.mov), [.t 7], none⟩,
  ⟨some 45, .op (.iaddr 1), [.t 43, .t 44], none⟩,
  ⟨some 46, .op (.load none), [.t 45], none⟩,
  ⟨some 47, .op (.iaddr 1), [.t 33, .t 34], none⟩,
  ⟨none, .op (.store 1), [.t 47, .t 42], none⟩,
  ⟨some 48, .op (.iaddr 1), [.t 35, .t 37], none⟩,
  ⟨none, .op (.store 1), [.t 48, .t 46], none⟩]
abbrev r199_5 : List IOp := [⟨some 31, .op (.mov), [.t 7], none⟩,
  ⟨some 32, .op (.bin .sub .prim), [.t 31, .c (.int .i64 1)], none⟩,
  ⟨some 7, .op (.mov), [.t 32], none⟩]
abbrev b199_0 : IC := (IC.seq (IC.seq (IC.regD .wild r199_3 (.take 0 (.take 1 (.take 2 (.take 3 (.take 4 (.take 5 (.take 6 (.take 7 (.take 8 (.take 9 (.take 10 (.take 11 (.take 12 (.take 13 (.take 14 (.done))))))))))))))))) (IC.cond (.t 30) IC.skip (IC.exit 2))) (IC.seq (IC.block 3 (IC.regD .wild r199_4 (.take 0 (.take 1 (.take 2 (.take 3 (.take 4 (.take 5 (.take 6 (.take 7 (.take 8 (.take 9 (.take 10 (.take 11 (.take 12 (.take 13 (.take 14 (.take 15 (.take 16 (.take 17 (.done))))))))))))))))))))) (IC.reg r199_5)))
abbrev r199_6 : List IOp := [⟨some 13, .op (.mov), [.t 6], none⟩,
  ⟨some 14, .op (.bin .add .prim), [.t 13, .c (.int .i64 1)], none⟩,
  ⟨some 6, .op (.mov), [.t 14], none⟩]
abbrev b199_1 : IC := (IC.seq (IC.seq (IC.reg r199_1) (IC.cond (.t 12) IC.skip (IC.exit 0))) (IC.seq (IC.block 1 (IC.seq (IC.reg r199_2) (IC.block 2 (IC.loop b199_0)))) (IC.reg r199_6)))
abbrev c199 : IC := (IC.seq (IC.reg r199_0) (IC.block 0 (IC.loop b199_1)))
abbrev g199 : FC := ⟨c199, 49, []⟩
theorem comp199 : compF Go.Proofs.Tryz.prog (hintL [(4, 6), (6, 6)]) 199 = some g199 := by kernel_rfl

-- cmp.isNaN[byte]
abbrev r207_0 : List IOp := [⟨some 2, .op (.mov), [.c (.bool false)], none⟩]
abbrev r207_1 : List IOp := [⟨some 3, .op (.mov), [.t 0], none⟩,
  ⟨some 4, .op (.mov), [.t 0], none⟩,
  ⟨some 5, .op (.bin .neq .prim), [.t 3, .t 4], none⟩,
  ⟨some 2, .op (.mov), [.t 5], none⟩]
abbrev c207 : IC := (IC.seq (IC.reg r207_0) (IC.seq (IC.reg r207_1) IC.ret))
abbrev g207 : FC := ⟨c207, 6, [.t 2]⟩
theorem comp207 : compF Go.Proofs.Tryz.prog (fun _ => 0) 207 = some g207 := by kernel_rfl

-- (outlaw/nfa.row).all$1
abbrev r208_0 : List IOp := [⟨some 5, .op (.load none), [.t 1], none⟩,
  ⟨some 6, .op (.len .slice), [.t 5], none⟩,
  ⟨some 7, .op (.mov), [.c (.int .i64 0)], none⟩]
abbrev r208_1 : List IOp := [⟨some 8, .op (.bin .lss .prim), [.t 7, .t 6], none⟩]
abbrev r208_2 : List IOp := [⟨some 9, .op (.mov), [.t 7], none⟩,
  ⟨some 10, .op (.iaddr 1), [.t 5, .t 7], none⟩,
  ⟨some 11, .op (.load none), [.t 10], none⟩,
  ⟨some 3, .op (.mov), [.t 9], none⟩,
  ⟨some 4, .op (.mov), [.t 11], none⟩]
abbrev r208_3 : List IOp := [⟨some 12, .op (.mov), [.t 4], none⟩,
  ⟨some 13, .op (.mov), [.t 12], none⟩,
  ⟨some 14, .op (.mov), [.t 0], some (13, true)⟩,
  ⟨some 15, .op (.mov), [.t 3], some (13, true)⟩,
  ⟨some 16, .call none, [.t 14, .t 15], some (13, true)⟩,
  ⟨some 17, .op (.un .not), [.t 16], some (13, true)⟩,
  ⟨some 18, .op (.pick), [.t 13, .t 17, .c (.bool false)], none⟩]
abbrev r208_4 : List IOp := [⟨some 19, .op (.bin .add .prim), [.t 7, .c (.int .i64 1)], none⟩,
  ⟨some 7, .op (.mov), [.t 19], none⟩]
abbrev b208_0 : IC := (IC.seq (IC.reg r208_1) (IC.seq (IC.cond (.t 8) IC.skip (IC.exit 0)) (IC.seq (IC.block 1 (IC.seq (IC.reg r208_2) (IC.seq (IC.reg r208_3) (IC.cond (.t 18) IC.ret IC.skip)))) (IC.reg r208_4))))
abbrev c208 : IC := (IC.seq (IC.reg r208_0) (IC.block 0 (IC.loop b208_0)))
abbrev g208 : FC := ⟨c208, 20, []⟩
theorem comp208 : compF Go.Proofs.Tryz.prog (fun _ => 0) 208 = some g208 := by kernel_rfl

set_option maxRecDepth 100000 in
abbrev FT : FTr := (.node 84 g84 (.node 36 g36 (.node 12 g12 (.node 8 g8 (.node 6 g6 (.node 5 g5 (.node 3 g3 .nil .nil) .nil) (.node 7 g7 .nil .nil)) (.node 10 g10 (.node 9 g9 .nil .nil) (.node 11 g11 .nil .nil))) (.node 32 g32 (.node 30 g30 (.node 29 g29 (.node 28 g28 .nil .nil) .nil) (.node 31 g31 .nil .nil)) (.node 34 g34 (.node 33 g33 .nil .nil) (.node 35 g35 .nil .nil)))) (.node 57 g57 (.node 53 g53 (.node 39 g39 (.node 38 g38 (.node 37 g37 .nil .nil) .nil) (.node 40 g40 .nil .nil)) (.node 55 g55 (.node 54 g54 .nil .nil) (.node 56 g56 .nil .nil))) (.node 61 g61 (.node 59 g59 (.node 58 g58 .nil .nil) (.node 60 g60 .nil .nil)) (.node 82 g82 (.node 62 g62 .nil .nil) (.node 83 g83 .nil .nil))))) (.node 132 g132 (.node 98 g98 (.node 89 g89 (.node 87 g87 (.node 86 g86 (.node 85 g85 .nil .nil) .nil) (.node 88 g88 .nil .nil)) (.node 91 g91 (.node 90 g90 .nil .nil) (.node 92 g92 .nil .nil))) (.node 127 g127 (.node 121 g121 (.node 102 g102 .nil .nil) (.node 126 g126 .nil .nil)) (.node 130 g130 (.node 128 g128 .nil .nil) (.node 131 g131 .nil .nil)))) (.node 180 g180 (.node 142 g142 (.node 135 g135 (.node 134 g134 (.node 133 g133 .nil .nil) .nil) (.node 136 g136 .nil .nil)) (.node 178 g178 (.node 177 g177 .nil .nil) (.node 179 g179 .nil .nil))) (.node 207 g207 (.node 182 g182 (.node 181 g181 .nil .nil) (.node 199 g199 .nil .nil)) (.node 233 g233 (.node 208 g208 .nil .nil) (.node 235 g235 .nil .nil))))))
set_option maxRecDepth 100000 in
theorem FT_ok : FT.All (FOk Go.Proofs.Tryz.prog) := ⟨⟨_, comp84, by decide, .inl (by decide)⟩, ⟨⟨_, comp36, by decide, .inl (by decide)⟩, ⟨⟨_, comp12, by decide, .inl (by decide)⟩, ⟨⟨_, comp8, by decide, .inl (by decide)⟩, ⟨⟨_, comp6, by decide, .inl (by decide)⟩, ⟨⟨_, comp5, by decide, .inl (by decide)⟩, ⟨⟨_, comp3, by decide, .inl (by decide)⟩, trivial, trivial⟩, trivial⟩, ⟨⟨_, comp7, by decide, .inl (by decide)⟩, trivial, trivial⟩⟩, ⟨⟨_, comp10, by decide, .inl (by decide)⟩, ⟨⟨_, comp9, by decide, .inl (by decide)⟩, trivial, trivial⟩, ⟨⟨_, comp11, by decide, .inl (by decide)⟩, trivial, trivial⟩⟩⟩, ⟨⟨_, comp32, by decide, .inl (by decide)⟩, ⟨⟨_, comp30, by decide, .inl (by decide)⟩, ⟨⟨_, comp29, by decide, .inl (by decide)⟩, ⟨⟨_, comp28, by decide, .inl (by decide)⟩, trivial, trivial⟩, trivial⟩, ⟨⟨_, comp31, by decide, .inl (by decide)⟩, trivial, trivial⟩⟩, ⟨⟨_, comp34, by decide, .inl (by decide)⟩, ⟨⟨_, comp33, by decide, .inl (by decide)⟩, trivial, trivial⟩, ⟨⟨_, comp35, by decide, .inl (by decide)⟩, trivial, trivial⟩⟩⟩⟩, ⟨⟨_, comp57, by decide, .inl (by decide)⟩, ⟨⟨_, comp53, by decide, .inl (by decide)⟩, ⟨⟨_, comp39, by decide, .inl (by decide)⟩, ⟨⟨_, comp38, by decide, .inl (by decide)⟩, ⟨⟨_, comp37, by decide, .inl (by decide)⟩, trivial, trivial⟩, trivial⟩, ⟨⟨_, comp40, by decide, .inl (by decide)⟩, trivial, trivial⟩⟩, ⟨⟨_, comp55, by decide, .inl (by decide)⟩, ⟨⟨_, comp54, by decide, .inl (by decide)⟩, trivial, trivial⟩, ⟨⟨_, comp56, by decide, .inl (by decide)⟩, trivial, trivial⟩⟩⟩, ⟨⟨_, comp61, by decide, .inl (by decide)⟩, ⟨⟨_, comp59, by decide, .inl (by decide)⟩, ⟨⟨_, comp58, by decide, .inl (by decide)⟩, trivial, trivial⟩, ⟨⟨_, comp60, by decide, .inl (by decide)⟩, trivial, trivial⟩⟩, ⟨⟨_, comp82, by decide, .inl (by decide)⟩, ⟨⟨_, comp62, by decide, .inl (by decide)⟩, trivial, trivial⟩, ⟨⟨_, comp83, by decide, .inl (by decide)⟩, trivial, trivial⟩⟩⟩⟩⟩, ⟨⟨_, comp132, by decide, .inl (by decide)⟩, ⟨⟨_, comp98, by decide, .inl (by decide)⟩, ⟨⟨_, comp89, by decide, .inl (by decide)⟩, ⟨⟨_, comp87, by decide, .inl (by decide)⟩, ⟨⟨_, comp86, by decide, .inl (by decide)⟩, ⟨⟨_, comp85, by decide, .inl (by decide)⟩, trivial, trivial⟩, trivial⟩, ⟨⟨_, comp88, by decide, .inl (by decide)⟩, trivial, trivial⟩⟩, ⟨⟨_, comp91, by decide, .inr keys91⟩, ⟨⟨_, comp90, by decide, .inl (by decide)⟩, trivial, trivial⟩, ⟨⟨_, comp92, by decide, .inl (by decide)⟩, trivial, trivial⟩⟩⟩, ⟨⟨_, comp127, by decide, .inl (by decide)⟩, ⟨⟨_, comp121, by decide, .inl (by decide)⟩, ⟨⟨_, comp102, by decide, .inl (by decide)⟩, trivial, trivial⟩, ⟨⟨_, comp126, by decide, .inl (by decide)⟩, trivial, trivial⟩⟩, ⟨⟨_, comp130, by decide, .inl (by decide)⟩, ⟨⟨_, comp128, by decide, .inl (by decide)⟩, trivial, trivial⟩, ⟨⟨_, comp131, by decide, .inl (by decide)⟩, trivial, trivial⟩⟩⟩⟩, ⟨⟨_, comp180, by decide, .inl (by decide)⟩, ⟨⟨_, comp142, by decide, .inl (by decide)⟩, ⟨⟨_, comp135, by decide, .inr keys135⟩, ⟨⟨_, comp134, by decide, .inr keys134⟩, ⟨⟨_, comp133, by decide, .inl (by decide)⟩, trivial, trivial⟩, trivial⟩, ⟨⟨_, comp136, by decide, .inl (by decide)⟩, trivial, trivial⟩⟩, ⟨⟨_, comp178, by decide, .inl (by decide)⟩, ⟨⟨_, comp177, by decide, .inl (by decide)⟩, trivial, trivial⟩, ⟨⟨_, comp179, by decide, .inl (by decide)⟩, trivial, trivial⟩⟩⟩, ⟨⟨_, comp207, by decide, .inl (by decide)⟩, ⟨⟨_, comp182, by decide, .inl (by decide)⟩, ⟨⟨_, comp181, by decide, .inl (by decide)⟩, trivial, trivial⟩, ⟨⟨_, comp199, by decide, .inl (by decide)⟩, trivial, trivial⟩⟩, ⟨⟨_, comp233, by decide, .inl (by decide)⟩, ⟨⟨_, comp208, by decide, .inl (by decide)⟩, trivial, trivial⟩, ⟨⟨_, comp235, by decide, .inl (by decide)⟩, trivial, trivial⟩⟩⟩⟩⟩⟩
abbrev LT : List (Nat × LI) := [(91000, li91000), (134000, li134000), (135000, li135000)]
theorem LT_ok : LAll Go.Proofs.Tryz.prog LT := ⟨lok91000, ⟨lok134000, ⟨lok135000, trivial⟩⟩⟩
end Go.Gi
