/- Functions of the program in the form of the abstract machine, printed by a program; each is checked against the translation. -/
import Derived.Test.YtakdhioafodhcaaGreatDoorGiXE
import Derived.Test.YtakdhioafodhcaaGreatDoorProg
import Derived.KernelRfl
set_option linter.unusedVariables false
namespace Go.Gi
open Go
-- outlaw/outlawlaw10.lives
abbrev r8_0 : List IOp := [⟨some 0, .op (.mov), [.c (.bool false)], none⟩]
abbrev r8_1 : List IOp := [⟨some 2, .call none, [.f 9, .c (.int .i64 10)], none⟩,
  ⟨some 1, .op (.mov), [.t 2], none⟩]
abbrev r8_2 : List IOp := [⟨some 3, .op (.mov), [.t 1], none⟩,
  ⟨some 4, .call none, [.f 11, .t 3, .c (.int .i64 3), .c (.str [97, 42]), .c (.bool false)], none⟩,
  ⟨some 5, .op (.bin .eql .prim), [.t 4, .c (.int .i64 0)], none⟩,
  ⟨some 6, .op (.mov), [.t 5], none⟩,
  ⟨some 7, .op (.mov), [.t 1], some (6, true)⟩,
  ⟨some 8, .call none, [.f 11, .t 7, .c (.int .i64 1), .c (.str [97, 98]), .c (.bool false)], some (6, true)⟩,
  ⟨some 9, .op (.bin .eql .prim), [.t 8, .c (.int .i64 0)], some (6, true)⟩,
  ⟨some 10, .op (.pick), [.t 6, .t 9, .c (.bool false)], none⟩,
  ⟨some 11, .op (.mov), [.t 10], none⟩,
  ⟨some 12, .op (.mov), [.t 1], some (11, true)⟩,
  ⟨some 13, .call none, [.f 11, .t 12, .c (.int .i64 2), .c (.str [98]), .c (.bool false)], some (11, true)⟩,
  ⟨some 14, .op (.bin .eql .prim), [.t 13, .c (.int .i64 0)], some (11, true)⟩,
  ⟨some 15, .op (.pick), [.t 11, .t 14, .c (.bool false)], none⟩,
  ⟨some 16, .op (.mov), [.t 15], none⟩,
  ⟨some 17, .op (.mov), [.t 1], some (16, true)⟩,
  ⟨some 18, .call none, [.f 12, .t 17, .c (.str [97, 98])], some (16, true)⟩,
  ⟨some 19, .op (.bsl 3 1 false), [.c (.int .i64 1), .c (.int .i64 3)], some (16, true)⟩,
  ⟨some 20, .call none, [.f 20, .t 18, .t 19], some (16, true)⟩,
  ⟨some 21, .op (.pick), [.t 16, .t 20, .c (.bool false)], none⟩,
  ⟨some 0, .op (.mov), [.t 21], none⟩]
abbrev c8 : IC := (IC.seq (IC.reg r8_0) (IC.seq (IC.reg r8_1) (IC.seq (IC.reg r8_2) IC.ret)))
abbrev g8 : FC := ⟨c8, 22, [.t 0]⟩
theorem comp8 : compF Go.Proofs.Tryz.prog (fun _ => 0) 8 = some g8 := by kernel_rfl

-- outlaw/outlawlaw10.IndexNil
abbrev r6_0 : List IOp := [⟨some 1, .op (.box 38), [.t 0], none⟩,
  ⟨some 2, .op (.mov), [.c (.bool false)], none⟩]
abbrev r6_1 : List IOp := [⟨some 4, .call none, [.f 8], none⟩,
  ⟨some 5, .op (.un .not), [.t 4], none⟩]
abbrev r6_2 : List IOp := [⟨some 2, .op (.mov), [.c (.bool false)], none⟩]
abbrev r6_3 : List IOp := [⟨some 6, .op (.load (some 5)), [.t 1], none⟩,
  ⟨some 7, .op (.bsl 38 5 false), [.t 6], none⟩,
  ⟨some 8, .call none, [.f 15, .t 7], none⟩,
  ⟨some 9, .op (.un .not), [.t 8], none⟩]
abbrev r6_4 : List IOp := [⟨some 2, .op (.mov), [.c (.bool true)], none⟩]
abbrev r6_5 : List IOp := [⟨some 3, .op (.mov), [.c (.nilp)], none⟩]
abbrev r6_6 : List IOp := [⟨some 10, .op (.mov), [.t 3], none⟩,
  ⟨some 11, .op (.faddr 1), [.t 1], none⟩,
  ⟨some 12, .op (.load none), [.t 11], none⟩,
  ⟨some 13, .op (.faddr 2), [.t 1], none⟩,
  ⟨some 14, .op (.load none), [.t 13], none⟩,
  ⟨some 15, .op (.faddr 3), [.t 1], none⟩,
  ⟨some 16, .op (.load none), [.t 15], none⟩,
  ⟨some 17, .call none, [.f 11, .t 10, .t 12, .t 14, .t 16], none⟩,
  ⟨some 18, .op (.bin .eql .prim), [.t 17, .c (.int .i64 1)], none⟩,
  ⟨some 19, .op (.mov), [.t 18], none⟩,
  ⟨some 20, .op (.mov), [.t 3], some (19, true)⟩,
  ⟨some 21, .op (.faddr 1), [.t 1], some (19, true)⟩,
  ⟨some 22, .op (.load none), [.t 21], some (19, true)⟩,
  ⟨some 23, .call none, [.f 14, .t 20, .t 22], some (19, true)⟩,
  ⟨some 24, .op (.bin .eql .prim), [.t 23, .c (.int .i64 1)], some (19, true)⟩,
  ⟨some 25, .op (.pick), [.t 19, .t 24, .c (.bool false)], none⟩,
  ⟨some 26, .op (.mov), [.t 25], none⟩,
  ⟨some 27, .op (.mov), [.t 3], some (26, true)⟩,
  ⟨some 28, .op (.faddr 4), [.t 1], some (26, true)⟩,
  ⟨some 29, .op (.load none), [.t 28], some (26, true)⟩,
  ⟨some 30, .call none, [.f 12, .t 27, .t 29], some (26, true)⟩,
  ⟨some 31, .op (.len .slice), [.t 30], some (26, true)⟩,
  ⟨some 32, .op (.bin .eql .prim), [.t 31, .c (.int .i64 0)], some (26, true)⟩,
  ⟨some 33, .op (.pick), [.t 26, .t 32, .c (.bool false)], none⟩,
  ⟨some 34, .op (.mov), [.t 33], none⟩,
  ⟨some 35, .op (.mov), [.t 3], some (34, true)⟩,
  ⟨some 36, .op (.faddr 1), [.t 1], some (34, true)⟩,
  ⟨some 37, .op (.load none), [.t 36], some (34, true)⟩,
  ⟨some 38, .call none, [.f 22, .t 35, .t 37], some (34, true)⟩,
  ⟨some 39, .op (.un .not), [.t 38], some (34, true)⟩,
  ⟨some 40, .op (.pick), [.t 34, .t 39, .c (.bool false)], none⟩,
  ⟨some 41, .op (.mov), [.t 40], none⟩,
  ⟨some 42, .op (.mov), [.t 3], some (41, true)⟩,
  ⟨some 43, .call none, [.f 13, .t 42], some (41, true)⟩,
  ⟨some 44, .op (.bin .eql .prim), [.t 43, .c (.int .i64 0)], some (41, true)⟩,
  ⟨some 45, .op (.pick), [.t 41, .t 44, .c (.bool false)], none⟩,
  ⟨some 46, .op (.mov), [.t 45], none⟩,
  ⟨some 47, .op (.mov), [.t 3], some (46, true)⟩,
  ⟨some 48, .call none, [.f 25, .t 47], some (46, true)⟩,
  ⟨some 49, .op (.len .slice), [.t 48], some (46, true)⟩,
  ⟨some 50, .op (.bin .eql .prim), [.t 49, .c (.int .i64 0)], some (46, true)⟩,
  ⟨some 51, .op (.pick), [.t 46, .t 50, .c (.bool false)], none⟩,
  ⟨some 2, .op (.mov), [.t 51], none⟩]
abbrev c6 : IC := (IC.seq (IC.reg r6_0) (IC.seq (IC.seq (IC.reg r6_1) (IC.cond (.t 5) (IC.seq (IC.reg r6_2) IC.ret) IC.skip)) (IC.seq (IC.seq (IC.reg r6_3) (IC.cond (.t 9) (IC.seq (IC.reg r6_4) IC.ret) IC.skip)) (IC.seq (IC.reg r6_5) (IC.seq (IC.reg r6_6) IC.ret)))))
abbrev g6 : FC := ⟨c6, 52, [.t 2]⟩
theorem comp6 : compF Go.Proofs.Tryz.prog (fun _ => 0) 6 = some g6 := by kernel_rfl

-- outlaw/index.New
abbrev r9_0 : List IOp := [⟨some 2, .op (.mov), [.c (.nilp)], none⟩]
abbrev r9_1 : List IOp := [⟨some 3, .op (.mov), [.t 0], none⟩,
  ⟨some 4, .op (.max), [.t 3, .c (.int .i64 1)], none⟩,
  ⟨some 5, .op (.min), [.t 4, .c (.int .i64 256)], none⟩,
  ⟨some 6, .op (.mkmap false), [], none⟩,
  ⟨some 7, .op (.mkmap false), [], none⟩,
  ⟨some 8, .op (.mkmap false), [], none⟩,
  ⟨some 9, .op (.mkmap false), [], none⟩,
  ⟨some 10, .op (.bst [.int .i64 0, .nilm, .nilm, .nilm, .nilm] [(0, 1), (1, 1), (2, 1), (3, 1), (4, 1)] [0, 1, 2, 3, 4]), [.t 5, .t 6, .t 7, .t 8, .t 9], none⟩,
  ⟨some 11, .op (.box 57), [.t 10], none⟩,
  ⟨some 2, .op (.mov), [.t 11], none⟩]
abbrev c9 : IC := (IC.seq (IC.reg r9_0) (IC.seq (IC.reg r9_1) IC.ret))
abbrev g9 : FC := ⟨c9, 12, [.t 2]⟩
theorem comp9 : compF Go.Proofs.Tryz.prog (fun _ => 0) 9 = some g9 := by kernel_rfl

-- (*outlaw/index.Index).Put
abbrev r11_0 : List IOp := [⟨some 8, .op (.mov), [.c (.int .i64 0)], none⟩]
abbrev r11_1 : List IOp := [⟨some 16, .op (.mov), [.t 0], none⟩,
  ⟨some 17, .call none, [.f 27, .t 16], none⟩,
  ⟨some 18, .op (.un .not), [.t 17], none⟩,
  ⟨some 15, .op (.mov), [.t 18], none⟩]
abbrev r11_2 : List IOp := [⟨some 8, .op (.mov), [.c (.int .i64 1)], none⟩]
abbrev r11_3 : List IOp := [⟨some 20, .op (.mov), [.t 1], none⟩,
  ⟨some 21, .op (.bin .lss .prim), [.t 20, .c (.int .i64 0)], none⟩,
  ⟨some 19, .op (.mov), [.t 21], none⟩]
abbrev r11_4 : List IOp := [⟨some 8, .op (.mov), [.c (.int .i64 2)], none⟩]
abbrev r11_5 : List IOp := [⟨some 23, .op (.mov), [.t 0], none⟩,
  ⟨some 24, .op (.mov), [.t 1], none⟩,
  ⟨some 25, .call none, [.f 22, .t 23, .t 24], none⟩,
  ⟨some 22, .op (.mov), [.t 25], none⟩]
abbrev r11_6 : List IOp := [⟨some 8, .op (.mov), [.c (.int .i64 8)], none⟩]
abbrev r11_7 : List IOp := [⟨some 26, .op (.mov), [.t 2], none⟩,
  ⟨some 27, .call none, [.f 28, .t 26], none⟩,
  ⟨some 9, .op (.mov), [.t 27], none⟩]
abbrev r11_8 : List IOp := [⟨some 28, .op (.mov), [.t 9], none⟩,
  ⟨some 29, .op (.bin .neq .prim), [.t 28, .c (.int .i64 0)], none⟩]
abbrev r11_9 : List IOp := [⟨some 30, .op (.mov), [.t 9], none⟩,
  ⟨some 8, .op (.mov), [.t 30], none⟩]
abbrev r11_10 : List IOp := [⟨some 31, .op (.mov), [.t 0], none⟩,
  ⟨some 32, .op (.nilchk), [.t 31], none⟩,
  ⟨some 33, .op (.faddr 1), [.t 32], none⟩,
  ⟨some 34, .op (.load none), [.t 33], none⟩,
  ⟨some 35, .op (.len .map), [.t 34], none⟩,
  ⟨some 36, .op (.bin .geq .prim), [.t 35, .c (.int .i64 200)], none⟩]
abbrev r11_11 : List IOp := [⟨some 8, .op (.mov), [.c (.int .i64 13)], none⟩]
abbrev r11_12 : List IOp := [⟨some 37, .op (.mov), [.t 1], none⟩,
  ⟨some 38, .op (.mov), [.t 2], none⟩,
  ⟨some 39, .op (.mov), [.t 3], none⟩,
  ⟨some 40, .op (.bst [.int .i64 0, .str [], .bool false] [(0, 1), (1, 1), (2, 1)] [0, 1, 2]), [.t 37, .t 38, .t 39], none⟩,
  ⟨some 41, .op (.bst [.int .i64 0, .str [], .bool false, .nilp] [(0, 3), (3, 1)] [0]), [.t 40], none⟩,
  ⟨some 42, .op (.box 62), [.t 41], none⟩,
  ⟨some 10, .op (.mov), [.t 42], none⟩]
abbrev r11_13 : List IOp := [⟨some 43, .op (.mov), [.t 0], none⟩,
  ⟨some 44, .op (.nilchk), [.t 43], none⟩,
  ⟨some 45, .op (.faddr 1), [.t 44], none⟩,
  ⟨some 46, .op (.load none), [.t 45], none⟩,
  ⟨some 47, .op (.mov), [.t 1], none⟩,
  ⟨some 48, .op (.mov), [.t 10], none⟩,
  ⟨none, .op (.mapup .int), [.t 46, .t 47, .t 48], none⟩]
abbrev r11_14 : List IOp := [⟨some 50, .op (.mov), [.t 2], none⟩,
  ⟨some 51, .call none, [.f 29, .t 50], none⟩,
  ⟨some 49, .op (.mov), [.t 51], none⟩,
  ⟨some 52, .op (.extract 0), [.t 49], none⟩,
  ⟨some 53, .op (.extract 1), [.t 49], none⟩,
  ⟨some 11, .op (.mov), [.t 52], none⟩,
  ⟨some 12, .op (.mov), [.t 53], none⟩]
abbrev r11_15 : List IOp := [⟨some 54, .op (.mov), [.t 12], none⟩]
abbrev r11_16 : List IOp := [⟨some 56, .op (.mov), [.t 0], none⟩,
  ⟨some 57, .op (.mov), [.t 10], none⟩,
  ⟨some 58, .op (.nilchk), [.t 57], none⟩,
  ⟨some 59, .op (.faddr 0), [.t 58], none⟩,
  ⟨some 60, .op (.load (some 3)), [.t 59], none⟩,
  ⟨some 61, .call none, [.f 30, .t 56, .t 60], none⟩,
  ⟨some 55, .op (.mov), [.t 61], none⟩,
  ⟨some 62, .op (.extract 0), [.t 55], none⟩,
  ⟨some 63, .op (.extract 1), [.t 55], none⟩,
  ⟨some 13, .op (.mov), [.t 62], none⟩,
  ⟨some 14, .op (.mov), [.t 63], none⟩]
abbrev r11_17 : List IOp := [⟨some 64, .op (.mov), [.t 13], none⟩,
  ⟨some 65, .op (.mov), [.t 14], none⟩,
  ⟨some 66, .op (.mov), [.t 13], none⟩,
  ⟨some 67, .op (.mov), [.t 14], none⟩,
  ⟨some 68, .op (.look .str (.nils) false), [.t 66, .t 67], none⟩,
  ⟨some 69, .op (.mov), [.t 1], none⟩,
  ⟨some 70, .op (.bsl 3 1 false), [.t 69], none⟩,
  ⟨some 71, .op (.app 3 1 8), [.t 68, .t 70], none⟩,
  ⟨none, .op (.mapup .str), [.t 64, .t 65, .t 71], none⟩]
abbrev r11_18 : List IOp := [⟨some 8, .op (.mov), [.c (.int .i64 0)], none⟩]
abbrev r11_19 : List IOp := [⟨some 73, .op (.mov), [.t 10], none⟩,
  ⟨some 74, .op (.mov), [.t 2], none⟩,
  ⟨some 75, .op (.mov), [.t 3], none⟩,
  ⟨some 76, .op (.mov), [.t 0], none⟩,
  ⟨some 77, .op (.nilchk), [.t 76], none⟩,
  ⟨some 78, .op (.faddr 0), [.t 77], none⟩,
  ⟨some 79, .op (.load none), [.t 78], none⟩,
  ⟨some 80, .call none, [.f 31, .t 74, .t 75, .t 79], none⟩,
  ⟨some 72, .op (.mov), [.t 80], none⟩,
  ⟨some 81, .op (.extract 0), [.t 72], none⟩,
  ⟨some 82, .op (.extract 1), [.t 72], none⟩,
  ⟨some 83, .op (.nilchk), [.t 73], none⟩,
  ⟨some 84, .op (.faddr 3), [.t 83], none⟩,
  ⟨none, .op (.store 1), [.t 84, .t 81], none⟩]
abbrev r11_20 : List IOp := [⟨some 85, .op (.mov), [.t 0], none⟩,
  ⟨some 86, .op (.nilchk), [.t 85], none⟩,
  ⟨some 87, .op (.faddr 4), [.t 86], none⟩,
  ⟨some 88, .op (.load none), [.t 87], none⟩,
  ⟨some 89, .op (.mov), [.t 1], none⟩,
  ⟨some 90, .op (.mov), [.t 10], none⟩,
  ⟨none, .op (.mapup .int), [.t 88, .t 89, .t 90], none⟩]
abbrev r11_21 : List IOp := [⟨some 8, .op (.mov), [.c (.int .i64 0)], none⟩]
abbrev c11 : IC := (IC.seq (IC.reg r11_0) (IC.seq (IC.block 0 (IC.seq (IC.reg r11_1) (IC.cond (.t 15) (IC.seq (IC.reg r11_2) IC.ret) (IC.seq (IC.reg r11_3) (IC.cond (.t 19) (IC.seq (IC.reg r11_4) IC.ret) (IC.seq (IC.reg r11_5) (IC.cond (.t 22) (IC.seq (IC.reg r11_6) IC.ret) IC.skip))))))) (IC.seq (IC.seq (IC.reg r11_7) (IC.seq (IC.reg r11_8) (IC.cond (.t 29) (IC.seq (IC.reg r11_9) IC.ret) IC.skip))) (IC.seq (IC.seq (IC.reg r11_10) (IC.cond (.t 36) (IC.seq (IC.reg r11_11) IC.ret) IC.skip)) (IC.seq (IC.reg r11_12) (IC.seq (IC.reg r11_13) (IC.seq (IC.seq (IC.reg r11_14) (IC.seq (IC.reg r11_15) (IC.cond (.t 54) (IC.seq (IC.reg r11_16) (IC.seq (IC.reg r11_17) (IC.seq (IC.reg r11_18) IC.ret))) IC.skip))) (IC.seq (IC.reg r11_19) (IC.seq (IC.reg r11_20) (IC.seq (IC.reg r11_21) IC.ret))))))))))
abbrev g11 : FC := ⟨c11, 91, [.t 8]⟩
theorem comp11 : compF Go.Proofs.Tryz.prog (fun _ => 0) 11 = some g11 := by kernel_rfl

-- (*outlaw/index.Index).Match
abbrev r12_0 : List IOp := [⟨some 4, .op (.mov), [.c (.nils)], none⟩]
abbrev r12_1 : List IOp := [⟨some 8, .op (.mov), [.t 0], none⟩,
  ⟨some 9, .call none, [.f 27, .t 8], none⟩,
  ⟨some 10, .op (.un .not), [.t 9], none⟩]
abbrev r12_2 : List IOp := [⟨some 4, .op (.mov), [.c (.nils)], none⟩]
abbrev r12_3 : List IOp := [⟨some 11, .op (.mov), [.t 0], none⟩,
  ⟨some 12, .op (.nilchk), [.t 11], none⟩,
  ⟨some 13, .op (.faddr 2), [.t 12], none⟩,
  ⟨some 14, .op (.load none), [.t 13], none⟩,
  ⟨some 15, .op (.mov), [.t 1], none⟩,
  ⟨some 16, .op (.look .str (.nils) false), [.t 14, .t 15], none⟩,
  ⟨some 17, .op (.mov), [.t 0], none⟩,
  ⟨some 18, .op (.nilchk), [.t 17], none⟩,
  ⟨some 19, .op (.faddr 3), [.t 18], none⟩,
  ⟨some 20, .op (.load none), [.t 19], none⟩,
  ⟨some 21, .op (.mov), [.t 1], none⟩,
  ⟨some 22, .call none, [.f 33, .t 21], none⟩,
  ⟨some 23, .op (.look .str (.nils) false), [.t 20, .t 22], none⟩,
  ⟨some 24, .op (.bsl 28 1 false), [.t 16, .t 23], none⟩,
  ⟨some 25, .call none, [.f 32, .t 24], none⟩,
  ⟨some 5, .op (.mov), [.t 25], none⟩]
abbrev r12_4 : List IOp := [⟨some 26, .op (.mov), [.t 0], none⟩,
  ⟨some 27, .op (.nilchk), [.t 26], none⟩,
  ⟨some 28, .op (.faddr 4), [.t 27], none⟩,
  ⟨some 29, .op (.load none), [.t 28], none⟩,
  ⟨some 30, .call none, [.f 35, .t 29], none⟩,
  ⟨some 31, .call none, [.f 34, .t 30], none⟩,
  ⟨some 32, .op (.len .slice), [.t 31], none⟩,
  ⟨some 33, .op (.mov), [.c (.int .i64 0)], none⟩]
abbrev r12_5 : List IOp := [⟨some 34, .op (.bin .lss .prim), [.t 33, .t 32], none⟩]
abbrev r12_6 : List IOp := [⟨some 35, .op (.iaddr 1), [.t 31, .t 33], none⟩,
  ⟨some 36, .op (.load none), [.t 35], none⟩,
  ⟨some 7, .op (.mov), [.t 36], none⟩]
abbrev r12_7 : List IOp := [⟨some 37, .op (.mov), [.t 0], none⟩,
  ⟨some 38, .op (.nilchk), [.t 37], none⟩,
  ⟨some 39, .op (.faddr 4), [.t 38], none⟩,
  ⟨some 40, .op (.load none), [.t 39], none⟩,
  ⟨some 41, .op (.mov), [.t 7], none⟩,
  ⟨some 42, .op (.look .int (.nilp) false), [.t 40, .t 41], none⟩,
  ⟨some 43, .op (.nilchk), [.t 42], none⟩,
  ⟨some 44, .op (.faddr 3), [.t 43], none⟩,
  ⟨some 45, .op (.load none), [.t 44], none⟩,
  ⟨some 46, .op (.mov), [.t 1], none⟩,
  ⟨some 47, .call none, [.f 36, .t 45, .t 46], none⟩]
abbrev r12_8 : List IOp := [⟨some 48, .op (.mov), [.t 5], none⟩,
  ⟨some 49, .op (.mov), [.t 7], none⟩,
  ⟨some 50, .op (.bsl 3 1 false), [.t 49], none⟩,
  ⟨some 51, .op (.app 3 1 8), [.t 48, .t 50], none⟩,
  ⟨some 5, .op (.mov), [.t 51], none⟩]
abbrev r12_9 : List IOp := [⟨some 52, .op (.bin .add .prim), [.t 33, .c (.int .i64 1)], none⟩,
  ⟨some 33, .op (.mov), [.t 52], none⟩]
abbrev b12_0 : IC := (IC.seq (IC.reg r12_5) (IC.seq (IC.cond (.t 34) IC.skip (IC.exit 0)) (IC.seq (IC.block 1 (IC.seq (IC.reg r12_6) (IC.seq (IC.reg r12_7) (IC.cond (.t 47) (IC.reg r12_8) IC.skip)))) (IC.reg r12_9))))
abbrev r12_10 : List IOp := [⟨some 53, .op (.mov), [.t 5], none⟩,
  ⟨some 54, .call none, [.f 37, .t 53], none⟩]
abbrev r12_11 : List IOp := [⟨some 55, .op (.mov), [.t 5], none⟩,
  ⟨some 4, .op (.mov), [.t 55], none⟩]
abbrev c12 : IC := (IC.seq (IC.reg r12_0) (IC.seq (IC.seq (IC.reg r12_1) (IC.cond (.t 10) (IC.seq (IC.reg r12_2) IC.ret) IC.skip)) (IC.seq (IC.regD .alloc r12_3 (.take 0 (.take 1 (.take 2 (.take 3 (.take 4 (.take 5 (.take 6 (.take 7 (.take 8 (.take 9 (.take 10 (.take 11 (.take 12 (.take 13 (.take 14 (.take 15 (.done)))))))))))))))))) (IC.seq (IC.seq (IC.reg r12_4) (IC.block 0 (IC.loop b12_0))) (IC.seq (IC.reg r12_10) (IC.seq (IC.reg r12_11) IC.ret))))))
abbrev g12 : FC := ⟨c12, 56, [.t 4]⟩
theorem comp12 : compF Go.Proofs.Tryz.prog (hintL [(3, 7)]) 12 = some g12 := by kernel_rfl

-- outlaw/outlawkit.Same[int]
abbrev r20_0 : List IOp := [⟨some 4, .op (.mov), [.c (.bool false)], none⟩]
abbrev r20_1 : List IOp := [⟨some 6, .op (.mov), [.t 0], none⟩,
  ⟨some 7, .op (.len .slice), [.t 6], none⟩,
  ⟨some 8, .op (.mov), [.t 1], none⟩,
  ⟨some 9, .op (.len .slice), [.t 8], none⟩,
  ⟨some 10, .op (.bin .neq .prim), [.t 7, .t 9], none⟩]
abbrev r20_2 : List IOp := [⟨some 4, .op (.mov), [.c (.bool false)], none⟩]
abbrev r20_3 : List IOp := [⟨some 5, .op (.mov), [.c (.int .i64 0)], none⟩]
abbrev r20_4 : List IOp := [⟨some 11, .op (.mov), [.t 5], none⟩,
  ⟨some 12, .op (.mov), [.t 0], none⟩,
  ⟨some 13, .op (.len .slice), [.t 12], none⟩,
  ⟨some 14, .op (.bin .lss .prim), [.t 11, .t 13], none⟩]
abbrev r20_5 : List IOp := [⟨some 17, .op (.mov), [.t 0], none⟩,
  ⟨some 18, .op (.mov), [.t 5], none⟩,
  ⟨some 19, .op (.iaddr 1), [.t 17, .t 18], none⟩,
  ⟨some 20, .op (.load none), [.t 19], none⟩,
  ⟨some 21, .op (.mov), [.t 1], none⟩,
  ⟨some 22, .op (.mov), [.t 5], none⟩,
  ⟨some 23, .op (.iaddr 1), [.t 21, .t 22], none⟩,
  ⟨some 24, .op (.load none), [.t 23], none⟩,
  ⟨some 25, .op (.bin .neq .prim), [.t 20, .t 24], none⟩]
abbrev r20_6 : List IOp := [⟨some 4, .op (.mov), [.c (.bool false)], none⟩]
abbrev r20_7 : List IOp := [⟨some 15, .op (.mov), [.t 5], none⟩,
  ⟨some 16, .op (.bin .add .prim), [.t 15, .c (.int .i64 1)], none⟩,
  ⟨some 5, .op (.mov), [.t 16], none⟩]
abbrev b20_0 : IC := (IC.seq (IC.seq (IC.reg r20_4) (IC.cond (.t 14) IC.skip (IC.exit 0))) (IC.seq (IC.block 1 (IC.seq (IC.regD .wild r20_5 (.take 0 (.take 1 (.take 2 (.take 3 (.take 4 (.take 5 (.take 6 (.take 7 (.take 8 (.done))))))))))) (IC.cond (.t 25) (IC.seq (IC.reg r20_6) IC.ret) IC.skip))) (IC.reg r20_7)))
abbrev r20_8 : List IOp := [⟨some 4, .op (.mov), [.c (.bool true)], none⟩]
abbrev c20 : IC := (IC.seq (IC.reg r20_0) (IC.seq (IC.seq (IC.reg r20_1) (IC.cond (.t 10) (IC.seq (IC.reg r20_2) IC.ret) IC.skip)) (IC.seq (IC.seq (IC.reg r20_3) (IC.block 0 (IC.loop b20_0))) (IC.seq (IC.reg r20_8) IC.ret))))
abbrev g20 : FC := ⟨c20, 26, [.t 4]⟩
theorem comp20 : compF Go.Proofs.Tryz.prog (hintL [(6, 6)]) 20 = some g20 := by kernel_rfl

-- outlaw/outlawlaw10.light
abbrev r15_0 : List IOp := [⟨some 2, .op (.mov), [.c (.bool false)], none⟩]
abbrev r15_1 : List IOp := [⟨some 3, .op (.mov), [.c (.int .i64 0)], none⟩]
abbrev r15_2 : List IOp := [⟨some 4, .op (.mov), [.t 3], none⟩,
  ⟨some 5, .op (.mov), [.t 0], none⟩,
  ⟨some 6, .op (.len .slice), [.t 5], none⟩,
  ⟨some 7, .op (.bin .lss .prim), [.t 4, .t 6], none⟩]
abbrev r15_3 : List IOp := [⟨some 10, .op (.mov), [.t 0], none⟩,
  ⟨some 11, .op (.mov), [.t 3], none⟩,
  ⟨some 12, .op (.iaddr 5), [.t 10, .t 11], none⟩,
  ⟨some 13, .op (.faddr 2), [.t 12], none⟩,
  ⟨some 14, .op (.load none), [.t 13], none⟩,
  ⟨some 15, .op (.len .str), [.t 14], none⟩,
  ⟨some 16, .op (.bin .gtr .prim), [.t 15, .c (.int .i64 300)], none⟩,
  ⟨some 17, .op (.mov), [.t 16], none⟩,
  ⟨some 18, .op (.mov), [.t 0], some (17, false)⟩,
  ⟨some 19, .op (.mov), [.t 3], some (17, false)⟩,
  ⟨some 20, .op (.iaddr 5), [.t 18, .t 19], some (17, false)⟩,
  ⟨some 21, .op (.faddr 4), [.t 20], some (17, false)⟩,
  ⟨some 22, .op (.load none), [.t 21], some (17, false)⟩,
  ⟨some 23, .op (.len .str), [.t 22], some (17, false)⟩,
  ⟨some 24, .op (.bin .gtr .prim), [.t 23, .c (.int .i64 260)], some (17, false)⟩,
  ⟨some 25, .op (.pick), [.t 17, .c (.bool true), .t 24], none⟩]
abbrev r15_4 : List IOp := [⟨some 2, .op (.mov), [.c (.bool false)], none⟩]
abbrev r15_5 : List IOp := [⟨some 8, .op (.mov), [.t 3], none⟩,
  ⟨some 9, .op (.bin .add .prim), [.t 8, .c (.int .i64 1)], none⟩,
  ⟨some 3, .op (.mov), [.t 9], none⟩]
abbrev b15_0 : IC := (IC.seq (IC.seq (IC.reg r15_2) (IC.cond (.t 7) IC.skip (IC.exit 0))) (IC.seq (IC.block 1 (IC.seq (IC.reg r15_3) (IC.cond (.t 25) (IC.seq (IC.reg r15_4) IC.ret) IC.skip))) (IC.reg r15_5)))
abbrev r15_6 : List IOp := [⟨some 26, .op (.mov), [.t 0], none⟩,
  ⟨some 27, .op (.len .slice), [.t 26], none⟩,
  ⟨some 28, .op (.bin .leq .prim), [.t 27, .c (.int .i64 60)], none⟩,
  ⟨some 2, .op (.mov), [.t 28], none⟩]
abbrev c15 : IC := (IC.seq (IC.reg r15_0) (IC.seq (IC.seq (IC.reg r15_1) (IC.block 0 (IC.loop b15_0))) (IC.seq (IC.reg r15_6) IC.ret)))
abbrev g15 : FC := ⟨c15, 29, [.t 2]⟩
theorem comp15 : compF Go.Proofs.Tryz.prog (fun _ => 0) 15 = some g15 := by kernel_rfl

-- (*outlaw/index.Index).Drop
abbrev r14_0 : List IOp := [⟨some 3, .op (.box 3), [.t 1], none⟩,
  ⟨some 4, .op (.mov), [.c (.int .i64 0)], none⟩]
abbrev r14_1 : List IOp := [⟨some 9, .op (.mov), [.t 0], none⟩,
  ⟨some 10, .call none, [.f 27, .t 9], none⟩,
  ⟨some 11, .op (.un .not), [.t 10], none⟩]
abbrev r14_2 : List IOp := [⟨some 4, .op (.mov), [.c (.int .i64 1)], none⟩]
abbrev r14_3 : List IOp := [⟨some 13, .op (.mov), [.t 0], none⟩,
  ⟨some 14, .op (.nilchk), [.t 13], none⟩,
  ⟨some 15, .op (.faddr 1), [.t 14], none⟩,
  ⟨some 16, .op (.load none), [.t 15], none⟩,
  ⟨some 17, .op (.load none), [.t 3], none⟩,
  ⟨some 18, .op (.look .int (.nilp) true), [.t 16, .t 17], none⟩,
  ⟨some 12, .op (.mov), [.t 18], none⟩,
  ⟨some 19, .op (.extract 0), [.t 12], none⟩,
  ⟨some 20, .op (.extract 1), [.t 12], none⟩,
  ⟨some 5, .op (.mov), [.t 19], none⟩,
  ⟨some 6, .op (.mov), [.t 20], none⟩]
abbrev r14_4 : List IOp := [⟨some 21, .op (.mov), [.t 6], none⟩,
  ⟨some 22, .op (.un .not), [.t 21], none⟩]
abbrev r14_5 : List IOp := [⟨some 4, .op (.mov), [.c (.int .i64 12)], none⟩]
abbrev r14_6 : List IOp := [⟨some 23, .op (.mov), [.t 0], none⟩,
  ⟨some 24, .op (.nilchk), [.t 23], none⟩,
  ⟨some 25, .op (.faddr 1), [.t 24], none⟩,
  ⟨some 26, .op (.load none), [.t 25], none⟩,
  ⟨some 27, .op (.load none), [.t 3], none⟩,
  ⟨none, .op (.del .int), [.t 26, .t 27], none⟩]
abbrev r14_7 : List IOp := [⟨some 28, .op (.mov), [.t 5], none⟩,
  ⟨some 29, .op (.nilchk), [.t 28], none⟩,
  ⟨some 30, .op (.faddr 3), [.t 29], none⟩,
  ⟨some 31, .op (.load none), [.t 30], none⟩,
  ⟨some 32, .op (.bin .neq .ptr), [.t 31, .c (.nilp)], none⟩]
abbrev r14_8 : List IOp := [⟨some 33, .op (.mov), [.t 0], none⟩,
  ⟨some 34, .op (.nilchk), [.t 33], none⟩,
  ⟨some 35, .op (.faddr 4), [.t 34], none⟩,
  ⟨some 36, .op (.load none), [.t 35], none⟩,
  ⟨some 37, .op (.load none), [.t 3], none⟩,
  ⟨none, .op (.del .int), [.t 36, .t 37], none⟩]
abbrev r14_9 : List IOp := [⟨some 4, .op (.mov), [.c (.int .i64 0)], none⟩]
abbrev r14_10 : List IOp := [⟨some 39, .op (.mov), [.t 0], none⟩,
  ⟨some 40, .op (.mov), [.t 5], none⟩,
  ⟨some 41, .op (.nilchk), [.t 40], none⟩,
  ⟨some 42, .op (.faddr 0), [.t 41], none⟩,
  ⟨some 43, .op (.load (some 3)), [.t 42], none⟩,
  ⟨some 44, .call none, [.f 30, .t 39, .t 43], none⟩,
  ⟨some 38, .op (.mov), [.t 44], none⟩,
  ⟨some 45, .op (.extract 0), [.t 38], none⟩,
  ⟨some 46, .op (.extract 1), [.t 38], none⟩,
  ⟨some 7, .op (.mov), [.t 45], none⟩,
  ⟨some 8, .op (.mov), [.t 46], none⟩]
abbrev r14_11 : List IOp := [⟨some 47, .op (.mov), [.t 7], none⟩,
  ⟨some 48, .op (.mov), [.t 8], none⟩,
  ⟨some 49, .op (.mov), [.t 7], none⟩,
  ⟨some 50, .op (.mov), [.t 8], none⟩,
  ⟨some 51, .op (.look .str (.nils) false), [.t 49, .t 50], none⟩,
  ⟨some 52, .op (.mkfn 39), [.t 3], none⟩,
  ⟨some 53, .call none, [.f 38, .t 51, .t 52], none⟩,
  ⟨none, .op (.mapup .str), [.t 47, .t 48, .t 53], none⟩]
abbrev r14_12 : List IOp := [⟨some 54, .op (.mov), [.t 7], none⟩,
  ⟨some 55, .op (.mov), [.t 8], none⟩,
  ⟨some 56, .op (.look .str (.nils) false), [.t 54, .t 55], none⟩,
  ⟨some 57, .op (.len .slice), [.t 56], none⟩,
  ⟨some 58, .op (.bin .eql .prim), [.t 57, .c (.int .i64 0)], none⟩]
abbrev r14_13 : List IOp := [⟨some 59, .op (.mov), [.t 7], none⟩,
  ⟨some 60, .op (.mov), [.t 8], none⟩,
  ⟨none, .op (.del .str), [.t 59, .t 60], none⟩]
abbrev r14_14 : List IOp := [⟨some 4, .op (.mov), [.c (.int .i64 0)], none⟩]
abbrev c14 : IC := (IC.seq (IC.reg r14_0) (IC.seq (IC.seq (IC.reg r14_1) (IC.cond (.t 11) (IC.seq (IC.reg r14_2) IC.ret) IC.skip)) (IC.seq (IC.regD .wild r14_3 (.take 0 (.take 1 (.take 2 (.take 3 (.take 4 (.take 5 (.take 6 (.take 7 (.take 8 (.take 9 (.take 10 (.done))))))))))))) (IC.seq (IC.seq (IC.reg r14_4) (IC.cond (.t 22) (IC.seq (IC.reg r14_5) IC.ret) IC.skip)) (IC.seq (IC.regD .wild r14_6 (.take 0 (.take 1 (.take 2 (.take 3 (.take 4 (.take 5 (.done)))))))) (IC.seq (IC.seq (IC.reg r14_7) (IC.cond (.t 32) (IC.seq (IC.regD .wild r14_8 (.take 0 (.take 1 (.take 2 (.take 3 (.take 4 (.take 5 (.done)))))))) (IC.seq (IC.reg r14_9) IC.ret)) IC.skip)) (IC.seq (IC.reg r14_10) (IC.seq (IC.reg r14_11) (IC.seq (IC.seq (IC.reg r14_12) (IC.cond (.t 58) (IC.reg r14_13) IC.skip)) (IC.seq (IC.reg r14_14) IC.ret))))))))))
abbrev g14 : FC := ⟨c14, 61, [.t 4]⟩
theorem comp14 : compF Go.Proofs.Tryz.prog (hintL [(3, 6), (6, 6), (8, 6)]) 14 = some g14 := by kernel_rfl

-- (*outlaw/index.Index).Has
abbrev r22_0 : List IOp := [⟨some 4, .op (.mov), [.c (.bool false)], none⟩]
abbrev r22_1 : List IOp := [⟨some 7, .op (.mov), [.t 0], none⟩,
  ⟨some 8, .call none, [.f 27, .t 7], none⟩,
  ⟨some 9, .op (.un .not), [.t 8], none⟩]
abbrev r22_2 : List IOp := [⟨some 4, .op (.mov), [.c (.bool false)], none⟩]
abbrev r22_3 : List IOp := [⟨some 11, .op (.mov), [.t 0], none⟩,
  ⟨some 12, .op (.nilchk), [.t 11], none⟩,
  ⟨some 13, .op (.faddr 1), [.t 12], none⟩,
  ⟨some 14, .op (.load none), [.t 13], none⟩,
  ⟨some 15, .op (.mov), [.t 1], none⟩,
  ⟨some 16, .op (.look .int (.nilp) true), [.t 14, .t 15], none⟩,
  ⟨some 10, .op (.mov), [.t 16], none⟩,
  ⟨some 17, .op (.extract 0), [.t 10], none⟩,
  ⟨some 18, .op (.extract 1), [.t 10], none⟩,
  ⟨some 5, .op (.mov), [.t 17], none⟩,
  ⟨some 6, .op (.mov), [.t 18], none⟩]
abbrev r22_4 : List IOp := [⟨some 19, .op (.mov), [.t 6], none⟩,
  ⟨some 4, .op (.mov), [.t 19], none⟩]
abbrev c22 : IC := (IC.seq (IC.reg r22_0) (IC.seq (IC.seq (IC.reg r22_1) (IC.cond (.t 9) (IC.seq (IC.reg r22_2) IC.ret) IC.skip)) (IC.seq (IC.reg r22_3) (IC.seq (IC.reg r22_4) IC.ret))))
abbrev g22 : FC := ⟨c22, 20, [.t 4]⟩
theorem comp22 : compF Go.Proofs.Tryz.prog (fun _ => 0) 22 = some g22 := by kernel_rfl

-- (*outlaw/index.Index).Len
abbrev r13_0 : List IOp := [⟨some 2, .op (.mov), [.c (.int .i64 0)], none⟩]
abbrev r13_1 : List IOp := [⟨some 3, .op (.mov), [.t 0], none⟩,
  ⟨some 4, .call none, [.f 27, .t 3], none⟩,
  ⟨some 5, .op (.un .not), [.t 4], none⟩]
abbrev r13_2 : List IOp := [⟨some 2, .op (.mov), [.c (.int .i64 0)], none⟩]
abbrev r13_3 : List IOp := [⟨some 6, .op (.mov), [.t 0], none⟩,
  ⟨some 7, .op (.nilchk), [.t 6], none⟩,
  ⟨some 8, .op (.faddr 1), [.t 7], none⟩,
  ⟨some 9, .op (.load none), [.t 8], none⟩,
  ⟨some 10, .op (.len .map), [.t 9], none⟩,
  ⟨some 2, .op (.mov), [.t 10], none⟩]
abbrev c13 : IC := (IC.seq (IC.reg r13_0) (IC.seq (IC.seq (IC.reg r13_1) (IC.cond (.t 5) (IC.seq (IC.reg r13_2) IC.ret) IC.skip)) (IC.seq (IC.reg r13_3) IC.ret)))
abbrev g13 : FC := ⟨c13, 11, [.t 2]⟩
theorem comp13 : compF Go.Proofs.Tryz.prog (fun _ => 0) 13 = some g13 := by kernel_rfl

-- (*outlaw/index.Index).Globs
abbrev r25_0 : List IOp := [⟨some 2, .op (.mov), [.c (.nils)], none⟩]
abbrev r25_1 : List IOp := [⟨some 6, .op (.mov), [.t 0], none⟩,
  ⟨some 7, .call none, [.f 27, .t 6], none⟩,
  ⟨some 8, .op (.un .not), [.t 7], none⟩]
abbrev r25_2 : List IOp := [⟨some 2, .op (.mov), [.c (.nils)], none⟩]
abbrev r25_3 : List IOp := [⟨some 3, .op (.mov), [.c (.nils)], none⟩]
abbrev r25_4 : List IOp := [⟨some 9, .op (.mov), [.t 0], none⟩,
  ⟨some 10, .op (.nilchk), [.t 9], none⟩,
  ⟨some 11, .op (.faddr 1), [.t 10], none⟩,
  ⟨some 12, .op (.load none), [.t 11], none⟩,
  ⟨some 13, .call none, [.f 35, .t 12], none⟩,
  ⟨some 14, .call none, [.f 34, .t 13], none⟩,
  ⟨some 15, .op (.len .slice), [.t 14], none⟩,
  ⟨some 16, .op (.mov), [.c (.int .i64 0)], none⟩]
abbrev r25_5 : List IOp := [⟨some 17, .op (.bin .lss .prim), [.t 16, .t 15], none⟩]
abbrev r25_6 : List IOp := [⟨some 18, .op (.iaddr 1), [.t 14, .t 16], none⟩,
  ⟨some 19, .op (.load none), [.t 18], none⟩,
  ⟨some 5, .op (.mov), [.t 19], none⟩]
abbrev r25_7 : List IOp := [⟨some 20, .op (.mov), [.t 3], none⟩,
  ⟨some 21, .op (.mov), [.t 0], none⟩,
  ⟨some 22, .op (.nilchk), [.t 21], none⟩,
  ⟨some 23, .op (.faddr 1), [.t 22], none⟩,
  ⟨some 24, .op (.load none), [.t 23], none⟩,
  ⟨some 25, .op (.mov), [.t 5], none⟩,
  ⟨some 26, .op (.look .int (.nilp) false), [.t 24, .t 25], none⟩,
  ⟨some 27, .op (.nilchk), [.t 26], none⟩,
  ⟨some 28, .op (.faddr 0), [.t 27], none⟩,
  ⟨some 29, .op (.load (some 3)), [.t 28], none⟩,
  ⟨some 30, .op (.bsl 47 3 false), [.t 29], none⟩,
  ⟨some 31, .op (.app 47 3 32), [.t 20, .t 30], none⟩,
  ⟨some 3, .op (.mov), [.t 31], none⟩]
abbrev r25_8 : List IOp := [⟨some 32, .op (.bin .add .prim), [.t 16, .c (.int .i64 1)], none⟩,
  ⟨some 16, .op (.mov), [.t 32], none⟩]
abbrev b25_0 : IC := (IC.seq (IC.reg r25_5) (IC.seq (IC.cond (.t 17) IC.skip (IC.exit 0)) (IC.seq (IC.block 1 (IC.seq (IC.reg r25_6) (IC.reg r25_7))) (IC.reg r25_8))))
abbrev r25_9 : List IOp := [⟨some 33, .op (.mov), [.t 3], none⟩,
  ⟨some 2, .op (.mov), [.t 33], none⟩]
abbrev c25 : IC := (IC.seq (IC.reg r25_0) (IC.seq (IC.seq (IC.reg r25_1) (IC.cond (.t 8) (IC.seq (IC.reg r25_2) IC.ret) IC.skip)) (IC.seq (IC.reg r25_3) (IC.seq (IC.seq (IC.reg r25_4) (IC.block 0 (IC.loop b25_0))) (IC.seq (IC.reg r25_9) IC.ret)))))
abbrev g25 : FC := ⟨c25, 34, [.t 2]⟩
theorem comp25 : compF Go.Proofs.Tryz.prog (fun _ => 0) 25 = some g25 := by kernel_rfl

-- (*outlaw/index.Index).made
abbrev r27_0 : List IOp := [⟨some 2, .op (.mov), [.c (.bool false)], none⟩]
abbrev r27_1 : List IOp := [⟨some 3, .op (.mov), [.t 0], none⟩,
  ⟨some 4, .op (.bin .neq .ptr), [.t 3, .c (.nilp)], none⟩,
  ⟨some 5, .op (.mov), [.t 4], none⟩,
  ⟨some 6, .op (.mov), [.t 0], some (5, true)⟩,
  ⟨some 7, .op (.nilchk), [.t 6], some (5, true)⟩,
  ⟨some 8, .op (.faddr 1), [.t 7], some (5, true)⟩,
  ⟨some 9, .op (.load none), [.t 8], some (5, true)⟩,
  ⟨some 10, .op (.bin .neq .map), [.t 9, .c (.nilm)], some (5, true)⟩,
  ⟨some 11, .op (.pick), [.t 5, .t 10, .c (.bool false)], none⟩,
  ⟨some 2, .op (.mov), [.t 11], none⟩]
abbrev c27 : IC := (IC.seq (IC.reg r27_0) (IC.seq (IC.reg r27_1) IC.ret))
abbrev g27 : FC := ⟨c27, 12, [.t 2]⟩
theorem comp27 : compF Go.Proofs.Tryz.prog (fun _ => 0) 27 = some g27 := by kernel_rfl

-- outlaw/glob.Check
abbrev r28_0 : List IOp := [⟨some 2, .op (.mov), [.c (.int .i64 0)], none⟩]
abbrev r28_1 : List IOp := [⟨some 4, .op (.mov), [.t 0], none⟩,
  ⟨some 5, .op (.bin .eql .prim), [.t 4, .c (.str [])], none⟩,
  ⟨some 3, .op (.mov), [.t 5], none⟩]
abbrev r28_2 : List IOp := [⟨some 2, .op (.mov), [.c (.int .i64 2)], none⟩]
abbrev r28_3 : List IOp := [⟨some 7, .op (.mov), [.t 0], none⟩,
  ⟨some 8, .op (.len .str), [.t 7], none⟩,
  ⟨some 9, .op (.bin .gtr .prim), [.t 8, .c (.int .i64 255)], none⟩,
  ⟨some 6, .op (.mov), [.t 9], none⟩]
abbrev r28_4 : List IOp := [⟨some 2, .op (.mov), [.c (.int .i64 4)], none⟩]
abbrev r28_5 : List IOp := [⟨some 2, .op (.mov), [.c (.int .i64 0)], none⟩]
abbrev c28 : IC := (IC.seq (IC.reg r28_0) (IC.seq (IC.block 0 (IC.seq (IC.reg r28_1) (IC.cond (.t 3) (IC.seq (IC.reg r28_2) IC.ret) (IC.seq (IC.reg r28_3) (IC.cond (.t 6) (IC.seq (IC.reg r28_4) IC.ret) IC.skip))))) (IC.seq (IC.reg r28_5) IC.ret)))
abbrev g28 : FC := ⟨c28, 10, [.t 2]⟩
theorem comp28 : compF Go.Proofs.Tryz.prog (fun _ => 0) 28 = some g28 := by kernel_rfl

-- outlaw/glob.Literal
abbrev r29_0 : List IOp := [⟨some 2, .op (.mov), [.c (.str [])], none⟩,
  ⟨some 3, .op (.mov), [.c (.bool false)], none⟩]
abbrev r29_1 : List IOp := [⟨some 4, .op (.mov), [.t 0], none⟩,
  ⟨some 5, .op (.s2b 5), [.t 4], none⟩,
  ⟨some 6, .call none, [.f 46, .t 5, .c (.str [42, 63])], none⟩]
abbrev r29_2 : List IOp := [⟨some 2, .op (.mov), [.c (.str [])], none⟩,
  ⟨some 3, .op (.mov), [.c (.bool false)], none⟩]
abbrev r29_3 : List IOp := [⟨some 7, .op (.mov), [.t 0], none⟩,
  ⟨some 2, .op (.mov), [.t 7], none⟩,
  ⟨some 3, .op (.mov), [.c (.bool true)], none⟩]
abbrev c29 : IC := (IC.seq (IC.reg r29_0) (IC.seq (IC.seq (IC.reg r29_1) (IC.cond (.t 6) (IC.seq (IC.reg r29_2) IC.ret) IC.skip)) (IC.seq (IC.reg r29_3) IC.ret)))
abbrev g29 : FC := ⟨c29, 8, [.t 2, .t 3]⟩
theorem comp29 : compF Go.Proofs.Tryz.prog (fun _ => 0) 29 = some g29 := by kernel_rfl

-- (*outlaw/index.Index).lists
abbrev r30_0 : List IOp := [⟨some 3, .op (.box 47), [.t 1], none⟩,
  ⟨some 4, .op (.mov), [.c (.nilm)], none⟩,
  ⟨some 5, .op (.mov), [.c (.str [])], none⟩]
abbrev r30_1 : List IOp := [⟨some 6, .op (.faddr 2), [.t 3], none⟩,
  ⟨some 7, .op (.load none), [.t 6], none⟩]
abbrev r30_2 : List IOp := [⟨some 8, .op (.mov), [.t 0], none⟩,
  ⟨some 9, .op (.nilchk), [.t 8], none⟩,
  ⟨some 10, .op (.faddr 3), [.t 9], none⟩,
  ⟨some 11, .op (.load none), [.t 10], none⟩,
  ⟨some 12, .op (.faddr 1), [.t 3], none⟩,
  ⟨some 13, .op (.load none), [.t 12], none⟩,
  ⟨some 14, .call none, [.f 33, .t 13], none⟩,
  ⟨some 4, .op (.mov), [.t 11], none⟩,
  ⟨some 5, .op (.mov), [.t 14], none⟩]
abbrev r30_3 : List IOp := [⟨some 15, .op (.mov), [.t 0], none⟩,
  ⟨some 16, .op (.nilchk), [.t 15], none⟩,
  ⟨some 17, .op (.faddr 2), [.t 16], none⟩,
  ⟨some 18, .op (.load none), [.t 17], none⟩,
  ⟨some 19, .op (.faddr 1), [.t 3], none⟩,
  ⟨some 20, .op (.load none), [.t 19], none⟩,
  ⟨some 4, .op (.mov), [.t 18], none⟩,
  ⟨some 5, .op (.mov), [.t 20], none⟩]
abbrev c30 : IC := (IC.seq (IC.reg r30_0) (IC.seq (IC.seq (IC.reg r30_1) (IC.cond (.t 7) (IC.seq (IC.regD .alloc r30_2 (.take 0 (.take 1 (.take 2 (.take 3 (.take 4 (.take 5 (.take 6 (.take 7 (.take 8 (.done))))))))))) IC.ret) IC.skip)) (IC.seq (IC.regD .wild r30_3 (.take 0 (.take 1 (.take 2 (.take 3 (.take 4 (.take 5 (.take 6 (.take 7 (.done)))))))))) IC.ret)))
abbrev g30 : FC := ⟨c30, 21, [.t 4, .t 5]⟩
theorem comp30 : compF Go.Proofs.Tryz.prog (hintL [(2, 7), (3, 6)]) 30 = some g30 := by kernel_rfl

-- outlaw/dfa.New
abbrev r31_0 : List IOp := [⟨some 6, .op (.mov), [.c (.nilp)], none⟩,
  ⟨some 7, .op (.mov), [.c (.int .i64 0)], none⟩]
abbrev r31_1 : List IOp := [⟨some 13, .op (.mov), [.t 0], none⟩,
  ⟨some 14, .op (.mov), [.t 1], none⟩,
  ⟨some 15, .call none, [.f 47, .t 13, .t 14], none⟩,
  ⟨some 12, .op (.mov), [.t 15], none⟩,
  ⟨some 16, .op (.extract 0), [.t 12], none⟩,
  ⟨some 17, .op (.extract 1), [.t 12], none⟩,
  ⟨some 8, .op (.mov), [.t 16], none⟩,
  ⟨some 9, .op (.mov), [.t 17], none⟩]
abbrev r31_2 : List IOp := [⟨some 18, .op (.mov), [.t 9], none⟩,
  ⟨some 19, .op (.bin .neq .prim), [.t 18, .c (.int .i64 0)], none⟩]
abbrev r31_3 : List IOp := [⟨some 20, .op (.mov), [.t 9], none⟩,
  ⟨some 6, .op (.mov), [.c (.nilp)], none⟩,
  ⟨some 7, .op (.mov), [.t 20], none⟩]
abbrev r31_4 : List IOp := [⟨some 21, .op (.mov), [.t 2], none⟩,
  ⟨some 22, .op (.bin .lss .prim), [.t 21, .c (.int .i64 1)], none⟩,
  ⟨some 23, .op (.mov), [.t 22], none⟩,
  ⟨some 24, .op (.mov), [.t 2], some (23, false)⟩,
  ⟨some 25, .op (.bin .gtr .prim), [.t 24, .c (.int .i64 256)], some (23, false)⟩,
  ⟨some 26, .op (.pick), [.t 23, .c (.bool true), .t 25], none⟩]
abbrev r31_5 : List IOp := [⟨some 6, .op (.mov), [.c (.nilp)], none⟩,
  ⟨some 7, .op (.mov), [.c (.int .i64 2)], none⟩]
abbrev r31_6 : List IOp := [⟨some 28, .op (.mov), [.t 0], none⟩,
  ⟨some 29, .op (.mov), [.t 1], none⟩,
  ⟨some 30, .op (.mov), [.t 2], none⟩,
  ⟨some 31, .call none, [.f 48, .t 28, .t 29, .t 30], none⟩,
  ⟨some 27, .op (.mov), [.t 31], none⟩,
  ⟨some 32, .op (.extract 0), [.t 27], none⟩,
  ⟨some 33, .op (.extract 1), [.t 27], none⟩,
  ⟨some 10, .op (.alloc 90 [.nils, .nils, .nils]), [], none⟩,
  ⟨none, .op (.store 3), [.t 10, .t 32], none⟩,
  ⟨some 11, .op (.mov), [.t 33], none⟩]
abbrev r31_7 : List IOp := [⟨some 34, .op (.mov), [.t 11], none⟩]
abbrev r31_8 : List IOp := [⟨some 35, .op (.load (some 3)), [.t 10], none⟩,
  ⟨some 36, .op (.bst [.nils, .nils, .nils] [(0, 3)] [0]), [.t 35], none⟩,
  ⟨some 37, .op (.mkif 94), [.t 36], none⟩,
  ⟨some 38, .op (.bst [.nili] [(0, 1)] [0]), [.t 37], none⟩,
  ⟨some 39, .op (.box 98), [.t 38], none⟩,
  ⟨some 6, .op (.mov), [.t 39], none⟩,
  ⟨some 7, .op (.mov), [.c (.int .i64 0)], none⟩]
abbrev r31_9 : List IOp := [⟨some 40, .op (.mov), [.t 8], none⟩,
  ⟨some 41, .op (.bst [.nilp] [(0, 1)] [0]), [.t 40], none⟩,
  ⟨some 42, .op (.mkif 100), [.t 41], none⟩,
  ⟨some 43, .op (.bst [.nili] [(0, 1)] [0]), [.t 42], none⟩,
  ⟨some 44, .op (.box 98), [.t 43], none⟩,
  ⟨some 6, .op (.mov), [.t 44], none⟩,
  ⟨some 7, .op (.mov), [.c (.int .i64 0)], none⟩]
abbrev c31 : IC := (IC.seq (IC.reg r31_0) (IC.seq (IC.reg r31_1) (IC.seq (IC.seq (IC.reg r31_2) (IC.cond (.t 19) (IC.seq (IC.reg r31_3) IC.ret) IC.skip)) (IC.seq (IC.seq (IC.reg r31_4) (IC.cond (.t 26) (IC.seq (IC.reg r31_5) IC.ret) IC.skip)) (IC.seq (IC.seq (IC.reg r31_6) (IC.seq (IC.reg r31_7) (IC.cond (.t 34) (IC.seq (IC.reg r31_8) IC.ret) IC.skip))) (IC.seq (IC.reg r31_9) IC.ret))))))
abbrev g31 : FC := ⟨c31, 45, [.t 6, .t 7]⟩
theorem comp31 : compF Go.Proofs.Tryz.prog (fun _ => 0) 31 = some g31 := by kernel_rfl

-- outlaw/glob.Fold
abbrev r33_0 : List IOp := [⟨some 2, .op (.mov), [.c (.str [])], none⟩]
abbrev r33_1 : List IOp := [⟨some 5, .op (.mov), [.t 0], none⟩,
  ⟨some 6, .op (.s2b 5), [.t 5], none⟩,
  ⟨some 3, .op (.mov), [.t 6], none⟩]
abbrev r33_2 : List IOp := [⟨some 7, .op (.mov), [.t 3], none⟩,
  ⟨some 8, .op (.len .slice), [.t 7], none⟩,
  ⟨some 9, .op (.mov), [.c (.int .i64 0)], none⟩]
abbrev r33_3 : List IOp := [⟨some 10, .op (.bin .lss .prim), [.t 9, .t 8], none⟩]
abbrev r33_4 : List IOp := [⟨some 11, .op (.mov), [.t 9], none⟩,
  ⟨some 4, .op (.mov), [.t 11], none⟩]
abbrev r33_5 : List IOp := [⟨some 12, .op (.mov), [.t 3], none⟩,
  ⟨some 13, .op (.mov), [.t 4], none⟩,
  ⟨some 14, .op (.mov), [.t 3], none⟩,
  ⟨some 15, .op (.mov), [.t 4], none⟩,
  ⟨some 16, .op (.iaddr 1), [.t 14, .t 15], none⟩,
  ⟨some 17, .op (.load none), [.t 16], none⟩,
  ⟨some 18, .call none, [.f 45, .t 17], none⟩,
  ⟨some 19, .op (.iaddr 1), [.t 12, .t 13], none⟩,
  ⟨none, .op (.store 1), [.t 19, .t 18], none⟩]
abbrev r33_6 : List IOp := [⟨some 20, .op (.bin .add .prim), [.t 9, .c (.int .i64 1)], none⟩,
  ⟨some 9, .op (.mov), [.t 20], none⟩]
abbrev b33_0 : IC := (IC.seq (IC.reg r33_3) (IC.seq (IC.cond (.t 10) IC.skip (IC.exit 0)) (IC.seq (IC.block 1 (IC.seq (IC.reg r33_4) (IC.reg r33_5))) (IC.reg r33_6))))
abbrev r33_7 : List IOp := [⟨some 21, .op (.mov), [.t 3], none⟩,
  ⟨some 22, .op (.b2s), [.t 21], none⟩,
  ⟨some 2, .op (.mov), [.t 22], none⟩]
abbrev c33 : IC := (IC.seq (IC.reg r33_0) (IC.seq (IC.reg r33_1) (IC.seq (IC.seq (IC.reg r33_2) (IC.block 0 (IC.loop b33_0))) (IC.seq (IC.reg r33_7) IC.ret))))
abbrev g33 : FC := ⟨c33, 23, [.t 2]⟩
theorem comp33 : compF Go.Proofs.Tryz.prog (fun _ => 0) 33 = some g33 := by kernel_rfl

-- slices.Concat[[]int,int]
abbrev r32_0 : List IOp := [⟨some 2, .op (.mov), [.c (.nils)], none⟩]
abbrev r32_1 : List IOp := [⟨some 3, .op (.mov), [.c (.int .i64 0)], none⟩]
abbrev r32_2 : List IOp := [⟨some 9, .op (.mov), [.t 0], none⟩,
  ⟨some 10, .op (.len .slice), [.t 9], none⟩,
  ⟨some 11, .op (.mov), [.c (.int .i64 0)], none⟩]
abbrev r32_3 : List IOp := [⟨some 12, .op (.bin .lss .prim), [.t 11, .t 10], none⟩]
abbrev r32_4 : List IOp := [⟨some 13, .op (.iaddr 1), [.t 9, .t 11], none⟩,
  ⟨some 14, .op (.load none), [.t 13], none⟩,
  ⟨some 5, .op (.mov), [.t 14], none⟩]
abbrev r32_5 : List IOp := [⟨some 15, .op (.mov), [.t 3], none⟩,
  ⟨some 16, .op (.mov), [.t 5], none⟩,
  ⟨some 17, .op (.len .slice), [.t 16], none⟩,
  ⟨some 18, .op (.bin .add .prim), [.t 15, .t 17], none⟩,
  ⟨some 3, .op (.mov), [.t 18], none⟩]
abbrev r32_6 : List IOp := [⟨some 19, .op (.mov), [.t 3], none⟩,
  ⟨some 20, .op (.bin .lss .prim), [.t 19, .c (.int .i64 0)], none⟩]
abbrev r32_7 : List IOp := [⟨some 21, .op (.mkif 9), [.c (.str [108, 101, 110, 32, 111, 117, 116, 32, 111, 102, 32, 114, 97, 110, 103, 101])], none⟩,
  ⟨none, .op (.never), [], none⟩]
abbrev r32_8 : List IOp := [⟨some 22, .op (.bin .add .prim), [.t 11, .c (.int .i64 1)], none⟩,
  ⟨some 11, .op (.mov), [.t 22], none⟩]
abbrev b32_0 : IC := (IC.seq (IC.reg r32_3) (IC.seq (IC.cond (.t 12) IC.skip (IC.exit 0)) (IC.seq (IC.block 1 (IC.seq (IC.reg r32_4) (IC.seq (IC.reg r32_5) (IC.seq (IC.reg r32_6) (IC.cond (.t 20) (IC.reg r32_7) IC.skip))))) (IC.reg r32_8))))
abbrev r32_9 : List IOp := [⟨some 23, .op (.mov), [.t 3], none⟩,
  ⟨some 24, .call none, [.f 49, .c (.nils), .t 23], none⟩,
  ⟨some 6, .op (.mov), [.t 24], none⟩]
abbrev r32_10 : List IOp := [⟨some 25, .op (.mov), [.t 0], none⟩,
  ⟨some 26, .op (.len .slice), [.t 25], none⟩,
  ⟨some 27, .op (.mov), [.c (.int .i64 0)], none⟩]
abbrev r32_11 : List IOp := [⟨some 28, .op (.bin .lss .prim), [.t 27, .t 26], none⟩]
abbrev r32_12 : List IOp := [⟨some 29, .op (.iaddr 1), [.t 25, .t 27], none⟩,
  ⟨some 30, .op (.load none), [.t 29], none⟩,
  ⟨some 8, .op (.mov), [.t 30], none⟩]
abbrev r32_13 : List IOp := [⟨some 31, .op (.mov), [.t 6], none⟩,
  ⟨some 32, .op (.mov), [.t 8], none⟩,
  ⟨some 33, .op (.app 3 1 8), [.t 31, .t 32], none⟩,
  ⟨some 6, .op (.mov), [.t 33], none⟩]
abbrev r32_14 : List IOp := [⟨some 34, .op (.bin .add .prim), [.t 27, .c (.int .i64 1)], none⟩,
  ⟨some 27, .op (.mov), [.t 34], none⟩]
abbrev b32_1 : IC := (IC.seq (IC.reg r32_11) (IC.seq (IC.cond (.t 28) IC.skip (IC.exit 2)) (IC.seq (IC.block 3 (IC.seq (IC.reg r32_12) (IC.reg r32_13))) (IC.reg r32_14))))
abbrev r32_15 : List IOp := [⟨some 35, .op (.mov), [.t 6], none⟩,
  ⟨some 2, .op (.mov), [.t 35], none⟩]
abbrev c32 : IC := (IC.seq (IC.reg r32_0) (IC.seq (IC.reg r32_1) (IC.seq (IC.seq (IC.reg r32_2) (IC.block 0 (IC.loop b32_0))) (IC.seq (IC.reg r32_9) (IC.seq (IC.seq (IC.reg r32_10) (IC.block 2 (IC.loop b32_1))) (IC.seq (IC.reg r32_15) IC.ret))))))
abbrev g32 : FC := ⟨c32, 36, [.t 2]⟩
theorem comp32 : compF Go.Proofs.Tryz.prog (fun _ => 0) 32 = some g32 := by kernel_rfl

-- maps.Keys[map[int]*outlaw/index.entry,int,*outlaw/index.entry]
abbrev r35_0 : List IOp := [⟨some 1, .op (.box 54), [.t 0], none⟩,
  ⟨some 2, .op (.mov), [.c (.nilf)], none⟩]
abbrev r35_1 : List IOp := [⟨some 3, .op (.mkfn 51), [.t 1], none⟩,
  ⟨some 2, .op (.mov), [.t 3], none⟩]
abbrev c35 : IC := (IC.seq (IC.reg r35_0) (IC.seq (IC.reg r35_1) IC.ret))
abbrev g35 : FC := ⟨c35, 4, [.t 2]⟩
theorem comp35 : compF Go.Proofs.Tryz.prog (fun _ => 0) 35 = some g35 := by kernel_rfl

-- slices.Sorted[int]
abbrev r34_0 : List IOp := [⟨some 2, .op (.mov), [.c (.nils)], none⟩]
abbrev r34_1 : List IOp := [⟨some 4, .op (.mov), [.t 0], none⟩,
  ⟨some 5, .call none, [.f 50, .t 4], none⟩,
  ⟨some 3, .op (.mov), [.t 5], none⟩]
abbrev r34_2 : List IOp := [⟨some 6, .op (.mov), [.t 3], none⟩,
  ⟨some 7, .call none, [.f 37, .t 6], none⟩]
abbrev r34_3 : List IOp := [⟨some 8, .op (.mov), [.t 3], none⟩,
  ⟨some 2, .op (.mov), [.t 8], none⟩]
abbrev c34 : IC := (IC.seq (IC.reg r34_0) (IC.seq (IC.reg r34_1) (IC.seq (IC.reg r34_2) (IC.seq (IC.reg r34_3) IC.ret))))
abbrev g34 : FC := ⟨c34, 9, [.t 2]⟩
theorem comp34 : compF Go.Proofs.Tryz.prog (fun _ => 0) 34 = some g34 := by kernel_rfl

-- (*outlaw/dfa.Auto).Match
abbrev r36_0 : List IOp := [⟨some 4, .op (.mov), [.c (.bool false)], none⟩]
abbrev r36_1 : List IOp := [⟨some 5, .op (.mov), [.t 0], none⟩,
  ⟨some 6, .op (.bin .neq .ptr), [.t 5, .c (.nilp)], none⟩,
  ⟨some 7, .op (.mov), [.t 6], none⟩,
  ⟨some 8, .op (.mov), [.t 0], some (7, true)⟩,
  ⟨some 9, .op (.nilchk), [.t 8], some (7, true)⟩,
  ⟨some 10, .op (.faddr 0), [.t 9], some (7, true)⟩,
  ⟨some 11, .op (.load none), [.t 10], some (7, true)⟩,
  ⟨some 12, .op (.bin .neq (.iface true)), [.t 11, .c (.nili)], some (7, true)⟩,
  ⟨some 13, .op (.pick), [.t 7, .t 12, .c (.bool false)], none⟩,
  ⟨some 14, .op (.mov), [.t 13], none⟩,
  ⟨some 15, .op (.mov), [.t 0], some (14, true)⟩,
  ⟨some 16, .op (.nilchk), [.t 15], some (14, true)⟩,
  ⟨some 17, .op (.faddr 0), [.t 16], some (14, true)⟩,
  ⟨some 18, .op (.load none), [.t 17], some (14, true)⟩,
  ⟨some 19, .op (.mov), [.t 1], some (14, true)⟩,
  ⟨some 20, .call (some [(94, 157), (100, 160)]), [.t 18, .t 19], some (14, true)⟩,
  ⟨some 21, .op (.pick), [.t 14, .t 20, .c (.bool false)], none⟩,
  ⟨some 4, .op (.mov), [.t 21], none⟩]
abbrev c36 : IC := (IC.seq (IC.reg r36_0) (IC.seq (IC.reg r36_1) IC.ret))
abbrev g36 : FC := ⟨c36, 22, [.t 4]⟩
theorem comp36 : compF Go.Proofs.Tryz.prog (fun _ => 0) 36 = some g36 := by kernel_rfl

-- slices.Sort[[]int,int]
abbrev r37_0 : List IOp := [⟨some 3, .op (.mov), [.t 0], none⟩,
  ⟨some 4, .op (.len .slice), [.t 3], none⟩,
  ⟨some 2, .op (.mov), [.t 4], none⟩]
abbrev r37_1 : List IOp := [⟨some 5, .op (.mov), [.t 0], none⟩,
  ⟨some 6, .op (.mov), [.t 2], none⟩,
  ⟨some 7, .op (.mov), [.t 2], none⟩,
  ⟨some 8, .op (.toInt .u64), [.t 7], none⟩,
  ⟨some 9, .call none, [.f 53, .t 8], none⟩,
  ⟨some 10, .call none, [.f 52, .t 5, .c (.int .i64 0), .t 6, .t 9], none⟩]
abbrev c37 : IC := (IC.seq (IC.reg r37_0) (IC.reg r37_1))
abbrev g37 : FC := ⟨c37, 11, []⟩
theorem comp37 : compF Go.Proofs.Tryz.prog (fun _ => 0) 37 = some g37 := by kernel_rfl

-- bytes.ContainsAny
abbrev r46_0 : List IOp := [⟨some 4, .op (.mov), [.c (.bool false)], none⟩]
abbrev r46_1 : List IOp := [⟨some 5, .op (.mov), [.t 0], none⟩,
  ⟨some 6, .op (.mov), [.t 1], none⟩,
  ⟨some 7, .call none, [.f 56, .t 5, .t 6], none⟩,
  ⟨some 8, .op (.bin .geq .prim), [.t 7, .c (.int .i64 0)], none⟩,
  ⟨some 4, .op (.mov), [.t 8], none⟩]
abbrev c46 : IC := (IC.seq (IC.reg r46_0) (IC.seq (IC.reg r46_1) IC.ret))
abbrev g46 : FC := ⟨c46, 9, [.t 4]⟩
theorem comp46 : compF Go.Proofs.Tryz.prog (fun _ => 0) 46 = some g46 := by kernel_rfl

-- outlaw/nfa.New
abbrev r47_0 : List IOp := [⟨some 4, .op (.mov), [.c (.nilp)], none⟩,
  ⟨some 5, .op (.mov), [.c (.int .i64 0)], none⟩]
abbrev r47_1 : List IOp := [⟨some 7, .op (.mov), [.t 0], none⟩,
  ⟨some 8, .call none, [.f 28, .t 7], none⟩,
  ⟨some 6, .op (.mov), [.t 8], none⟩]
abbrev r47_2 : List IOp := [⟨some 9, .op (.mov), [.t 6], none⟩,
  ⟨some 10, .op (.bin .neq .prim), [.t 9, .c (.int .i64 0)], none⟩]
abbrev r47_3 : List IOp := [⟨some 11, .op (.mov), [.t 6], none⟩,
  ⟨some 4, .op (.mov), [.c (.nilp)], none⟩,
  ⟨some 5, .op (.mov), [.t 11], none⟩]
abbrev r47_4 : List IOp := [⟨some 12, .op (.mov), [.t 0], none⟩,
  ⟨some 13, .call none, [.f 57, .t 12], none⟩,
  ⟨some 14, .op (.mov), [.t 1], none⟩,
  ⟨some 15, .op (.bst [.str [], .bool false] [(0, 1), (1, 1)] [0, 1]), [.t 13, .t 14], none⟩,
  ⟨some 16, .op (.box 108), [.t 15], none⟩,
  ⟨some 4, .op (.mov), [.t 16], none⟩,
  ⟨some 5, .op (.mov), [.c (.int .i64 0)], none⟩]
abbrev c47 : IC := (IC.seq (IC.reg r47_0) (IC.seq (IC.seq (IC.reg r47_1) (IC.seq (IC.reg r47_2) (IC.cond (.t 10) (IC.seq (IC.reg r47_3) IC.ret) IC.skip))) (IC.seq (IC.reg r47_4) IC.ret)))
abbrev g47 : FC := ⟨c47, 17, [.t 4, .t 5]⟩
theorem comp47 : compF Go.Proofs.Tryz.prog (fun _ => 0) 47 = some g47 := by kernel_rfl

-- outlaw/dfa.Build
abbrev r48_0 : List IOp := [⟨some 6, .op (.alloc 90 [.nils, .nils, .nils]), [], none⟩,
  ⟨some 7, .op (.mov), [.c (.bool false)], none⟩]
abbrev r48_1 : List IOp := [⟨some 23, .op (.mov), [.t 0], none⟩,
  ⟨some 24, .op (.mov), [.t 1], none⟩,
  ⟨some 25, .call none, [.f 47, .t 23, .t 24], none⟩,
  ⟨some 22, .op (.mov), [.t 25], none⟩,
  ⟨some 26, .op (.extract 0), [.t 22], none⟩,
  ⟨some 27, .op (.extract 1), [.t 22], none⟩,
  ⟨some 8, .op (.mov), [.t 26], none⟩,
  ⟨some 9, .op (.mov), [.t 27], none⟩]
abbrev r48_2 : List IOp := [⟨some 28, .op (.mov), [.t 9], none⟩,
  ⟨some 29, .op (.bin .neq .prim), [.t 28, .c (.int .i64 0)], none⟩,
  ⟨some 30, .op (.mov), [.t 29], none⟩,
  ⟨some 31, .op (.mov), [.t 2], some (30, false)⟩,
  ⟨some 32, .op (.bin .lss .prim), [.t 31, .c (.int .i64 1)], some (30, false)⟩,
  ⟨some 33, .op (.pick), [.t 30, .c (.bool true), .t 32], none⟩,
  ⟨some 34, .op (.mov), [.t 33], none⟩,
  ⟨some 35, .op (.mov), [.t 2], some (34, false)⟩,
  ⟨some 36, .op (.bin .gtr .prim), [.t 35, .c (.int .i64 256)], some (34, false)⟩,
  ⟨some 37, .op (.pick), [.t 34, .c (.bool true), .t 36], none⟩]
abbrev r48_3 : List IOp := [⟨some 38, .op (.bst [.nils, .nils, .nils] [(0, 1), (1, 1), (2, 1)] []), [], none⟩,
  ⟨none, .op (.store 3), [.t 6, .t 38], none⟩,
  ⟨some 7, .op (.mov), [.c (.bool false)], none⟩]
abbrev r48_4 : List IOp := [⟨some 40, .op (.mov), [.t 8], none⟩,
  ⟨some 41, .call none, [.f 58, .t 40], none⟩,
  ⟨some 39, .op (.mov), [.t 41], none⟩,
  ⟨some 42, .op (.extract 0), [.t 39], none⟩,
  ⟨some 43, .op (.extract 1), [.t 39], none⟩,
  ⟨some 10, .op (.mov), [.t 42], none⟩,
  ⟨some 11, .op (.mov), [.t 43], none⟩]
abbrev r48_5 : List IOp := [⟨some 45, .op (.mov), [.t 10], none⟩,
  ⟨some 46, .op (.mov), [.t 1], none⟩,
  ⟨some 47, .call none, [.f 59, .t 45, .t 46], none⟩,
  ⟨some 44, .op (.mov), [.t 47], none⟩,
  ⟨some 48, .op (.extract 0), [.t 44], none⟩,
  ⟨some 49, .op (.extract 1), [.t 44], none⟩,
  ⟨some 12, .op (.alloc 110 [.int .i64 0, .int .i64 0, .int .i64 0, .int .i64 0, .int .i64 0, .int .i64 0, .int .i64 0, .int .i64 0, .int .i64 0, .int .i64 0, .int .i64 0, .int .i64 0, .int .i64 0, .int .i64 0, .int .i64 0, .int .i64 0, .int .i64 0, .int .i64 0, .int .i64 0, .int .i64 0, .int .i64 0, .int .i64 0, .int .i64 0, .int .i64 0, .int .i64 0, .int .i64 0, .int .i64 0, .int .i64 0, .int .i64 0, .int .i64 0, .int .i64 0, .int .i64 0, .int .i64 0, .int .i64 0, .int .i64 0, .int .i64 0, .int .i64 0, .int .i64 0, .int .i64 0, .int .i64 0, .int .i64 0, .int .i64 0, .int .i64 0, .int .i64 0, .int .i64 0, .int .i64 0, .int .i64 0, .int .i64 0, .int .i64 0, .int .i64 0, .int .i64 0, .int .i64 0, .int .i64 0, .int .i64 0, .int .i64 0, .int .i64 0, .int .i64 0, .int .i64 0, .int .i64 0, .int .i64 0, .int .i64 0, .int .i64 0, .int .i64 0, .int .i64 0, .int .i64 0, .int .i64 0, .int .i64 0, .int .i64 0, .int .i64 0, .int .i64 0, .int .i64 0, .int .i64 0, .int .i64 0, .int .i64 0, .int .i64 0, .int .i64 0, .int .i64 0, .int .i64 0, .int .i64 0, .int .i64 0, .int .i64 0, .int .i64 0, .int .i64 0, .int .i64 0, .int .i64 0, .int .i64 0, .int .i64 0, .int .i64 0, .int .i64 0, .int .i64 0, .int .i64 0, .int .i64 0, .int .i64 0, .int .i64 0, .int .i64 0, .int .i64 0, .int .i64 0, .int .i64 0, .int .i64 0, .int .i64 0, .int .i64 0, .int .i64 0, .int .i64 0, .int .i64 0, .int .i64 0, .int .i64 0, .int .i64 0, .int .i64 0, .int .i64 0, .int .i64 0, .int .i64 0, .int .i64 0, .int .i64 0, .int .i64 0, .int .i64 0, .int .i64 0, .int .i64 0, .int .i64 0, .int .i64 0, .int .i64 0, .int .i64 0, .int .i64 0, .int .i64 0, .int .i64 0, .int .i64 0, .int .i64 0, .int .i64 0, .int .i64 0, .int .i64 0, .int .i64 0, .int .i64 0, .int .i64 0, .int .i64 0, .int .i64 0, .int .i64 0, .int .i64 0, .int .i64 0, .int .i64 0, .int .i64 0, .int .i64 0, .int .i64 0, .int .i64 0, .int .i64 0, .int .i64 0, .int .i64 0, .int .i64 0, .int .i64 0, .int .i64 0, .int .i64 0, .int .i64 0, .int .i64 0, .int .i64 0, .int .i64 0, .int .i64 0, .int .i64 0, .int .i64 0, .int .i64 0, .int .i64 0, .int .i64 0, .int .i64 0, .int .i64 0, .int .i64 0, .int .i64 0, .int .i64 0, .int .i64 0, .int .i64 0, .int .i64 0, .int .i64 0, .int .i64 0, .int .i64 0, .int .i64 0, .int .i64 0, .int .i64 0, .int .i64 0, .int .i64 0, .int .i64 0, .int .i64 0, .int .i64 0, .int .i64 0, .int .i64 0, .int .i64 0, .int .i64 0, .int .i64 0, .int .i64 0, .int .i64 0, .int .i64 0, .int .i64 0, .int .i64 0, .int .i64 0, .int .i64 0, .int .i64 0, .int .i64 0, .int .i64 0, .int .i64 0, .int .i64 0, .int .i64 0, .int .i64 0, .int .i64 0, .int .i64 0, .int .i64 0, .int .i64 0, .int .i64 0, .int .i64 0, .int .i64 0, .int .i64 0, .int .i64 0, .int .i64 0, .int .i64 0, .int .i64 0, .int .i64 0, .int .i64 0, .int .i64 0, .int .i64 0, .int .i64 0, .int .i64 0, .int .i64 0, .int .i64 0, .int .i64 0, .int .i64 0, .int .i64 0, .int .i64 0, .int .i64 0, .int .i64 0, .int .i64 0, .int .i64 0, .int .i64 0, .int .i64 0, .int .i64 0, .int .i64 0, .int .i64 0, .int .i64 0, .int .i64 0, .int .i64 0, .int .i64 0, .int .i64 0, .int .i64 0, .int .i64 0, .int .i64 0, .int .i64 0, .int .i64 0, .int .i64 0, .int .i64 0, .int .i64 0, .int .i64 0, .int .i64 0, .int .i64 0, .int .i64 0, .int .i64 0, .int .i64 0, .int .i64 0, .int .i64 0, .int .i64 0, .int .i64 0, .int .i64 0, .int .i64 0, .int .i64 0]), [], none⟩,
  ⟨none, .op (.store 256), [.t 12, .t 48], none⟩,
  ⟨some 13, .op (.mov), [.t 49], none⟩]
abbrev r48_6 : List IOp := [⟨some 50, .op (.aslice 256 1 false false false), [.t 12], none⟩,
  ⟨some 51, .op (.bst [.nils, .nils, .nils] [(0, 1), (1, 1), (2, 1)] [0]), [.t 50], none⟩,
  ⟨some 14, .op (.alloc 90 [.nils, .nils, .nils]), [], none⟩,
  ⟨none, .op (.store 3), [.t 14, .t 51], none⟩]
abbrev r48_7 : List IOp := [⟨some 52, .op (.mkmap false), [], none⟩,
  ⟨some 15, .op (.alloc 113 [.nilm]), [], none⟩,
  ⟨none, .op (.store 1), [.t 15, .t 52], none⟩]
abbrev r48_8 : List IOp := [⟨some 16, .op (.alloc 87 [.nils]), [], none⟩]
abbrev r48_9 : List IOp := [⟨some 53, .op (.mkfn 60), [.t 15, .t 16], none⟩,
  ⟨some 17, .op (.mov), [.t 53], none⟩]
abbrev r48_10 : List IOp := [⟨some 54, .op (.mov), [.t 17], none⟩,
  ⟨some 55, .op (.mov), [.t 8], none⟩,
  ⟨some 56, .call none, [.f 62, .t 55], none⟩,
  ⟨some 57, .call none, [.t 54, .t 56], none⟩]
abbrev r48_11 : List IOp := [⟨some 18, .op (.mov), [.c (.int .i64 0)], none⟩]
abbrev r48_12 : List IOp := [⟨some 58, .op (.mov), [.t 18], none⟩,
  ⟨some 59, .op (.load none), [.t 16], none⟩,
  ⟨some 60, .op (.len .slice), [.t 59], none⟩,
  ⟨some 61, .op (.bin .lss .prim), [.t 58, .t 60], none⟩]
abbrev r48_13 : List IOp := [⟨some 64, .op (.load none), [.t 16], none⟩,
  ⟨some 65, .op (.len .slice), [.t 64], none⟩,
  ⟨some 66, .op (.mov), [.t 2], none⟩,
  ⟨some 67, .op (.bin .gtr .prim), [.t 65, .t 66], none⟩]
abbrev r48_14 : List IOp := [⟨some 68, .op (.bst [.nils, .nils, .nils] [(0, 1), (1, 1), (2, 1)] []), [], none⟩,
  ⟨none, .op (.store 3), [.t 6, .t 68], none⟩,
  ⟨some 7, .op (.mov), [.c (.bool false)], none⟩]
abbrev r48_15 : List IOp := [⟨some 19, .op (.mov), [.c (.nils)], none⟩]
abbrev r48_16 : List IOp := [⟨some 69, .op (.mov), [.t 13], none⟩,
  ⟨some 70, .op (.len .slice), [.t 69], none⟩,
  ⟨some 71, .op (.mov), [.c (.int .i64 0)], none⟩]
abbrev r48_17 : List IOp := [⟨some 72, .op (.bin .lss .prim), [.t 71, .t 70], none⟩]
abbrev r48_18 : List IOp := [⟨some 73, .op (.iaddr 1), [.t 69, .t 71], none⟩,
  ⟨some 74, .op (.load none), [.t 73], none⟩,
  ⟨some 21, .op (.mov), [.t 74], none⟩]
abbrev r48_19 : List IOp := [⟨some 75, .op (.mov), [.t 21], none⟩,
  ⟨some 76, .op (.bin .lss .prim), [.t 75, .c (.int .i64 0)], none⟩]
abbrev r48_20 : List IOp := [⟨some 77, .op (.mov), [.t 19], none⟩,
  ⟨some 78, .op (.bsl 3 1 false), [.c (.int .i64 0)], none⟩,
  ⟨some 79, .op (.app 3 1 8), [.t 77, .t 78], none⟩,
  ⟨some 19, .op (.mov), [.t 79], none⟩]
abbrev r48_21 : List IOp := [⟨some 80, .op (.mov), [.t 19], none⟩,
  ⟨some 81, .op (.mov), [.t 17], none⟩,
  ⟨some 82, .op (.mov), [.t 8], none⟩,
  ⟨some 83, .op (.load none), [.t 16], none⟩,
  ⟨some 84, .op (.mov), [.t 18], none⟩,
  ⟨some 85, .op (.iaddr 1), [.t 83, .t 84], none⟩,
  ⟨some 86, .op (.load none), [.t 85], none⟩,
  ⟨some 87, .op (.mov), [.t 21], none⟩,
  ⟨some 88, .op (.toInt .u8), [.t 87], none⟩,
  ⟨some 89, .call none, [.f 63, .t 82, .t 86, .t 88], none⟩,
  ⟨some 90, .call none, [.t 81, .t 89], none⟩,
  ⟨some 91, .op (.bsl 3 1 false), [.t 90], none⟩,
  ⟨some 92, .op (.app 3 1 8), [.t 80, .t 91], none⟩,
  ⟨some 19, .op (.mov), [.t 92], none⟩]
abbrev r48_22 : List IOp := [⟨some 93, .op (.bin .add .prim), [.t 71, .c (.int .i64 1)], none⟩,
  ⟨some 71, .op (.mov), [.t 93], none⟩]
abbrev b48_0 : IC := (IC.seq (IC.reg r48_17) (IC.seq (IC.cond (.t 72) IC.skip (IC.exit 2)) (IC.seq (IC.block 3 (IC.seq (IC.reg r48_18) (IC.seq (IC.seq (IC.reg r48_19) (IC.cond (.t 76) (IC.seq (IC.reg r48_20) (IC.exit 3)) IC.skip)) (IC.reg r48_21)))) (IC.reg r48_22))))
abbrev r48_23 : List IOp := [⟨some 94, .op (.faddr 1), [.t 14], none⟩,
  ⟨some 95, .op (.load none), [.t 94], none⟩,
  ⟨some 96, .op (.mov), [.t 19], none⟩,
  ⟨some 97, .op (.bsl 28 1 false), [.t 96], none⟩,
  ⟨some 98, .op (.app 28 1 24), [.t 95, .t 97], none⟩,
  ⟨some 99, .op (.faddr 1), [.t 14], none⟩,
  ⟨none, .op (.store 1), [.t 99, .t 98], none⟩]
abbrev r48_24 : List IOp := [⟨some 100, .op (.faddr 2), [.t 14], none⟩,
  ⟨some 101, .op (.load none), [.t 100], none⟩,
  ⟨some 102, .op (.mov), [.t 8], none⟩,
  ⟨some 103, .op (.load none), [.t 16], none⟩,
  ⟨some 104, .op (.mov), [.t 18], none⟩,
  ⟨some 105, .op (.iaddr 1), [.t 103, .t 104], none⟩,
  ⟨some 106, .op (.load none), [.t 105], none⟩,
  ⟨some 107, .call none, [.f 64, .t 102, .t 106], none⟩,
  ⟨some 108, .op (.bsl 4 1 false), [.t 107], none⟩,
  ⟨some 109, .op (.app 4 1 1), [.t 101, .t 108], none⟩,
  ⟨some 110, .op (.faddr 2), [.t 14], none⟩,
  ⟨none, .op (.store 1), [.t 110, .t 109], none⟩]
abbrev r48_25 : List IOp := [⟨some 62, .op (.mov), [.t 18], none⟩,
  ⟨some 63, .op (.bin .add .prim), [.t 62, .c (.int .i64 1)], none⟩,
  ⟨some 18, .op (.mov), [.t 63], none⟩]
abbrev b48_1 : IC := (IC.seq (IC.seq (IC.reg r48_12) (IC.cond (.t 61) IC.skip (IC.exit 0))) (IC.seq (IC.block 1 (IC.seq (IC.seq (IC.reg r48_13) (IC.cond (.t 67) (IC.seq (IC.reg r48_14) IC.ret) IC.skip)) (IC.seq (IC.reg r48_15) (IC.seq (IC.seq (IC.reg r48_16) (IC.block 2 (IC.loop b48_0))) (IC.seq (IC.reg r48_23) (IC.regD .alloc r48_24 (.take 0 (.take 1 (.take 2 (.take 3 (.take 4 (.take 5 (.take 6 (.take 7 (.take 8 (.take 9 (.take 10 (.take 11 (.done))))))))))))))))))) (IC.reg r48_25)))
abbrev r48_26 : List IOp := [⟨some 111, .op (.load (some 3)), [.t 14], none⟩,
  ⟨none, .op (.store 3), [.t 6, .t 111], none⟩,
  ⟨some 7, .op (.mov), [.c (.bool true)], none⟩]
abbrev c48 : IC := (IC.seq (IC.reg r48_0) (IC.seq (IC.reg r48_1) (IC.seq (IC.seq (IC.reg r48_2) (IC.cond (.t 37) (IC.seq (IC.reg r48_3) IC.ret) IC.skip)) (IC.seq (IC.reg r48_4) (IC.seq (IC.reg r48_5) (IC.seq (IC.reg r48_6) (IC.seq (IC.reg r48_7) (IC.seq (IC.reg r48_8) (IC.seq (IC.reg r48_9) (IC.seq (IC.reg r48_10) (IC.seq (IC.seq (IC.reg r48_11) (IC.block 0 (IC.loop b48_1))) (IC.seq (IC.reg r48_26) IC.ret))))))))))))
abbrev g48 : FC := ⟨c48, 112, [.cell 6 (some 3), .t 7]⟩
theorem comp48 : compF Go.Proofs.Tryz.prog (hintL [(25, 7)]) 48 = some g48 := by kernel_rfl

-- outlaw/glob.fold
abbrev r45_0 : List IOp := [⟨some 2, .op (.mov), [.c (.int .u8 0)], none⟩]
abbrev r45_1 : List IOp := [⟨some 3, .op (.mov), [.t 0], none⟩,
  ⟨some 4, .op (.bin .geq .prim), [.t 3, .c (.int .u8 65)], none⟩,
  ⟨some 5, .op (.mov), [.t 4], none⟩,
  ⟨some 6, .op (.mov), [.t 0], some (5, true)⟩,
  ⟨some 7, .op (.bin .leq .prim), [.t 6, .c (.int .u8 90)], some (5, true)⟩,
  ⟨some 8, .op (.pick), [.t 5, .t 7, .c (.bool false)], none⟩]
abbrev r45_2 : List IOp := [⟨some 9, .op (.mov), [.t 0], none⟩,
  ⟨some 10, .op (.bin .add .prim), [.t 9, .c (.int .u8 32)], none⟩,
  ⟨some 2, .op (.mov), [.t 10], none⟩]
abbrev r45_3 : List IOp := [⟨some 11, .op (.mov), [.t 0], none⟩,
  ⟨some 2, .op (.mov), [.t 11], none⟩]
abbrev c45 : IC := (IC.seq (IC.reg r45_0) (IC.seq (IC.seq (IC.reg r45_1) (IC.cond (.t 8) (IC.seq (IC.reg r45_2) IC.ret) IC.skip)) (IC.seq (IC.reg r45_3) IC.ret)))
abbrev g45 : FC := ⟨c45, 12, [.t 2]⟩
theorem comp45 : compF Go.Proofs.Tryz.prog (fun _ => 0) 45 = some g45 := by kernel_rfl

-- slices.Grow[[]int,int]
abbrev r49_0 : List IOp := [⟨some 4, .op (.mov), [.c (.nils)], none⟩]
abbrev r49_1 : List IOp := [⟨some 5, .op (.mov), [.t 1], none⟩,
  ⟨some 6, .op (.bin .lss .prim), [.t 5, .c (.int .i64 0)], none⟩]
abbrev r49_2 : List IOp := [⟨some 7, .op (.mkif 9), [.c (.str [99, 97, 110, 110, 111, 116, 32, 98, 101, 32, 110, 101, 103, 97, 116, 105, 118, 101])], none⟩,
  ⟨none, .op (.never), [], none⟩]
abbrev r49_3 : List IOp := [⟨some 8, .op (.mov), [.t 1], none⟩,
  ⟨some 9, .op (.mov), [.t 0], none⟩,
  ⟨some 10, .op (.cap), [.t 9], none⟩,
  ⟨some 11, .op (.mov), [.t 0], none⟩,
  ⟨some 12, .op (.len .slice), [.t 11], none⟩,
  ⟨some 13, .op (.bin .sub .prim), [.t 10, .t 12], none⟩,
  ⟨some 14, .op (.bin .sub .prim), [.t 8, .t 13], none⟩,
  ⟨some 1, .op (.mov), [.t 14], none⟩]
abbrev r49_4 : List IOp := [⟨some 15, .op (.mov), [.t 1], none⟩,
  ⟨some 16, .op (.bin .gtr .prim), [.t 15, .c (.int .i64 0)], none⟩]
abbrev r49_5 : List IOp := [⟨some 17, .op (.mov), [.t 0], none⟩,
  ⟨some 18, .op (.mov), [.t 0], none⟩,
  ⟨some 19, .op (.cap), [.t 18], none⟩,
  ⟨some 20, .op (.slice 1 false true false), [.t 17, .t 19], none⟩,
  ⟨some 21, .op (.mov), [.t 1], none⟩,
  ⟨some 22, .op (.appz 3 [.int .i64 0] 8), [.t 20, .t 21], none⟩,
  ⟨some 23, .op (.mov), [.t 0], none⟩,
  ⟨some 24, .op (.len .slice), [.t 23], none⟩,
  ⟨some 25, .op (.slice 1 false true false), [.t 22, .t 24], none⟩,
  ⟨some 0, .op (.mov), [.t 25], none⟩]
abbrev r49_6 : List IOp := [⟨some 26, .op (.mov), [.t 0], none⟩,
  ⟨some 4, .op (.mov), [.t 26], none⟩]
abbrev c49 : IC := (IC.seq (IC.reg r49_0) (IC.seq (IC.seq (IC.reg r49_1) (IC.cond (.t 6) (IC.reg r49_2) IC.skip)) (IC.seq (IC.seq (IC.reg r49_3) (IC.seq (IC.reg r49_4) (IC.cond (.t 16) (IC.reg r49_5) IC.skip))) (IC.seq (IC.reg r49_6) IC.ret))))
abbrev g49 : FC := ⟨c49, 27, [.t 4]⟩
theorem comp49 : compF Go.Proofs.Tryz.prog (fun _ => 0) 49 = some g49 := by kernel_rfl

-- maps.Keys[map[int]*outlaw/index.entry,int,*outlaw/index.entry]$1
abbrev r51_0 : List IOp := [⟨some 4, .op (.load none), [.t 1], none⟩,
  ⟨some 5, .op (.rangem), [.t 4], none⟩]
abbrev r51_1 : List IOp := [⟨some 6, .op (.nextm), [.t 5], none⟩,
  ⟨some 7, .op (.extract 0), [.t 6], none⟩]
abbrev r51_2 : List IOp := [⟨some 8, .op (.entm), [.t 5], none⟩,
  ⟨some 9, .op (.extract 0), [.t 8], none⟩,
  ⟨some 3, .op (.mov), [.t 9], none⟩]
abbrev r51_3 : List IOp := [⟨some 10, .op (.mov), [.t 0], none⟩,
  ⟨some 11, .op (.mov), [.t 3], none⟩,
  ⟨some 12, .call none, [.t 10, .t 11], none⟩,
  ⟨some 13, .op (.un .not), [.t 12], none⟩]
abbrev b51_0 : IC := (IC.seq (IC.reg r51_1) (IC.seq (IC.cond (.t 7) IC.skip (IC.exit 0)) (IC.block 1 (IC.seq (IC.reg r51_2) (IC.seq (IC.reg r51_3) (IC.cond (.t 13) IC.ret IC.skip))))))
abbrev c51 : IC := (IC.seq (IC.reg r51_0) (IC.block 0 (IC.loop b51_0)))
abbrev g51 : FC := ⟨c51, 14, []⟩
theorem comp51 : compF Go.Proofs.Tryz.prog (fun _ => 0) 51 = some g51 := by kernel_rfl

-- slices.Collect[int]
abbrev r50_0 : List IOp := [⟨some 2, .op (.mov), [.c (.nils)], none⟩]
abbrev r50_1 : List IOp := [⟨some 3, .op (.mov), [.t 0], none⟩,
  ⟨some 4, .call none, [.f 65, .c (.nils), .t 3], none⟩,
  ⟨some 2, .op (.mov), [.t 4], none⟩]
abbrev c50 : IC := (IC.seq (IC.reg r50_0) (IC.seq (IC.reg r50_1) IC.ret))
abbrev g50 : FC := ⟨c50, 5, [.t 2]⟩
theorem comp50 : compF Go.Proofs.Tryz.prog (fun _ => 0) 50 = some g50 := by kernel_rfl

-- (outlaw/dfa.table).match
abbrev r157_0 : List IOp := [⟨some 2, .op (.box 94), [.t 0], none⟩,
  ⟨some 4, .op (.mov), [.c (.bool false)], none⟩]
abbrev r157_1 : List IOp := [⟨some 5, .op (.faddr 0), [.t 2], none⟩,
  ⟨some 6, .op (.load (some 3)), [.t 5], none⟩,
  ⟨some 7, .op (.mov), [.t 1], none⟩,
  ⟨some 8, .call none, [.f 159, .t 6, .t 7], none⟩,
  ⟨some 4, .op (.mov), [.t 8], none⟩]
abbrev c157 : IC := (IC.seq (IC.reg r157_0) (IC.seq (IC.reg r157_1) IC.ret))
abbrev g157 : FC := ⟨c157, 9, [.t 4]⟩
theorem comp157 : compF Go.Proofs.Tryz.prog (fun _ => 0) 157 = some g157 := by kernel_rfl

-- math/bits.Len
abbrev r53_0 : List IOp := [⟨some 2, .op (.mov), [.c (.int .i64 0)], none⟩]
abbrev r53_1 : List IOp := [⟨some 3, .op (.mov), [.t 0], none⟩,
  ⟨some 4, .op (.toInt .u32), [.t 3], none⟩,
  ⟨some 5, .call none, [.f 75, .t 4], none⟩,
  ⟨some 2, .op (.mov), [.t 5], none⟩]
abbrev r53_2 : List IOp := [⟨some 6, .op (.mov), [.t 0], none⟩,
  ⟨some 7, .call none, [.f 76, .t 6], none⟩,
  ⟨some 2, .op (.mov), [.t 7], none⟩]
abbrev c53 : IC := (IC.seq (IC.reg r53_0) (IC.seq (IC.cond (.c (.bool false)) (IC.seq (IC.reg r53_1) IC.ret) IC.skip) (IC.seq (IC.reg r53_2) IC.ret)))
abbrev g53 : FC := ⟨c53, 8, [.t 2]⟩
theorem comp53 : compF Go.Proofs.Tryz.prog (fun _ => 0) 53 = some g53 := by kernel_rfl

-- slices.pdqsortOrdered[int]
abbrev r52_0 : List IOp := [⟨some 8, .op (.mov), [.c (.bool true)], none⟩]
abbrev r52_1 : List IOp := [⟨some 9, .op (.mov), [.c (.bool true)], none⟩]
abbrev r52_2 : List IOp := [⟨some 19, .op (.mov), [.t 2], none⟩,
  ⟨some 20, .op (.mov), [.t 1], none⟩,
  ⟨some 21, .op (.bin .sub .prim), [.t 19, .t 20], none⟩,
  ⟨some 10, .op (.mov), [.t 21], none⟩]
abbrev r52_3 : List IOp := [⟨some 22, .op (.mov), [.t 10], none⟩,
  ⟨some 23, .op (.bin .leq .prim), [.t 22, .c (.int .i64 12)], none⟩]
abbrev r52_4 : List IOp := [⟨some 24, .op (.mov), [.t 0], none⟩,
  ⟨some 25, .op (.mov), [.t 1], none⟩,
  ⟨some 26, .op (.mov), [.t 2], none⟩,
  ⟨some 27, .call none, [.f 66, .t 24, .t 25, .t 26], none⟩]
abbrev r52_5 : List IOp := [⟨some 28, .op (.mov), [.t 3], none⟩,
  ⟨some 29, .op (.bin .eql .prim), [.t 28, .c (.int .i64 0)], none⟩]
abbrev r52_6 : List IOp := [⟨some 30, .op (.mov), [.t 0], none⟩,
  ⟨some 31, .op (.mov), [.t 1], none⟩,
  ⟨some 32, .op (.mov), [.t 2], none⟩,
  ⟨some 33, .call none, [.f 67, .t 30, .t 31, .t 32], none⟩]
abbrev r52_7 : List IOp := [⟨some 34, .op (.mov), [.t 8], none⟩,
  ⟨some 35, .op (.un .not), [.t 34], none⟩]
abbrev r52_8 : List IOp := [⟨some 36, .op (.mov), [.t 0], none⟩,
  ⟨some 37, .op (.mov), [.t 1], none⟩,
  ⟨some 38, .op (.mov), [.t 2], none⟩,
  ⟨some 39, .call none, [.f 68, .t 36, .t 37, .t 38], none⟩]
abbrev r52_9 : List IOp := [⟨some 40, .op (.mov), [.t 3], none⟩,
  ⟨some 41, .op (.bin .sub .prim), [.t 40, .c (.int .i64 1)], none⟩,
  ⟨some 3, .op (.mov), [.t 41], none⟩]
abbrev r52_10 : List IOp := [⟨some 43, .op (.mov), [.t 0], none⟩,
  ⟨some 44, .op (.mov), [.t 1], none⟩,
  ⟨some 45, .op (.mov), [.t 2], none⟩,
  ⟨some 46, .call none, [.f 69, .t 43, .t 44, .t 45], none⟩,
  ⟨some 42, .op (.mov), [.t 46], none⟩,
  ⟨some 47, .op (.extract 0), [.t 42], none⟩,
  ⟨some 48, .op (.extract 1), [.t 42], none⟩,
  ⟨some 11, .op (.mov), [.t 47], none⟩,
  ⟨some 12, .op (.mov), [.t 48], none⟩]
abbrev r52_11 : List IOp := [⟨some 49, .op (.mov), [.t 12], none⟩,
  ⟨some 50, .op (.bin .eql .prim), [.t 49, .c (.int .i64 2)], none⟩]
abbrev r52_12 : List IOp := [⟨some 51, .op (.mov), [.t 0], none⟩,
  ⟨some 52, .op (.mov), [.t 1], none⟩,
  ⟨some 53, .op (.mov), [.t 2], none⟩,
  ⟨some 54, .call none, [.f 70, .t 51, .t 52, .t 53], none⟩]
abbrev r52_13 : List IOp := [⟨some 55, .op (.mov), [.t 2], none⟩,
  ⟨some 56, .op (.bin .sub .prim), [.t 55, .c (.int .i64 1)], none⟩,
  ⟨some 57, .op (.mov), [.t 11], none⟩,
  ⟨some 58, .op (.mov), [.t 1], none⟩,
  ⟨some 59, .op (.bin .sub .prim), [.t 57, .t 58], none⟩,
  ⟨some 60, .op (.bin .sub .prim), [.t 56, .t 59], none⟩,
  ⟨some 11, .op (.mov), [.t 60], none⟩]
abbrev r52_14 : List IOp := [⟨some 12, .op (.mov), [.c (.int .i64 1)], none⟩]
abbrev r52_15 : List IOp := [⟨some 61, .op (.mov), [.t 8], none⟩,
  ⟨some 62, .op (.mov), [.t 61], none⟩,
  ⟨some 63, .op (.mov), [.t 9], some (62, true)⟩,
  ⟨some 64, .op (.pick), [.t 62, .t 63, .c (.bool false)], none⟩,
  ⟨some 65, .op (.mov), [.t 64], none⟩,
  ⟨some 66, .op (.mov), [.t 12], some (65, true)⟩,
  ⟨some 67, .op (.bin .eql .prim), [.t 66, .c (.int .i64 1)], some (65, true)⟩,
  ⟨some 68, .op (.pick), [.t 65, .t 67, .c (.bool false)], none⟩]
abbrev r52_16 : List IOp := [⟨some 69, .op (.mov), [.t 0], none⟩,
  ⟨some 70, .op (.mov), [.t 1], none⟩,
  ⟨some 71, .op (.mov), [.t 2], none⟩,
  ⟨some 72, .call none, [.f 71, .t 69, .t 70, .t 71], none⟩]
abbrev r52_17 : List IOp := [⟨some 73, .op (.mov), [.t 1], none⟩,
  ⟨some 74, .op (.bin .gtr .prim), [.t 73, .c (.int .i64 0)], none⟩,
  ⟨some 75, .op (.mov), [.t 74], none⟩,
  ⟨some 76, .op (.mov), [.t 0], some (75, true)⟩,
  ⟨some 77, .op (.mov), [.t 1], some (75, true)⟩,
  ⟨some 78, .op (.bin .sub .prim), [.t 77, .c (.int .i64 1)], some (75, true)⟩,
  ⟨some 79, .op (.iaddr 1), [.t 76, .t 78], some (75, true)⟩,
  ⟨some 80, .op (.load none), [.t 79], some (75, true)⟩,
  ⟨some 81, .op (.mov), [.t 0], some (75, true)⟩,
  ⟨some 82, .op (.mov), [.t 11], some (75, true)⟩,
  ⟨some 83, .op (.iaddr 1), [.t 81, .t 82], some (75, true)⟩,
  ⟨some 84, .op (.load none), [.t 83], some (75, true)⟩,
  ⟨some 85, .call none, [.f 72, .t 80, .t 84], some (75, true)⟩,
  ⟨some 86, .op (.un .not), [.t 85], some (75, true)⟩,
  ⟨some 87, .op (.pick), [.t 75, .t 86, .c (.bool false)], none⟩]
abbrev r52_18 : List IOp := [⟨some 88, .op (.mov), [.t 0], none⟩,
  ⟨some 89, .op (.mov), [.t 1], none⟩,
  ⟨some 90, .op (.mov), [.t 2], none⟩,
  ⟨some 91, .op (.mov), [.t 11], none⟩,
  ⟨some 92, .call none, [.f 73, .t 88, .t 89, .t 90, .t 91], none⟩,
  ⟨some 13, .op (.mov), [.t 92], none⟩]
abbrev r52_19 : List IOp := [⟨some 93, .op (.mov), [.t 13], none⟩,
  ⟨some 1, .op (.mov), [.t 93], none⟩]
abbrev r52_20 : List IOp := [⟨some 95, .op (.mov), [.t 0], none⟩,
  ⟨some 96, .op (.mov), [.t 1], none⟩,
  ⟨some 97, .op (.mov), [.t 2], none⟩,
  ⟨some 98, .op (.mov), [.t 11], none⟩,
  ⟨some 99, .call none, [.f 74, .t 95, .t 96, .t 97, .t 98], none⟩,
  ⟨some 94, .op (.mov), [.t 99], none⟩,
  ⟨some 100, .op (.extract 0), [.t 94], none⟩,
  ⟨some 101, .op (.extract 1), [.t 94], none⟩,
  ⟨some 14, .op (.mov), [.t 100], none⟩,
  ⟨some 15, .op (.mov), [.t 101], none⟩]
abbrev r52_21 : List IOp := [⟨some 102, .op (.mov), [.t 15], none⟩,
  ⟨some 9, .op (.mov), [.t 102], none⟩]
abbrev r52_22 : List IOp := [⟨some 103, .op (.mov), [.t 14], none⟩,
  ⟨some 104, .op (.mov), [.t 1], none⟩,
  ⟨some 105, .op (.bin .sub .prim), [.t 103, .t 104], none⟩,
  ⟨some 106, .op (.mov), [.t 2], none⟩,
  ⟨some 107, .op (.mov), [.t 14], none⟩,
  ⟨some 108, .op (.bin .sub .prim), [.t 106, .t 107], none⟩,
  ⟨some 16, .op (.mov), [.t 105], none⟩,
  ⟨some 17, .op (.mov), [.t 108], none⟩]
abbrev r52_23 : List IOp := [⟨some 109, .op (.mov), [.t 10], none⟩,
  ⟨some 110, .op (.bin .quo .prim), [.t 109, .c (.int .i64 8)], none⟩,
  ⟨some 18, .op (.mov), [.t 110], none⟩]
abbrev r52_24 : List IOp := [⟨some 111, .op (.mov), [.t 16], none⟩,
  ⟨some 112, .op (.mov), [.t 17], none⟩,
  ⟨some 113, .op (.bin .lss .prim), [.t 111, .t 112], none⟩]
abbrev r52_25 : List IOp := [⟨some 114, .op (.mov), [.t 16], none⟩,
  ⟨some 115, .op (.mov), [.t 18], none⟩,
  ⟨some 116, .op (.bin .geq .prim), [.t 114, .t 115], none⟩,
  ⟨some 8, .op (.mov), [.t 116], none⟩]
abbrev r52_26 : List IOp := [⟨some 117, .op (.mov), [.t 0], none⟩,
  ⟨some 118, .op (.mov), [.t 1], none⟩,
  ⟨some 119, .op (.mov), [.t 14], none⟩,
  ⟨some 120, .op (.mov), [.t 3], none⟩,
  ⟨some 121, .call none, [.f 52, .t 117, .t 118, .t 119, .t 120], none⟩]
abbrev r52_27 : List IOp := [⟨some 122, .op (.mov), [.t 14], none⟩,
  ⟨some 123, .op (.bin .add .prim), [.t 122, .c (.int .i64 1)], none⟩,
  ⟨some 1, .op (.mov), [.t 123], none⟩]
abbrev r52_28 : List IOp := [⟨some 124, .op (.mov), [.t 17], none⟩,
  ⟨some 125, .op (.mov), [.t 18], none⟩,
  ⟨some 126, .op (.bin .geq .prim), [.t 124, .t 125], none⟩,
  ⟨some 8, .op (.mov), [.t 126], none⟩]
abbrev r52_29 : List IOp := [⟨some 127, .op (.mov), [.t 0], none⟩,
  ⟨some 128, .op (.mov), [.t 14], none⟩,
  ⟨some 129, .op (.bin .add .prim), [.t 128, .c (.int .i64 1)], none⟩,
  ⟨some 130, .op (.mov), [.t 2], none⟩,
  ⟨some 131, .op (.mov), [.t 3], none⟩,
  ⟨some 132, .call none, [.f 52, .t 127, .t 129, .t 130, .t 131], none⟩]
abbrev r52_30 : List IOp := [⟨some 133, .op (.mov), [.t 14], none⟩,
  ⟨some 2, .op (.mov), [.t 133], none⟩]
abbrev b52_0 : IC := (IC.block 1 (IC.seq (IC.reg r52_2) (IC.seq (IC.seq (IC.reg r52_3) (IC.cond (.t 23) (IC.seq (IC.reg r52_4) IC.ret) IC.skip)) (IC.seq (IC.seq (IC.reg r52_5) (IC.cond (.t 29) (IC.seq (IC.reg r52_6) IC.ret) IC.skip)) (IC.seq (IC.seq (IC.reg r52_7) (IC.cond (.t 35) (IC.seq (IC.reg r52_8) (IC.reg r52_9)) IC.skip)) (IC.seq (IC.reg r52_10) (IC.seq (IC.seq (IC.reg r52_11) (IC.cond (.t 50) (IC.seq (IC.reg r52_12) (IC.seq (IC.reg r52_13) (IC.reg r52_14))) IC.skip)) (IC.seq (IC.seq (IC.reg r52_15) (IC.cond (.t 68) (IC.seq (IC.reg r52_16) (IC.cond (.t 72) IC.ret IC.skip)) IC.skip)) (IC.seq (IC.seq (IC.regD .wild r52_17 (.take 0 (.take 1 (.take 2 (.take 3 (.take 4 (.take 5 (.take 6 (.take 7 (.take 8 (.take 9 (.take 10 (.take 11 (.take 12 (.take 13 (.take 14 (.done))))))))))))))))) (IC.cond (.t 87) (IC.seq (IC.reg r52_18) (IC.seq (IC.reg r52_19) (IC.exit 1))) IC.skip)) (IC.seq (IC.reg r52_20) (IC.seq (IC.reg r52_21) (IC.seq (IC.reg r52_22) (IC.seq (IC.reg r52_23) (IC.seq (IC.reg r52_24) (IC.cond (.t 113) (IC.seq (IC.reg r52_25) (IC.seq (IC.reg r52_26) (IC.reg r52_27))) (IC.seq (IC.reg r52_28) (IC.seq (IC.reg r52_29) (IC.reg r52_30))))))))))))))))))
abbrev c52 : IC := (IC.seq (IC.reg r52_0) (IC.seq (IC.reg r52_1) (IC.block 0 (IC.loop b52_0))))
abbrev g52 : FC := ⟨c52, 134, []⟩
theorem comp52 : compF Go.Proofs.Tryz.prog (hintL [(17, 6)]) 52 = some g52 := by kernel_rfl

-- bytes.IndexAny
abbrev r56_0 : List IOp := [⟨some 4, .op (.mov), [.c (.int .i64 0)], none⟩]
abbrev r56_1 : List IOp := [⟨some 16, .op (.mov), [.t 1], none⟩,
  ⟨some 17, .op (.bin .eql .prim), [.t 16, .c (.str [])], none⟩]
abbrev r56_2 : List IOp := [⟨some 4, .op (.mov), [.c (.int .i64 (-1))], none⟩]
abbrev r56_3 : List IOp := [⟨some 18, .op (.mov), [.t 0], none⟩,
  ⟨some 19, .op (.len .slice), [.t 18], none⟩,
  ⟨some 20, .op (.bin .eql .prim), [.t 19, .c (.int .i64 1)], none⟩]
abbrev r56_4 : List IOp := [⟨some 21, .op (.mov), [.t 0], none⟩,
  ⟨some 22, .op (.iaddr 1), [.t 21, .c (.int .i64 0)], none⟩,
  ⟨some 23, .op (.load none), [.t 22], none⟩,
  ⟨some 24, .op (.toInt .i32), [.t 23], none⟩,
  ⟨some 5, .op (.mov), [.t 24], none⟩]
abbrev r56_5 : List IOp := [⟨some 25, .op (.mov), [.t 5], none⟩,
  ⟨some 26, .op (.bin .geq .prim), [.t 25, .c (.int .i32 128)], none⟩]
abbrev r56_6 : List IOp := [⟨some 27, .op (.mov), [.t 1], none⟩,
  ⟨some 28, .op (.ranges), [.t 27], none⟩]
abbrev r56_7 : List IOp := [⟨some 29, .op (.nexts), [.t 28], none⟩,
  ⟨some 30, .op (.extract 0), [.t 29], none⟩]
abbrev r56_8 : List IOp := [⟨some 31, .op (.extract 2), [.t 29], none⟩,
  ⟨some 5, .op (.mov), [.t 31], none⟩]
abbrev r56_9 : List IOp := [⟨some 32, .op (.mov), [.t 5], none⟩,
  ⟨some 33, .op (.bin .eql .prim), [.t 32, .c (.int .i32 65533)], none⟩]
abbrev r56_10 : List IOp := [⟨some 4, .op (.mov), [.c (.int .i64 0)], none⟩]
abbrev b56_0 : IC := (IC.seq (IC.reg r56_7) (IC.seq (IC.cond (.t 30) IC.skip (IC.exit 0)) (IC.block 1 (IC.seq (IC.reg r56_8) (IC.seq (IC.reg r56_9) (IC.cond (.t 33) (IC.seq (IC.reg r56_10) IC.ret) IC.skip))))))
abbrev r56_11 : List IOp := [⟨some 4, .op (.mov), [.c (.int .i64 (-1))], none⟩]
abbrev r56_12 : List IOp := [⟨some 34, .op (.mov), [.t 1], none⟩,
  ⟨some 35, .op (.mov), [.t 0], none⟩,
  ⟨some 36, .op (.iaddr 1), [.t 35, .c (.int .i64 0)], none⟩,
  ⟨some 37, .op (.load none), [.t 36], none⟩,
  ⟨some 38, .call none, [.f 77, .t 34, .t 37], none⟩,
  ⟨some 39, .op (.bin .geq .prim), [.t 38, .c (.int .i64 0)], none⟩]
abbrev r56_13 : List IOp := [⟨some 4, .op (.mov), [.c (.int .i64 0)], none⟩]
abbrev r56_14 : List IOp := [⟨some 4, .op (.mov), [.c (.int .i64 (-1))], none⟩]
abbrev r56_15 : List IOp := [⟨some 40, .op (.mov), [.t 1], none⟩,
  ⟨some 41, .op (.len .str), [.t 40], none⟩,
  ⟨some 42, .op (.bin .eql .prim), [.t 41, .c (.int .i64 1)], none⟩]
abbrev r56_16 : List IOp := [⟨some 43, .op (.mov), [.t 1], none⟩,
  ⟨some 44, .op (.idxs), [.t 43, .c (.int .i64 0)], none⟩,
  ⟨some 45, .op (.toInt .i32), [.t 44], none⟩,
  ⟨some 6, .op (.mov), [.t 45], none⟩]
abbrev r56_17 : List IOp := [⟨some 46, .op (.mov), [.t 6], none⟩,
  ⟨some 47, .op (.bin .geq .prim), [.t 46, .c (.int .i32 128)], none⟩]
abbrev r56_18 : List IOp := [⟨some 6, .op (.mov), [.c (.int .i32 65533)], none⟩]
abbrev r56_19 : List IOp := [⟨some 48, .op (.mov), [.t 0], none⟩,
  ⟨some 49, .op (.mov), [.t 6], none⟩,
  ⟨some 50, .call none, [.f 78, .t 48, .t 49], none⟩,
  ⟨some 4, .op (.mov), [.t 50], none⟩]
abbrev r56_20 : List IOp := [⟨some 51, .op (.mov), [.t 0], none⟩,
  ⟨some 52, .op (.len .slice), [.t 51], none⟩,
  ⟨some 53, .call none, [.f 79, .t 52], none⟩]
abbrev r56_21 : List IOp := [⟨some 55, .op (.mov), [.t 1], none⟩,
  ⟨some 56, .call none, [.f 80, .t 55], none⟩,
  ⟨some 54, .op (.mov), [.t 56], none⟩,
  ⟨some 57, .op (.extract 0), [.t 54], none⟩,
  ⟨some 58, .op (.extract 1), [.t 54], none⟩,
  ⟨some 7, .op (.alloc 138 [.bool false, .bool false, .bool false, .bool false, .bool false, .bool false, .bool false, .bool false, .bool false, .bool false, .bool false, .bool false, .bool false, .bool false, .bool false, .bool false, .bool false, .bool false, .bool false, .bool false, .bool false, .bool false, .bool false, .bool false, .bool false, .bool false, .bool false, .bool false, .bool false, .bool false, .bool false, .bool false, .bool false, .bool false, .bool false, .bool false, .bool false, .bool false, .bool false, .bool false, .bool false, .bool false, .bool false, .bool false, .bool false, .bool false, .bool false, .bool false, .bool false, .bool false, .bool false, .bool false, .bool false, .bool false, .bool false, .bool false, .bool false, .bool false, .bool false, .bool false, .bool false, .bool false, .bool false, .bool false, .bool false, .bool false, .bool false, .bool false, .bool false, .bool false, .bool false, .bool false, .bool false, .bool false, .bool false, .bool false, .bool false, .bool false, .bool false, .bool false, .bool false, .bool false, .bool false, .bool false, .bool false, .bool false, .bool false, .bool false, .bool false, .bool false, .bool false, .bool false, .bool false, .bool false, .bool false, .bool false, .bool false, .bool false, .bool false, .bool false, .bool false, .bool false, .bool false, .bool false, .bool false, .bool false, .bool false, .bool false, .bool false, .bool false, .bool false, .bool false, .bool false, .bool false, .bool false, .bool false, .bool false, .bool false, .bool false, .bool false, .bool false, .bool false, .bool false, .bool false, .bool false, .bool false, .bool false, .bool false, .bool false, .bool false, .bool false, .bool false, .bool false, .bool false, .bool false, .bool false, .bool false, .bool false, .bool false, .bool false, .bool false, .bool false, .bool false, .bool false, .bool false, .bool false, .bool false, .bool false, .bool false, .bool false, .bool false, .bool false, .bool false, .bool false, .bool false, .bool false, .bool false, .bool false, .bool false, .bool false, .bool false, .bool false, .bool false, .bool false, .bool false, .bool false, .bool false, .bool false, .bool false, .bool false, .bool false, .bool false, .bool false, .bool false, .bool false, .bool false, .bool false, .bool false, .bool false, .bool false, .bool false, .bool false, .bool false, .bool false, .bool false, .bool false, .bool false, .bool false, .bool false, .bool false, .bool false, .bool false, .bool false, .bool false, .bool false, .bool false, .bool false, .bool false, .bool false, .bool false, .bool false, .bool false, .bool false, .bool false, .bool false, .bool false, .bool false, .bool false, .bool false, .bool false, .bool false, .bool false, .bool false, .bool false, .bool false, .bool false, .bool false, .bool false, .bool false, .bool false, .bool false, .bool false, .bool false, .bool false, .bool false, .bool false, .bool false, .bool false, .bool false, .bool false, .bool false, .bool false, .bool false, .bool false, .bool false, .bool false, .bool false, .bool false, .bool false, .bool false, .bool false, .bool false, .bool false, .bool false, .bool false, .bool false, .bool false, .bool false, .bool false, .bool false, .bool false, .bool false, .bool false, .bool false, .bool false, .bool false]), [], none⟩,
  ⟨none, .op (.store 256), [.t 7, .t 57], none⟩,
  ⟨some 8, .op (.mov), [.t 58], none⟩]
abbrev r56_22 : List IOp := [⟨some 59, .op (.mov), [.t 8], none⟩]
abbrev r56_23 : List IOp := [⟨some 60, .op (.mov), [.t 0], none⟩,
  ⟨some 61, .op (.len .slice), [.t 60], none⟩,
  ⟨some 62, .op (.mov), [.c (.int .i64 0)], none⟩]
abbrev r56_24 : List IOp := [⟨some 63, .op (.bin .lss .prim), [.t 62, .t 61], none⟩]
abbrev r56_25 : List IOp := [⟨some 64, .op (.mov), [.t 62], none⟩,
  ⟨some 65, .op (.iaddr 1), [.t 60, .t 62], none⟩,
  ⟨some 66, .op (.load none), [.t 65], none⟩,
  ⟨some 9, .op (.mov), [.t 64], none⟩,
  ⟨some 10, .op (.mov), [.t 66], none⟩]
abbrev r56_26 : List IOp := [⟨some 67, .op (.mov), [.t 10], none⟩,
  ⟨some 68, .call none, [.f 81, .t 7, .t 67], none⟩]
abbrev r56_27 : List IOp := [⟨some 69, .op (.mov), [.t 9], none⟩,
  ⟨some 4, .op (.mov), [.t 69], none⟩]
abbrev r56_28 : List IOp := [⟨some 70, .op (.bin .add .prim), [.t 62, .c (.int .i64 1)], none⟩,
  ⟨some 62, .op (.mov), [.t 70], none⟩]
abbrev b56_1 : IC := (IC.seq (IC.reg r56_24) (IC.seq (IC.cond (.t 63) IC.skip (IC.exit 2)) (IC.seq (IC.block 3 (IC.seq (IC.reg r56_25) (IC.seq (IC.reg r56_26) (IC.cond (.t 68) (IC.seq (IC.reg r56_27) IC.ret) IC.skip)))) (IC.reg r56_28))))
abbrev r56_29 : List IOp := [⟨some 4, .op (.mov), [.c (.int .i64 (-1))], none⟩]
abbrev r56_30 : List IOp := [⟨some 11, .op (.mov), [.c (.int .i64 0)], none⟩]
abbrev r56_31 : List IOp := [⟨some 12, .op (.mov), [.c (.int .i64 0)], none⟩]
abbrev r56_32 : List IOp := [⟨some 71, .op (.mov), [.t 12], none⟩,
  ⟨some 72, .op (.mov), [.t 0], none⟩,
  ⟨some 73, .op (.len .slice), [.t 72], none⟩,
  ⟨some 74, .op (.bin .lss .prim), [.t 71, .t 73], none⟩]
abbrev r56_33 : List IOp := [⟨some 78, .op (.mov), [.t 0], none⟩,
  ⟨some 79, .op (.mov), [.t 12], none⟩,
  ⟨some 80, .op (.iaddr 1), [.t 78, .t 79], none⟩,
  ⟨some 81, .op (.load none), [.t 80], none⟩,
  ⟨some 82, .op (.toInt .i32), [.t 81], none⟩,
  ⟨some 13, .op (.mov), [.t 82], none⟩]
abbrev r56_34 : List IOp := [⟨some 83, .op (.mov), [.t 13], none⟩,
  ⟨some 84, .op (.bin .lss .prim), [.t 83, .c (.int .i32 128)], none⟩]
abbrev r56_35 : List IOp := [⟨some 85, .op (.mov), [.t 1], none⟩,
  ⟨some 86, .op (.mov), [.t 0], none⟩,
  ⟨some 87, .op (.mov), [.t 12], none⟩,
  ⟨some 88, .op (.iaddr 1), [.t 86, .t 87], none⟩,
  ⟨some 89, .op (.load none), [.t 88], none⟩,
  ⟨some 90, .call none, [.f 77, .t 85, .t 89], none⟩,
  ⟨some 91, .op (.bin .geq .prim), [.t 90, .c (.int .i64 0)], none⟩]
abbrev r56_36 : List IOp := [⟨some 92, .op (.mov), [.t 12], none⟩,
  ⟨some 4, .op (.mov), [.t 92], none⟩]
abbrev r56_37 : List IOp := [⟨some 11, .op (.mov), [.c (.int .i64 1)], none⟩]
abbrev r56_38 : List IOp := [⟨some 94, .op (.mov), [.t 0], none⟩,
  ⟨some 95, .op (.mov), [.t 12], none⟩,
  ⟨some 96, .op (.slice 1 true false false), [.t 94, .t 95], none⟩,
  ⟨some 97, .call none, [.f 82, .t 96], none⟩,
  ⟨some 93, .op (.mov), [.t 97], none⟩,
  ⟨some 98, .op (.extract 0), [.t 93], none⟩,
  ⟨some 99, .op (.extract 1), [.t 93], none⟩,
  ⟨some 13, .op (.mov), [.t 98], none⟩,
  ⟨some 11, .op (.mov), [.t 99], none⟩]
abbrev r56_39 : List IOp := [⟨some 100, .op (.mov), [.t 13], none⟩,
  ⟨some 101, .op (.bin .neq .prim), [.t 100, .c (.int .i32 65533)], none⟩]
abbrev r56_40 : List IOp := [⟨some 102, .op (.mov), [.t 1], none⟩,
  ⟨some 103, .op (.len .str), [.t 102], none⟩,
  ⟨some 104, .op (.mov), [.t 11], none⟩,
  ⟨some 105, .op (.bin .eql .prim), [.t 103, .t 104], none⟩]
abbrev r56_41 : List IOp := [⟨some 106, .op (.mov), [.t 1], none⟩,
  ⟨some 107, .op (.mov), [.t 13], none⟩,
  ⟨some 108, .op (.r2s), [.t 107], none⟩,
  ⟨some 109, .op (.bin .eql .prim), [.t 106, .t 108], none⟩]
abbrev r56_42 : List IOp := [⟨some 110, .op (.mov), [.t 12], none⟩,
  ⟨some 4, .op (.mov), [.t 110], none⟩]
abbrev r56_43 : List IOp := [⟨some 111, .op (.never), [], none⟩,
  ⟨some 112, .op (.mov), [.t 11], none⟩,
  ⟨some 113, .op (.bin .geq .prim), [.t 111, .t 112], none⟩]
abbrev r56_44 : List IOp := [⟨some 114, .op (.mov), [.t 1], none⟩,
  ⟨some 115, .op (.mov), [.t 13], none⟩,
  ⟨some 116, .op (.r2s), [.t 115], none⟩,
  ⟨some 117, .call none, [.f 83, .t 114, .t 116], none⟩,
  ⟨some 118, .op (.bin .geq .prim), [.t 117, .c (.int .i64 0)], none⟩]
abbrev r56_45 : List IOp := [⟨some 119, .op (.mov), [.t 12], none⟩,
  ⟨some 4, .op (.mov), [.t 119], none⟩]
abbrev r56_46 : List IOp := [⟨some 120, .op (.mov), [.t 1], none⟩,
  ⟨some 121, .op (.ranges), [.t 120], none⟩]
abbrev r56_47 : List IOp := [⟨some 122, .op (.nexts), [.t 121], none⟩,
  ⟨some 123, .op (.extract 0), [.t 122], none⟩]
abbrev r56_48 : List IOp := [⟨some 124, .op (.extract 2), [.t 122], none⟩,
  ⟨some 15, .op (.mov), [.t 124], none⟩]
abbrev r56_49 : List IOp := [⟨some 125, .op (.mov), [.t 13], none⟩,
  ⟨some 126, .op (.mov), [.t 15], none⟩,
  ⟨some 127, .op (.bin .eql .prim), [.t 125, .t 126], none⟩]
abbrev r56_50 : List IOp := [⟨some 128, .op (.mov), [.t 12], none⟩,
  ⟨some 4, .op (.mov), [.t 128], none⟩]
abbrev b56_2 : IC := (IC.seq (IC.reg r56_47) (IC.seq (IC.cond (.t 123) IC.skip (IC.exit 6)) (IC.block 7 (IC.seq (IC.reg r56_48) (IC.seq (IC.reg r56_49) (IC.cond (.t 127) (IC.seq (IC.reg r56_50) IC.ret) IC.skip))))))
abbrev r56_51 : List IOp := [⟨some 75, .op (.mov), [.t 12], none⟩,
  ⟨some 76, .op (.mov), [.t 11], none⟩,
  ⟨some 77, .op (.bin .add .prim), [.t 75, .t 76], none⟩,
  ⟨some 12, .op (.mov), [.t 77], none⟩]
abbrev b56_3 : IC := (IC.seq (IC.seq (IC.reg r56_32) (IC.cond (.t 74) IC.skip (IC.exit 4))) (IC.seq (IC.block 5 (IC.seq (IC.reg r56_33) (IC.seq (IC.seq (IC.reg r56_34) (IC.cond (.t 84) (IC.seq (IC.seq (IC.reg r56_35) (IC.cond (.t 91) (IC.seq (IC.reg r56_36) IC.ret) IC.skip)) (IC.seq (IC.reg r56_37) (IC.exit 5))) IC.skip)) (IC.seq (IC.reg r56_38) (IC.seq (IC.seq (IC.reg r56_39) (IC.cond (.t 101) (IC.seq (IC.seq (IC.reg r56_40) (IC.cond (.t 105) (IC.seq (IC.seq (IC.reg r56_41) (IC.cond (.t 109) (IC.seq (IC.reg r56_42) IC.ret) IC.skip)) (IC.exit 5)) IC.skip)) (IC.seq (IC.reg r56_43) (IC.cond (.t 113) (IC.seq (IC.seq (IC.reg r56_44) (IC.cond (.t 118) (IC.seq (IC.reg r56_45) IC.ret) IC.skip)) (IC.exit 5)) IC.skip))) IC.skip)) (IC.seq (IC.reg r56_46) (IC.block 6 (IC.loop b56_2)))))))) (IC.reg r56_51)))
abbrev r56_52 : List IOp := [⟨some 4, .op (.mov), [.c (.int .i64 (-1))], none⟩]
abbrev c56 : IC := (IC.seq (IC.reg r56_0) (IC.seq (IC.seq (IC.reg r56_1) (IC.cond (.t 17) (IC.seq (IC.reg r56_2) IC.ret) IC.skip)) (IC.seq (IC.seq (IC.reg r56_3) (IC.cond (.t 20) (IC.seq (IC.reg r56_4) (IC.seq (IC.seq (IC.reg r56_5) (IC.cond (.t 26) (IC.seq (IC.seq (IC.reg r56_6) (IC.block 0 (IC.loop b56_0))) (IC.seq (IC.reg r56_11) IC.ret)) IC.skip)) (IC.seq (IC.seq (IC.reg r56_12) (IC.cond (.t 39) (IC.seq (IC.reg r56_13) IC.ret) IC.skip)) (IC.seq (IC.reg r56_14) IC.ret)))) IC.skip)) (IC.seq (IC.seq (IC.reg r56_15) (IC.cond (.t 42) (IC.seq (IC.reg r56_16) (IC.seq (IC.seq (IC.reg r56_17) (IC.cond (.t 47) (IC.reg r56_18) IC.skip)) (IC.seq (IC.reg r56_19) IC.ret))) IC.skip)) (IC.seq (IC.seq (IC.reg r56_20) (IC.cond (.t 53) (IC.seq (IC.reg r56_21) (IC.seq (IC.reg r56_22) (IC.cond (.t 59) (IC.seq (IC.seq (IC.reg r56_23) (IC.block 2 (IC.loop b56_1))) (IC.seq (IC.reg r56_29) IC.ret)) IC.skip))) IC.skip)) (IC.seq (IC.reg r56_30) (IC.seq (IC.seq (IC.reg r56_31) (IC.block 4 (IC.loop b56_3))) (IC.seq (IC.reg r56_52) IC.ret))))))))
abbrev g56 : FC := ⟨c56, 129, [.t 4]⟩
theorem comp56 : compF Go.Proofs.Tryz.prog (fun _ => 0) 56 = some g56 := by kernel_rfl

-- outlaw/glob.Norm
abbrev r57_0 : List IOp := [⟨some 2, .op (.mov), [.c (.str [])], none⟩]
abbrev r57_1 : List IOp := [⟨some 3, .op (.mov), [.c (.nils)], none⟩]
abbrev r57_2 : List IOp := [⟨some 4, .op (.mov), [.c (.int .i64 0)], none⟩]
abbrev r57_3 : List IOp := [⟨some 7, .op (.mov), [.t 4], none⟩,
  ⟨some 8, .op (.mov), [.t 0], none⟩,
  ⟨some 9, .op (.len .str), [.t 8], none⟩,
  ⟨some 10, .op (.bin .lss .prim), [.t 7, .t 9], none⟩]
abbrev r57_4 : List IOp := [⟨some 11, .op (.mov), [.t 4], none⟩,
  ⟨some 5, .op (.mov), [.t 11], none⟩]
abbrev r57_5 : List IOp := [⟨some 12, .op (.mov), [.t 5], none⟩,
  ⟨some 13, .op (.mov), [.t 0], none⟩,
  ⟨some 14, .op (.len .str), [.t 13], none⟩,
  ⟨some 15, .op (.bin .lss .prim), [.t 12, .t 14], none⟩,
  ⟨some 16, .op (.mov), [.t 15], none⟩,
  ⟨some 17, .op (.mov), [.t 0], some (16, true)⟩,
  ⟨some 18, .op (.mov), [.t 5], some (16, true)⟩,
  ⟨some 19, .op (.idxs), [.t 17, .t 18], some (16, true)⟩,
  ⟨some 20, .op (.bin .eql .prim), [.t 19, .c (.int .u8 42)], some (16, true)⟩,
  ⟨some 21, .op (.mov), [.t 20], some (16, true)⟩,
  ⟨some 22, .op (.mov), [.t 0], some (21, false)⟩,
  ⟨some 23, .op (.mov), [.t 5], some (21, false)⟩,
  ⟨some 24, .op (.idxs), [.t 22, .t 23], some (21, false)⟩,
  ⟨some 25, .op (.bin .eql .prim), [.t 24, .c (.int .u8 63)], some (21, false)⟩,
  ⟨some 26, .op (.pick), [.t 21, .c (.bool true), .t 25], some (16, true)⟩,
  ⟨some 27, .op (.pick), [.t 16, .t 26, .c (.bool false)], none⟩]
abbrev r57_6 : List IOp := [⟨some 28, .op (.mov), [.t 5], none⟩,
  ⟨some 29, .op (.bin .add .prim), [.t 28, .c (.int .i64 1)], none⟩,
  ⟨some 5, .op (.mov), [.t 29], none⟩]
abbrev b57_0 : IC := (IC.seq (IC.seq (IC.reg r57_5) (IC.cond (.t 27) IC.skip (IC.exit 2))) (IC.block 3 (IC.reg r57_6)))
abbrev r57_7 : List IOp := [⟨some 30, .op (.mov), [.t 5], none⟩,
  ⟨some 31, .op (.mov), [.t 4], none⟩,
  ⟨some 32, .op (.bin .eql .prim), [.t 30, .t 31], none⟩]
abbrev r57_8 : List IOp := [⟨some 33, .op (.mov), [.t 3], none⟩,
  ⟨some 34, .op (.mov), [.t 0], none⟩,
  ⟨some 35, .op (.mov), [.t 4], none⟩,
  ⟨some 36, .op (.idxs), [.t 34, .t 35], none⟩,
  ⟨some 37, .op (.bsl 5 1 false), [.t 36], none⟩,
  ⟨some 38, .op (.app 5 1 1), [.t 33, .t 37], none⟩,
  ⟨some 3, .op (.mov), [.t 38], none⟩]
abbrev r57_9 : List IOp := [⟨some 39, .op (.mov), [.t 4], none⟩,
  ⟨some 40, .op (.bin .add .prim), [.t 39, .c (.int .i64 1)], none⟩,
  ⟨some 4, .op (.mov), [.t 40], none⟩]
abbrev r57_10 : List IOp := [⟨some 41, .op (.mov), [.t 0], none⟩,
  ⟨some 42, .op (.mov), [.t 4], none⟩,
  ⟨some 43, .op (.mov), [.t 5], none⟩,
  ⟨some 44, .op (.sslice true true false), [.t 41, .t 42, .t 43], none⟩,
  ⟨some 45, .op (.s2b 5), [.t 44], none⟩,
  ⟨some 46, .op (.bsl 5 1 false), [.c (.int .u8 63)], none⟩,
  ⟨some 47, .op (.cvs), [.t 46], none⟩,
  ⟨some 48, .call none, [.f 84, .t 45, .t 47], none⟩,
  ⟨some 6, .op (.mov), [.t 48], none⟩]
abbrev r57_11 : List IOp := [⟨some 49, .op (.mov), [.t 3], none⟩,
  ⟨some 50, .op (.bsl 5 1 false), [.c (.int .u8 63)], none⟩,
  ⟨some 51, .op (.cvs), [.t 50], none⟩,
  ⟨some 52, .op (.mov), [.t 6], none⟩,
  ⟨some 53, .call none, [.f 85, .t 51, .t 52], none⟩,
  ⟨some 54, .op (.app 5 1 1), [.t 49, .t 53], none⟩,
  ⟨some 3, .op (.mov), [.t 54], none⟩]
abbrev r57_12 : List IOp := [⟨some 55, .op (.mov), [.t 6], none⟩,
  ⟨some 56, .op (.mov), [.t 5], none⟩,
  ⟨some 57, .op (.mov), [.t 4], none⟩,
  ⟨some 58, .op (.bin .sub .prim), [.t 56, .t 57], none⟩,
  ⟨some 59, .op (.bin .lss .prim), [.t 55, .t 58], none⟩]
abbrev r57_13 : List IOp := [⟨some 60, .op (.mov), [.t 3], none⟩,
  ⟨some 61, .op (.bsl 5 1 false), [.c (.int .u8 42)], none⟩,
  ⟨some 62, .op (.app 5 1 1), [.t 60, .t 61], none⟩,
  ⟨some 3, .op (.mov), [.t 62], none⟩]
abbrev r57_14 : List IOp := [⟨some 63, .op (.mov), [.t 5], none⟩,
  ⟨some 4, .op (.mov), [.t 63], none⟩]
abbrev b57_1 : IC := (IC.seq (IC.seq (IC.reg r57_3) (IC.cond (.t 10) IC.skip (IC.exit 0))) (IC.block 1 (IC.seq (IC.reg r57_4) (IC.seq (IC.block 2 (IC.loop b57_0)) (IC.seq (IC.seq (IC.reg r57_7) (IC.cond (.t 32) (IC.seq (IC.reg r57_8) (IC.seq (IC.reg r57_9) (IC.exit 1))) IC.skip)) (IC.seq (IC.reg r57_10) (IC.seq (IC.reg r57_11) (IC.seq (IC.seq (IC.reg r57_12) (IC.cond (.t 59) (IC.reg r57_13) IC.skip)) (IC.reg r57_14)))))))))
abbrev r57_15 : List IOp := [⟨some 64, .op (.mov), [.t 3], none⟩,
  ⟨some 65, .op (.b2s), [.t 64], none⟩,
  ⟨some 2, .op (.mov), [.t 65], none⟩]
abbrev c57 : IC := (IC.seq (IC.reg r57_0) (IC.seq (IC.reg r57_1) (IC.seq (IC.seq (IC.reg r57_2) (IC.block 0 (IC.loop b57_1))) (IC.seq (IC.reg r57_15) IC.ret))))
abbrev g57 : FC := ⟨c57, 66, [.t 2]⟩
theorem comp57 : compF Go.Proofs.Tryz.prog (fun _ => 0) 57 = some g57 := by kernel_rfl

-- (*outlaw/nfa.Nfa).Pattern
abbrev r58_0 : List IOp := [⟨some 2, .op (.mov), [.c (.str [])], none⟩,
  ⟨some 3, .op (.mov), [.c (.bool false)], none⟩]
abbrev r58_1 : List IOp := [⟨some 4, .op (.mov), [.t 0], none⟩,
  ⟨some 5, .op (.bin .eql .ptr), [.t 4, .c (.nilp)], none⟩]
abbrev r58_2 : List IOp := [⟨some 2, .op (.mov), [.c (.str [])], none⟩,
  ⟨some 3, .op (.mov), [.c (.bool false)], none⟩]
abbrev r58_3 : List IOp := [⟨some 6, .op (.mov), [.t 0], none⟩,
  ⟨some 7, .op (.nilchk), [.t 6], none⟩,
  ⟨some 8, .op (.faddr 0), [.t 7], none⟩,
  ⟨some 9, .op (.load none), [.t 8], none⟩,
  ⟨some 10, .op (.mov), [.t 0], none⟩,
  ⟨some 11, .op (.nilchk), [.t 10], none⟩,
  ⟨some 12, .op (.faddr 1), [.t 11], none⟩,
  ⟨some 13, .op (.load none), [.t 12], none⟩,
  ⟨some 2, .op (.mov), [.t 9], none⟩,
  ⟨some 3, .op (.mov), [.t 13], none⟩]
abbrev c58 : IC := (IC.seq (IC.reg r58_0) (IC.seq (IC.seq (IC.reg r58_1) (IC.cond (.t 5) (IC.seq (IC.reg r58_2) IC.ret) IC.skip)) (IC.seq (IC.regD .wild r58_3 (.take 0 (.take 1 (.take 2 (.take 3 (.take 4 (.take 5 (.take 6 (.take 7 (.take 8 (.take 9 (.done)))))))))))) IC.ret)))
abbrev g58 : FC := ⟨c58, 14, [.t 2, .t 3]⟩
theorem comp58 : compF Go.Proofs.Tryz.prog (hintL [(3, 6)]) 58 = some g58 := by kernel_rfl

-- outlaw/dfa.classes
abbrev r59_0 : List IOp := [⟨some 4, .op (.alloc 110 [.int .i64 0, .int .i64 0, .int .i64 0, .int .i64 0, .int .i64 0, .int .i64 0, .int .i64 0, .int .i64 0, .int .i64 0, .int .i64 0, .int .i64 0, .int .i64 0, .int .i64 0, .int .i64 0, .int .i64 0, .int .i64 0, .int .i64 0, .int .i64 0, .int .i64 0, .int .i64 0, .int .i64 0, .int .i64 0, .int .i64 0, .int .i64 0, .int .i64 0, .int .i64 0, .int .i64 0, .int .i64 0, .int .i64 0, .int .i64 0, .int .i64 0, .int .i64 0, .int .i64 0, .int .i64 0, .int .i64 0, .int .i64 0, .int .i64 0, .int .i64 0, .int .i64 0, .int .i64 0, .int .i64 0, .int .i64 0, .int .i64 0, .int .i64 0, .int .i64 0, .int .i64 0, .int .i64 0, .int .i64 0, .int .i64 0, .int .i64 0, .int .i64 0, .int .i64 0, .int .i64 0, .int .i64 0, .int .i64 0, .int .i64 0, .int .i64 0, .int .i64 0, .int .i64 0, .int .i64 0, .int .i64 0, .int .i64 0, .int .i64 0, .int .i64 0, .int .i64 0, .int .i64 0, .int .i64 0, .int .i64 0, .int .i64 0, .int .i64 0, .int .i64 0, .int .i64 0, .int .i64 0, .int .i64 0, .int .i64 0, .int .i64 0, .int .i64 0, .int .i64 0, .int .i64 0, .int .i64 0, .int .i64 0, .int .i64 0, .int .i64 0, .int .i64 0, .int .i64 0, .int .i64 0, .int .i64 0, .int .i64 0, .int .i64 0, .int .i64 0, .int .i64 0, .int .i64 0, .int .i64 0, .int .i64 0, .int .i64 0, .int .i64 0, .int .i64 0, .int .i64 0, .int .i64 0, .int .i64 0, .int .i64 0, .int .i64 0, .int .i64 0, .int .i64 0, .int .i64 0, .int .i64 0, .int .i64 0, .int .i64 0, .int .i64 0, .int .i64 0, .int .i64 0, .int .i64 0, .int .i64 0, .int .i64 0, .int .i64 0, .int .i64 0, .int .i64 0, .int .i64 0, .int .i64 0, .int .i64 0, .int .i64 0, .int .i64 0, .int .i64 0, .int .i64 0, .int .i64 0, .int .i64 0, .int .i64 0, .int .i64 0, .int .i64 0, .int .i64 0, .int .i64 0, .int .i64 0, .int .i64 0, .int .i64 0, .int .i64 0, .int .i64 0, .int .i64 0, .int .i64 0, .int .i64 0, .int .i64 0, .int .i64 0, .int .i64 0, .int .i64 0, .int .i64 0, .int .i64 0, .int .i64 0, .int .i64 0, .int .i64 0, .int .i64 0, .int .i64 0, .int .i64 0, .int .i64 0, .int .i64 0, .int .i64 0, .int .i64 0, .int .i64 0, .int .i64 0, .int .i64 0, .int .i64 0, .int .i64 0, .int .i64 0, .int .i64 0, .int .i64 0, .int .i64 0, .int .i64 0, .int .i64 0, .int .i64 0, .int .i64 0, .int .i64 0, .int .i64 0, .int .i64 0, .int .i64 0, .int .i64 0, .int .i64 0, .int .i64 0, .int .i64 0, .int .i64 0, .int .i64 0, .int .i64 0, .int .i64 0, .int .i64 0, .int .i64 0, .int .i64 0, .int .i64 0, .int .i64 0, .int .i64 0, .int .i64 0, .int .i64 0, .int .i64 0, .int .i64 0, .int .i64 0, .int .i64 0, .int .i64 0, .int .i64 0, .int .i64 0, .int .i64 0, .int .i64 0, .int .i64 0, .int .i64 0, .int .i64 0, .int .i64 0, .int .i64 0, .int .i64 0, .int .i64 0, .int .i64 0, .int .i64 0, .int .i64 0, .int .i64 0, .int .i64 0, .int .i64 0, .int .i64 0, .int .i64 0, .int .i64 0, .int .i64 0, .int .i64 0, .int .i64 0, .int .i64 0, .int .i64 0, .int .i64 0, .int .i64 0, .int .i64 0, .int .i64 0, .int .i64 0, .int .i64 0, .int .i64 0, .int .i64 0, .int .i64 0, .int .i64 0, .int .i64 0, .int .i64 0, .int .i64 0, .int .i64 0, .int .i64 0, .int .i64 0, .int .i64 0, .int .i64 0, .int .i64 0, .int .i64 0, .int .i64 0, .int .i64 0, .int .i64 0, .int .i64 0, .int .i64 0, .int .i64 0, .int .i64 0, .int .i64 0, .int .i64 0, .int .i64 0, .int .i64 0, .int .i64 0, .int .i64 0, .int .i64 0, .int .i64 0, .int .i64 0, .int .i64 0, .int .i64 0]), [], none⟩,
  ⟨some 5, .op (.mov), [.c (.nils)], none⟩]
abbrev r59_1 : List IOp := [⟨some 6, .op (.mov), [.f 86], none⟩]
abbrev r59_2 : List IOp := [⟨some 16, .op (.mov), [.t 1], none⟩]
abbrev r59_3 : List IOp := [⟨some 6, .op (.mov), [.f 87], none⟩]
abbrev r59_4 : List IOp := [⟨some 7, .op (.mov), [.c (.nils)], none⟩]
abbrev r59_5 : List IOp := [⟨some 17, .op (.mov), [.t 0], none⟩,
  ⟨some 18, .op (.len .str), [.t 17], none⟩,
  ⟨some 19, .op (.mov), [.c (.int .i64 0)], none⟩]
abbrev r59_6 : List IOp := [⟨some 20, .op (.bin .lss .prim), [.t 19, .t 18], none⟩]
abbrev r59_7 : List IOp := [⟨some 21, .op (.mov), [.t 19], none⟩,
  ⟨some 8, .op (.mov), [.t 21], none⟩]
abbrev r59_8 : List IOp := [⟨some 22, .op (.mov), [.t 0], none⟩,
  ⟨some 23, .op (.mov), [.t 8], none⟩,
  ⟨some 24, .op (.idxs), [.t 22, .t 23], none⟩,
  ⟨some 25, .op (.bin .neq .prim), [.t 24, .c (.int .u8 42)], none⟩,
  ⟨some 26, .op (.mov), [.t 25], none⟩,
  ⟨some 27, .op (.mov), [.t 0], some (26, true)⟩,
  ⟨some 28, .op (.mov), [.t 8], some (26, true)⟩,
  ⟨some 29, .op (.idxs), [.t 27, .t 28], some (26, true)⟩,
  ⟨some 30, .op (.bin .neq .prim), [.t 29, .c (.int .u8 63)], some (26, true)⟩,
  ⟨some 31, .op (.pick), [.t 26, .t 30, .c (.bool false)], none⟩]
abbrev r59_9 : List IOp := [⟨some 32, .op (.mov), [.t 7], none⟩,
  ⟨some 33, .op (.mov), [.t 6], none⟩,
  ⟨some 34, .op (.mov), [.t 0], none⟩,
  ⟨some 35, .op (.mov), [.t 8], none⟩,
  ⟨some 36, .op (.idxs), [.t 34, .t 35], none⟩,
  ⟨some 37, .call none, [.t 33, .t 36], none⟩,
  ⟨some 38, .op (.bsl 5 1 false), [.t 37], none⟩,
  ⟨some 39, .op (.app 5 1 1), [.t 32, .t 38], none⟩,
  ⟨some 7, .op (.mov), [.t 39], none⟩]
abbrev r59_10 : List IOp := [⟨some 40, .op (.bin .add .prim), [.t 19, .c (.int .i64 1)], none⟩,
  ⟨some 19, .op (.mov), [.t 40], none⟩]
abbrev b59_0 : IC := (IC.seq (IC.reg r59_6) (IC.seq (IC.cond (.t 20) IC.skip (IC.exit 0)) (IC.seq (IC.block 1 (IC.seq (IC.reg r59_7) (IC.seq (IC.reg r59_8) (IC.cond (.t 31) (IC.reg r59_9) IC.skip)))) (IC.reg r59_10))))
abbrev r59_11 : List IOp := [⟨some 41, .op (.mov), [.t 7], none⟩,
  ⟨some 42, .call none, [.f 88, .t 41], none⟩]
abbrev r59_12 : List IOp := [⟨some 43, .op (.mov), [.t 7], none⟩,
  ⟨some 44, .call none, [.f 89, .t 43], none⟩,
  ⟨some 7, .op (.mov), [.t 44], none⟩]
abbrev r59_13 : List IOp := [⟨some 9, .op (.alloc 110 [.int .i64 0, .int .i64 0, .int .i64 0, .int .i64 0, .int .i64 0, .int .i64 0, .int .i64 0, .int .i64 0, .int .i64 0, .int .i64 0, .int .i64 0, .int .i64 0, .int .i64 0, .int .i64 0, .int .i64 0, .int .i64 0, .int .i64 0, .int .i64 0, .int .i64 0, .int .i64 0, .int .i64 0, .int .i64 0, .int .i64 0, .int .i64 0, .int .i64 0, .int .i64 0, .int .i64 0, .int .i64 0, .int .i64 0, .int .i64 0, .int .i64 0, .int .i64 0, .int .i64 0, .int .i64 0, .int .i64 0, .int .i64 0, .int .i64 0, .int .i64 0, .int .i64 0, .int .i64 0, .int .i64 0, .int .i64 0, .int .i64 0, .int .i64 0, .int .i64 0, .int .i64 0, .int .i64 0, .int .i64 0, .int .i64 0, .int .i64 0, .int .i64 0, .int .i64 0, .int .i64 0, .int .i64 0, .int .i64 0, .int .i64 0, .int .i64 0, .int .i64 0, .int .i64 0, .int .i64 0, .int .i64 0, .int .i64 0, .int .i64 0, .int .i64 0, .int .i64 0, .int .i64 0, .int .i64 0, .int .i64 0, .int .i64 0, .int .i64 0, .int .i64 0, .int .i64 0, .int .i64 0, .int .i64 0, .int .i64 0, .int .i64 0, .int .i64 0, .int .i64 0, .int .i64 0, .int .i64 0, .int .i64 0, .int .i64 0, .int .i64 0, .int .i64 0, .int .i64 0, .int .i64 0, .int .i64 0, .int .i64 0, .int .i64 0, .int .i64 0, .int .i64 0, .int .i64 0, .int .i64 0, .int .i64 0, .int .i64 0, .int .i64 0, .int .i64 0, .int .i64 0, .int .i64 0, .int .i64 0, .int .i64 0, .int .i64 0, .int .i64 0, .int .i64 0, .int .i64 0, .int .i64 0, .int .i64 0, .int .i64 0, .int .i64 0, .int .i64 0, .int .i64 0, .int .i64 0, .int .i64 0, .int .i64 0, .int .i64 0, .int .i64 0, .int .i64 0, .int .i64 0, .int .i64 0, .int .i64 0, .int .i64 0, .int .i64 0, .int .i64 0, .int .i64 0, .int .i64 0, .int .i64 0, .int .i64 0, .int .i64 0, .int .i64 0, .int .i64 0, .int .i64 0, .int .i64 0, .int .i64 0, .int .i64 0, .int .i64 0, .int .i64 0, .int .i64 0, .int .i64 0, .int .i64 0, .int .i64 0, .int .i64 0, .int .i64 0, .int .i64 0, .int .i64 0, .int .i64 0, .int .i64 0, .int .i64 0, .int .i64 0, .int .i64 0, .int .i64 0, .int .i64 0, .int .i64 0, .int .i64 0, .int .i64 0, .int .i64 0, .int .i64 0, .int .i64 0, .int .i64 0, .int .i64 0, .int .i64 0, .int .i64 0, .int .i64 0, .int .i64 0, .int .i64 0, .int .i64 0, .int .i64 0, .int .i64 0, .int .i64 0, .int .i64 0, .int .i64 0, .int .i64 0, .int .i64 0, .int .i64 0, .int .i64 0, .int .i64 0, .int .i64 0, .int .i64 0, .int .i64 0, .int .i64 0, .int .i64 0, .int .i64 0, .int .i64 0, .int .i64 0, .int .i64 0, .int .i64 0, .int .i64 0, .int .i64 0, .int .i64 0, .int .i64 0, .int .i64 0, .int .i64 0, .int .i64 0, .int .i64 0, .int .i64 0, .int .i64 0, .int .i64 0, .int .i64 0, .int .i64 0, .int .i64 0, .int .i64 0, .int .i64 0, .int .i64 0, .int .i64 0, .int .i64 0, .int .i64 0, .int .i64 0, .int .i64 0, .int .i64 0, .int .i64 0, .int .i64 0, .int .i64 0, .int .i64 0, .int .i64 0, .int .i64 0, .int .i64 0, .int .i64 0, .int .i64 0, .int .i64 0, .int .i64 0, .int .i64 0, .int .i64 0, .int .i64 0, .int .i64 0, .int .i64 0, .int .i64 0, .int .i64 0, .int .i64 0, .int .i64 0, .int .i64 0, .int .i64 0, .int .i64 0, .int .i64 0, .int .i64 0, .int .i64 0, .int .i64 0, .int .i64 0, .int .i64 0, .int .i64 0, .int .i64 0, .int .i64 0, .int .i64 0, .int .i64 0, .int .i64 0, .int .i64 0, .int .i64 0, .int .i64 0, .int .i64 0, .int .i64 0, .int .i64 0, .int .i64 0, .int .i64 0, .int .i64 0, .int .i64 0, .int .i64 0, .int .i64 0, .int .i64 0]), [], none⟩]
abbrev r59_14 : List IOp := [⟨some 45, .op (.bsl 3 1 false), [.c (.int .i64 (-1))], none⟩,
  ⟨some 10, .op (.mov), [.t 45], none⟩]
abbrev r59_15 : List IOp := [⟨some 46, .op (.mov), [.t 7], none⟩,
  ⟨some 47, .op (.len .slice), [.t 46], none⟩,
  ⟨some 48, .op (.mov), [.c (.int .i64 0)], none⟩]
abbrev r59_16 : List IOp := [⟨some 49, .op (.bin .lss .prim), [.t 48, .t 47], none⟩]
abbrev r59_17 : List IOp := [⟨some 50, .op (.iaddr 1), [.t 46, .t 48], none⟩,
  ⟨some 51, .op (.load none), [.t 50], none⟩,
  ⟨some 12, .op (.mov), [.t 51], none⟩]
abbrev r59_18 : List IOp := [⟨some 52, .op (.mov), [.t 10], none⟩,
  ⟨some 53, .op (.mov), [.t 12], none⟩,
  ⟨some 54, .op (.toInt .i64), [.t 53], none⟩,
  ⟨some 55, .op (.bsl 3 1 false), [.t 54], none⟩,
  ⟨some 56, .op (.app 3 1 8), [.t 52, .t 55], none⟩,
  ⟨some 10, .op (.mov), [.t 56], none⟩]
abbrev r59_19 : List IOp := [⟨some 57, .op (.bin .add .prim), [.t 48, .c (.int .i64 1)], none⟩,
  ⟨some 48, .op (.mov), [.t 57], none⟩]
abbrev b59_1 : IC := (IC.seq (IC.reg r59_16) (IC.seq (IC.cond (.t 49) IC.skip (IC.exit 2)) (IC.seq (IC.block 3 (IC.seq (IC.reg r59_17) (IC.reg r59_18))) (IC.reg r59_19))))
abbrev r59_20 : List IOp := [⟨some 58, .op (.mov), [.c (.int .i64 0)], none⟩]
abbrev r59_21 : List IOp := [⟨some 59, .op (.bin .lss .prim), [.t 58, .c (.int .i64 256)], none⟩]
abbrev r59_22 : List IOp := [⟨some 60, .op (.mov), [.t 58], none⟩,
  ⟨some 13, .op (.mov), [.t 60], none⟩]
abbrev r59_23 : List IOp := [⟨some 62, .op (.mov), [.t 7], none⟩,
  ⟨some 63, .op (.mov), [.t 6], none⟩,
  ⟨some 64, .op (.mov), [.t 13], none⟩,
  ⟨some 65, .op (.toInt .u8), [.t 64], none⟩,
  ⟨some 66, .call none, [.t 63, .t 65], none⟩,
  ⟨some 67, .call none, [.f 90, .t 62, .t 66], none⟩,
  ⟨some 61, .op (.mov), [.t 67], none⟩,
  ⟨some 68, .op (.extract 0), [.t 61], none⟩,
  ⟨some 69, .op (.extract 1), [.t 61], none⟩,
  ⟨some 14, .op (.mov), [.t 68], none⟩,
  ⟨some 15, .op (.mov), [.t 69], none⟩]
abbrev r59_24 : List IOp := [⟨some 70, .op (.mov), [.t 15], none⟩]
abbrev r59_25 : List IOp := [⟨some 71, .op (.mov), [.t 13], none⟩,
  ⟨some 72, .op (.mov), [.t 14], none⟩,
  ⟨some 73, .op (.bin .add .prim), [.t 72, .c (.int .i64 1)], none⟩,
  ⟨some 74, .op (.aaddr 256 1), [.t 9, .t 71], none⟩,
  ⟨none, .op (.store 1), [.t 74, .t 73], none⟩]
abbrev r59_26 : List IOp := [⟨some 75, .op (.mov), [.t 10], none⟩,
  ⟨some 76, .op (.mov), [.t 13], none⟩,
  ⟨some 77, .op (.iaddr 1), [.t 75, .c (.int .i64 0)], none⟩,
  ⟨none, .op (.store 1), [.t 77, .t 76], none⟩]
abbrev r59_27 : List IOp := [⟨some 78, .op (.bin .add .prim), [.t 58, .c (.int .i64 1)], none⟩,
  ⟨some 58, .op (.mov), [.t 78], none⟩]
abbrev b59_2 : IC := (IC.seq (IC.reg r59_21) (IC.seq (IC.cond (.t 59) IC.skip (IC.exit 4)) (IC.seq (IC.block 5 (IC.seq (IC.reg r59_22) (IC.seq (IC.reg r59_23) (IC.seq (IC.reg r59_24) (IC.cond (.t 70) (IC.reg r59_25) (IC.reg r59_26)))))) (IC.reg r59_27))))
abbrev r59_28 : List IOp := [⟨some 79, .op (.load (some 256)), [.t 9], none⟩,
  ⟨some 80, .op (.mov), [.t 10], none⟩,
  ⟨none, .op (.store 256), [.t 4, .t 79], none⟩,
  ⟨some 5, .op (.mov), [.t 80], none⟩]
abbrev c59 : IC := (IC.seq (IC.reg r59_0) (IC.seq (IC.reg r59_1) (IC.seq (IC.seq (IC.reg r59_2) (IC.cond (.t 16) (IC.reg r59_3) IC.skip)) (IC.seq (IC.reg r59_4) (IC.seq (IC.seq (IC.reg r59_5) (IC.block 0 (IC.loop b59_0))) (IC.seq (IC.reg r59_11) (IC.seq (IC.reg r59_12) (IC.seq (IC.reg r59_13) (IC.seq (IC.reg r59_14) (IC.seq (IC.seq (IC.reg r59_15) (IC.block 2 (IC.loop b59_1))) (IC.seq (IC.seq (IC.reg r59_20) (IC.block 4 (IC.loop b59_2))) (IC.seq (IC.reg r59_28) IC.ret))))))))))))
abbrev g59 : FC := ⟨c59, 81, [.cell 4 (some 256), .t 5]⟩
theorem comp59 : compF Go.Proofs.Tryz.prog (fun _ => 0) 59 = some g59 := by kernel_rfl

-- outlaw/dfa.Build$1
abbrev r60_0 : List IOp := [⟨some 4, .op (.mov), [.c (.int .i64 0)], none⟩]
abbrev r60_1 : List IOp := [⟨some 8, .op (.load none), [.t 1], none⟩,
  ⟨some 9, .op (.mov), [.t 0], none⟩,
  ⟨some 10, .call none, [.f 61, .t 9], none⟩,
  ⟨some 11, .op (.look .str (.agg [.int .i64 0]) true), [.t 8, .t 10], none⟩,
  ⟨some 7, .op (.mov), [.t 11], none⟩,
  ⟨some 12, .op (.extract 0), [.t 7], none⟩,
  ⟨some 13, .op (.extract 1), [.t 7], none⟩,
  ⟨some 5, .op (.alloc 115 [.int .i64 0]), [], none⟩,
  ⟨none, .op (.store 1), [.t 5, .t 12], none⟩,
  ⟨some 6, .op (.mov), [.t 13], none⟩]
abbrev r60_2 : List IOp := [⟨some 14, .op (.mov), [.t 6], none⟩,
  ⟨some 15, .op (.un .not), [.t 14], none⟩]
abbrev r60_3 : List IOp := [⟨some 16, .op (.load none), [.t 2], none⟩,
  ⟨some 17, .op (.len .slice), [.t 16], none⟩,
  ⟨some 18, .op (.bst [.int .i64 0] [(0, 1)] [0]), [.t 17], none⟩,
  ⟨none, .op (.store 1), [.t 5, .t 18], none⟩]
abbrev r60_4 : List IOp := [⟨some 19, .op (.load none), [.t 1], none⟩,
  ⟨some 20, .op (.mov), [.t 0], none⟩,
  ⟨some 21, .call none, [.f 61, .t 20], none⟩,
  ⟨some 22, .op (.load (some 1)), [.t 5], none⟩,
  ⟨none, .op (.mapup .str), [.t 19, .t 21, .t 22], none⟩]
abbrev r60_5 : List IOp := [⟨some 23, .op (.load none), [.t 2], none⟩,
  ⟨some 24, .op (.mov), [.t 0], none⟩,
  ⟨some 25, .op (.bsl 28 1 false), [.t 24], none⟩,
  ⟨some 26, .op (.app 28 1 24), [.t 23, .t 25], none⟩,
  ⟨none, .op (.store 1), [.t 2, .t 26], none⟩]
abbrev r60_6 : List IOp := [⟨some 27, .op (.faddr 0), [.t 5], none⟩,
  ⟨some 28, .op (.load none), [.t 27], none⟩,
  ⟨some 4, .op (.mov), [.t 28], none⟩]
abbrev c60 : IC := (IC.seq (IC.reg r60_0) (IC.seq (IC.regD .wild r60_1 (.take 1 (.fork [(0, .fork [(2, .take 3 (.take 4 (.take 5 (.take 6 (.take 7 (.take 8 (.take 9 (.done)))))))), (7, .take 2 (.take 3 (.take 4 (.take 5 (.take 6 (.take 8 (.take 9 (.done))))))))]), (2, .take 0 (.take 3 (.take 4 (.take 5 (.take 6 (.take 7 (.take 8 (.take 9 (.done))))))))), (7, .fork [(0, .take 2 (.take 3 (.take 4 (.take 5 (.take 6 (.take 8 (.take 9 (.done)))))))), (2, .take 0 (.take 3 (.take 4 (.take 5 (.take 6 (.take 8 (.take 9 (.done))))))))])]))) (IC.seq (IC.seq (IC.reg r60_2) (IC.cond (.t 15) (IC.seq (IC.reg r60_3) (IC.seq (IC.regD .alloc r60_4 (.take 0 (.take 1 (.take 3 (.take 2 (.take 4 (.done))))))) (IC.reg r60_5))) IC.skip)) (IC.seq (IC.reg r60_6) IC.ret))))
abbrev g60 : FC := ⟨c60, 29, [.t 4]⟩
theorem comp60 : compF Go.Proofs.Tryz.prog (hintL [(1, 6), (4, 7)]) 60 = some g60 := by kernel_rfl

-- (*outlaw/nfa.Nfa).Start
abbrev r62_0 : List IOp := [⟨some 2, .op (.mov), [.c (.nils)], none⟩]
abbrev r62_1 : List IOp := [⟨some 3, .op (.mov), [.t 0], none⟩,
  ⟨some 4, .call none, [.f 91, .t 3], none⟩,
  ⟨some 5, .call none, [.f 92, .t 4], none⟩,
  ⟨some 2, .op (.mov), [.t 5], none⟩]
abbrev c62 : IC := (IC.seq (IC.reg r62_0) (IC.seq (IC.reg r62_1) IC.ret))
abbrev g62 : FC := ⟨c62, 6, [.t 2]⟩
theorem comp62 : compF Go.Proofs.Tryz.prog (fun _ => 0) 62 = some g62 := by kernel_rfl

-- (*outlaw/nfa.Nfa).Step
abbrev r63_0 : List IOp := [⟨some 6, .op (.mov), [.c (.nils)], none⟩]
abbrev r63_1 : List IOp := [⟨some 7, .op (.mov), [.t 0], none⟩,
  ⟨some 8, .op (.mov), [.t 0], none⟩,
  ⟨some 9, .op (.mov), [.t 1], none⟩,
  ⟨some 10, .call none, [.f 94, .t 8, .t 9], none⟩,
  ⟨some 11, .op (.mov), [.t 2], none⟩,
  ⟨some 12, .call none, [.f 93, .t 7, .t 10, .t 11], none⟩,
  ⟨some 13, .call none, [.f 92, .t 12], none⟩,
  ⟨some 6, .op (.mov), [.t 13], none⟩]
abbrev c63 : IC := (IC.seq (IC.reg r63_0) (IC.seq (IC.reg r63_1) IC.ret))
abbrev g63 : FC := ⟨c63, 14, [.t 6]⟩
theorem comp63 : compF Go.Proofs.Tryz.prog (fun _ => 0) 63 = some g63 := by kernel_rfl

-- (*outlaw/nfa.Nfa).Accepts
abbrev r64_0 : List IOp := [⟨some 4, .op (.mov), [.c (.bool false)], none⟩]
abbrev r64_1 : List IOp := [⟨some 6, .op (.mov), [.t 0], none⟩,
  ⟨some 7, .op (.mov), [.t 1], none⟩,
  ⟨some 8, .call none, [.f 94, .t 6, .t 7], none⟩,
  ⟨some 5, .op (.mov), [.t 8], none⟩]
abbrev r64_2 : List IOp := [⟨some 9, .op (.mov), [.t 5], none⟩,
  ⟨some 10, .op (.len .slice), [.t 9], none⟩,
  ⟨some 11, .op (.bin .gtr .prim), [.t 10, .c (.int .i64 0)], none⟩,
  ⟨some 12, .op (.mov), [.t 11], none⟩,
  ⟨some 13, .op (.mov), [.t 5], some (12, true)⟩,
  ⟨some 14, .op (.mov), [.t 5], some (12, true)⟩,
  ⟨some 15, .op (.len .slice), [.t 14], some (12, true)⟩,
  ⟨some 16, .op (.bin .sub .prim), [.t 15, .c (.int .i64 1)], some (12, true)⟩,
  ⟨some 17, .op (.iaddr 1), [.t 13, .t 16], some (12, true)⟩,
  ⟨some 18, .op (.load none), [.t 17], some (12, true)⟩,
  ⟨some 19, .op (.pick), [.t 12, .t 18, .c (.bool false)], none⟩,
  ⟨some 4, .op (.mov), [.t 19], none⟩]
abbrev c64 : IC := (IC.seq (IC.reg r64_0) (IC.seq (IC.reg r64_1) (IC.seq (IC.reg r64_2) IC.ret)))
abbrev g64 : FC := ⟨c64, 20, [.t 4]⟩
theorem comp64 : compF Go.Proofs.Tryz.prog (fun _ => 0) 64 = some g64 := by kernel_rfl

-- slices.AppendSeq[[]int,int]
abbrev r65_0 : List IOp := [⟨some 2, .op (.box 28), [.t 0], none⟩,
  ⟨some 4, .op (.mov), [.c (.nils)], none⟩]
abbrev r65_1 : List IOp := [⟨some 6, .op (.mov), [.t 1], none⟩]
abbrev r65_2 : List IOp := [⟨some 12, .op (.load none), [.t 2], none⟩,
  ⟨some 4, .op (.mov), [.t 12], none⟩]
abbrev r65_3 : List IOp := [⟨some 5, .op (.mov), [.t 7], none⟩]
abbrev r65_4 : List IOp := [⟨some 8, .op (.load none), [.t 2], none⟩,
  ⟨some 9, .op (.mov), [.t 5], none⟩,
  ⟨some 10, .op (.bsl 3 1 false), [.t 9], none⟩,
  ⟨some 11, .op (.app 3 1 8), [.t 8, .t 10], none⟩,
  ⟨none, .op (.store 1), [.t 2, .t 11], none⟩]
abbrev c65 : IC := (IC.seq (IC.reg r65_0) (IC.seq (IC.seq (IC.reg r65_1) (IC.block 0 (IC.rangeF 65000 13 (.t 6)))) (IC.seq (IC.reg r65_2) IC.ret)))
abbrev g65 : FC := ⟨c65, 13, [.t 4]⟩
theorem comp65 : compF Go.Proofs.Tryz.prog (hintL [(1000002, 65000), (2000002, 13)]) 65 = some g65 := by kernel_rfl
abbrev li65000 : LI := ⟨13, [7], (IC.reg r65_3), (IC.block 1 (IC.reg r65_4))⟩
theorem keys65 : KeysF Go.Proofs.Tryz.prog (hintL [(1000002, 65000), (2000002, 13)]) 65 := keysF_of (by kernel_rfl)
theorem lok65000 : LOk Go.Proofs.Tryz.prog 65000 li65000 := ⟨hintL [(1000002, 65000), (2000002, 13)], by kernel_rfl, by kernel_rfl, by kernel_rfl, by kernel_rfl, by decide⟩

-- outlaw/dfa.through
abbrev r159_0 : List IOp := [⟨some 2, .op (.box 90), [.t 0], none⟩,
  ⟨some 4, .op (.mov), [.c (.bool false)], none⟩]
abbrev r159_1 : List IOp := [⟨some 5, .op (.mov), [.c (.int .i64 0)], none⟩]
abbrev r159_2 : List IOp := [⟨some 7, .op (.mov), [.t 1], none⟩,
  ⟨some 8, .op (.len .str), [.t 7], none⟩,
  ⟨some 9, .op (.mov), [.c (.int .i64 0)], none⟩]
abbrev r159_3 : List IOp := [⟨some 10, .op (.bin .lss .prim), [.t 9, .t 8], none⟩]
abbrev r159_4 : List IOp := [⟨some 11, .op (.mov), [.t 9], none⟩,
  ⟨some 6, .op (.mov), [.t 11], none⟩]
abbrev r159_5 : List IOp := [⟨some 12, .op (.faddr 1), [.t 2], none⟩,
  ⟨some 13, .op (.load none), [.t 12], none⟩,
  ⟨some 14, .op (.mov), [.t 5], none⟩,
  ⟨some 15, .op (.iaddr 1), [.t 13, .t 14], none⟩,
  ⟨some 16, .op (.load none), [.t 15], none⟩,
  ⟨some 17, .op (.faddr 0), [.t 2], none⟩,
  ⟨some 18, .op (.load none), [.t 17], none⟩,
  ⟨some 19, .op (.mov), [.t 1], none⟩,
  ⟨some 20, .op (.mov), [.t 6], none⟩,
  ⟨some 21, .op (.idxs), [.t 19, .t 20], none⟩,
  ⟨some 22, .op (.iaddr 1), [.t 18, .t 21], none⟩,
  ⟨some 23, .op (.load none), [.t 22], none⟩,
  ⟨some 24, .op (.iaddr 1), [.t 16, .t 23], none⟩,
  ⟨some 25, .op (.load none), [.t 24], none⟩,
  ⟨some 5, .op (.mov), [.t 25], none⟩]
abbrev r159_6 : List IOp := [⟨some 26, .op (.bin .add .prim), [.t 9, .c (.int .i64 1)], none⟩,
  ⟨some 9, .op (.mov), [.t 26], none⟩]
abbrev b159_0 : IC := (IC.seq (IC.reg r159_3) (IC.seq (IC.cond (.t 10) IC.skip (IC.exit 0)) (IC.seq (IC.block 1 (IC.seq (IC.reg r159_4) (IC.regD .wild r159_5 (.take 0 (.take 1 (.take 2 (.take 3 (.take 4 (.take 5 (.take 6 (.take 7 (.take 8 (.take 9 (.take 10 (.take 11 (.take 12 (.take 13 (.take 14 (.done))))))))))))))))))) (IC.reg r159_6))))
abbrev r159_7 : List IOp := [⟨some 27, .op (.faddr 2), [.t 2], none⟩,
  ⟨some 28, .op (.load none), [.t 27], none⟩,
  ⟨some 29, .op (.mov), [.t 5], none⟩,
  ⟨some 30, .op (.iaddr 1), [.t 28, .t 29], none⟩,
  ⟨some 31, .op (.load none), [.t 30], none⟩,
  ⟨some 4, .op (.mov), [.t 31], none⟩]
abbrev c159 : IC := (IC.seq (IC.reg r159_0) (IC.seq (IC.reg r159_1) (IC.seq (IC.seq (IC.reg r159_2) (IC.block 0 (IC.loop b159_0))) (IC.seq (IC.reg r159_7) IC.ret))))
abbrev g159 : FC := ⟨c159, 32, [.t 4]⟩
theorem comp159 : compF Go.Proofs.Tryz.prog (hintL [(5, 6)]) 159 = some g159 := by kernel_rfl

-- math/bits.Len64
abbrev r76_0 : List IOp := [⟨some 2, .op (.mov), [.c (.int .i64 0)], none⟩]
abbrev r76_1 : List IOp := [⟨some 3, .op (.mov), [.t 0], none⟩,
  ⟨some 4, .op (.bin .geq .prim), [.t 3, .c (.int .u64 4294967296)], none⟩]
abbrev r76_2 : List IOp := [⟨some 5, .op (.mov), [.t 0], none⟩,
  ⟨some 6, .op (.bin .shr .prim), [.t 5, .c (.int .u64 32)], none⟩,
  ⟨some 0, .op (.mov), [.t 6], none⟩]
abbrev r76_3 : List IOp := [⟨some 2, .op (.mov), [.c (.int .i64 32)], none⟩]
abbrev r76_4 : List IOp := [⟨some 7, .op (.mov), [.t 0], none⟩,
  ⟨some 8, .op (.bin .geq .prim), [.t 7, .c (.int .u64 65536)], none⟩]
abbrev r76_5 : List IOp := [⟨some 9, .op (.mov), [.t 0], none⟩,
  ⟨some 10, .op (.bin .shr .prim), [.t 9, .c (.int .u64 16)], none⟩,
  ⟨some 0, .op (.mov), [.t 10], none⟩]
abbrev r76_6 : List IOp := [⟨some 11, .op (.mov), [.t 2], none⟩,
  ⟨some 12, .op (.bin .add .prim), [.t 11, .c (.int .i64 16)], none⟩,
  ⟨some 2, .op (.mov), [.t 12], none⟩]
abbrev r76_7 : List IOp := [⟨some 13, .op (.mov), [.t 0], none⟩,
  ⟨some 14, .op (.bin .geq .prim), [.t 13, .c (.int .u64 256)], none⟩]
abbrev r76_8 : List IOp := [⟨some 15, .op (.mov), [.t 0], none⟩,
  ⟨some 16, .op (.bin .shr .prim), [.t 15, .c (.int .u64 8)], none⟩,
  ⟨some 0, .op (.mov), [.t 16], none⟩]
abbrev r76_9 : List IOp := [⟨some 17, .op (.mov), [.t 2], none⟩,
  ⟨some 18, .op (.bin .add .prim), [.t 17, .c (.int .i64 8)], none⟩,
  ⟨some 2, .op (.mov), [.t 18], none⟩]
abbrev r76_10 : List IOp := [⟨some 19, .op (.mov), [.t 2], none⟩,
  ⟨some 20, .op (.mov), [.t 0], none⟩,
  ⟨some 21, .op (.toInt .u8), [.t 20], none⟩,
  ⟨some 22, .op (.idxs), [.c (.str [0, 1, 2, 2, 3, 3, 3, 3, 4, 4, 4, 4, 4, 4, 4, 4, 5, 5, 5, 5, 5, 5, 5, 5, 5, 5, 5, 5, 5, 5, 5, 5, 6, 6, 6, 6, 6, 6, 6, 6, 6, 6, 6, 6, 6, 6, 6, 6, 6, 6, 6, 6, 6, 6, 6, 6, 6, 6, 6, 6, 6, 6, 6, 6, 7, 7, 7, 7, 7, 7, 7, 7, 7, 7, 7, 7, 7, 7, 7, 7, 7, 7, 7, 7, 7, 7, 7, 7, 7, 7, 7, 7, 7, 7, 7, 7, 7, 7, 7, 7, 7, 7, 7, 7, 7, 7, 7, 7, 7, 7, 7, 7, 7, 7, 7, 7, 7, 7, 7, 7, 7, 7, 7, 7, 7, 7, 7, 7, 8, 8, 8, 8, 8, 8, 8, 8, 8, 8, 8, 8, 8, 8, 8, 8, 8, 8, 8, 8, 8, 8, 8, 8, 8, 8, 8, 8, 8, 8, 8, 8, 8, 8, 8, 8, 8, 8, 8, 8, 8, 8, 8, 8, 8, 8, 8, 8, 8, 8, 8, 8, 8, 8, 8, 8, 8, 8, 8, 8, 8, 8, 8, 8, 8, 8, 8, 8, 8, 8, 8, 8, 8, 8, 8, 8, 8, 8, 8, 8, 8, 8, 8, 8, 8, 8, 8, 8, 8, 8, 8, 8, 8, 8, 8, 8, 8, 8, 8, 8, 8, 8, 8, 8, 8, 8, 8, 8, 8, 8, 8, 8, 8, 8, 8, 8, 8, 8, 8, 8, 8, 8, 8, 8, 8, 8, 8, 8]), .t 21], none⟩,
  ⟨some 23, .op (.toInt .i64), [.t 22], none⟩,
  ⟨some 24, .op (.bin .add .prim), [.t 19, .t 23], none⟩,
  ⟨some 2, .op (.mov), [.t 24], none⟩]
abbrev c76 : IC := (IC.seq (IC.reg r76_0) (IC.seq (IC.seq (IC.reg r76_1) (IC.cond (.t 4) (IC.seq (IC.reg r76_2) (IC.reg r76_3)) IC.skip)) (IC.seq (IC.seq (IC.reg r76_4) (IC.cond (.t 8) (IC.seq (IC.reg r76_5) (IC.reg r76_6)) IC.skip)) (IC.seq (IC.seq (IC.reg r76_7) (IC.cond (.t 14) (IC.seq (IC.reg r76_8) (IC.reg r76_9)) IC.skip)) (IC.seq (IC.reg r76_10) IC.ret)))))
abbrev g76 : FC := ⟨c76, 25, [.t 2]⟩
theorem comp76 : compF Go.Proofs.Tryz.prog (fun _ => 0) 76 = some g76 := by kernel_rfl

-- slices.insertionSortOrdered[int]
abbrev r66_0 : List IOp := [⟨some 8, .op (.mov), [.t 1], none⟩,
  ⟨some 9, .op (.bin .add .prim), [.t 8, .c (.int .i64 1)], none⟩,
  ⟨some 6, .op (.mov), [.t 9], none⟩]
abbrev r66_1 : List IOp := [⟨some 10, .op (.mov), [.t 6], none⟩,
  ⟨some 11, .op (.mov), [.t 2], none⟩,
  ⟨some 12, .op (.bin .lss .prim), [.t 10, .t 11], none⟩]
abbrev r66_2 : List IOp := [⟨some 15, .op (.mov), [.t 6], none⟩,
  ⟨some 7, .op (.mov), [.t 15], none⟩]
abbrev r66_3 : List IOp := [⟨some 16, .op (.mov), [.t 7], none⟩,
  ⟨some 17, .op (.mov), [.t 1], none⟩,
  ⟨some 18, .op (.bin .gtr .prim), [.t 16, .t 17], none⟩,
  ⟨some 19, .op (.mov), [.t 18], none⟩,
  ⟨some 20, .op (.mov), [.t 0], some (19, true)⟩,
  ⟨some 21, .op (.mov), [.t 7], some (19, true)⟩,
  ⟨some 22, .op (.iaddr 1), [.t 20, .t 21], some (19, true)⟩,
  ⟨some 23, .op (.load none), [.t 22], some (19, true)⟩,
  ⟨some 24, .op (.mov), [.t 0], some (19, true)⟩,
  ⟨some 25, .op (.mov), [.t 7], some (19, true)⟩,
  ⟨some 26, .op (.bin .sub .prim), [.t 25, .c (.int .i64 1)], some (19, true)⟩,
  ⟨some 27, .op (.iaddr 1), [.t 24, .t 26], some (19, true)⟩,
  ⟨some 28, .op (.load none), [.t 27], some (19, true)⟩,
  ⟨some 29, .call none, [.f 72, .t 23, .t 28], some (19, true)⟩,
  ⟨some 30, .op (.pick), [.t 19, .t 29, .c (.bool false)], none⟩]
abbrev r66_4 : List IOp := [⟨some 33, .op (.mov), [.t 0], none⟩,
  ⟨some 34, .op (.mov), [.t 7], none⟩,
  ⟨some 35, .op (.mov), [.t 0], none⟩,
  ⟨some 36, .op (.mov), [.t 7], none⟩,
  ⟨some 37, .op (.bin .sub .prim), [.t 36, .c (.int .i64 1)], none⟩,
  ⟨some 38, .op (.mov), [.t 0], none⟩,
  ⟨some 39, .op (.mov), [.t 7], none⟩,
  ⟨some 40, .op (.bin .sub .prim), [.t 39, .c (.int .i64 1)], none⟩,
  ⟨some 41, .op (.iaddr 1), [.t 38, .t 40], none⟩,
  ⟨some 42, .op (.load none), [.t 41], none⟩,
  ⟨some 43, .op (.mov), [.t 0], none⟩,
  ⟨some 44, .op (.mov), [.t 7], none⟩,
  ⟨some 45, .op (.iaddr 1), [.t 43, .t 44], none⟩,
  ⟨some 46, .op (.load none), [.t 45], none⟩,
  ⟨some 47, .op (.iaddr 1), [.t 33, .t 34], none⟩,
  ⟨none, .op (.store 1), [.t 47, .t 42], none⟩,
  ⟨some 48, .op (.iaddr 1), [.t 35, .t 37], none⟩,
  ⟨none, .op (.store 1), [.t 48, .t 46], none⟩]
abbrev r66_5 : List IOp := [⟨some 31, .op (.mov), [.t 7], none⟩,
  ⟨some 32, .op (.bin .sub .prim), [.t 31, .c (.int .i64 1)], none⟩,
  ⟨some 7, .op (.mov), [.t 32], none⟩]
abbrev b66_0 : IC := (IC.seq (IC.seq (IC.regD .wild r66_3 (.take 0 (.take 1 (.take 2 (.take 3 (.take 4 (.take 5 (.take 6 (.take 7 (.take 8 (.take 9 (.take 10 (.take 11 (.take 12 (.take 13 (.take 14 (.done))))))))))))))))) (IC.cond (.t 30) IC.skip (IC.exit 2))) (IC.seq (IC.block 3 (IC.regD .wild r66_4 (.take 0 (.take 1 (.take 2 (.take 3 (.take 4 (.take 5 (.take 6 (.take 7 (.take 8 (.take 9 (.take 10 (.take 11 (.take 12 (.take 13 (.take 14 (.take 15 (.take 16 (.take 17 (.done))))))))))))))))))))) (IC.reg r66_5)))
abbrev r66_6 : List IOp := [⟨some 13, .op (.mov), [.t 6], none⟩,
  ⟨some 14, .op (.bin .add .prim), [.t 13, .c (.int .i64 1)], none⟩,
  ⟨some 6, .op (.mov), [.t 14], none⟩]
abbrev b66_1 : IC := (IC.seq (IC.seq (IC.reg r66_1) (IC.cond (.t 12) IC.skip (IC.exit 0))) (IC.seq (IC.block 1 (IC.seq (IC.reg r66_2) (IC.block 2 (IC.loop b66_0)))) (IC.reg r66_6)))
abbrev c66 : IC := (IC.seq (IC.reg r66_0) (IC.block 0 (IC.loop b66_1)))
abbrev g66 : FC := ⟨c66, 49, []⟩
theorem comp66 : compF Go.Proofs.Tryz.prog (hintL [(4, 6), (6, 6)]) 66 = some g66 := by kernel_rfl

-- cmp.Less[int]
abbrev r72_0 : List IOp := [⟨some 4, .op (.mov), [.c (.bool false)], none⟩]
abbrev r72_1 : List IOp := [⟨some 5, .op (.mov), [.t 0], none⟩,
  ⟨some 6, .call none, [.f 100, .t 5], none⟩,
  ⟨some 7, .op (.mov), [.t 6], none⟩,
  ⟨some 8, .op (.mov), [.t 1], some (7, true)⟩,
  ⟨some 9, .call none, [.f 100, .t 8], some (7, true)⟩,
  ⟨some 10, .op (.un .not), [.t 9], some (7, true)⟩,
  ⟨some 11, .op (.pick), [.t 7, .t 10, .c (.bool false)], none⟩,
  ⟨some 12, .op (.mov), [.t 11], none⟩,
  ⟨some 13, .op (.mov), [.t 0], some (12, false)⟩,
  ⟨some 14, .op (.mov), [.t 1], some (12, false)⟩,
  ⟨some 15, .op (.bin .lss .prim), [.t 13, .t 14], some (12, false)⟩,
  ⟨some 16, .op (.pick), [.t 12, .c (.bool true), .t 15], none⟩,
  ⟨some 4, .op (.mov), [.t 16], none⟩]
abbrev c72 : IC := (IC.seq (IC.reg r72_0) (IC.seq (IC.reg r72_1) IC.ret))
abbrev g72 : FC := ⟨c72, 17, [.t 4]⟩
theorem comp72 : compF Go.Proofs.Tryz.prog (fun _ => 0) 72 = some g72 := by kernel_rfl

-- bytes.shouldUseASCIISet
abbrev r79_0 : List IOp := [⟨some 2, .op (.mov), [.c (.bool false)], none⟩]
abbrev r79_1 : List IOp := [⟨some 3, .op (.mov), [.t 0], none⟩,
  ⟨some 4, .op (.bin .gtr .prim), [.t 3, .c (.int .i64 8)], none⟩,
  ⟨some 2, .op (.mov), [.t 4], none⟩]
abbrev c79 : IC := (IC.seq (IC.reg r79_0) (IC.seq (IC.reg r79_1) IC.ret))
abbrev g79 : FC := ⟨c79, 5, [.t 2]⟩
theorem comp79 : compF Go.Proofs.Tryz.prog (fun _ => 0) 79 = some g79 := by kernel_rfl

-- bytes.Count
abbrev r84_0 : List IOp := [⟨some 4, .op (.mov), [.c (.int .i64 0)], none⟩]
abbrev r84_1 : List IOp := [⟨some 7, .op (.mov), [.t 1], none⟩,
  ⟨some 8, .op (.len .slice), [.t 7], none⟩,
  ⟨some 9, .op (.bin .eql .prim), [.t 8, .c (.int .i64 0)], none⟩]
abbrev r84_2 : List IOp := [⟨some 10, .op (.mov), [.t 0], none⟩,
  ⟨some 11, .call none, [.f 107, .t 10], none⟩,
  ⟨some 12, .op (.bin .add .prim), [.t 11, .c (.int .i64 1)], none⟩,
  ⟨some 4, .op (.mov), [.t 12], none⟩]
abbrev r84_3 : List IOp := [⟨some 13, .op (.mov), [.t 1], none⟩,
  ⟨some 14, .op (.len .slice), [.t 13], none⟩,
  ⟨some 15, .op (.bin .eql .prim), [.t 14, .c (.int .i64 1)], none⟩]
abbrev r84_4 : List IOp := [⟨some 16, .op (.mov), [.t 0], none⟩,
  ⟨some 17, .op (.mov), [.t 1], none⟩,
  ⟨some 18, .op (.iaddr 1), [.t 17, .c (.int .i64 0)], none⟩,
  ⟨some 19, .op (.load none), [.t 18], none⟩,
  ⟨some 20, .call none, [.f 108, .t 16, .t 19], none⟩,
  ⟨some 4, .op (.mov), [.t 20], none⟩]
abbrev r84_5 : List IOp := [⟨some 5, .op (.mov), [.c (.int .i64 0)], none⟩]
abbrev r84_6 : List IOp := [⟨some 21, .op (.mov), [.t 0], none⟩,
  ⟨some 22, .op (.mov), [.t 1], none⟩,
  ⟨some 23, .call none, [.f 109, .t 21, .t 22], none⟩,
  ⟨some 6, .op (.mov), [.t 23], none⟩]
abbrev r84_7 : List IOp := [⟨some 24, .op (.mov), [.t 6], none⟩,
  ⟨some 25, .op (.bin .eql .prim), [.t 24, .c (.int .i64 (-1))], none⟩]
abbrev r84_8 : List IOp := [⟨some 26, .op (.mov), [.t 5], none⟩,
  ⟨some 4, .op (.mov), [.t 26], none⟩]
abbrev r84_9 : List IOp := [⟨some 27, .op (.mov), [.t 5], none⟩,
  ⟨some 28, .op (.bin .add .prim), [.t 27, .c (.int .i64 1)], none⟩,
  ⟨some 5, .op (.mov), [.t 28], none⟩]
abbrev r84_10 : List IOp := [⟨some 29, .op (.mov), [.t 0], none⟩,
  ⟨some 30, .op (.mov), [.t 6], none⟩,
  ⟨some 31, .op (.mov), [.t 1], none⟩,
  ⟨some 32, .op (.len .slice), [.t 31], none⟩,
  ⟨some 33, .op (.bin .add .prim), [.t 30, .t 32], none⟩,
  ⟨some 34, .op (.slice 1 true false false), [.t 29, .t 33], none⟩,
  ⟨some 0, .op (.mov), [.t 34], none⟩]
abbrev b84_0 : IC := (IC.block 1 (IC.seq (IC.reg r84_6) (IC.seq (IC.seq (IC.reg r84_7) (IC.cond (.t 25) (IC.seq (IC.reg r84_8) IC.ret) IC.skip)) (IC.seq (IC.reg r84_9) (IC.reg r84_10)))))
abbrev c84 : IC := (IC.seq (IC.reg r84_0) (IC.seq (IC.seq (IC.reg r84_1) (IC.cond (.t 9) (IC.seq (IC.reg r84_2) IC.ret) IC.skip)) (IC.seq (IC.seq (IC.reg r84_3) (IC.cond (.t 15) (IC.seq (IC.reg r84_4) IC.ret) IC.skip)) (IC.seq (IC.reg r84_5) (IC.block 0 (IC.loop b84_0))))))
abbrev g84 : FC := ⟨c84, 35, [.t 4]⟩
theorem comp84 : compF Go.Proofs.Tryz.prog (fun _ => 0) 84 = some g84 := by kernel_rfl

-- bytes.Repeat
abbrev r85_0 : List IOp := [⟨some 4, .op (.mov), [.c (.nils)], none⟩]
abbrev r85_1 : List IOp := [⟨some 12, .op (.mov), [.t 1], none⟩,
  ⟨some 13, .op (.bin .eql .prim), [.t 12, .c (.int .i64 0)], none⟩]
abbrev r85_2 : List IOp := [⟨some 14, .op (.bsl 5 1 false), [], none⟩,
  ⟨some 4, .op (.mov), [.t 14], none⟩]
abbrev r85_3 : List IOp := [⟨some 15, .op (.mov), [.t 1], none⟩,
  ⟨some 16, .op (.bin .lss .prim), [.t 15, .c (.int .i64 0)], none⟩]
abbrev r85_4 : List IOp := [⟨some 17, .op (.mkif 9), [.c (.str [98, 121, 116, 101, 115, 58, 32, 110, 101, 103, 97, 116, 105, 118, 101, 32, 82, 101, 112, 101, 97, 116, 32, 99, 111, 117, 110, 116])], none⟩,
  ⟨none, .op (.never), [], none⟩]
abbrev r85_5 : List IOp := [⟨some 19, .op (.mov), [.t 0], none⟩,
  ⟨some 20, .op (.len .slice), [.t 19], none⟩,
  ⟨some 21, .op (.toInt .u64), [.t 20], none⟩,
  ⟨some 22, .op (.mov), [.t 1], none⟩,
  ⟨some 23, .op (.toInt .u64), [.t 22], none⟩,
  ⟨some 24, .call none, [.f 110, .t 21, .t 23], none⟩,
  ⟨some 18, .op (.mov), [.t 24], none⟩,
  ⟨some 25, .op (.extract 0), [.t 18], none⟩,
  ⟨some 26, .op (.extract 1), [.t 18], none⟩,
  ⟨some 5, .op (.mov), [.t 25], none⟩,
  ⟨some 6, .op (.mov), [.t 26], none⟩]
abbrev r85_6 : List IOp := [⟨some 27, .op (.mov), [.t 5], none⟩,
  ⟨some 28, .op (.bin .gtr .prim), [.t 27, .c (.int .u64 0)], none⟩,
  ⟨some 29, .op (.mov), [.t 28], none⟩,
  ⟨some 30, .op (.mov), [.t 6], some (29, false)⟩,
  ⟨some 31, .op (.bin .gtr .prim), [.t 30, .c (.int .u64 9223372036854775807)], some (29, false)⟩,
  ⟨some 32, .op (.pick), [.t 29, .c (.bool true), .t 31], none⟩]
abbrev r85_7 : List IOp := [⟨some 33, .op (.mkif 9), [.c (.str [98, 121, 116, 101, 115, 58, 32, 82, 101, 112, 101, 97, 116, 32, 111, 117, 116, 112, 117, 116, 32, 108, 101, 110, 103, 116, 104, 32, 111, 118, 101, 114, 102, 108, 111, 119])], none⟩,
  ⟨none, .op (.never), [], none⟩]
abbrev r85_8 : List IOp := [⟨some 34, .op (.mov), [.t 6], none⟩,
  ⟨some 35, .op (.toInt .i64), [.t 34], none⟩,
  ⟨some 7, .op (.mov), [.t 35], none⟩]
abbrev r85_9 : List IOp := [⟨some 36, .op (.mov), [.t 0], none⟩,
  ⟨some 37, .op (.len .slice), [.t 36], none⟩,
  ⟨some 38, .op (.bin .eql .prim), [.t 37, .c (.int .i64 0)], none⟩]
abbrev r85_10 : List IOp := [⟨some 39, .op (.bsl 5 1 false), [], none⟩,
  ⟨some 4, .op (.mov), [.t 39], none⟩]
abbrev r85_11 : List IOp := [⟨some 40, .op (.mov), [.t 7], none⟩,
  ⟨some 8, .op (.mov), [.t 40], none⟩]
abbrev r85_12 : List IOp := [⟨some 41, .op (.mov), [.t 8], none⟩,
  ⟨some 42, .op (.bin .gtr .prim), [.t 41, .c (.int .i64 8192)], none⟩]
abbrev r85_13 : List IOp := [⟨some 43, .op (.mov), [.t 0], none⟩,
  ⟨some 44, .op (.len .slice), [.t 43], none⟩,
  ⟨some 45, .op (.bin .quo .prim), [.c (.int .i64 8192), .t 44], none⟩,
  ⟨some 46, .op (.mov), [.t 0], none⟩,
  ⟨some 47, .op (.len .slice), [.t 46], none⟩,
  ⟨some 48, .op (.bin .mul .prim), [.t 45, .t 47], none⟩,
  ⟨some 8, .op (.mov), [.t 48], none⟩]
abbrev r85_14 : List IOp := [⟨some 49, .op (.mov), [.t 8], none⟩,
  ⟨some 50, .op (.bin .eql .prim), [.t 49, .c (.int .i64 0)], none⟩]
abbrev r85_15 : List IOp := [⟨some 51, .op (.mov), [.t 0], none⟩,
  ⟨some 52, .op (.len .slice), [.t 51], none⟩,
  ⟨some 8, .op (.mov), [.t 52], none⟩]
abbrev r85_16 : List IOp := [⟨some 53, .op (.mov), [.t 7], none⟩,
  ⟨some 54, .call none, [.f 111, .t 53], none⟩,
  ⟨some 55, .op (.mov), [.t 7], none⟩,
  ⟨some 56, .op (.mov), [.t 7], none⟩,
  ⟨some 57, .op (.slice 1 false true true), [.t 54, .t 55, .t 56], none⟩,
  ⟨some 9, .op (.mov), [.t 57], none⟩]
abbrev r85_17 : List IOp := [⟨some 58, .op (.mov), [.t 9], none⟩,
  ⟨some 59, .op (.mov), [.t 0], none⟩,
  ⟨some 60, .op (.cpy 1), [.t 58, .t 59], none⟩,
  ⟨some 10, .op (.mov), [.t 60], none⟩]
abbrev r85_18 : List IOp := [⟨some 61, .op (.mov), [.t 10], none⟩,
  ⟨some 62, .op (.mov), [.t 7], none⟩,
  ⟨some 63, .op (.bin .lss .prim), [.t 61, .t 62], none⟩]
abbrev r85_19 : List IOp := [⟨some 64, .op (.mov), [.t 10], none⟩,
  ⟨some 65, .op (.mov), [.t 8], none⟩,
  ⟨some 66, .op (.min), [.t 64, .t 65], none⟩,
  ⟨some 11, .op (.mov), [.t 66], none⟩]
abbrev r85_20 : List IOp := [⟨some 67, .op (.mov), [.t 10], none⟩,
  ⟨some 68, .op (.mov), [.t 9], none⟩,
  ⟨some 69, .op (.mov), [.t 10], none⟩,
  ⟨some 70, .op (.slice 1 true false false), [.t 68, .t 69], none⟩,
  ⟨some 71, .op (.mov), [.t 9], none⟩,
  ⟨some 72, .op (.mov), [.t 11], none⟩,
  ⟨some 73, .op (.slice 1 false true false), [.t 71, .t 72], none⟩,
  ⟨some 74, .op (.cpy 1), [.t 70, .t 73], none⟩,
  ⟨some 75, .op (.bin .add .prim), [.t 67, .t 74], none⟩,
  ⟨some 10, .op (.mov), [.t 75], none⟩]
abbrev b85_0 : IC := (IC.seq (IC.seq (IC.reg r85_18) (IC.cond (.t 63) IC.skip (IC.exit 0))) (IC.block 1 (IC.seq (IC.reg r85_19) (IC.regD .wild r85_20 (.take 0 (.take 1 (.take 2 (.take 3 (.take 4 (.take 5 (.take 6 (.take 7 (.take 8 (.take 9 (.done)))))))))))))))
abbrev r85_21 : List IOp := [⟨some 76, .op (.mov), [.t 9], none⟩,
  ⟨some 4, .op (.mov), [.t 76], none⟩]
abbrev c85 : IC := (IC.seq (IC.reg r85_0) (IC.seq (IC.seq (IC.reg r85_1) (IC.cond (.t 13) (IC.seq (IC.reg r85_2) IC.ret) IC.skip)) (IC.seq (IC.seq (IC.reg r85_3) (IC.cond (.t 16) (IC.reg r85_4) IC.skip)) (IC.seq (IC.reg r85_5) (IC.seq (IC.seq (IC.reg r85_6) (IC.cond (.t 32) (IC.reg r85_7) IC.skip)) (IC.seq (IC.reg r85_8) (IC.seq (IC.seq (IC.reg r85_9) (IC.cond (.t 38) (IC.seq (IC.reg r85_10) IC.ret) IC.skip)) (IC.seq (IC.reg r85_11) (IC.seq (IC.seq (IC.reg r85_12) (IC.cond (.t 42) (IC.seq (IC.reg r85_13) (IC.seq (IC.reg r85_14) (IC.cond (.t 50) (IC.reg r85_15) IC.skip))) IC.skip)) (IC.seq (IC.reg r85_16) (IC.seq (IC.reg r85_17) (IC.seq (IC.block 0 (IC.loop b85_0)) (IC.seq (IC.reg r85_21) IC.ret)))))))))))))
abbrev g85 : FC := ⟨c85, 77, [.t 4]⟩
theorem comp85 : compF Go.Proofs.Tryz.prog (hintL [(20, 6)]) 85 = some g85 := by kernel_rfl

-- outlaw/dfa.classes$1
abbrev r86_0 : List IOp := [⟨some 2, .op (.mov), [.c (.int .u8 0)], none⟩]
abbrev r86_1 : List IOp := [⟨some 3, .op (.mov), [.t 0], none⟩,
  ⟨some 2, .op (.mov), [.t 3], none⟩]
abbrev c86 : IC := (IC.seq (IC.reg r86_0) (IC.seq (IC.reg r86_1) IC.ret))
abbrev g86 : FC := ⟨c86, 4, [.t 2]⟩
theorem comp86 : compF Go.Proofs.Tryz.prog (fun _ => 0) 86 = some g86 := by kernel_rfl

-- slices.Sort[[]byte,byte]
abbrev r88_0 : List IOp := [⟨some 3, .op (.mov), [.t 0], none⟩,
  ⟨some 4, .op (.len .slice), [.t 3], none⟩,
  ⟨some 2, .op (.mov), [.t 4], none⟩]
abbrev r88_1 : List IOp := [⟨some 5, .op (.mov), [.t 0], none⟩,
  ⟨some 6, .op (.mov), [.t 2], none⟩,
  ⟨some 7, .op (.mov), [.t 2], none⟩,
  ⟨some 8, .op (.toInt .u64), [.t 7], none⟩,
  ⟨some 9, .call none, [.f 53, .t 8], none⟩,
  ⟨some 10, .call none, [.f 112, .t 5, .c (.int .i64 0), .t 6, .t 9], none⟩]
abbrev c88 : IC := (IC.seq (IC.reg r88_0) (IC.reg r88_1))
abbrev g88 : FC := ⟨c88, 11, []⟩
theorem comp88 : compF Go.Proofs.Tryz.prog (fun _ => 0) 88 = some g88 := by kernel_rfl

-- slices.Compact[[]byte,byte]
abbrev r89_0 : List IOp := [⟨some 2, .op (.mov), [.c (.nils)], none⟩]
abbrev r89_1 : List IOp := [⟨some 6, .op (.mov), [.t 0], none⟩,
  ⟨some 7, .op (.len .slice), [.t 6], none⟩,
  ⟨some 8, .op (.bin .lss .prim), [.t 7, .c (.int .i64 2)], none⟩]
abbrev r89_2 : List IOp := [⟨some 9, .op (.mov), [.t 0], none⟩,
  ⟨some 2, .op (.mov), [.t 9], none⟩]
abbrev r89_3 : List IOp := [⟨some 3, .op (.mov), [.c (.int .i64 1)], none⟩]
abbrev r89_4 : List IOp := [⟨some 10, .op (.mov), [.t 3], none⟩,
  ⟨some 11, .op (.mov), [.t 0], none⟩,
  ⟨some 12, .op (.len .slice), [.t 11], none⟩,
  ⟨some 13, .op (.bin .lss .prim), [.t 10, .t 12], none⟩]
abbrev r89_5 : List IOp := [⟨some 16, .op (.mov), [.t 0], none⟩,
  ⟨some 17, .op (.mov), [.t 3], none⟩,
  ⟨some 18, .op (.iaddr 1), [.t 16, .t 17], none⟩,
  ⟨some 19, .op (.load none), [.t 18], none⟩,
  ⟨some 20, .op (.mov), [.t 0], none⟩,
  ⟨some 21, .op (.mov), [.t 3], none⟩,
  ⟨some 22, .op (.bin .sub .prim), [.t 21, .c (.int .i64 1)], none⟩,
  ⟨some 23, .op (.iaddr 1), [.t 20, .t 22], none⟩,
  ⟨some 24, .op (.load none), [.t 23], none⟩,
  ⟨some 25, .op (.bin .eql .prim), [.t 19, .t 24], none⟩]
abbrev r89_6 : List IOp := [⟨some 26, .op (.mov), [.t 0], none⟩,
  ⟨some 27, .op (.mov), [.t 3], none⟩,
  ⟨some 28, .op (.slice 1 true false false), [.t 26, .t 27], none⟩,
  ⟨some 4, .op (.mov), [.t 28], none⟩]
abbrev r89_7 : List IOp := [⟨some 5, .op (.mov), [.c (.int .i64 1)], none⟩]
abbrev r89_8 : List IOp := [⟨some 29, .op (.mov), [.t 5], none⟩,
  ⟨some 30, .op (.mov), [.t 4], none⟩,
  ⟨some 31, .op (.len .slice), [.t 30], none⟩,
  ⟨some 32, .op (.bin .lss .prim), [.t 29, .t 31], none⟩]
abbrev r89_9 : List IOp := [⟨some 35, .op (.mov), [.t 4], none⟩,
  ⟨some 36, .op (.mov), [.t 5], none⟩,
  ⟨some 37, .op (.iaddr 1), [.t 35, .t 36], none⟩,
  ⟨some 38, .op (.load none), [.t 37], none⟩,
  ⟨some 39, .op (.mov), [.t 4], none⟩,
  ⟨some 40, .op (.mov), [.t 5], none⟩,
  ⟨some 41, .op (.bin .sub .prim), [.t 40, .c (.int .i64 1)], none⟩,
  ⟨some 42, .op (.iaddr 1), [.t 39, .t 41], none⟩,
  ⟨some 43, .op (.load none), [.t 42], none⟩,
  ⟨some 44, .op (.bin .neq .prim), [.t 38, .t 43], none⟩]
abbrev r89_10 : List IOp := [⟨some 45, .op (.mov), [.t 0], none⟩,
  ⟨some 46, .op (.mov), [.t 3], none⟩,
  ⟨some 47, .op (.mov), [.t 4], none⟩,
  ⟨some 48, .op (.mov), [.t 5], none⟩,
  ⟨some 49, .op (.iaddr 1), [.t 47, .t 48], none⟩,
  ⟨some 50, .op (.load none), [.t 49], none⟩,
  ⟨some 51, .op (.iaddr 1), [.t 45, .t 46], none⟩,
  ⟨none, .op (.store 1), [.t 51, .t 50], none⟩]
abbrev r89_11 : List IOp := [⟨some 52, .op (.mov), [.t 3], none⟩,
  ⟨some 53, .op (.bin .add .prim), [.t 52, .c (.int .i64 1)], none⟩,
  ⟨some 3, .op (.mov), [.t 53], none⟩]
abbrev r89_12 : List IOp := [⟨some 33, .op (.mov), [.t 5], none⟩,
  ⟨some 34, .op (.bin .add .prim), [.t 33, .c (.int .i64 1)], none⟩,
  ⟨some 5, .op (.mov), [.t 34], none⟩]
abbrev b89_0 : IC := (IC.seq (IC.seq (IC.reg r89_8) (IC.cond (.t 32) IC.skip (IC.exit 2))) (IC.seq (IC.block 3 (IC.seq (IC.regD .wild r89_9 (.take 0 (.take 1 (.take 2 (.take 3 (.take 4 (.take 5 (.take 6 (.take 7 (.take 8 (.take 9 (.done)))))))))))) (IC.cond (.t 44) (IC.seq (IC.reg r89_10) (IC.reg r89_11)) IC.skip))) (IC.reg r89_12)))
abbrev r89_13 : List IOp := [⟨some 54, .op (.mov), [.t 0], none⟩,
  ⟨some 55, .op (.mov), [.t 3], none⟩,
  ⟨some 56, .op (.slice 1 true false false), [.t 54, .t 55], none⟩,
  ⟨none, .op (.clear [.int .u8 0]), [.t 56], none⟩]
abbrev r89_14 : List IOp := [⟨some 57, .op (.mov), [.t 0], none⟩,
  ⟨some 58, .op (.mov), [.t 3], none⟩,
  ⟨some 59, .op (.slice 1 false true false), [.t 57, .t 58], none⟩,
  ⟨some 2, .op (.mov), [.t 59], none⟩]
abbrev r89_15 : List IOp := [⟨some 14, .op (.mov), [.t 3], none⟩,
  ⟨some 15, .op (.bin .add .prim), [.t 14, .c (.int .i64 1)], none⟩,
  ⟨some 3, .op (.mov), [.t 15], none⟩]
abbrev b89_1 : IC := (IC.seq (IC.seq (IC.reg r89_4) (IC.cond (.t 13) IC.skip (IC.exit 0))) (IC.seq (IC.block 1 (IC.seq (IC.regD .wild r89_5 (.take 0 (.take 1 (.take 2 (.take 3 (.take 4 (.take 5 (.take 6 (.take 7 (.take 8 (.take 9 (.done)))))))))))) (IC.cond (.t 25) (IC.seq (IC.reg r89_6) (IC.seq (IC.seq (IC.reg r89_7) (IC.block 2 (IC.loop b89_0))) (IC.seq (IC.reg r89_13) (IC.seq (IC.reg r89_14) IC.ret)))) IC.skip))) (IC.reg r89_15)))
abbrev r89_16 : List IOp := [⟨some 60, .op (.mov), [.t 0], none⟩,
  ⟨some 2, .op (.mov), [.t 60], none⟩]
abbrev c89 : IC := (IC.seq (IC.reg r89_0) (IC.seq (IC.seq (IC.reg r89_1) (IC.cond (.t 8) (IC.seq (IC.reg r89_2) IC.ret) IC.skip)) (IC.seq (IC.seq (IC.reg r89_3) (IC.block 0 (IC.loop b89_1))) (IC.seq (IC.reg r89_16) IC.ret))))
abbrev g89 : FC := ⟨c89, 61, [.t 2]⟩
theorem comp89 : compF Go.Proofs.Tryz.prog (hintL [(6, 6), (11, 6)]) 89 = some g89 := by kernel_rfl

-- slices.BinarySearch[[]byte,byte]
abbrev r90_0 : List IOp := [⟨some 4, .op (.mov), [.c (.int .i64 0)], none⟩,
  ⟨some 5, .op (.mov), [.c (.bool false)], none⟩]
abbrev r90_1 : List IOp := [⟨some 10, .op (.mov), [.t 0], none⟩,
  ⟨some 11, .op (.len .slice), [.t 10], none⟩,
  ⟨some 6, .op (.mov), [.t 11], none⟩]
abbrev r90_2 : List IOp := [⟨some 12, .op (.mov), [.t 6], none⟩,
  ⟨some 7, .op (.mov), [.c (.int .i64 0)], none⟩,
  ⟨some 8, .op (.mov), [.t 12], none⟩]
abbrev r90_3 : List IOp := [⟨some 13, .op (.mov), [.t 7], none⟩,
  ⟨some 14, .op (.mov), [.t 8], none⟩,
  ⟨some 15, .op (.bin .lss .prim), [.t 13, .t 14], none⟩]
abbrev r90_4 : List IOp := [⟨some 16, .op (.mov), [.t 7], none⟩,
  ⟨some 17, .op (.mov), [.t 8], none⟩,
  ⟨some 18, .op (.bin .add .prim), [.t 16, .t 17], none⟩,
  ⟨some 19, .op (.toInt .u64), [.t 18], none⟩,
  ⟨some 20, .op (.bin .shr .prim), [.t 19, .c (.int .u64 1)], none⟩,
  ⟨some 21, .op (.toInt .i64), [.t 20], none⟩,
  ⟨some 9, .op (.mov), [.t 21], none⟩]
abbrev r90_5 : List IOp := [⟨some 22, .op (.mov), [.t 0], none⟩,
  ⟨some 23, .op (.mov), [.t 9], none⟩,
  ⟨some 24, .op (.iaddr 1), [.t 22, .t 23], none⟩,
  ⟨some 25, .op (.load none), [.t 24], none⟩,
  ⟨some 26, .op (.mov), [.t 1], none⟩,
  ⟨some 27, .call none, [.f 113, .t 25, .t 26], none⟩]
abbrev r90_6 : List IOp := [⟨some 28, .op (.mov), [.t 9], none⟩,
  ⟨some 29, .op (.bin .add .prim), [.t 28, .c (.int .i64 1)], none⟩,
  ⟨some 7, .op (.mov), [.t 29], none⟩]
abbrev r90_7 : List IOp := [⟨some 30, .op (.mov), [.t 9], none⟩,
  ⟨some 8, .op (.mov), [.t 30], none⟩]
abbrev b90_0 : IC := (IC.seq (IC.seq (IC.reg r90_3) (IC.cond (.t 15) IC.skip (IC.exit 0))) (IC.block 1 (IC.seq (IC.reg r90_4) (IC.seq (IC.reg r90_5) (IC.cond (.t 27) (IC.reg r90_6) (IC.reg r90_7))))))
abbrev r90_8 : List IOp := [⟨some 31, .op (.mov), [.t 7], none⟩,
  ⟨some 32, .op (.mov), [.t 7], none⟩,
  ⟨some 33, .op (.mov), [.t 6], none⟩,
  ⟨some 34, .op (.bin .lss .prim), [.t 32, .t 33], none⟩,
  ⟨some 35, .op (.mov), [.t 34], none⟩,
  ⟨some 36, .op (.mov), [.t 0], some (35, true)⟩,
  ⟨some 37, .op (.mov), [.t 7], some (35, true)⟩,
  ⟨some 38, .op (.iaddr 1), [.t 36, .t 37], some (35, true)⟩,
  ⟨some 39, .op (.load none), [.t 38], some (35, true)⟩,
  ⟨some 40, .op (.mov), [.t 1], some (35, true)⟩,
  ⟨some 41, .op (.bin .eql .prim), [.t 39, .t 40], some (35, true)⟩,
  ⟨some 42, .op (.mov), [.t 41], some (35, true)⟩,
  ⟨some 43, .op (.mov), [.t 0], some (42, false)⟩,
  ⟨some 44, .op (.mov), [.t 7], some (42, false)⟩,
  ⟨some 45, .op (.iaddr 1), [.t 43, .t 44], some (42, false)⟩,
  ⟨some 46, .op (.load none), [.t 45], some (42, false)⟩,
  ⟨some 47, .call none, [.f 114, .t 46], some (42, false)⟩,
  ⟨some 48, .op (.mov), [.t 47], some (42, false)⟩,
  ⟨some 49, .op (.mov), [.t 1], some (48, true)⟩,
  ⟨some 50, .call none, [.f 114, .t 49], some (48, true)⟩,
  ⟨some 51, .op (.pick), [.t 48, .t 50, .c (.bool false)], some (42, false)⟩,
  ⟨some 52, .op (.pick), [.t 42, .c (.bool true), .t 51], some (35, true)⟩,
  ⟨some 53, .op (.pick), [.t 35, .t 52, .c (.bool false)], none⟩,
  ⟨some 4, .op (.mov), [.t 31], none⟩,
  ⟨some 5, .op (.mov), [.t 53], none⟩]
abbrev c90 : IC := (IC.seq (IC.reg r90_0) (IC.seq (IC.reg r90_1) (IC.seq (IC.reg r90_2) (IC.seq (IC.block 0 (IC.loop b90_0)) (IC.seq (IC.reg r90_8) IC.ret)))))
abbrev g90 : FC := ⟨c90, 54, [.t 4, .t 5]⟩
theorem comp90 : compF Go.Proofs.Tryz.prog (fun _ => 0) 90 = some g90 := by kernel_rfl

-- outlaw/dfa.key
abbrev r61_0 : List IOp := [⟨some 2, .op (.mov), [.c (.str [])], none⟩]
abbrev r61_1 : List IOp := [⟨some 3, .op (.mov), [.c (.nils)], none⟩]
abbrev r61_2 : List IOp := [⟨some 6, .op (.mov), [.t 0], none⟩,
  ⟨some 7, .op (.len .slice), [.t 6], none⟩,
  ⟨some 8, .op (.mov), [.c (.int .i64 0)], none⟩]
abbrev r61_3 : List IOp := [⟨some 9, .op (.bin .lss .prim), [.t 8, .t 7], none⟩]
abbrev r61_4 : List IOp := [⟨some 10, .op (.iaddr 1), [.t 6, .t 8], none⟩,
  ⟨some 11, .op (.load none), [.t 10], none⟩,
  ⟨some 5, .op (.mov), [.t 11], none⟩]
abbrev r61_5 : List IOp := [⟨some 12, .op (.mov), [.t 3], none⟩,
  ⟨some 13, .op (.mov), [.t 5], none⟩,
  ⟨some 14, .op (.toInt .u8), [.t 13], none⟩,
  ⟨some 15, .op (.bsl 5 1 false), [.t 14], none⟩,
  ⟨some 16, .op (.app 5 1 1), [.t 12, .t 15], none⟩,
  ⟨some 3, .op (.mov), [.t 16], none⟩]
abbrev r61_6 : List IOp := [⟨some 17, .op (.bin .add .prim), [.t 8, .c (.int .i64 1)], none⟩,
  ⟨some 8, .op (.mov), [.t 17], none⟩]
abbrev b61_0 : IC := (IC.seq (IC.reg r61_3) (IC.seq (IC.cond (.t 9) IC.skip (IC.exit 0)) (IC.seq (IC.block 1 (IC.seq (IC.reg r61_4) (IC.reg r61_5))) (IC.reg r61_6))))
abbrev r61_7 : List IOp := [⟨some 18, .op (.mov), [.t 3], none⟩,
  ⟨some 19, .op (.b2s), [.t 18], none⟩,
  ⟨some 2, .op (.mov), [.t 19], none⟩]
abbrev c61 : IC := (IC.seq (IC.reg r61_0) (IC.seq (IC.reg r61_1) (IC.seq (IC.seq (IC.reg r61_2) (IC.block 0 (IC.loop b61_0))) (IC.seq (IC.reg r61_7) IC.ret))))
abbrev g61 : FC := ⟨c61, 20, [.t 2]⟩
theorem comp61 : compF Go.Proofs.Tryz.prog (fun _ => 0) 61 = some g61 := by kernel_rfl

-- (*outlaw/nfa.Nfa).start
abbrev r91_0 : List IOp := [⟨some 2, .op (.mov), [.c (.nils)], none⟩]
abbrev r91_1 : List IOp := [⟨some 4, .op (.mov), [.t 0], none⟩,
  ⟨some 5, .call none, [.f 115, .t 4], none⟩,
  ⟨some 6, .op (.make 4 [.bool false] 1), [.t 5, .t 5], none⟩,
  ⟨some 3, .op (.mov), [.t 6], none⟩]
abbrev r91_2 : List IOp := [⟨some 7, .op (.mov), [.t 3], none⟩,
  ⟨some 8, .op (.len .slice), [.t 7], none⟩,
  ⟨some 9, .op (.bin .gtr .prim), [.t 8, .c (.int .i64 0)], none⟩]
abbrev r91_3 : List IOp := [⟨some 10, .op (.mov), [.t 0], none⟩,
  ⟨some 11, .op (.mov), [.t 3], none⟩,
  ⟨some 12, .call none, [.f 116, .t 10, .t 11, .c (.int .i64 0)], none⟩]
abbrev r91_4 : List IOp := [⟨some 13, .op (.mov), [.t 3], none⟩,
  ⟨some 2, .op (.mov), [.t 13], none⟩]
abbrev c91 : IC := (IC.seq (IC.reg r91_0) (IC.seq (IC.reg r91_1) (IC.seq (IC.seq (IC.reg r91_2) (IC.cond (.t 9) (IC.reg r91_3) IC.skip)) (IC.seq (IC.reg r91_4) IC.ret))))
abbrev g91 : FC := ⟨c91, 14, [.t 2]⟩
theorem comp91 : compF Go.Proofs.Tryz.prog (fun _ => 0) 91 = some g91 := by kernel_rfl

-- (outlaw/nfa.row).list
abbrev r92_0 : List IOp := [⟨some 2, .op (.mov), [.c (.nils)], none⟩]
abbrev r92_1 : List IOp := [⟨some 3, .op (.alloc 28 [.nils]), [], none⟩]
abbrev r92_2 : List IOp := [⟨some 5, .op (.mov), [.t 0], none⟩,
  ⟨some 6, .call none, [.f 117, .t 5], none⟩]
abbrev r92_3 : List IOp := [⟨some 12, .op (.load none), [.t 3], none⟩,
  ⟨some 2, .op (.mov), [.t 12], none⟩]
abbrev r92_4 : List IOp := [⟨some 4, .op (.mov), [.t 7], none⟩]
abbrev r92_5 : List IOp := [⟨some 8, .op (.load none), [.t 3], none⟩,
  ⟨some 9, .op (.mov), [.t 4], none⟩,
  ⟨some 10, .op (.bsl 3 1 false), [.t 9], none⟩,
  ⟨some 11, .op (.app 3 1 8), [.t 8, .t 10], none⟩,
  ⟨none, .op (.store 1), [.t 3, .t 11], none⟩]
abbrev c92 : IC := (IC.seq (IC.reg r92_0) (IC.seq (IC.reg r92_1) (IC.seq (IC.seq (IC.reg r92_2) (IC.block 0 (IC.rangeF 92000 13 (.t 6)))) (IC.seq (IC.reg r92_3) IC.ret))))
abbrev g92 : FC := ⟨c92, 13, [.t 2]⟩
theorem comp92 : compF Go.Proofs.Tryz.prog (hintL [(1000003, 92000), (2000003, 13)]) 92 = some g92 := by kernel_rfl
abbrev li92000 : LI := ⟨13, [7], (IC.reg r92_4), (IC.block 1 (IC.reg r92_5))⟩
theorem keys92 : KeysF Go.Proofs.Tryz.prog (hintL [(1000003, 92000), (2000003, 13)]) 92 := keysF_of (by kernel_rfl)
theorem lok92000 : LOk Go.Proofs.Tryz.prog 92000 li92000 := ⟨hintL [(1000003, 92000), (2000003, 13)], by kernel_rfl, by kernel_rfl, by kernel_rfl, by kernel_rfl, by decide⟩

-- (*outlaw/nfa.Nfa).of
abbrev r94_0 : List IOp := [⟨some 4, .op (.mov), [.c (.nils)], none⟩]
abbrev r94_1 : List IOp := [⟨some 8, .op (.mov), [.t 0], none⟩,
  ⟨some 9, .call none, [.f 115, .t 8], none⟩,
  ⟨some 10, .op (.make 4 [.bool false] 1), [.t 9, .t 9], none⟩,
  ⟨some 5, .op (.mov), [.t 10], none⟩]
abbrev r94_2 : List IOp := [⟨some 11, .op (.mov), [.t 1], none⟩,
  ⟨some 12, .op (.len .slice), [.t 11], none⟩,
  ⟨some 13, .op (.mov), [.c (.int .i64 0)], none⟩]
abbrev r94_3 : List IOp := [⟨some 14, .op (.bin .lss .prim), [.t 13, .t 12], none⟩]
abbrev r94_4 : List IOp := [⟨some 15, .op (.iaddr 1), [.t 11, .t 13], none⟩,
  ⟨some 16, .op (.load none), [.t 15], none⟩,
  ⟨some 7, .op (.mov), [.t 16], none⟩]
abbrev r94_5 : List IOp := [⟨some 17, .op (.mov), [.t 7], none⟩,
  ⟨some 18, .op (.bin .geq .prim), [.t 17, .c (.int .i64 0)], none⟩,
  ⟨some 19, .op (.mov), [.t 18], none⟩,
  ⟨some 20, .op (.mov), [.t 7], some (19, true)⟩,
  ⟨some 21, .op (.mov), [.t 5], some (19, true)⟩,
  ⟨some 22, .op (.len .slice), [.t 21], some (19, true)⟩,
  ⟨some 23, .op (.bin .lss .prim), [.t 20, .t 22], some (19, true)⟩,
  ⟨some 24, .op (.pick), [.t 19, .t 23, .c (.bool false)], none⟩]
abbrev r94_6 : List IOp := [⟨some 25, .op (.mov), [.t 5], none⟩,
  ⟨some 26, .op (.mov), [.t 7], none⟩,
  ⟨some 27, .op (.iaddr 1), [.t 25, .t 26], none⟩,
  ⟨none, .op (.store 1), [.t 27, .c (.bool true)], none⟩]
abbrev r94_7 : List IOp := [⟨some 28, .op (.bin .add .prim), [.t 13, .c (.int .i64 1)], none⟩,
  ⟨some 13, .op (.mov), [.t 28], none⟩]
abbrev b94_0 : IC := (IC.seq (IC.reg r94_3) (IC.seq (IC.cond (.t 14) IC.skip (IC.exit 0)) (IC.seq (IC.block 1 (IC.seq (IC.reg r94_4) (IC.seq (IC.reg r94_5) (IC.cond (.t 24) (IC.reg r94_6) IC.skip)))) (IC.reg r94_7))))
abbrev r94_8 : List IOp := [⟨some 29, .op (.mov), [.t 5], none⟩,
  ⟨some 4, .op (.mov), [.t 29], none⟩]
abbrev c94 : IC := (IC.seq (IC.reg r94_0) (IC.seq (IC.reg r94_1) (IC.seq (IC.seq (IC.reg r94_2) (IC.block 0 (IC.loop b94_0))) (IC.seq (IC.reg r94_8) IC.ret))))
abbrev g94 : FC := ⟨c94, 30, [.t 4]⟩
theorem comp94 : compF Go.Proofs.Tryz.prog (fun _ => 0) 94 = some g94 := by kernel_rfl

-- (*outlaw/nfa.Nfa).step
abbrev r93_0 : List IOp := [⟨some 3, .op (.box 84), [.t 0], none⟩,
  ⟨some 5, .op (.box 5), [.t 2], none⟩,
  ⟨some 6, .op (.mov), [.c (.nils)], none⟩]
abbrev r93_1 : List IOp := [⟨some 10, .op (.mov), [.t 1], none⟩,
  ⟨some 11, .op (.len .slice), [.t 10], none⟩,
  ⟨some 12, .op (.make 4 [.bool false] 1), [.t 11, .t 11], none⟩,
  ⟨some 7, .op (.alloc 150 [.nils]), [], none⟩,
  ⟨none, .op (.store 1), [.t 7, .t 12], none⟩]
abbrev r93_2 : List IOp := [⟨some 13, .op (.mov), [.t 1], none⟩,
  ⟨some 14, .call none, [.f 117, .t 13], none⟩]
abbrev r93_3 : List IOp := [⟨some 62, .op (.load none), [.t 7], none⟩,
  ⟨some 6, .op (.mov), [.t 62], none⟩]
abbrev r93_4 : List IOp := [⟨some 8, .op (.mov), [.t 15], none⟩]
abbrev r93_5 : List IOp := [⟨some 16, .op (.mov), [.t 8], none⟩,
  ⟨some 17, .op (.load none), [.t 3], none⟩,
  ⟨some 18, .op (.nilchk), [.t 17], none⟩,
  ⟨some 19, .op (.faddr 0), [.t 18], none⟩,
  ⟨some 20, .op (.load none), [.t 19], none⟩,
  ⟨some 21, .op (.len .str), [.t 20], none⟩,
  ⟨some 22, .op (.bin .eql .prim), [.t 16, .t 21], none⟩]
abbrev r93_6 : List IOp := [⟨some 23, .op (.load none), [.t 3], none⟩,
  ⟨some 24, .op (.nilchk), [.t 23], none⟩,
  ⟨some 25, .op (.faddr 0), [.t 24], none⟩,
  ⟨some 26, .op (.load none), [.t 25], none⟩,
  ⟨some 27, .op (.mov), [.t 8], none⟩,
  ⟨some 28, .op (.idxs), [.t 26, .t 27], none⟩,
  ⟨some 9, .op (.mov), [.t 28], none⟩]
abbrev r93_7 : List IOp := [⟨some 30, .op (.mov), [.t 9], none⟩,
  ⟨some 31, .op (.bin .eql .prim), [.t 30, .c (.int .u8 42)], none⟩,
  ⟨some 29, .op (.mov), [.t 31], none⟩]
abbrev r93_8 : List IOp := [⟨some 32, .op (.load none), [.t 3], none⟩,
  ⟨some 33, .op (.load none), [.t 7], none⟩,
  ⟨some 34, .op (.mov), [.t 8], none⟩,
  ⟨some 35, .call none, [.f 116, .t 32, .t 33, .t 34], none⟩]
abbrev r93_9 : List IOp := [⟨some 37, .op (.mov), [.t 9], none⟩,
  ⟨some 38, .op (.bin .eql .prim), [.t 37, .c (.int .u8 63)], none⟩,
  ⟨some 36, .op (.mov), [.t 38], none⟩]
abbrev r93_10 : List IOp := [⟨some 39, .op (.mov), [.t 9], none⟩,
  ⟨some 40, .op (.load none), [.t 5], none⟩,
  ⟨some 41, .op (.bin .eql .prim), [.t 39, .t 40], none⟩,
  ⟨some 36, .op (.mov), [.t 41], none⟩]
abbrev r93_11 : List IOp := [⟨some 42, .op (.load none), [.t 3], none⟩,
  ⟨some 43, .op (.nilchk), [.t 42], none⟩,
  ⟨some 44, .op (.faddr 1), [.t 43], none⟩,
  ⟨some 45, .op (.load none), [.t 44], none⟩,
  ⟨some 46, .op (.mov), [.t 45], none⟩,
  ⟨some 47, .op (.mov), [.t 9], some (46, true)⟩,
  ⟨some 48, .op (.bsl 5 1 true), [.t 47], some (46, true)⟩,
  ⟨some 49, .op (.b2s), [.t 48], some (46, true)⟩,
  ⟨some 50, .call none, [.f 33, .t 49], some (46, true)⟩,
  ⟨some 51, .op (.load none), [.t 5], some (46, true)⟩,
  ⟨some 52, .op (.bsl 5 1 true), [.t 51], some (46, true)⟩,
  ⟨some 53, .op (.b2s), [.t 52], some (46, true)⟩,
  ⟨some 54, .call none, [.f 33, .t 53], some (46, true)⟩,
  ⟨some 55, .op (.bin .eql .prim), [.t 50, .t 54], some (46, true)⟩,
  ⟨some 56, .op (.pick), [.t 46, .t 55, .c (.bool false)], none⟩,
  ⟨some 36, .op (.mov), [.t 56], none⟩]
abbrev r93_12 : List IOp := [⟨some 57, .op (.load none), [.t 3], none⟩,
  ⟨some 58, .op (.load none), [.t 7], none⟩,
  ⟨some 59, .op (.mov), [.t 8], none⟩,
  ⟨some 60, .op (.bin .add .prim), [.t 59, .c (.int .i64 1)], none⟩,
  ⟨some 61, .call none, [.f 116, .t 57, .t 58, .t 60], none⟩]
abbrev c93 : IC := (IC.seq (IC.reg r93_0) (IC.seq (IC.reg r93_1) (IC.seq (IC.seq (IC.reg r93_2) (IC.block 0 (IC.rangeF 93000 63 (.t 14)))) (IC.seq (IC.reg r93_3) IC.ret))))
abbrev g93 : FC := ⟨c93, 63, [.t 6]⟩
theorem comp93 : compF Go.Proofs.Tryz.prog (hintL [(10, 3), (1000003, 93000), (2000003, 63)]) 93 = some g93 := by kernel_rfl
abbrev li93000 : LI := ⟨63, [15], (IC.reg r93_4), (IC.block 1 (IC.seq (IC.seq (IC.reg r93_5) (IC.cond (.t 22) (IC.exit 0) IC.skip)) (IC.seq (IC.reg r93_6) (IC.block 2 (IC.seq (IC.reg r93_7) (IC.cond (.t 29) (IC.reg r93_8) (IC.seq (IC.seq (IC.reg r93_9) (IC.cond (.t 36) IC.skip (IC.seq (IC.reg r93_10) (IC.cond (.t 36) IC.skip (IC.regD .alloc r93_11 (.take 0 (.take 1 (.take 2 (.take 3 (.take 4 (.take 5 (.take 6 (.take 7 (.take 9 (.take 10 (.take 11 (.take 8 (.take 12 (.take 13 (.take 14 (.take 15 (.done)))))))))))))))))))))) (IC.cond (.t 36) (IC.reg r93_12) IC.skip))))))))⟩
theorem keys93 : KeysF Go.Proofs.Tryz.prog (hintL [(10, 3), (1000003, 93000), (2000003, 63)]) 93 := keysF_of (by kernel_rfl)
theorem lok93000 : LOk Go.Proofs.Tryz.prog 93000 li93000 := ⟨hintL [(10, 3), (1000003, 93000), (2000003, 63)], by kernel_rfl, by kernel_rfl, by kernel_rfl, by kernel_rfl, by decide⟩

-- cmp.isNaN[int]
abbrev r100_0 : List IOp := [⟨some 2, .op (.mov), [.c (.bool false)], none⟩]
abbrev r100_1 : List IOp := [⟨some 3, .op (.mov), [.t 0], none⟩,
  ⟨some 4, .op (.mov), [.t 0], none⟩,
  ⟨some 5, .op (.bin .neq .prim), [.t 3, .t 4], none⟩,
  ⟨some 2, .op (.mov), [.t 5], none⟩]
abbrev c100 : IC := (IC.seq (IC.reg r100_0) (IC.seq (IC.reg r100_1) IC.ret))
abbrev g100 : FC := ⟨c100, 6, [.t 2]⟩
theorem comp100 : compF Go.Proofs.Tryz.prog (fun _ => 0) 100 = some g100 := by kernel_rfl

-- slices.pdqsortOrdered[byte]
abbrev r112_0 : List IOp := [⟨some 8, .op (.mov), [.c (.bool true)], none⟩]
abbrev r112_1 : List IOp := [⟨some 9, .op (.mov), [.c (.bool true)], none⟩]
abbrev r112_2 : List IOp := [⟨some 19, .op (.mov), [.t 2], none⟩,
  ⟨some 20, .op (.mov), [.t 1], none⟩,
  ⟨some 21, .op (.bin .sub .prim), [.t 19, .t 20], none⟩,
  ⟨some 10, .op (.mov), [.t 21], none⟩]
abbrev r112_3 : List IOp := [⟨some 22, .op (.mov), [.t 10], none⟩,
  ⟨some 23, .op (.bin .leq .prim), [.t 22, .c (.int .i64 12)], none⟩]
abbrev r112_4 : List IOp := [⟨some 24, .op (.mov), [.t 0], none⟩,
  ⟨some 25, .op (.mov), [.t 1], none⟩,
  ⟨some 26, .op (.mov), [.t 2], none⟩,
  ⟨some 27, .call none, [.f 126, .t 24, .t 25, .t 26], none⟩]
abbrev r112_5 : List IOp := [⟨some 28, .op (.mov), [.t 3], none⟩,
  ⟨some 29, .op (.bin .eql .prim), [.t 28, .c (.int .i64 0)], none⟩]
abbrev r112_6 : List IOp := [⟨some 30, .op (.mov), [.t 0], none⟩,
  ⟨some 31, .op (.mov), [.t 1], none⟩,
  ⟨some 32, .op (.mov), [.t 2], none⟩,
  ⟨some 33, .call none, [.f 127, .t 30, .t 31, .t 32], none⟩]
abbrev r112_7 : List IOp := [⟨some 34, .op (.mov), [.t 8], none⟩,
  ⟨some 35, .op (.un .not), [.t 34], none⟩]
abbrev r112_8 : List IOp := [⟨some 36, .op (.mov), [.t 0], none⟩,
  ⟨some 37, .op (.mov), [.t 1], none⟩,
  ⟨some 38, .op (.mov), [.t 2], none⟩,
  ⟨some 39, .call none, [.f 128, .t 36, .t 37, .t 38], none⟩]
abbrev r112_9 : List IOp := [⟨some 40, .op (.mov), [.t 3], none⟩,
  ⟨some 41, .op (.bin .sub .prim), [.t 40, .c (.int .i64 1)], none⟩,
  ⟨some 3, .op (.mov), [.t 41], none⟩]
abbrev r112_10 : List IOp := [⟨some 43, .op (.mov), [.t 0], none⟩,
  ⟨some 44, .op (.mov), [.t 1], none⟩,
  ⟨some 45, .op (.mov), [.t 2], none⟩,
  ⟨some 46, .call none, [.f 129, .t 43, .t 44, .t 45], none⟩,
  ⟨some 42, .op (.mov), [.t 46], none⟩,
  ⟨some 47, .op (.extract 0), [.t 42], none⟩,
  ⟨some 48, .op (.extract 1), [.t 42], none⟩,
  ⟨some 11, .op (.mov), [.t 47], none⟩,
  ⟨some 12, .op (.mov), [.t 48], none⟩]
abbrev r112_11 : List IOp := [⟨some 49, .op (.mov), [.t 12], none⟩,
  ⟨some 50, .op (.bin .eql .prim), [.t 49, .c (.int .i64 2)], none⟩]
abbrev r112_12 : List IOp := [⟨some 51, .op (.mov), [.t 0], none⟩,
  ⟨some 52, .op (.mov), [.t 1], none⟩,
  ⟨some 53, .op (.mov), [.t 2], none⟩,
  ⟨some 54, .call none, [.f 130, .t 51, .t 52, .t 53], none⟩]
abbrev r112_13 : List IOp := [⟨some 55, .op (.mov), [.t 2], none⟩,
  ⟨some 56, .op (.bin .sub .prim), [.t 55, .c (.int .i64 1)], none⟩,
  ⟨some 57, .op (.mov), [.t 11], none⟩,
  ⟨some 58, .op (.mov), [.t 1], none⟩,
  ⟨some 59, .op (.bin .sub .prim), [.t 57, .t 58], none⟩,
  ⟨some 60, .op (.bin .sub .prim), [.t 56, .t 59], none⟩,
  ⟨some 11, .op (.mov), [.t 60], none⟩]
abbrev r112_14 : List IOp := [⟨some 12, .op (.mov), [.c (.int .i64 1)], none⟩]
abbrev r112_15 : List IOp := [⟨some 61, .op (.mov), [.t 8], none⟩,
  ⟨some 62, .op (.mov), [.t 61], none⟩,
  ⟨some 63, .op (.mov), [.t 9], some (62, true)⟩,
  ⟨some 64, .op (.pick), [.t 62, .t 63, .c (.bool false)], none⟩,
  ⟨some 65, .op (.mov), [.t 64], none⟩,
  ⟨some 66, .op (.mov), [.t 12], some (65, true)⟩,
  ⟨some 67, .op (.bin .eql .prim), [.t 66, .c (.int .i64 1)], some (65, true)⟩,
  ⟨some 68, .op (.pick), [.t 65, .t 67, .c (.bool false)], none⟩]
abbrev r112_16 : List IOp := [⟨some 69, .op (.mov), [.t 0], none⟩,
  ⟨some 70, .op (.mov), [.t 1], none⟩,
  ⟨some 71, .op (.mov), [.t 2], none⟩,
  ⟨some 72, .call none, [.f 131, .t 69, .t 70, .t 71], none⟩]
abbrev r112_17 : List IOp := [⟨some 73, .op (.mov), [.t 1], none⟩,
  ⟨some 74, .op (.bin .gtr .prim), [.t 73, .c (.int .i64 0)], none⟩,
  ⟨some 75, .op (.mov), [.t 74], none⟩,
  ⟨some 76, .op (.mov), [.t 0], some (75, true)⟩,
  ⟨some 77, .op (.mov), [.t 1], some (75, true)⟩,
  ⟨some 78, .op (.bin .sub .prim), [.t 77, .c (.int .i64 1)], some (75, true)⟩,
  ⟨some 79, .op (.iaddr 1), [.t 76, .t 78], some (75, true)⟩,
  ⟨some 80, .op (.load none), [.t 79], some (75, true)⟩,
  ⟨some 81, .op (.mov), [.t 0], some (75, true)⟩,
  ⟨some 82, .op (.mov), [.t 11], some (75, true)⟩,
  ⟨some 83, .op (.iaddr 1), [.t 81, .t 82], some (75, true)⟩,
  ⟨some 84, .op (.load none), [.t 83], some (75, true)⟩,
  ⟨some 85, .call none, [.f 113, .t 80, .t 84], some (75, true)⟩,
  ⟨some 86, .op (.un .not), [.t 85], some (75, true)⟩,
  ⟨some 87, .op (.pick), [.t 75, .t 86, .c (.bool false)], none⟩]
abbrev r112_18 : List IOp := [⟨some 88, .op (.mov), [.t 0], none⟩,
  ⟨some 89, .op (.mov), [.t 1], none⟩,
  ⟨some 90, .op (.mov), [.t 2], none⟩,
  ⟨some 91, .op (.mov), [.t 11], none⟩,
  ⟨some 92, .call none, [.f 132, .t 88, .t 89, .t 90, .t 91], none⟩,
  ⟨some 13, .op (.mov), [.t 92], none⟩]
abbrev r112_19 : List IOp := [⟨some 93, .op (.mov), [.t 13], none⟩,
  ⟨some 1, .op (.mov), [.t 93], none⟩]
abbrev r112_20 : List IOp := [⟨some 95, .op (.mov), [.t 0], none⟩,
  ⟨some 96, .op (.mov), [.t 1], none⟩,
  ⟨some 97, .op (.mov), [.t 2], none⟩,
  ⟨some 98, .op (.mov), [.t 11], none⟩,
  ⟨some 99, .call none, [.f 133, .t 95, .t 96, .t 97, .t 98], none⟩,
  ⟨some 94, .op (.mov), [.t 99], none⟩,
  ⟨some 100, .op (.extract 0), [.t 94], none⟩,
  ⟨some 101, .op (.extract 1), [.t 94], none⟩,
  ⟨some 14, .op (.mov), [.t 100], none⟩,
  ⟨some 15, .op (.mov), [.t 101], none⟩]
abbrev r112_21 : List IOp := [⟨some 102, .op (.mov), [.t 15], none⟩,
  ⟨some 9, .op (.mov), [.t 102], none⟩]
abbrev r112_22 : List IOp := [⟨some 103, .op (.mov), [.t 14], none⟩,
  ⟨some 104, .op (.mov), [.t 1], none⟩,
  ⟨some 105, .op (.bin .sub .prim), [.t 103, .t 104], none⟩,
  ⟨some 106, .op (.mov), [.t 2], none⟩,
  ⟨some 107, .op (.mov), [.t 14], none⟩,
  ⟨some 108, .op (.bin .sub .prim), [.t 106, .t 107], none⟩,
  ⟨some 16, .op (.mov), [.t 105], none⟩,
  ⟨some 17, .op (.mov), [.t 108], none⟩]
abbrev r112_23 : List IOp := [⟨some 109, .op (.mov), [.t 10], none⟩,
  ⟨some 110, .op (.bin .quo .prim), [.t 109, .c (.int .i64 8)], none⟩,
  ⟨some 18, .op (.mov), [.t 110], none⟩]
abbrev r112_24 : List IOp := [⟨some 111, .op (.mov), [.t 16], none⟩,
  ⟨some 112, .op (.mov), [.t 17], none⟩,
  ⟨some 113, .op (.bin .lss .prim), [.t 111, .t 112], none⟩]
abbrev r112_25 : List IOp := [⟨some 114, .op (.mov), [.t 16], none⟩,
  ⟨some 115, .op (.mov), [.t 18], none⟩,
  ⟨some 116, .op (.bin .geq .prim), [.t 114, .t 115], none⟩,
  ⟨some 8, .op (.mov), [.t 116], none⟩]
abbrev r112_26 : List IOp := [⟨some 117, .op (.mov), [.t 0], none⟩,
  ⟨some 118, .op (.mov), [.t 1], none⟩,
  ⟨some 119, .op (.mov), [.t 14], none⟩,
  ⟨some 120, .op (.mov), [.t 3], none⟩,
  ⟨some 121, .call none, [.f 112, .t 117, .t 118, .t 119, .t 120], none⟩]
abbrev r112_27 : List IOp := [⟨some 122, .op (.mov), [.t 14], none⟩,
  ⟨some 123, .op (.bin .add .prim), [.t 122, .c (.int .i64 1)], none⟩,
  ⟨some 1, .op (.mov), [.t 123], none⟩]
abbrev r112_28 : List IOp := [⟨some 124, .op (.mov), [.t 17], none⟩,
  ⟨some 125, .op (.mov), [.t 18], none⟩,
  ⟨some 126, .op (.bin .geq .prim), [.t 124, .t 125], none⟩,
  ⟨some 8, .op (.mov), [.t 126], none⟩]
abbrev r112_29 : List IOp := [⟨some 127, .op (.mov), [.t 0], none⟩,
  ⟨some 128, .op (.mov), [.t 14], none⟩,
  ⟨some 129, .op (.bin .add .prim), [.t 128, .c (.int .i64 1)], none⟩,
  ⟨some 130, .op (.mov), [.t 2], none⟩,
  ⟨some 131, .op (.mov), [.t 3], none⟩,
  ⟨some 132, .call none, [.f 112, .t 127, .t 129, .t 130, .t 131], none⟩]
abbrev r112_30 : List IOp := [⟨some 133, .op (.mov), [.t 14], none⟩,
  ⟨some 2, .op (.mov), [.t 133], none⟩]
abbrev b112_0 : IC := (IC.block 1 (IC.seq (IC.reg r112_2) (IC.seq (IC.seq (IC.reg r112_3) (IC.cond (.t 23) (IC.seq (IC.reg r112_4) IC.ret) IC.skip)) (IC.seq (IC.seq (IC.reg r112_5) (IC.cond (.t 29) (IC.seq (IC.reg r112_6) IC.ret) IC.skip)) (IC.seq (IC.seq (IC.reg r112_7) (IC.cond (.t 35) (IC.seq (IC.reg r112_8) (IC.reg r112_9)) IC.skip)) (IC.seq (IC.reg r112_10) (IC.seq (IC.seq (IC.reg r112_11) (IC.cond (.t 50) (IC.seq (IC.reg r112_12) (IC.seq (IC.reg r112_13) (IC.reg r112_14))) IC.skip)) (IC.seq (IC.seq (IC.reg r112_15) (IC.cond (.t 68) (IC.seq (IC.reg r112_16) (IC.cond (.t 72) IC.ret IC.skip)) IC.skip)) (IC.seq (IC.seq (IC.regD .wild r112_17 (.take 0 (.take 1 (.take 2 (.take 3 (.take 4 (.take 5 (.take 6 (.take 7 (.take 8 (.take 9 (.take 10 (.take 11 (.take 12 (.take 13 (.take 14 (.done))))))))))))))))) (IC.cond (.t 87) (IC.seq (IC.reg r112_18) (IC.seq (IC.reg r112_19) (IC.exit 1))) IC.skip)) (IC.seq (IC.reg r112_20) (IC.seq (IC.reg r112_21) (IC.seq (IC.reg r112_22) (IC.seq (IC.reg r112_23) (IC.seq (IC.reg r112_24) (IC.cond (.t 113) (IC.seq (IC.reg r112_25) (IC.seq (IC.reg r112_26) (IC.reg r112_27))) (IC.seq (IC.reg r112_28) (IC.seq (IC.reg r112_29) (IC.reg r112_30))))))))))))))))))
abbrev c112 : IC := (IC.seq (IC.reg r112_0) (IC.seq (IC.reg r112_1) (IC.block 0 (IC.loop b112_0))))
abbrev g112 : FC := ⟨c112, 134, []⟩
theorem comp112 : compF Go.Proofs.Tryz.prog (hintL [(17, 6)]) 112 = some g112 := by kernel_rfl

-- cmp.Less[byte]
abbrev r113_0 : List IOp := [⟨some 4, .op (.mov), [.c (.bool false)], none⟩]
abbrev r113_1 : List IOp := [⟨some 5, .op (.mov), [.t 0], none⟩,
  ⟨some 6, .call none, [.f 134, .t 5], none⟩,
  ⟨some 7, .op (.mov), [.t 6], none⟩,
  ⟨some 8, .op (.mov), [.t 1], some (7, true)⟩,
  ⟨some 9, .call none, [.f 134, .t 8], some (7, true)⟩,
  ⟨some 10, .op (.un .not), [.t 9], some (7, true)⟩,
  ⟨some 11, .op (.pick), [.t 7, .t 10, .c (.bool false)], none⟩,
  ⟨some 12, .op (.mov), [.t 11], none⟩,
  ⟨some 13, .op (.mov), [.t 0], some (12, false)⟩,
  ⟨some 14, .op (.mov), [.t 1], some (12, false)⟩,
  ⟨some 15, .op (.bin .lss .prim), [.t 13, .t 14], some (12, false)⟩,
  ⟨some 16, .op (.pick), [.t 12, .c (.bool true), .t 15], none⟩,
  ⟨some 4, .op (.mov), [.t 16], none⟩]
abbrev c113 : IC := (IC.seq (IC.reg r113_0) (IC.seq (IC.reg r113_1) IC.ret))
abbrev g113 : FC := ⟨c113, 17, [.t 4]⟩
theorem comp113 : compF Go.Proofs.Tryz.prog (fun _ => 0) 113 = some g113 := by kernel_rfl

-- slices.isNaN[byte]
abbrev r114_0 : List IOp := [⟨some 2, .op (.mov), [.c (.bool false)], none⟩]
abbrev r114_1 : List IOp := [⟨some 3, .op (.mov), [.t 0], none⟩,
  ⟨some 4, .op (.mov), [.t 0], none⟩,
  ⟨some 5, .op (.bin .neq .prim), [.t 3, .t 4], none⟩,
  ⟨some 2, .op (.mov), [.t 5], none⟩]
abbrev c114 : IC := (IC.seq (IC.reg r114_0) (IC.seq (IC.reg r114_1) IC.ret))
abbrev g114 : FC := ⟨c114, 6, [.t 2]⟩
theorem comp114 : compF Go.Proofs.Tryz.prog (fun _ => 0) 114 = some g114 := by kernel_rfl

-- (*outlaw/nfa.Nfa).States
abbrev r115_0 : List IOp := [⟨some 2, .op (.mov), [.c (.int .i64 0)], none⟩]
abbrev r115_1 : List IOp := [⟨some 3, .op (.mov), [.t 0], none⟩,
  ⟨some 4, .op (.bin .eql .ptr), [.t 3, .c (.nilp)], none⟩,
  ⟨some 5, .op (.mov), [.t 4], none⟩,
  ⟨some 6, .op (.mov), [.t 0], some (5, false)⟩,
  ⟨some 7, .op (.nilchk), [.t 6], some (5, false)⟩,
  ⟨some 8, .op (.faddr 0), [.t 7], some (5, false)⟩,
  ⟨some 9, .op (.load none), [.t 8], some (5, false)⟩,
  ⟨some 10, .op (.bin .eql .prim), [.t 9, .c (.str [])], some (5, false)⟩,
  ⟨some 11, .op (.pick), [.t 5, .c (.bool true), .t 10], none⟩]
abbrev r115_2 : List IOp := [⟨some 2, .op (.mov), [.c (.int .i64 0)], none⟩]
abbrev r115_3 : List IOp := [⟨some 12, .op (.mov), [.t 0], none⟩,
  ⟨some 13, .op (.nilchk), [.t 12], none⟩,
  ⟨some 14, .op (.faddr 0), [.t 13], none⟩,
  ⟨some 15, .op (.load none), [.t 14], none⟩,
  ⟨some 16, .op (.len .str), [.t 15], none⟩,
  ⟨some 17, .op (.bin .add .prim), [.t 16, .c (.int .i64 1)], none⟩,
  ⟨some 2, .op (.mov), [.t 17], none⟩]
abbrev c115 : IC := (IC.seq (IC.reg r115_0) (IC.seq (IC.seq (IC.reg r115_1) (IC.cond (.t 11) (IC.seq (IC.reg r115_2) IC.ret) IC.skip)) (IC.seq (IC.reg r115_3) IC.ret)))
abbrev g115 : FC := ⟨c115, 18, [.t 2]⟩
theorem comp115 : compF Go.Proofs.Tryz.prog (fun _ => 0) 115 = some g115 := by kernel_rfl

-- (*outlaw/nfa.Nfa).come
abbrev r116_0 : List IOp := [⟨some 6, .op (.mov), [.t 1], none⟩,
  ⟨some 7, .op (.mov), [.t 2], none⟩,
  ⟨some 8, .op (.iaddr 1), [.t 6, .t 7], none⟩,
  ⟨none, .op (.store 1), [.t 8, .c (.bool true)], none⟩]
abbrev r116_1 : List IOp := [⟨some 9, .op (.mov), [.t 2], none⟩,
  ⟨some 10, .op (.mov), [.t 0], none⟩,
  ⟨some 11, .op (.nilchk), [.t 10], none⟩,
  ⟨some 12, .op (.faddr 0), [.t 11], none⟩,
  ⟨some 13, .op (.load none), [.t 12], none⟩,
  ⟨some 14, .op (.len .str), [.t 13], none⟩,
  ⟨some 15, .op (.bin .lss .prim), [.t 9, .t 14], none⟩,
  ⟨some 16, .op (.mov), [.t 15], none⟩,
  ⟨some 17, .op (.mov), [.t 0], some (16, true)⟩,
  ⟨some 18, .op (.nilchk), [.t 17], some (16, true)⟩,
  ⟨some 19, .op (.faddr 0), [.t 18], some (16, true)⟩,
  ⟨some 20, .op (.load none), [.t 19], some (16, true)⟩,
  ⟨some 21, .op (.mov), [.t 2], some (16, true)⟩,
  ⟨some 22, .op (.idxs), [.t 20, .t 21], some (16, true)⟩,
  ⟨some 23, .op (.bin .eql .prim), [.t 22, .c (.int .u8 42)], some (16, true)⟩,
  ⟨some 24, .op (.pick), [.t 16, .t 23, .c (.bool false)], none⟩]
abbrev r116_2 : List IOp := [⟨some 28, .op (.mov), [.t 2], none⟩,
  ⟨some 29, .op (.bin .add .prim), [.t 28, .c (.int .i64 1)], none⟩,
  ⟨some 2, .op (.mov), [.t 29], none⟩]
abbrev r116_3 : List IOp := [⟨some 25, .op (.mov), [.t 1], none⟩,
  ⟨some 26, .op (.mov), [.t 2], none⟩,
  ⟨some 27, .op (.iaddr 1), [.t 25, .t 26], none⟩,
  ⟨none, .op (.store 1), [.t 27, .c (.bool true)], none⟩]
abbrev b116_0 : IC := (IC.seq (IC.seq (IC.reg r116_1) (IC.cond (.t 24) IC.skip (IC.exit 0))) (IC.seq (IC.block 1 (IC.reg r116_2)) (IC.reg r116_3)))
abbrev c116 : IC := (IC.seq (IC.reg r116_0) (IC.block 0 (IC.loop b116_0)))
abbrev g116 : FC := ⟨c116, 30, []⟩
theorem comp116 : compF Go.Proofs.Tryz.prog (fun _ => 0) 116 = some g116 := by kernel_rfl

-- (outlaw/nfa.row).all
abbrev r117_0 : List IOp := [⟨some 1, .op (.box 150), [.t 0], none⟩,
  ⟨some 2, .op (.mov), [.c (.nilf)], none⟩]
abbrev r117_1 : List IOp := [⟨some 3, .op (.mkfn 135), [.t 1], none⟩,
  ⟨some 2, .op (.mov), [.t 3], none⟩]
abbrev c117 : IC := (IC.seq (IC.reg r117_0) (IC.seq (IC.reg r117_1) IC.ret))
abbrev g117 : FC := ⟨c117, 4, [.t 2]⟩
theorem comp117 : compF Go.Proofs.Tryz.prog (fun _ => 0) 117 = some g117 := by kernel_rfl

-- slices.insertionSortOrdered[byte]
abbrev r126_0 : List IOp := [⟨some 8, .op (.mov), [.t 1], none⟩,
  ⟨some 9, .op (.bin .add .prim), [.t 8, .c (.int .i64 1)], none⟩,
  ⟨some 6, .op (.mov), [.t 9], none⟩]
abbrev r126_1 : List IOp := [⟨some 10, .op (.mov), [.t 6], none⟩,
  ⟨some 11, .op (.mov), [.t 2], none⟩,
  ⟨some 12, .op (.bin .lss .prim), [.t 10, .t 11], none⟩]
abbrev r126_2 : List IOp := [⟨some 15, .op (.mov), [.t 6], none⟩,
  ⟨some 7, .op (.mov), [.t 15], none⟩]
abbrev r126_3 : List IOp := [⟨some 16, .op (.mov), [.t 7], none⟩,
  ⟨some 17, .op (.mov), [.t 1], none⟩,
  ⟨some 18, .op (.bin .gtr .prim), [.t 16, .t 17], none⟩,
  ⟨some 19, .op (.mov), [.t 18], none⟩,
  ⟨some 20, .op (.mov), [.t 0], some (19, true)⟩,
  ⟨some 21, .op (.mov), [.t 7], some (19, true)⟩,
  ⟨some 22, .op (.iaddr 1), [.t 20, .t 21], some (19, true)⟩,
  ⟨some 23, .op (.load none), [.t 22], some (19, true)⟩,
  ⟨some 24, .op (.mov), [.t 0], some (19, true)⟩,
  ⟨some 25, .op (.mov), [.t 7], some (19, true)⟩,
  ⟨some 26, .op (.bin .sub .prim), [.t 25, .c (.int .i64 1)], some (19, true)⟩,
  ⟨some 27, .op (.iaddr 1), [.t 24, .t 26], some (19, true)⟩,
  ⟨some 28, .op (.load none), [.t 27], some (19, true)⟩,
  ⟨some 29, .call none, [.f 113, .t 23, .t 28], some (19, true)⟩,
  ⟨some 30, .op (.pick), [.t 19, .t 29, .c (.bool false)], none⟩]
abbrev r126_4 : List IOp := [⟨some 33, .op (.mov), [.t 0], none⟩,
  ⟨some 34, .op (.mov), [.t 7], none⟩,
  ⟨some 35, .op (.mov), [.t 0], none⟩,
  ⟨some 36, .op (.mov), [.t 7], none⟩,
  ⟨some 37, .op (.bin .sub .prim), [.t 36, .c (.int .i64 1)], none⟩,
  ⟨some 38, .op (.mov), [.t 0], none⟩,
  ⟨some 39, .op (.mov), [.t 7], none⟩,
  ⟨some 40, .op (.bin .sub .prim), [.t 39, .c (.int .i64 1)], none⟩,
  ⟨some 41, .op (.iaddr 1), [.t 38, .t 40], none⟩,
  ⟨some 42, .op (.load none), [.t 41], none⟩,
  ⟨some 43, .op (.mov), [.t 0], none⟩,
  ⟨some 44, .op (.mov), [.t 7], none⟩,
  ⟨some 45, .op (.iaddr 1), [.t 43, .t 44], none⟩,
  ⟨some 46, .op (.load none), [.t 45], none⟩,
  ⟨some 47, .op (.iaddr 1), [.t 33, .t 34], none⟩,
  ⟨none, .op (.store 1), [.t 47, .t 42], none⟩,
  ⟨some 48, .op (.iaddr 1), [.t 35, .t 37], none⟩,
  ⟨none, .op (.store 1), [.t 48, .t 46], none⟩]
abbrev r126_5 : List IOp := [⟨some 31, .op (.mov), [.t 7], none⟩,
  ⟨some 32, .op (.bin .sub .prim), [.t 31, .c (.int .i64 1)], none⟩,
  ⟨some 7, .op (.mov), [.t 32], none⟩]
abbrev b126_0 : IC := (IC.seq (IC.seq (IC.regD .wild r126_3 (.take 0 (.take 1 (.take 2 (.take 3 (.take 4 (.take 5 (.take 6 (.take 7 (.take 8 (.take 9 (.take 10 (.take 11 (.take 12 (.take 13 (.take 14 (.done))))))))))))))))) (IC.cond (.t 30) IC.skip (IC.exit 2))) (IC.seq (IC.block 3 (IC.regD .wild r126_4 (.take 0 (.take 1 (.take 2 (.take 3 (.take 4 (.take 5 (.take 6 (.take 7 (.take 8 (.take 9 (.take 10 (.take 11 (.take 12 (.take 13 (.take 14 (.take 15 (.take 16 (.take 17 (.done))))))))))))))))))))) (IC.reg r126_5)))
abbrev r126_6 : List IOp := [⟨some 13, .op (.mov), [.t 6], none⟩,
  ⟨some 14, .op (.bin .add .prim), [.t 13, .c (.int .i64 1)], none⟩,
  ⟨some 6, .op (.mov), [.t 14], none⟩]
abbrev b126_1 : IC := (IC.seq (IC.seq (IC.reg r126_1) (IC.cond (.t 12) IC.skip (IC.exit 0))) (IC.seq (IC.block 1 (IC.seq (IC.reg r126_2) (IC.block 2 (IC.loop b126_0)))) (IC.reg r126_6)))
abbrev c126 : IC := (IC.seq (IC.reg r126_0) (IC.block 0 (IC.loop b126_1)))
abbrev g126 : FC := ⟨c126, 49, []⟩
theorem comp126 : compF Go.Proofs.Tryz.prog (hintL [(4, 6), (6, 6)]) 126 = some g126 := by kernel_rfl

-- cmp.isNaN[byte]
abbrev r134_0 : List IOp := [⟨some 2, .op (.mov), [.c (.bool false)], none⟩]
abbrev r134_1 : List IOp := [⟨some 3, .op (.mov), [.t 0], none⟩,
  ⟨some 4, .op (.mov), [.t 0], none⟩,
  ⟨some 5, .op (.bin .neq .prim), [.t 3, .t 4], none⟩,
  ⟨some 2, .op (.mov), [.t 5], none⟩]
abbrev c134 : IC := (IC.seq (IC.reg r134_0) (IC.seq (IC.reg r134_1) IC.ret))
abbrev g134 : FC := ⟨c134, 6, [.t 2]⟩
theorem comp134 : compF Go.Proofs.Tryz.prog (fun _ => 0) 134 = some g134 := by kernel_rfl

-- (outlaw/nfa.row).all$1
abbrev r135_0 : List IOp := [⟨some 5, .op (.load none), [.t 1], none⟩,
  ⟨some 6, .op (.len .slice), [.t 5], none⟩,
  ⟨some 7, .op (.mov), [.c (.int .i64 0)], none⟩]
abbrev r135_1 : List IOp := [⟨some 8, .op (.bin .lss .prim), [.t 7, .t 6], none⟩]
abbrev r135_2 : List IOp := [⟨some 9, .op (.mov), [.t 7], none⟩,
  ⟨some 10, .op (.iaddr 1), [.t 5, .t 7], none⟩,
  ⟨some 11, .op (.load none), [.t 10], none⟩,
  ⟨some 3, .op (.mov), [.t 9], none⟩,
  ⟨some 4, .op (.mov), [.t 11], none⟩]
abbrev r135_3 : List IOp := [⟨some 12, .op (.mov), [.t 4], none⟩,
  ⟨some 13, .op (.mov), [.t 12], none⟩,
  ⟨some 14, .op (.mov), [.t 0], some (13, true)⟩,
  ⟨some 15, .op (.mov), [.t 3], some (13, true)⟩,
  ⟨some 16, .call none, [.t 14, .t 15], some (13, true)⟩,
  ⟨some 17, .op (.un .not), [.t 16], some (13, true)⟩,
  ⟨some 18, .op (.pick), [.t 13, .t 17, .c (.bool false)], none⟩]
abbrev r135_4 : List IOp := [⟨some 19, .op (.bin .add .prim), [.t 7, .c (.int .i64 1)], none⟩,
  ⟨some 7, .op (.mov), [.t 19], none⟩]
abbrev b135_0 : IC := (IC.seq (IC.reg r135_1) (IC.seq (IC.cond (.t 8) IC.skip (IC.exit 0)) (IC.seq (IC.block 1 (IC.seq (IC.reg r135_2) (IC.seq (IC.reg r135_3) (IC.cond (.t 18) IC.ret IC.skip)))) (IC.reg r135_4))))
abbrev c135 : IC := (IC.seq (IC.reg r135_0) (IC.block 0 (IC.loop b135_0)))
abbrev g135 : FC := ⟨c135, 20, []⟩
theorem comp135 : compF Go.Proofs.Tryz.prog (fun _ => 0) 135 = some g135 := by kernel_rfl

set_option maxRecDepth 100000 in
abbrev FT : FTr := (.node 58 g58 (.node 32 g32 (.node 20 g20 (.node 12 g12 (.node 9 g9 (.node 8 g8 (.node 6 g6 .nil .nil) .nil) (.node 11 g11 .nil .nil)) (.node 14 g14 (.node 13 g13 .nil .nil) (.node 15 g15 .nil .nil))) (.node 28 g28 (.node 25 g25 (.node 22 g22 .nil .nil) (.node 27 g27 .nil .nil)) (.node 30 g30 (.node 29 g29 .nil .nil) (.node 31 g31 .nil .nil)))) (.node 48 g48 (.node 37 g37 (.node 35 g35 (.node 34 g34 (.node 33 g33 .nil .nil) .nil) (.node 36 g36 .nil .nil)) (.node 46 g46 (.node 45 g45 .nil .nil) (.node 47 g47 .nil .nil))) (.node 52 g52 (.node 50 g50 (.node 49 g49 .nil .nil) (.node 51 g51 .nil .nil)) (.node 56 g56 (.node 53 g53 .nil .nil) (.node 57 g57 .nil .nil))))) (.node 90 g90 (.node 72 g72 (.node 63 g63 (.node 61 g61 (.node 60 g60 (.node 59 g59 .nil .nil) .nil) (.node 62 g62 .nil .nil)) (.node 65 g65 (.node 64 g64 .nil .nil) (.node 66 g66 .nil .nil))) (.node 85 g85 (.node 79 g79 (.node 76 g76 .nil .nil) (.node 84 g84 .nil .nil)) (.node 88 g88 (.node 86 g86 .nil .nil) (.node 89 g89 .nil .nil)))) (.node 115 g115 (.node 100 g100 (.node 93 g93 (.node 92 g92 (.node 91 g91 .nil .nil) .nil) (.node 94 g94 .nil .nil)) (.node 113 g113 (.node 112 g112 .nil .nil) (.node 114 g114 .nil .nil))) (.node 134 g134 (.node 117 g117 (.node 116 g116 .nil .nil) (.node 126 g126 .nil .nil)) (.node 157 g157 (.node 135 g135 .nil .nil) (.node 159 g159 .nil .nil))))))
set_option maxRecDepth 100000 in
theorem FT_ok : FT.All (FOk Go.Proofs.Tryz.prog) := ⟨⟨_, comp58, by decide, .inl (by decide)⟩, ⟨⟨_, comp32, by decide, .inl (by decide)⟩, ⟨⟨_, comp20, by decide, .inl (by decide)⟩, ⟨⟨_, comp12, by decide, .inl (by decide)⟩, ⟨⟨_, comp9, by decide, .inl (by decide)⟩, ⟨⟨_, comp8, by decide, .inl (by decide)⟩, ⟨⟨_, comp6, by decide, .inl (by decide)⟩, trivial, trivial⟩, trivial⟩, ⟨⟨_, comp11, by decide, .inl (by decide)⟩, trivial, trivial⟩⟩, ⟨⟨_, comp14, by decide, .inl (by decide)⟩, ⟨⟨_, comp13, by decide, .inl (by decide)⟩, trivial, trivial⟩, ⟨⟨_, comp15, by decide, .inl (by decide)⟩, trivial, trivial⟩⟩⟩, ⟨⟨_, comp28, by decide, .inl (by decide)⟩, ⟨⟨_, comp25, by decide, .inl (by decide)⟩, ⟨⟨_, comp22, by decide, .inl (by decide)⟩, trivial, trivial⟩, ⟨⟨_, comp27, by decide, .inl (by decide)⟩, trivial, trivial⟩⟩, ⟨⟨_, comp30, by decide, .inl (by decide)⟩, ⟨⟨_, comp29, by decide, .inl (by decide)⟩, trivial, trivial⟩, ⟨⟨_, comp31, by decide, .inl (by decide)⟩, trivial, trivial⟩⟩⟩⟩, ⟨⟨_, comp48, by decide, .inl (by decide)⟩, ⟨⟨_, comp37, by decide, .inl (by decide)⟩, ⟨⟨_, comp35, by decide, .inl (by decide)⟩, ⟨⟨_, comp34, by decide, .inl (by decide)⟩, ⟨⟨_, comp33, by decide, .inl (by decide)⟩, trivial, trivial⟩, trivial⟩, ⟨⟨_, comp36, by decide, .inl (by decide)⟩, trivial, trivial⟩⟩, ⟨⟨_, comp46, by decide, .inl (by decide)⟩, ⟨⟨_, comp45, by decide, .inl (by decide)⟩, trivial, trivial⟩, ⟨⟨_, comp47, by decide, .inl (by decide)⟩, trivial, trivial⟩⟩⟩, ⟨⟨_, comp52, by decide, .inl (by decide)⟩, ⟨⟨_, comp50, by decide, .inl (by decide)⟩, ⟨⟨_, comp49, by decide, .inl (by decide)⟩, trivial, trivial⟩, ⟨⟨_, comp51, by decide, .inl (by decide)⟩, trivial, trivial⟩⟩, ⟨⟨_, comp56, by decide, .inl (by decide)⟩, ⟨⟨_, comp53, by decide, .inl (by decide)⟩, trivial, trivial⟩, ⟨⟨_, comp57, by decide, .inl (by decide)⟩, trivial, trivial⟩⟩⟩⟩⟩, ⟨⟨_, comp90, by decide, .inl (by decide)⟩, ⟨⟨_, comp72, by decide, .inl (by decide)⟩, ⟨⟨_, comp63, by decide, .inl (by decide)⟩, ⟨⟨_, comp61, by decide, .inl (by decide)⟩, ⟨⟨_, comp60, by decide, .inl (by decide)⟩, ⟨⟨_, comp59, by decide, .inl (by decide)⟩, trivial, trivial⟩, trivial⟩, ⟨⟨_, comp62, by decide, .inl (by decide)⟩, trivial, trivial⟩⟩, ⟨⟨_, comp65, by decide, .inr keys65⟩, ⟨⟨_, comp64, by decide, .inl (by decide)⟩, trivial, trivial⟩, ⟨⟨_, comp66, by decide, .inl (by decide)⟩, trivial, trivial⟩⟩⟩, ⟨⟨_, comp85, by decide, .inl (by decide)⟩, ⟨⟨_, comp79, by decide, .inl (by decide)⟩, ⟨⟨_, comp76, by decide, .inl (by decide)⟩, trivial, trivial⟩, ⟨⟨_, comp84, by decide, .inl (by decide)⟩, trivial, trivial⟩⟩, ⟨⟨_, comp88, by decide, .inl (by decide)⟩, ⟨⟨_, comp86, by decide, .inl (by decide)⟩, trivial, trivial⟩, ⟨⟨_, comp89, by decide, .inl (by decide)⟩, trivial, trivial⟩⟩⟩⟩, ⟨⟨_, comp115, by decide, .inl (by decide)⟩, ⟨⟨_, comp100, by decide, .inl (by decide)⟩, ⟨⟨_, comp93, by decide, .inr keys93⟩, ⟨⟨_, comp92, by decide, .inr keys92⟩, ⟨⟨_, comp91, by decide, .inl (by decide)⟩, trivial, trivial⟩, trivial⟩, ⟨⟨_, comp94, by decide, .inl (by decide)⟩, trivial, trivial⟩⟩, ⟨⟨_, comp113, by decide, .inl (by decide)⟩, ⟨⟨_, comp112, by decide, .inl (by decide)⟩, trivial, trivial⟩, ⟨⟨_, comp114, by decide, .inl (by decide)⟩, trivial, trivial⟩⟩⟩, ⟨⟨_, comp134, by decide, .inl (by decide)⟩, ⟨⟨_, comp117, by decide, .inl (by decide)⟩, ⟨⟨_, comp116, by decide, .inl (by decide)⟩, trivial, trivial⟩, ⟨⟨_, comp126, by decide, .inl (by decide)⟩, trivial, trivial⟩⟩, ⟨⟨_, comp157, by decide, .inl (by decide)⟩, ⟨⟨_, comp135, by decide, .inl (by decide)⟩, trivial, trivial⟩, ⟨⟨_, comp159, by decide, .inl (by decide)⟩, trivial, trivial⟩⟩⟩⟩⟩⟩
abbrev LT : List (Nat × LI) := [(65000, li65000), (92000, li92000), (93000, li93000)]
theorem LT_ok : LAll Go.Proofs.Tryz.prog LT := ⟨lok65000, ⟨lok92000, ⟨lok93000, trivial⟩⟩⟩
end Go.Gi
