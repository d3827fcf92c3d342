/- Functions of the program in the form of the abstract machine, printed by a program; each is checked against the translation. -/
import Derived.Test.YtakdhioafodhcaaGiXE
import Derived.Test.YtakdhioafodhcaaProg
import Derived.KernelRfl
set_option linter.unusedVariables false
namespace Go.Gi
open Go
-- outlaw/outlawlaw09.DfaBytes
abbrev r7_0 : List IOp := [⟨some 3, .op (.box 69), [.t 0], none⟩,
  ⟨some 6, .op (.mov), [.c (.bool false)], none⟩]
abbrev r7_1 : List IOp := [⟨some 9, .call none, [.f 40], none⟩,
  ⟨some 10, .op (.un .not), [.t 9], none⟩]
abbrev r7_2 : List IOp := [⟨some 6, .op (.mov), [.c (.bool false)], none⟩]
abbrev r7_3 : List IOp := [⟨some 11, .op (.load (some 3)), [.t 3], none⟩,
  ⟨some 12, .call none, [.f 41, .t 11], none⟩,
  ⟨some 13, .op (.un .not), [.t 12], none⟩,
  ⟨some 14, .op (.mov), [.t 13], none⟩,
  ⟨some 15, .op (.mov), [.t 1], some (14, false)⟩,
  ⟨some 16, .op (.len .str), [.t 15], some (14, false)⟩,
  ⟨some 17, .op (.bin .gtr .prim), [.t 16, .c (.int .i64 200)], some (14, false)⟩,
  ⟨some 18, .op (.pick), [.t 14, .c (.bool true), .t 17], none⟩,
  ⟨some 19, .op (.mov), [.t 18], none⟩,
  ⟨some 20, .op (.mov), [.t 2], some (19, false)⟩,
  ⟨some 21, .op (.len .str), [.t 20], some (19, false)⟩,
  ⟨some 22, .op (.bin .gtr .prim), [.t 21, .c (.int .i64 200)], some (19, false)⟩,
  ⟨some 23, .op (.pick), [.t 19, .c (.bool true), .t 22], none⟩,
  ⟨some 24, .op (.mov), [.t 23], none⟩,
  ⟨some 25, .op (.load (some 3)), [.t 3], some (24, false)⟩,
  ⟨some 26, .call none, [.f 42, .t 25], some (24, false)⟩,
  ⟨some 27, .op (.bin .neq .prim), [.t 26, .c (.int .i64 0)], some (24, false)⟩,
  ⟨some 28, .op (.pick), [.t 24, .c (.bool true), .t 27], none⟩]
abbrev r7_4 : List IOp := [⟨some 6, .op (.mov), [.c (.bool true)], none⟩]
abbrev r7_5 : List IOp := [⟨some 29, .op (.mov), [.t 1], none⟩,
  ⟨some 30, .op (.s2b 5), [.t 29], none⟩,
  ⟨some 7, .op (.mov), [.t 30], none⟩]
abbrev r7_6 : List IOp := [⟨some 8, .op (.mov), [.c (.int .i64 0)], none⟩]
abbrev r7_7 : List IOp := [⟨some 31, .op (.mov), [.t 8], none⟩,
  ⟨some 32, .op (.mov), [.t 7], none⟩,
  ⟨some 33, .op (.len .slice), [.t 32], none⟩,
  ⟨some 34, .op (.bin .lss .prim), [.t 31, .t 33], none⟩,
  ⟨some 35, .op (.mov), [.t 34], none⟩,
  ⟨some 36, .op (.mov), [.t 8], some (35, true)⟩,
  ⟨some 37, .op (.mov), [.t 2], some (35, true)⟩,
  ⟨some 38, .op (.len .str), [.t 37], some (35, true)⟩,
  ⟨some 39, .op (.bin .lss .prim), [.t 36, .t 38], some (35, true)⟩,
  ⟨some 40, .op (.pick), [.t 35, .t 39, .c (.bool false)], none⟩]
abbrev r7_8 : List IOp := [⟨some 43, .op (.faddr 0), [.t 3], none⟩,
  ⟨some 44, .op (.load none), [.t 43], none⟩,
  ⟨some 45, .op (.mov), [.t 7], none⟩,
  ⟨some 46, .op (.mov), [.t 8], none⟩,
  ⟨some 47, .op (.iaddr 1), [.t 45, .t 46], none⟩,
  ⟨some 48, .op (.load none), [.t 47], none⟩,
  ⟨some 49, .op (.iaddr 1), [.t 44, .t 48], none⟩,
  ⟨some 50, .op (.load none), [.t 49], none⟩,
  ⟨some 51, .op (.faddr 0), [.t 3], none⟩,
  ⟨some 52, .op (.load none), [.t 51], none⟩,
  ⟨some 53, .op (.mov), [.t 2], none⟩,
  ⟨some 54, .op (.mov), [.t 8], none⟩,
  ⟨some 55, .op (.idxs), [.t 53, .t 54], none⟩,
  ⟨some 56, .op (.iaddr 1), [.t 52, .t 55], none⟩,
  ⟨some 57, .op (.load none), [.t 56], none⟩,
  ⟨some 58, .op (.bin .eql .prim), [.t 50, .t 57], none⟩]
abbrev r7_9 : List IOp := [⟨some 59, .op (.mov), [.t 7], none⟩,
  ⟨some 60, .op (.mov), [.t 8], none⟩,
  ⟨some 61, .op (.mov), [.t 2], none⟩,
  ⟨some 62, .op (.mov), [.t 8], none⟩,
  ⟨some 63, .op (.idxs), [.t 61, .t 62], none⟩,
  ⟨some 64, .op (.iaddr 1), [.t 59, .t 60], none⟩,
  ⟨none, .op (.store 1), [.t 64, .t 63], none⟩]
abbrev r7_10 : List IOp := [⟨some 41, .op (.mov), [.t 8], none⟩,
  ⟨some 42, .op (.bin .add .prim), [.t 41, .c (.int .i64 1)], none⟩,
  ⟨some 8, .op (.mov), [.t 42], none⟩]
abbrev b7_0 : IC := (IC.seq (IC.seq (IC.reg r7_7) (IC.cond (.t 40) IC.skip (IC.exit 0))) (IC.seq (IC.block 1 (IC.seq (IC.regD .wild r7_8 (.take 0 (.take 1 (.take 2 (.take 3 (.take 4 (.take 5 (.take 6 (.take 7 (.take 8 (.take 9 (.take 10 (.take 11 (.take 12 (.take 13 (.take 14 (.take 15 (.done)))))))))))))))))) (IC.cond (.t 58) (IC.reg r7_9) IC.skip))) (IC.reg r7_10)))
abbrev r7_11 : List IOp := [⟨some 65, .op (.load (some 3)), [.t 3], none⟩,
  ⟨some 66, .op (.mov), [.t 1], none⟩,
  ⟨some 67, .call none, [.f 43, .t 65, .t 66], none⟩,
  ⟨some 68, .op (.load (some 3)), [.t 3], none⟩,
  ⟨some 69, .op (.mov), [.t 7], none⟩,
  ⟨some 70, .op (.b2s), [.t 69], none⟩,
  ⟨some 71, .call none, [.f 43, .t 68, .t 70], none⟩,
  ⟨some 72, .op (.bin .eql .bool), [.t 67, .t 71], none⟩,
  ⟨some 6, .op (.mov), [.t 72], none⟩]
abbrev c7 : IC := (IC.seq (IC.reg r7_0) (IC.seq (IC.seq (IC.reg r7_1) (IC.cond (.t 10) (IC.seq (IC.reg r7_2) IC.ret) IC.skip)) (IC.seq (IC.seq (IC.reg r7_3) (IC.cond (.t 28) (IC.seq (IC.reg r7_4) IC.ret) IC.skip)) (IC.seq (IC.reg r7_5) (IC.seq (IC.seq (IC.reg r7_6) (IC.block 0 (IC.loop b7_0))) (IC.seq (IC.regD .alloc r7_11 (.take 0 (.take 1 (.take 3 (.take 4 (.take 5 (.take 2 (.take 6 (.take 7 (.take 8 (.done))))))))))) IC.ret))))))
abbrev g7 : FC := ⟨c7, 73, [.t 6]⟩
theorem comp7 : compF Go.Proofs.Try.prog (hintL [(9, 6), (11, 7)]) 7 = some g7 := by kernel_rfl

-- outlaw/outlawlaw09.DfaLess
abbrev r8_0 : List IOp := [⟨some 8, .op (.mov), [.c (.bool false)], none⟩]
abbrev r8_1 : List IOp := [⟨some 16, .call none, [.f 40], none⟩,
  ⟨some 17, .op (.un .not), [.t 16], none⟩]
abbrev r8_2 : List IOp := [⟨some 8, .op (.mov), [.c (.bool false)], none⟩]
abbrev r8_3 : List IOp := [⟨some 18, .op (.mov), [.t 0], none⟩,
  ⟨some 19, .call none, [.f 44, .t 18, .c (.nils)], none⟩,
  ⟨some 20, .op (.un .not), [.t 19], none⟩]
abbrev r8_4 : List IOp := [⟨some 8, .op (.mov), [.c (.bool true)], none⟩]
abbrev r8_5 : List IOp := [⟨some 22, .op (.mov), [.t 0], none⟩,
  ⟨some 23, .op (.mov), [.t 1], none⟩,
  ⟨some 24, .op (.mov), [.t 2], none⟩,
  ⟨some 25, .call none, [.f 45, .t 22, .t 23, .t 24], none⟩,
  ⟨some 21, .op (.mov), [.t 25], none⟩,
  ⟨some 26, .op (.extract 0), [.t 21], none⟩,
  ⟨some 27, .op (.extract 1), [.t 21], none⟩,
  ⟨some 9, .op (.alloc 69 [.nils, .nils, .nils]), [], none⟩,
  ⟨none, .op (.store 3), [.t 9, .t 26], none⟩,
  ⟨some 10, .op (.mov), [.t 27], none⟩]
abbrev r8_6 : List IOp := [⟨some 28, .op (.mov), [.t 10], none⟩,
  ⟨some 29, .op (.un .not), [.t 28], none⟩]
abbrev r8_7 : List IOp := [⟨some 30, .op (.load (some 3)), [.t 9], none⟩,
  ⟨some 31, .op (.bst [.nils, .nils, .nils] [(0, 1), (1, 1), (2, 1)] []), [], none⟩,
  ⟨some 32, .call none, [.f 46, .t 30, .t 31], none⟩,
  ⟨some 8, .op (.mov), [.t 32], none⟩]
abbrev r8_8 : List IOp := [⟨some 33, .op (.faddr 1), [.t 9], none⟩,
  ⟨some 34, .op (.load none), [.t 33], none⟩,
  ⟨some 35, .op (.len .slice), [.t 34], none⟩,
  ⟨some 11, .op (.mov), [.t 35], none⟩]
abbrev r8_9 : List IOp := [⟨some 37, .op (.mov), [.t 0], none⟩,
  ⟨some 38, .op (.mov), [.t 1], none⟩,
  ⟨some 39, .op (.mov), [.t 11], none⟩,
  ⟨some 40, .op (.mov), [.t 3], none⟩,
  ⟨some 41, .op (.mov), [.t 11], none⟩,
  ⟨some 42, .op (.bin .sub .prim), [.c (.int .i64 256), .t 41], none⟩,
  ⟨some 43, .op (.bin .add .prim), [.t 42, .c (.int .i64 1)], none⟩,
  ⟨some 44, .call none, [.f 18, .t 40, .t 43], none⟩,
  ⟨some 45, .op (.bin .add .prim), [.t 39, .t 44], none⟩,
  ⟨some 46, .call none, [.f 45, .t 37, .t 38, .t 45], none⟩,
  ⟨some 36, .op (.mov), [.t 46], none⟩,
  ⟨some 47, .op (.extract 0), [.t 36], none⟩,
  ⟨some 48, .op (.extract 1), [.t 36], none⟩,
  ⟨some 12, .op (.alloc 69 [.nils, .nils, .nils]), [], none⟩,
  ⟨none, .op (.store 3), [.t 12, .t 47], none⟩,
  ⟨some 13, .op (.mov), [.t 48], none⟩]
abbrev r8_10 : List IOp := [⟨some 50, .op (.mov), [.t 0], none⟩,
  ⟨some 51, .op (.mov), [.t 1], none⟩,
  ⟨some 52, .op (.mov), [.t 11], none⟩,
  ⟨some 53, .op (.bin .sub .prim), [.t 52, .c (.int .i64 1)], none⟩,
  ⟨some 54, .call none, [.f 45, .t 50, .t 51, .t 53], none⟩,
  ⟨some 49, .op (.mov), [.t 54], none⟩,
  ⟨some 55, .op (.extract 0), [.t 49], none⟩,
  ⟨some 56, .op (.extract 1), [.t 49], none⟩,
  ⟨some 14, .op (.alloc 69 [.nils, .nils, .nils]), [], none⟩,
  ⟨none, .op (.store 3), [.t 14, .t 55], none⟩,
  ⟨some 15, .op (.mov), [.t 56], none⟩]
abbrev r8_11 : List IOp := [⟨some 57, .op (.mov), [.t 11], none⟩,
  ⟨some 58, .op (.bin .geq .prim), [.t 57, .c (.int .i64 1)], none⟩,
  ⟨some 59, .op (.mov), [.t 58], none⟩,
  ⟨some 60, .op (.mov), [.t 11], some (59, true)⟩,
  ⟨some 61, .op (.mov), [.t 2], some (59, true)⟩,
  ⟨some 62, .op (.bin .leq .prim), [.t 60, .t 61], some (59, true)⟩,
  ⟨some 63, .op (.pick), [.t 59, .t 62, .c (.bool false)], none⟩,
  ⟨some 64, .op (.mov), [.t 63], none⟩,
  ⟨some 65, .op (.mov), [.t 13], some (64, true)⟩,
  ⟨some 66, .op (.pick), [.t 64, .t 65, .c (.bool false)], none⟩,
  ⟨some 67, .op (.mov), [.t 66], none⟩,
  ⟨some 68, .op (.load (some 3)), [.t 12], some (67, true)⟩,
  ⟨some 69, .op (.load (some 3)), [.t 9], some (67, true)⟩,
  ⟨some 70, .call none, [.f 46, .t 68, .t 69], some (67, true)⟩,
  ⟨some 71, .op (.pick), [.t 67, .t 70, .c (.bool false)], none⟩,
  ⟨some 72, .op (.mov), [.t 71], none⟩,
  ⟨some 73, .op (.mov), [.t 15], some (72, true)⟩,
  ⟨some 74, .op (.un .not), [.t 73], some (72, true)⟩,
  ⟨some 75, .op (.pick), [.t 72, .t 74, .c (.bool false)], none⟩,
  ⟨some 8, .op (.mov), [.t 75], none⟩]
abbrev c8 : IC := (IC.seq (IC.reg r8_0) (IC.seq (IC.seq (IC.reg r8_1) (IC.cond (.t 17) (IC.seq (IC.reg r8_2) IC.ret) IC.skip)) (IC.seq (IC.seq (IC.reg r8_3) (IC.cond (.t 20) (IC.seq (IC.reg r8_4) IC.ret) IC.skip)) (IC.seq (IC.reg r8_5) (IC.seq (IC.seq (IC.reg r8_6) (IC.cond (.t 29) (IC.seq (IC.reg r8_7) IC.ret) IC.skip)) (IC.seq (IC.reg r8_8) (IC.seq (IC.reg r8_9) (IC.seq (IC.reg r8_10) (IC.seq (IC.reg r8_11) IC.ret)))))))))
abbrev g8 : FC := ⟨c8, 76, [.t 8]⟩
theorem comp8 : compF Go.Proofs.Try.prog (fun _ => 0) 8 = some g8 := by kernel_rfl

-- outlaw/outlawlaw09.DfaAuto
abbrev r9_0 : List IOp := [⟨some 8, .op (.mov), [.c (.bool false)], none⟩]
abbrev r9_1 : List IOp := [⟨some 15, .call none, [.f 40], none⟩,
  ⟨some 16, .op (.un .not), [.t 15], none⟩]
abbrev r9_2 : List IOp := [⟨some 8, .op (.mov), [.c (.bool false)], none⟩]
abbrev r9_3 : List IOp := [⟨some 17, .op (.mov), [.t 0], none⟩,
  ⟨some 18, .op (.len .str), [.t 17], none⟩,
  ⟨some 19, .op (.bin .gtr .prim), [.t 18, .c (.int .i64 300)], none⟩,
  ⟨some 20, .op (.mov), [.t 19], none⟩,
  ⟨some 21, .op (.mov), [.t 3], some (20, false)⟩,
  ⟨some 22, .call none, [.f 47, .t 21, .c (.int .i64 20), .c (.int .i64 260)], some (20, false)⟩,
  ⟨some 23, .op (.un .not), [.t 22], some (20, false)⟩,
  ⟨some 24, .op (.pick), [.t 20, .c (.bool true), .t 23], none⟩]
abbrev r9_4 : List IOp := [⟨some 8, .op (.mov), [.c (.bool true)], none⟩]
abbrev r9_5 : List IOp := [⟨some 26, .op (.mov), [.t 0], none⟩,
  ⟨some 27, .op (.mov), [.t 1], none⟩,
  ⟨some 28, .op (.mov), [.t 2], none⟩,
  ⟨some 29, .call none, [.f 48, .t 26, .t 27, .t 28], none⟩,
  ⟨some 25, .op (.mov), [.t 29], none⟩,
  ⟨some 30, .op (.extract 0), [.t 25], none⟩,
  ⟨some 31, .op (.extract 1), [.t 25], none⟩,
  ⟨some 9, .op (.mov), [.t 30], none⟩,
  ⟨some 10, .op (.mov), [.t 31], none⟩]
abbrev r9_6 : List IOp := [⟨some 33, .op (.mov), [.t 0], none⟩,
  ⟨some 34, .op (.mov), [.t 1], none⟩,
  ⟨some 35, .op (.mov), [.t 2], none⟩,
  ⟨some 36, .call none, [.f 45, .t 33, .t 34, .t 35], none⟩,
  ⟨some 32, .op (.mov), [.t 36], none⟩,
  ⟨some 37, .op (.extract 0), [.t 32], none⟩,
  ⟨some 38, .op (.extract 1), [.t 32], none⟩,
  ⟨some 11, .op (.alloc 69 [.nils, .nils, .nils]), [], none⟩,
  ⟨none, .op (.store 3), [.t 11, .t 37], none⟩,
  ⟨some 12, .op (.mov), [.t 38], none⟩]
abbrev r9_7 : List IOp := [⟨some 39, .op (.mov), [.t 10], none⟩,
  ⟨some 40, .op (.bin .neq .prim), [.t 39, .c (.int .i64 0)], none⟩]
abbrev r9_8 : List IOp := [⟨some 41, .op (.mov), [.t 9], none⟩,
  ⟨some 42, .op (.bin .eql .ptr), [.t 41, .c (.nilp)], none⟩,
  ⟨some 43, .op (.mov), [.t 42], none⟩,
  ⟨some 44, .op (.mov), [.t 12], some (43, true)⟩,
  ⟨some 45, .op (.un .not), [.t 44], some (43, true)⟩,
  ⟨some 46, .op (.pick), [.t 43, .t 45, .c (.bool false)], none⟩,
  ⟨some 47, .op (.mov), [.t 46], none⟩,
  ⟨some 48, .op (.mov), [.t 10], some (47, true)⟩,
  ⟨some 49, .op (.mov), [.t 0], some (47, true)⟩,
  ⟨some 50, .call none, [.f 49, .t 49], some (47, true)⟩,
  ⟨some 51, .op (.bin .eql .prim), [.t 48, .t 50], some (47, true)⟩,
  ⟨some 52, .op (.mov), [.t 51], some (47, true)⟩,
  ⟨some 53, .op (.mov), [.t 10], some (52, false)⟩,
  ⟨some 54, .op (.bin .eql .prim), [.t 53, .c (.int .i64 2)], some (52, false)⟩,
  ⟨some 55, .op (.mov), [.t 54], some (52, false)⟩,
  ⟨some 56, .op (.mov), [.t 2], some (55, true)⟩,
  ⟨some 57, .op (.bin .lss .prim), [.t 56, .c (.int .i64 1)], some (55, true)⟩,
  ⟨some 58, .op (.mov), [.t 57], some (55, true)⟩,
  ⟨some 59, .op (.mov), [.t 2], some (58, false)⟩,
  ⟨some 60, .op (.bin .gtr .prim), [.t 59, .c (.int .i64 256)], some (58, false)⟩,
  ⟨some 61, .op (.pick), [.t 58, .c (.bool true), .t 60], some (55, true)⟩,
  ⟨some 62, .op (.pick), [.t 55, .t 61, .c (.bool false)], some (52, false)⟩,
  ⟨some 63, .op (.pick), [.t 52, .c (.bool true), .t 62], some (47, true)⟩,
  ⟨some 64, .op (.pick), [.t 47, .t 63, .c (.bool false)], none⟩,
  ⟨some 8, .op (.mov), [.t 64], none⟩]
abbrev r9_9 : List IOp := [⟨some 65, .op (.mov), [.t 9], none⟩,
  ⟨some 66, .call none, [.f 50, .t 65], none⟩,
  ⟨some 67, .op (.mov), [.t 12], none⟩,
  ⟨some 68, .op (.bin .eql .bool), [.t 66, .t 67], none⟩,
  ⟨some 69, .op (.mov), [.t 68], none⟩,
  ⟨some 70, .op (.mov), [.t 9], some (69, false)⟩,
  ⟨some 71, .call none, [.f 51, .t 70], some (69, false)⟩,
  ⟨some 72, .op (.faddr 1), [.t 11], some (69, false)⟩,
  ⟨some 73, .op (.load none), [.t 72], some (69, false)⟩,
  ⟨some 74, .op (.len .slice), [.t 73], some (69, false)⟩,
  ⟨some 75, .op (.bin .neq .prim), [.t 71, .t 74], some (69, false)⟩,
  ⟨some 76, .op (.pick), [.t 69, .c (.bool true), .t 75], none⟩,
  ⟨some 77, .op (.mov), [.t 76], none⟩,
  ⟨some 78, .op (.mov), [.t 12], some (77, false)⟩,
  ⟨some 79, .op (.mov), [.t 78], some (77, false)⟩,
  ⟨some 80, .op (.load (some 3)), [.t 11], some (79, true)⟩,
  ⟨some 81, .call none, [.f 42, .t 80], some (79, true)⟩,
  ⟨some 82, .op (.bin .neq .prim), [.t 81, .c (.int .i64 0)], some (79, true)⟩,
  ⟨some 83, .op (.mov), [.t 82], some (79, true)⟩,
  ⟨some 84, .op (.faddr 1), [.t 11], some (83, false)⟩,
  ⟨some 85, .op (.load none), [.t 84], some (83, false)⟩,
  ⟨some 86, .op (.len .slice), [.t 85], some (83, false)⟩,
  ⟨some 87, .op (.mov), [.t 2], some (83, false)⟩,
  ⟨some 88, .op (.bin .gtr .prim), [.t 86, .t 87], some (83, false)⟩,
  ⟨some 89, .op (.pick), [.t 83, .c (.bool true), .t 88], some (79, true)⟩,
  ⟨some 90, .op (.pick), [.t 79, .t 89, .c (.bool false)], some (77, false)⟩,
  ⟨some 91, .op (.pick), [.t 77, .c (.bool true), .t 90], none⟩]
abbrev r9_10 : List IOp := [⟨some 8, .op (.mov), [.c (.bool false)], none⟩]
abbrev r9_11 : List IOp := [⟨some 13, .op (.mov), [.c (.int .i64 0)], none⟩]
abbrev r9_12 : List IOp := [⟨some 92, .op (.mov), [.t 13], none⟩,
  ⟨some 93, .op (.mov), [.t 3], none⟩,
  ⟨some 94, .op (.len .slice), [.t 93], none⟩,
  ⟨some 95, .op (.bin .lss .prim), [.t 92, .t 94], none⟩]
abbrev r9_13 : List IOp := [⟨some 98, .op (.mov), [.t 0], none⟩,
  ⟨some 99, .op (.mov), [.t 3], none⟩,
  ⟨some 100, .op (.mov), [.t 13], none⟩,
  ⟨some 101, .op (.iaddr 1), [.t 99, .t 100], none⟩,
  ⟨some 102, .op (.load none), [.t 101], none⟩,
  ⟨some 103, .op (.mov), [.t 1], none⟩,
  ⟨some 104, .call none, [.f 52, .t 98, .t 102, .t 103], none⟩,
  ⟨some 14, .op (.mov), [.t 104], none⟩]
abbrev r9_14 : List IOp := [⟨some 105, .op (.mov), [.t 9], none⟩,
  ⟨some 106, .op (.mov), [.t 3], none⟩,
  ⟨some 107, .op (.mov), [.t 13], none⟩,
  ⟨some 108, .op (.iaddr 1), [.t 106, .t 107], none⟩,
  ⟨some 109, .op (.load none), [.t 108], none⟩,
  ⟨some 110, .call none, [.f 53, .t 105, .t 109], none⟩,
  ⟨some 111, .op (.mov), [.t 14], none⟩,
  ⟨some 112, .op (.bin .neq .bool), [.t 110, .t 111], none⟩,
  ⟨some 113, .op (.mov), [.t 112], none⟩,
  ⟨some 114, .op (.mov), [.t 12], some (113, false)⟩,
  ⟨some 115, .op (.mov), [.t 114], some (113, false)⟩,
  ⟨some 116, .op (.load (some 3)), [.t 11], some (115, true)⟩,
  ⟨some 117, .op (.mov), [.t 3], some (115, true)⟩,
  ⟨some 118, .op (.mov), [.t 13], some (115, true)⟩,
  ⟨some 119, .op (.iaddr 1), [.t 117, .t 118], some (115, true)⟩,
  ⟨some 120, .op (.load none), [.t 119], some (115, true)⟩,
  ⟨some 121, .call none, [.f 43, .t 116, .t 120], some (115, true)⟩,
  ⟨some 122, .op (.mov), [.t 14], some (115, true)⟩,
  ⟨some 123, .op (.bin .neq .bool), [.t 121, .t 122], some (115, true)⟩,
  ⟨some 124, .op (.pick), [.t 115, .t 123, .c (.bool false)], some (113, false)⟩,
  ⟨some 125, .op (.pick), [.t 113, .c (.bool true), .t 124], none⟩]
abbrev r9_15 : List IOp := [⟨some 8, .op (.mov), [.c (.bool false)], none⟩]
abbrev r9_16 : List IOp := [⟨some 96, .op (.mov), [.t 13], none⟩,
  ⟨some 97, .op (.bin .add .prim), [.t 96, .c (.int .i64 1)], none⟩,
  ⟨some 13, .op (.mov), [.t 97], none⟩]
abbrev b9_0 : IC := (IC.seq (IC.seq (IC.reg r9_12) (IC.cond (.t 95) IC.skip (IC.exit 0))) (IC.seq (IC.block 1 (IC.seq (IC.reg r9_13) (IC.seq (IC.regD .wild r9_14 (.take 0 (.take 1 (.take 2 (.take 3 (.take 4 (.take 5 (.take 6 (.take 7 (.take 8 (.take 9 (.take 10 (.take 11 (.take 12 (.take 13 (.take 14 (.take 15 (.take 16 (.take 17 (.take 18 (.take 19 (.take 20 (.done))))))))))))))))))))))) (IC.cond (.t 125) (IC.seq (IC.reg r9_15) IC.ret) IC.skip)))) (IC.reg r9_16)))
abbrev r9_17 : List IOp := [⟨some 8, .op (.mov), [.c (.bool true)], none⟩]
abbrev c9 : IC := (IC.seq (IC.reg r9_0) (IC.seq (IC.seq (IC.reg r9_1) (IC.cond (.t 16) (IC.seq (IC.reg r9_2) IC.ret) IC.skip)) (IC.seq (IC.seq (IC.reg r9_3) (IC.cond (.t 24) (IC.seq (IC.reg r9_4) IC.ret) IC.skip)) (IC.seq (IC.reg r9_5) (IC.seq (IC.reg r9_6) (IC.seq (IC.seq (IC.reg r9_7) (IC.cond (.t 40) (IC.seq (IC.reg r9_8) IC.ret) IC.skip)) (IC.seq (IC.seq (IC.regD .alloc r9_9 (.take 0 (.take 1 (.take 2 (.take 3 (.take 4 (.take 5 (.take 7 (.take 8 (.take 9 (.take 6 (.take 10 (.take 11 (.take 12 (.take 13 (.take 14 (.take 15 (.take 16 (.take 17 (.take 18 (.take 19 (.take 20 (.take 21 (.take 22 (.take 23 (.take 24 (.take 25 (.take 26 (.done))))))))))))))))))))))))))))) (IC.cond (.t 91) (IC.seq (IC.reg r9_10) IC.ret) IC.skip)) (IC.seq (IC.seq (IC.reg r9_11) (IC.block 0 (IC.loop b9_0))) (IC.seq (IC.reg r9_17) IC.ret)))))))))
abbrev g9 : FC := ⟨c9, 126, [.t 8]⟩
theorem comp9 : compF Go.Proofs.Try.prog (hintL [(9, 7), (15, 6)]) 9 = some g9 := by kernel_rfl

-- outlaw/outlawlaw09.lives
abbrev r40_0 : List IOp := [⟨some 0, .op (.mov), [.c (.bool false)], none⟩]
abbrev r40_1 : List IOp := [⟨some 4, .call none, [.f 45, .c (.str [97, 98]), .c (.bool false), .c (.int .i64 10)], none⟩,
  ⟨some 3, .op (.mov), [.t 4], none⟩,
  ⟨some 5, .op (.extract 0), [.t 3], none⟩,
  ⟨some 6, .op (.extract 1), [.t 3], none⟩,
  ⟨some 1, .op (.alloc 69 [.nils, .nils, .nils]), [], none⟩,
  ⟨none, .op (.store 3), [.t 1, .t 5], none⟩,
  ⟨some 2, .op (.mov), [.t 6], none⟩]
abbrev r40_2 : List IOp := [⟨some 7, .op (.mov), [.t 2], none⟩,
  ⟨some 8, .op (.mov), [.t 7], none⟩,
  ⟨some 9, .op (.faddr 1), [.t 1], some (8, true)⟩,
  ⟨some 10, .op (.load none), [.t 9], some (8, true)⟩,
  ⟨some 11, .op (.len .slice), [.t 10], some (8, true)⟩,
  ⟨some 12, .op (.bin .eql .prim), [.t 11, .c (.int .i64 4)], some (8, true)⟩,
  ⟨some 13, .op (.pick), [.t 8, .t 12, .c (.bool false)], none⟩,
  ⟨some 14, .op (.mov), [.t 13], none⟩,
  ⟨some 15, .op (.load (some 3)), [.t 1], some (14, true)⟩,
  ⟨some 16, .call none, [.f 43, .t 15, .c (.str [97, 98])], some (14, true)⟩,
  ⟨some 17, .op (.pick), [.t 14, .t 16, .c (.bool false)], none⟩,
  ⟨some 18, .op (.mov), [.t 17], none⟩,
  ⟨some 19, .op (.load (some 3)), [.t 1], some (18, true)⟩,
  ⟨some 20, .call none, [.f 43, .t 19, .c (.str [97])], some (18, true)⟩,
  ⟨some 21, .op (.un .not), [.t 20], some (18, true)⟩,
  ⟨some 22, .op (.pick), [.t 18, .t 21, .c (.bool false)], none⟩,
  ⟨some 0, .op (.mov), [.t 22], none⟩]
abbrev c40 : IC := (IC.seq (IC.reg r40_0) (IC.seq (IC.reg r40_1) (IC.seq (IC.reg r40_2) IC.ret)))
abbrev g40 : FC := ⟨c40, 23, [.t 0]⟩
theorem comp40 : compF Go.Proofs.Try.prog (fun _ => 0) 40 = some g40 := by kernel_rfl

-- outlaw/outlawlaw09.lightDfa
abbrev r41_0 : List IOp := [⟨some 1, .op (.box 69), [.t 0], none⟩,
  ⟨some 2, .op (.mov), [.c (.bool false)], none⟩]
abbrev r41_1 : List IOp := [⟨some 3, .op (.mov), [.c (.int .i64 0)], none⟩]
abbrev r41_2 : List IOp := [⟨some 4, .op (.mov), [.t 3], none⟩,
  ⟨some 5, .op (.faddr 1), [.t 1], none⟩,
  ⟨some 6, .op (.load none), [.t 5], none⟩,
  ⟨some 7, .op (.len .slice), [.t 6], none⟩,
  ⟨some 8, .op (.bin .lss .prim), [.t 4, .t 7], none⟩]
abbrev r41_3 : List IOp := [⟨some 11, .op (.faddr 1), [.t 1], none⟩,
  ⟨some 12, .op (.load none), [.t 11], none⟩,
  ⟨some 13, .op (.mov), [.t 3], none⟩,
  ⟨some 14, .op (.iaddr 1), [.t 12, .t 13], none⟩,
  ⟨some 15, .op (.load none), [.t 14], none⟩,
  ⟨some 16, .op (.len .slice), [.t 15], none⟩,
  ⟨some 17, .op (.bin .gtr .prim), [.t 16, .c (.int .i64 300)], none⟩]
abbrev r41_4 : List IOp := [⟨some 2, .op (.mov), [.c (.bool false)], none⟩]
abbrev r41_5 : List IOp := [⟨some 9, .op (.mov), [.t 3], none⟩,
  ⟨some 10, .op (.bin .add .prim), [.t 9, .c (.int .i64 1)], none⟩,
  ⟨some 3, .op (.mov), [.t 10], none⟩]
abbrev b41_0 : IC := (IC.seq (IC.seq (IC.reg r41_2) (IC.cond (.t 8) IC.skip (IC.exit 0))) (IC.seq (IC.block 1 (IC.seq (IC.reg r41_3) (IC.cond (.t 17) (IC.seq (IC.reg r41_4) IC.ret) IC.skip))) (IC.reg r41_5)))
abbrev r41_6 : List IOp := [⟨some 18, .op (.faddr 0), [.t 1], none⟩,
  ⟨some 19, .op (.load none), [.t 18], none⟩,
  ⟨some 20, .op (.len .slice), [.t 19], none⟩,
  ⟨some 21, .op (.bin .leq .prim), [.t 20, .c (.int .i64 300)], none⟩,
  ⟨some 22, .op (.mov), [.t 21], none⟩,
  ⟨some 23, .op (.faddr 1), [.t 1], some (22, true)⟩,
  ⟨some 24, .op (.load none), [.t 23], some (22, true)⟩,
  ⟨some 25, .op (.len .slice), [.t 24], some (22, true)⟩,
  ⟨some 26, .op (.bin .leq .prim), [.t 25, .c (.int .i64 300)], some (22, true)⟩,
  ⟨some 27, .op (.pick), [.t 22, .t 26, .c (.bool false)], none⟩,
  ⟨some 28, .op (.mov), [.t 27], none⟩,
  ⟨some 29, .op (.faddr 2), [.t 1], some (28, true)⟩,
  ⟨some 30, .op (.load none), [.t 29], some (28, true)⟩,
  ⟨some 31, .op (.len .slice), [.t 30], some (28, true)⟩,
  ⟨some 32, .op (.bin .leq .prim), [.t 31, .c (.int .i64 300)], some (28, true)⟩,
  ⟨some 33, .op (.pick), [.t 28, .t 32, .c (.bool false)], none⟩,
  ⟨some 2, .op (.mov), [.t 33], none⟩]
abbrev c41 : IC := (IC.seq (IC.reg r41_0) (IC.seq (IC.seq (IC.reg r41_1) (IC.block 0 (IC.loop b41_0))) (IC.seq (IC.reg r41_6) IC.ret)))
abbrev g41 : FC := ⟨c41, 34, [.t 2]⟩
theorem comp41 : compF Go.Proofs.Try.prog (fun _ => 0) 41 = some g41 := by kernel_rfl

-- outlaw/dfa.Check
abbrev r42_0 : List IOp := [⟨some 1, .op (.box 69), [.t 0], none⟩,
  ⟨some 2, .op (.mov), [.c (.int .i64 0)], none⟩]
abbrev r42_1 : List IOp := [⟨some 6, .op (.faddr 0), [.t 1], none⟩,
  ⟨some 7, .op (.load none), [.t 6], none⟩,
  ⟨some 8, .op (.len .slice), [.t 7], none⟩,
  ⟨some 9, .op (.bin .neq .prim), [.t 8, .c (.int .i64 256)], none⟩,
  ⟨some 10, .op (.mov), [.t 9], none⟩,
  ⟨some 11, .op (.faddr 1), [.t 1], some (10, false)⟩,
  ⟨some 12, .op (.load none), [.t 11], some (10, false)⟩,
  ⟨some 13, .op (.len .slice), [.t 12], some (10, false)⟩,
  ⟨some 14, .op (.bin .lss .prim), [.t 13, .c (.int .i64 1)], some (10, false)⟩,
  ⟨some 15, .op (.pick), [.t 10, .c (.bool true), .t 14], none⟩,
  ⟨some 16, .op (.mov), [.t 15], none⟩,
  ⟨some 17, .op (.faddr 1), [.t 1], some (16, false)⟩,
  ⟨some 18, .op (.load none), [.t 17], some (16, false)⟩,
  ⟨some 19, .op (.len .slice), [.t 18], some (16, false)⟩,
  ⟨some 20, .op (.bin .gtr .prim), [.t 19, .c (.int .i64 256)], some (16, false)⟩,
  ⟨some 21, .op (.pick), [.t 16, .c (.bool true), .t 20], none⟩,
  ⟨some 22, .op (.mov), [.t 21], none⟩,
  ⟨some 23, .op (.faddr 2), [.t 1], some (22, false)⟩,
  ⟨some 24, .op (.load none), [.t 23], some (22, false)⟩,
  ⟨some 25, .op (.len .slice), [.t 24], some (22, false)⟩,
  ⟨some 26, .op (.faddr 1), [.t 1], some (22, false)⟩,
  ⟨some 27, .op (.load none), [.t 26], some (22, false)⟩,
  ⟨some 28, .op (.len .slice), [.t 27], some (22, false)⟩,
  ⟨some 29, .op (.bin .neq .prim), [.t 25, .t 28], some (22, false)⟩,
  ⟨some 30, .op (.pick), [.t 22, .c (.bool true), .t 29], none⟩,
  ⟨some 31, .op (.mov), [.t 30], none⟩,
  ⟨some 32, .op (.faddr 1), [.t 1], some (31, false)⟩,
  ⟨some 33, .op (.load none), [.t 32], some (31, false)⟩,
  ⟨some 34, .op (.iaddr 1), [.t 33, .c (.int .i64 0)], some (31, false)⟩,
  ⟨some 35, .op (.load none), [.t 34], some (31, false)⟩,
  ⟨some 36, .op (.len .slice), [.t 35], some (31, false)⟩,
  ⟨some 37, .op (.bin .lss .prim), [.t 36, .c (.int .i64 1)], some (31, false)⟩,
  ⟨some 38, .op (.pick), [.t 31, .c (.bool true), .t 37], none⟩]
abbrev r42_2 : List IOp := [⟨some 2, .op (.mov), [.c (.int .i64 2)], none⟩]
abbrev r42_3 : List IOp := [⟨some 39, .op (.faddr 1), [.t 1], none⟩,
  ⟨some 40, .op (.load none), [.t 39], none⟩,
  ⟨some 41, .op (.iaddr 1), [.t 40, .c (.int .i64 0)], none⟩,
  ⟨some 42, .op (.load none), [.t 41], none⟩,
  ⟨some 43, .op (.len .slice), [.t 42], none⟩,
  ⟨some 3, .op (.alloc 3 [.int .i64 0]), [], none⟩,
  ⟨none, .op (.store 1), [.t 3, .t 43], none⟩]
abbrev r42_4 : List IOp := [⟨some 44, .op (.faddr 0), [.t 1], none⟩,
  ⟨some 45, .op (.load none), [.t 44], none⟩,
  ⟨some 46, .op (.mkfn 87), [.t 3], none⟩,
  ⟨some 47, .call none, [.f 86, .t 45, .t 46], none⟩]
abbrev r42_5 : List IOp := [⟨some 2, .op (.mov), [.c (.int .i64 2)], none⟩]
abbrev r42_6 : List IOp := [⟨some 48, .op (.faddr 1), [.t 1], none⟩,
  ⟨some 49, .op (.load none), [.t 48], none⟩,
  ⟨some 50, .op (.len .slice), [.t 49], none⟩,
  ⟨some 51, .op (.mov), [.c (.int .i64 0)], none⟩]
abbrev r42_7 : List IOp := [⟨some 52, .op (.bin .lss .prim), [.t 51, .t 50], none⟩]
abbrev r42_8 : List IOp := [⟨some 53, .op (.iaddr 1), [.t 49, .t 51], none⟩,
  ⟨some 54, .op (.load none), [.t 53], none⟩,
  ⟨some 5, .op (.mov), [.t 54], none⟩]
abbrev r42_9 : List IOp := [⟨some 55, .op (.mov), [.t 5], none⟩,
  ⟨some 56, .op (.len .slice), [.t 55], none⟩,
  ⟨some 57, .op (.load none), [.t 3], none⟩,
  ⟨some 58, .op (.bin .neq .prim), [.t 56, .t 57], none⟩,
  ⟨some 59, .op (.mov), [.t 58], none⟩,
  ⟨some 60, .op (.mov), [.t 5], some (59, false)⟩,
  ⟨some 61, .op (.mkfn 88), [.t 1], some (59, false)⟩,
  ⟨some 62, .call none, [.f 86, .t 60, .t 61], some (59, false)⟩,
  ⟨some 63, .op (.pick), [.t 59, .c (.bool true), .t 62], none⟩]
abbrev r42_10 : List IOp := [⟨some 2, .op (.mov), [.c (.int .i64 2)], none⟩]
abbrev r42_11 : List IOp := [⟨some 64, .op (.bin .add .prim), [.t 51, .c (.int .i64 1)], none⟩,
  ⟨some 51, .op (.mov), [.t 64], none⟩]
abbrev b42_0 : IC := (IC.seq (IC.reg r42_7) (IC.seq (IC.cond (.t 52) IC.skip (IC.exit 0)) (IC.seq (IC.block 1 (IC.seq (IC.reg r42_8) (IC.seq (IC.reg r42_9) (IC.cond (.t 63) (IC.seq (IC.reg r42_10) IC.ret) IC.skip)))) (IC.reg r42_11))))
abbrev r42_12 : List IOp := [⟨some 2, .op (.mov), [.c (.int .i64 0)], none⟩]
abbrev c42 : IC := (IC.seq (IC.reg r42_0) (IC.seq (IC.seq (IC.reg r42_1) (IC.cond (.t 38) (IC.seq (IC.reg r42_2) IC.ret) IC.skip)) (IC.seq (IC.reg r42_3) (IC.seq (IC.seq (IC.reg r42_4) (IC.cond (.t 47) (IC.seq (IC.reg r42_5) IC.ret) IC.skip)) (IC.seq (IC.seq (IC.reg r42_6) (IC.block 0 (IC.loop b42_0))) (IC.seq (IC.reg r42_12) IC.ret))))))
abbrev g42 : FC := ⟨c42, 65, [.t 2]⟩
theorem comp42 : compF Go.Proofs.Try.prog (fun _ => 0) 42 = some g42 := by kernel_rfl

-- outlaw/dfa.Run
abbrev r43_0 : List IOp := [⟨some 2, .op (.box 69), [.t 0], none⟩,
  ⟨some 4, .op (.mov), [.c (.bool false)], none⟩]
abbrev r43_1 : List IOp := [⟨some 5, .op (.load (some 3)), [.t 2], none⟩,
  ⟨some 6, .call none, [.f 42, .t 5], none⟩,
  ⟨some 7, .op (.bin .eql .prim), [.t 6, .c (.int .i64 0)], none⟩,
  ⟨some 8, .op (.mov), [.t 7], none⟩,
  ⟨some 9, .op (.load (some 3)), [.t 2], some (8, true)⟩,
  ⟨some 10, .op (.mov), [.t 1], some (8, true)⟩,
  ⟨some 11, .call none, [.f 89, .t 9, .t 10], some (8, true)⟩,
  ⟨some 12, .op (.pick), [.t 8, .t 11, .c (.bool false)], none⟩,
  ⟨some 4, .op (.mov), [.t 12], none⟩]
abbrev c43 : IC := (IC.seq (IC.reg r43_0) (IC.seq (IC.reg r43_1) IC.ret))
abbrev g43 : FC := ⟨c43, 13, [.t 4]⟩
theorem comp43 : compF Go.Proofs.Try.prog (fun _ => 0) 43 = some g43 := by kernel_rfl

-- outlaw/outlawlaw09.light
abbrev r44_0 : List IOp := [⟨some 4, .op (.mov), [.c (.bool false)], none⟩]
abbrev r44_1 : List IOp := [⟨some 5, .op (.mov), [.t 0], none⟩,
  ⟨some 6, .op (.len .str), [.t 5], none⟩,
  ⟨some 7, .op (.bin .leq .prim), [.t 6, .c (.int .i64 60)], none⟩,
  ⟨some 8, .op (.mov), [.t 7], none⟩,
  ⟨some 9, .op (.mov), [.t 1], some (8, true)⟩,
  ⟨some 10, .call none, [.f 47, .t 9, .c (.int .i64 20), .c (.int .i64 200)], some (8, true)⟩,
  ⟨some 11, .op (.pick), [.t 8, .t 10, .c (.bool false)], none⟩,
  ⟨some 4, .op (.mov), [.t 11], none⟩]
abbrev c44 : IC := (IC.seq (IC.reg r44_0) (IC.seq (IC.reg r44_1) IC.ret))
abbrev g44 : FC := ⟨c44, 12, [.t 4]⟩
theorem comp44 : compF Go.Proofs.Try.prog (fun _ => 0) 44 = some g44 := by kernel_rfl

-- outlaw/dfa.Build
abbrev r45_0 : List IOp := [⟨some 6, .op (.alloc 69 [.nils, .nils, .nils]), [], none⟩,
  ⟨some 7, .op (.mov), [.c (.bool false)], none⟩]
abbrev r45_1 : List IOp := [⟨some 23, .op (.mov), [.t 0], none⟩,
  ⟨some 24, .op (.mov), [.t 1], none⟩,
  ⟨some 25, .call none, [.f 90, .t 23, .t 24], none⟩,
  ⟨some 22, .op (.mov), [.t 25], none⟩,
  ⟨some 26, .op (.extract 0), [.t 22], none⟩,
  ⟨some 27, .op (.extract 1), [.t 22], none⟩,
  ⟨some 8, .op (.mov), [.t 26], none⟩,
  ⟨some 9, .op (.mov), [.t 27], none⟩]
abbrev r45_2 : List IOp := [⟨some 28, .op (.mov), [.t 9], none⟩,
  ⟨some 29, .op (.bin .neq .prim), [.t 28, .c (.int .i64 0)], none⟩,
  ⟨some 30, .op (.mov), [.t 29], none⟩,
  ⟨some 31, .op (.mov), [.t 2], some (30, false)⟩,
  ⟨some 32, .op (.bin .lss .prim), [.t 31, .c (.int .i64 1)], some (30, false)⟩,
  ⟨some 33, .op (.pick), [.t 30, .c (.bool true), .t 32], none⟩,
  ⟨some 34, .op (.mov), [.t 33], none⟩,
  ⟨some 35, .op (.mov), [.t 2], some (34, false)⟩,
  ⟨some 36, .op (.bin .gtr .prim), [.t 35, .c (.int .i64 256)], some (34, false)⟩,
  ⟨some 37, .op (.pick), [.t 34, .c (.bool true), .t 36], none⟩]
abbrev r45_3 : List IOp := [⟨some 38, .op (.bst [.nils, .nils, .nils] [(0, 1), (1, 1), (2, 1)] []), [], none⟩,
  ⟨none, .op (.store 3), [.t 6, .t 38], none⟩,
  ⟨some 7, .op (.mov), [.c (.bool false)], none⟩]
abbrev r45_4 : List IOp := [⟨some 40, .op (.mov), [.t 8], none⟩,
  ⟨some 41, .call none, [.f 91, .t 40], none⟩,
  ⟨some 39, .op (.mov), [.t 41], none⟩,
  ⟨some 42, .op (.extract 0), [.t 39], none⟩,
  ⟨some 43, .op (.extract 1), [.t 39], none⟩,
  ⟨some 10, .op (.mov), [.t 42], none⟩,
  ⟨some 11, .op (.mov), [.t 43], none⟩]
abbrev r45_5 : List IOp := [⟨some 45, .op (.mov), [.t 10], none⟩,
  ⟨some 46, .op (.mov), [.t 1], none⟩,
  ⟨some 47, .call none, [.f 92, .t 45, .t 46], none⟩,
  ⟨some 44, .op (.mov), [.t 47], none⟩,
  ⟨some 48, .op (.extract 0), [.t 44], none⟩,
  ⟨some 49, .op (.extract 1), [.t 44], none⟩,
  ⟨some 12, .op (.alloc 111 [.int .i64 0, .int .i64 0, .int .i64 0, .int .i64 0, .int .i64 0, .int .i64 0, .int .i64 0, .int .i64 0, .int .i64 0, .int .i64 0, .int .i64 0, .int .i64 0, .int .i64 0, .int .i64 0, .int .i64 0, .int .i64 0, .int .i64 0, .int .i64 0, .int .i64 0, .int .i64 0, .int .i64 0, .int .i64 0, .int .i64 0, .int .i64 0, .int .i64 0, .int .i64 0, .int .i64 0, .int .i64 0, .int .i64 0, .int .i64 0, .int .i64 0, .int .i64 0, .int .i64 0, .int .i64 0, .int .i64 0, .int .i64 0, .int .i64 0, .int .i64 0, .int .i64 0, .int .i64 0, .int .i64 0, .int .i64 0, .int .i64 0, .int .i64 0, .int .i64 0, .int .i64 0, .int .i64 0, .int .i64 0, .int .i64 0, .int .i64 0, .int .i64 0, .int .i64 0, .int .i64 0, .int .i64 0, .int .i64 0, .int .i64 0, .int .i64 0, .int .i64 0, .int .i64 0, .int .i64 0, .int .i64 0, .int .i64 0, .int .i64 0, .int .i64 0, .int .i64 0, .int .i64 0, .int .i64 0, .int .i64 0, .int .i64 0, .int .i64 0, .int .i64 0, .int .i64 0, .int .i64 0, .int .i64 0, .int .i64 0, .int .i64 0, .int .i64 0, .int .i64 0, .int .i64 0, .int .i64 0, .int .i64 0, .int .i64 0, .int .i64 0, .int .i64 0, .int .i64 0, .int .i64 0, .int .i64 0, .int .i64 0, .int .i64 0, .int .i64 0, .int .i64 0, .int .i64 0, .int .i64 0, .int .i64 0, .int .i64 0, .int .i64 0, .int .i64 0, .int .i64 0, .int .i64 0, .int .i64 0, .int .i64 0, .int .i64 0, .int .i64 0, .int .i64 0, .int .i64 0, .int .i64 0, .int .i64 0, .int .i64 0, .int .i64 0, .int .i64 0, .int .i64 0, .int .i64 0, .int .i64 0, .int .i64 0, .int .i64 0, .int .i64 0, .int .i64 0, .int .i64 0, .int .i64 0, .int .i64 0, .int .i64 0, .int .i64 0, .int .i64 0, .int .i64 0, .int .i64 0, .int .i64 0, .int .i64 0, .int .i64 0, .int .i64 0, .int .i64 0, .int .i64 0, .int .i64 0, .int .i64 0, .int .i64 0, .int .i64 0, .int .i64 0, .int .i64 0, .int .i64 0, .int .i64 0, .int .i64 0, .int .i64 0, .int .i64 0, .int .i64 0, .int .i64 0, .int .i64 0, .int .i64 0, .int .i64 0, .int .i64 0, .int .i64 0, .int .i64 0, .int .i64 0, .int .i64 0, .int .i64 0, .int .i64 0, .int .i64 0, .int .i64 0, .int .i64 0, .int .i64 0, .int .i64 0, .int .i64 0, .int .i64 0, .int .i64 0, .int .i64 0, .int .i64 0, .int .i64 0, .int .i64 0, .int .i64 0, .int .i64 0, .int .i64 0, .int .i64 0, .int .i64 0, .int .i64 0, .int .i64 0, .int .i64 0, .int .i64 0, .int .i64 0, .int .i64 0, .int .i64 0, .int .i64 0, .int .i64 0, .int .i64 0, .int .i64 0, .int .i64 0, .int .i64 0, .int .i64 0, .int .i64 0, .int .i64 0, .int .i64 0, .int .i64 0, .int .i64 0, .int .i64 0, .int .i64 0, .int .i64 0, .int .i64 0, .int .i64 0, .int .i64 0, .int .i64 0, .int .i64 0, .int .i64 0, .int .i64 0, .int .i64 0, .int .i64 0, .int .i64 0, .int .i64 0, .int .i64 0, .int .i64 0, .int .i64 0, .int .i64 0, .int .i64 0, .int .i64 0, .int .i64 0, .int .i64 0, .int .i64 0, .int .i64 0, .int .i64 0, .int .i64 0, .int .i64 0, .int .i64 0, .int .i64 0, .int .i64 0, .int .i64 0, .int .i64 0, .int .i64 0, .int .i64 0, .int .i64 0, .int .i64 0, .int .i64 0, .int .i64 0, .int .i64 0, .int .i64 0, .int .i64 0, .int .i64 0, .int .i64 0, .int .i64 0, .int .i64 0, .int .i64 0, .int .i64 0, .int .i64 0, .int .i64 0, .int .i64 0, .int .i64 0, .int .i64 0, .int .i64 0, .int .i64 0, .int .i64 0, .int .i64 0, .int .i64 0, .int .i64 0, .int .i64 0, .int .i64 0, .int .i64 0, .int .i64 0, .int .i64 0, .int .i64 0, .int .i64 0, .int .i64 0]), [], none⟩,
  ⟨none, .op (.store 256), [.t 12, .t 48], none⟩,
  ⟨some 13, .op (.mov), [.t 49], none⟩]
abbrev r45_6 : List IOp := [⟨some 50, .op (.aslice 256 1 false false false), [.t 12], none⟩,
  ⟨some 51, .op (.bst [.nils, .nils, .nils] [(0, 1), (1, 1), (2, 1)] [0]), [.t 50], none⟩,
  ⟨some 14, .op (.alloc 69 [.nils, .nils, .nils]), [], none⟩,
  ⟨none, .op (.store 3), [.t 14, .t 51], none⟩]
abbrev r45_7 : List IOp := [⟨some 52, .op (.mkmap false), [], none⟩,
  ⟨some 15, .op (.alloc 114 [.nilm]), [], none⟩,
  ⟨none, .op (.store 1), [.t 15, .t 52], none⟩]
abbrev r45_8 : List IOp := [⟨some 16, .op (.alloc 66 [.nils]), [], none⟩]
abbrev r45_9 : List IOp := [⟨some 53, .op (.mkfn 93), [.t 15, .t 16], none⟩,
  ⟨some 17, .op (.mov), [.t 53], none⟩]
abbrev r45_10 : List IOp := [⟨some 54, .op (.mov), [.t 17], none⟩,
  ⟨some 55, .op (.mov), [.t 8], none⟩,
  ⟨some 56, .call none, [.f 95, .t 55], none⟩,
  ⟨some 57, .call none, [.t 54, .t 56], none⟩]
abbrev r45_11 : List IOp := [⟨some 18, .op (.mov), [.c (.int .i64 0)], none⟩]
abbrev r45_12 : List IOp := [⟨some 58, .op (.mov), [.t 18], none⟩,
  ⟨some 59, .op (.load none), [.t 16], none⟩,
  ⟨some 60, .op (.len .slice), [.t 59], none⟩,
  ⟨some 61, .op (.bin .lss .prim), [.t 58, .t 60], none⟩]
abbrev r45_13 : List IOp := [⟨some 64, .op (.load none), [.t 16], none⟩,
  ⟨some 65, .op (.len .slice), [.t 64], none⟩,
  ⟨some 66, .op (.mov), [.t 2], none⟩,
  ⟨some 67, .op (.bin .gtr .prim), [.t 65, .t 66], none⟩]
abbrev r45_14 : List IOp := [⟨some 68, .op (.bst [.nils, .nils, .nils] [(0, 1), (1, 1), (2, 1)] []), [], none⟩,
  ⟨none, .op (.store 3), [.t 6, .t 68], none⟩,
  ⟨some 7, .op (.mov), [.c (.bool false)], none⟩]
abbrev r45_15 : List IOp := [⟨some 19, .op (.mov), [.c (.nils)], none⟩]
abbrev r45_16 : List IOp := [⟨some 69, .op (.mov), [.t 13], none⟩,
  ⟨some 70, .op (.len .slice), [.t 69], none⟩,
  ⟨some 71, .op (.mov), [.c (.int .i64 0)], none⟩]
abbrev r45_17 : List IOp := [⟨some 72, .op (.bin .lss .prim), [.t 71, .t 70], none⟩]
abbrev r45_18 : List IOp := [⟨some 73, .op (.iaddr 1), [.t 69, .t 71], none⟩,
  ⟨some 74, .op (.load none), [.t 73], none⟩,
  ⟨some 21, .op (.mov), [.t 74], none⟩]
abbrev r45_19 : List IOp := [⟨some 75, .op (.mov), [.t 21], none⟩,
  ⟨some 76, .op (.bin .lss .prim), [.t 75, .c (.int .i64 0)], none⟩]
abbrev r45_20 : List IOp := [⟨some 77, .op (.mov), [.t 19], none⟩,
  ⟨some 78, .op (.bsl 3 1 false), [.c (.int .i64 0)], none⟩,
  ⟨some 79, .op (.app 3 1 8), [.t 77, .t 78], none⟩,
  ⟨some 19, .op (.mov), [.t 79], none⟩]
abbrev r45_21 : List IOp := [⟨some 80, .op (.mov), [.t 19], none⟩,
  ⟨some 81, .op (.mov), [.t 17], none⟩,
  ⟨some 82, .op (.mov), [.t 8], none⟩,
  ⟨some 83, .op (.load none), [.t 16], none⟩,
  ⟨some 84, .op (.mov), [.t 18], none⟩,
  ⟨some 85, .op (.iaddr 1), [.t 83, .t 84], none⟩,
  ⟨some 86, .op (.load none), [.t 85], none⟩,
  ⟨some 87, .op (.mov), [.t 21], none⟩,
  ⟨some 88, .op (.toInt .u8), [.t 87], none⟩,
  ⟨some 89, .call none, [.f 96, .t 82, .t 86, .t 88], none⟩,
  ⟨some 90, .call none, [.t 81, .t 89], none⟩,
  ⟨some 91, .op (.bsl 3 1 false), [.t 90], none⟩,
  ⟨some 92, .op (.app 3 1 8), [.t 80, .t 91], none⟩,
  ⟨some 19, .op (.mov), [.t 92], none⟩]
abbrev r45_22 : List IOp := [⟨some 93, .op (.bin .add .prim), [.t 71, .c (.int .i64 1)], none⟩,
  ⟨some 71, .op (.mov), [.t 93], none⟩]
abbrev b45_0 : IC := (IC.seq (IC.reg r45_17) (IC.seq (IC.cond (.t 72) IC.skip (IC.exit 2)) (IC.seq (IC.block 3 (IC.seq (IC.reg r45_18) (IC.seq (IC.seq (IC.reg r45_19) (IC.cond (.t 76) (IC.seq (IC.reg r45_20) (IC.exit 3)) IC.skip)) (IC.reg r45_21)))) (IC.reg r45_22))))
abbrev r45_23 : List IOp := [⟨some 94, .op (.faddr 1), [.t 14], none⟩,
  ⟨some 95, .op (.load none), [.t 94], none⟩,
  ⟨some 96, .op (.mov), [.t 19], none⟩,
  ⟨some 97, .op (.bsl 65 1 false), [.t 96], none⟩,
  ⟨some 98, .op (.app 65 1 24), [.t 95, .t 97], none⟩,
  ⟨some 99, .op (.faddr 1), [.t 14], none⟩,
  ⟨none, .op (.store 1), [.t 99, .t 98], none⟩]
abbrev r45_24 : List IOp := [⟨some 100, .op (.faddr 2), [.t 14], none⟩,
  ⟨some 101, .op (.load none), [.t 100], none⟩,
  ⟨some 102, .op (.mov), [.t 8], none⟩,
  ⟨some 103, .op (.load none), [.t 16], none⟩,
  ⟨some 104, .op (.mov), [.t 18], none⟩,
  ⟨some 105, .op (.iaddr 1), [.t 103, .t 104], none⟩,
  ⟨some 106, .op (.load none), [.t 105], none⟩,
  ⟨some 107, .call none, [.f 97, .t 102, .t 106], none⟩,
  ⟨some 108, .op (.bsl 4 1 false), [.t 107], none⟩,
  ⟨some 109, .op (.app 4 1 1), [.t 101, .t 108], none⟩,
  ⟨some 110, .op (.faddr 2), [.t 14], none⟩,
  ⟨none, .op (.store 1), [.t 110, .t 109], none⟩]
abbrev r45_25 : List IOp := [⟨some 62, .op (.mov), [.t 18], none⟩,
  ⟨some 63, .op (.bin .add .prim), [.t 62, .c (.int .i64 1)], none⟩,
  ⟨some 18, .op (.mov), [.t 63], none⟩]
abbrev b45_1 : IC := (IC.seq (IC.seq (IC.reg r45_12) (IC.cond (.t 61) IC.skip (IC.exit 0))) (IC.seq (IC.block 1 (IC.seq (IC.seq (IC.reg r45_13) (IC.cond (.t 67) (IC.seq (IC.reg r45_14) IC.ret) IC.skip)) (IC.seq (IC.reg r45_15) (IC.seq (IC.seq (IC.reg r45_16) (IC.block 2 (IC.loop b45_0))) (IC.seq (IC.reg r45_23) (IC.regD .alloc r45_24 (.take 0 (.take 1 (.take 2 (.take 3 (.take 4 (.take 5 (.take 6 (.take 7 (.take 8 (.take 9 (.take 10 (.take 11 (.done))))))))))))))))))) (IC.reg r45_25)))
abbrev r45_26 : List IOp := [⟨some 111, .op (.load (some 3)), [.t 14], none⟩,
  ⟨none, .op (.store 3), [.t 6, .t 111], none⟩,
  ⟨some 7, .op (.mov), [.c (.bool true)], none⟩]
abbrev c45 : IC := (IC.seq (IC.reg r45_0) (IC.seq (IC.reg r45_1) (IC.seq (IC.seq (IC.reg r45_2) (IC.cond (.t 37) (IC.seq (IC.reg r45_3) IC.ret) IC.skip)) (IC.seq (IC.reg r45_4) (IC.seq (IC.reg r45_5) (IC.seq (IC.reg r45_6) (IC.seq (IC.reg r45_7) (IC.seq (IC.reg r45_8) (IC.seq (IC.reg r45_9) (IC.seq (IC.reg r45_10) (IC.seq (IC.seq (IC.reg r45_11) (IC.block 0 (IC.loop b45_1))) (IC.seq (IC.reg r45_26) IC.ret))))))))))))
abbrev g45 : FC := ⟨c45, 112, [.cell 6 (some 3), .t 7]⟩
theorem comp45 : compF Go.Proofs.Try.prog (hintL [(25, 7)]) 45 = some g45 := by kernel_rfl

-- outlaw/dfa.Same
abbrev r46_0 : List IOp := [⟨some 2, .op (.box 69), [.t 0], none⟩,
  ⟨some 3, .op (.box 69), [.t 1], none⟩,
  ⟨some 4, .op (.mov), [.c (.bool false)], none⟩]
abbrev r46_1 : List IOp := [⟨some 5, .op (.faddr 0), [.t 2], none⟩,
  ⟨some 6, .op (.load none), [.t 5], none⟩,
  ⟨some 7, .op (.faddr 0), [.t 3], none⟩,
  ⟨some 8, .op (.load none), [.t 7], none⟩,
  ⟨some 9, .call none, [.f 98, .t 6, .t 8], none⟩,
  ⟨some 10, .op (.mov), [.t 9], none⟩,
  ⟨some 11, .op (.faddr 1), [.t 2], some (10, true)⟩,
  ⟨some 12, .op (.load none), [.t 11], some (10, true)⟩,
  ⟨some 13, .op (.faddr 1), [.t 3], some (10, true)⟩,
  ⟨some 14, .op (.load none), [.t 13], some (10, true)⟩,
  ⟨some 15, .call none, [.f 99, .t 12, .t 14, .f 98], some (10, true)⟩,
  ⟨some 16, .op (.pick), [.t 10, .t 15, .c (.bool false)], none⟩,
  ⟨some 17, .op (.mov), [.t 16], none⟩,
  ⟨some 18, .op (.faddr 2), [.t 2], some (17, true)⟩,
  ⟨some 19, .op (.load none), [.t 18], some (17, true)⟩,
  ⟨some 20, .op (.faddr 2), [.t 3], some (17, true)⟩,
  ⟨some 21, .op (.load none), [.t 20], some (17, true)⟩,
  ⟨some 22, .call none, [.f 100, .t 19, .t 21], some (17, true)⟩,
  ⟨some 23, .op (.pick), [.t 17, .t 22, .c (.bool false)], none⟩,
  ⟨some 4, .op (.mov), [.t 23], none⟩]
abbrev c46 : IC := (IC.seq (IC.reg r46_0) (IC.seq (IC.reg r46_1) IC.ret))
abbrev g46 : FC := ⟨c46, 24, [.t 4]⟩
theorem comp46 : compF Go.Proofs.Try.prog (fun _ => 0) 46 = some g46 := by kernel_rfl

-- outlaw/outlawkit.Pick
abbrev r18_0 : List IOp := [⟨some 4, .op (.mov), [.c (.int .i64 0)], none⟩]
abbrev r18_1 : List IOp := [⟨some 6, .op (.mov), [.t 1], none⟩,
  ⟨some 7, .op (.bin .lss .prim), [.t 6, .c (.int .i64 1)], none⟩]
abbrev r18_2 : List IOp := [⟨some 4, .op (.mov), [.c (.int .i64 0)], none⟩]
abbrev r18_3 : List IOp := [⟨some 8, .op (.mov), [.t 0], none⟩,
  ⟨some 9, .op (.mov), [.t 1], none⟩,
  ⟨some 10, .op (.bin .rem .prim), [.t 8, .t 9], none⟩,
  ⟨some 5, .op (.mov), [.t 10], none⟩]
abbrev r18_4 : List IOp := [⟨some 11, .op (.mov), [.t 5], none⟩,
  ⟨some 12, .op (.bin .lss .prim), [.t 11, .c (.int .i64 0)], none⟩]
abbrev r18_5 : List IOp := [⟨some 13, .op (.mov), [.t 5], none⟩,
  ⟨some 14, .op (.mov), [.t 1], none⟩,
  ⟨some 15, .op (.bin .add .prim), [.t 13, .t 14], none⟩,
  ⟨some 5, .op (.mov), [.t 15], none⟩]
abbrev r18_6 : List IOp := [⟨some 16, .op (.mov), [.t 5], none⟩,
  ⟨some 4, .op (.mov), [.t 16], none⟩]
abbrev c18 : IC := (IC.seq (IC.reg r18_0) (IC.seq (IC.seq (IC.reg r18_1) (IC.cond (.t 7) (IC.seq (IC.reg r18_2) IC.ret) IC.skip)) (IC.seq (IC.reg r18_3) (IC.seq (IC.seq (IC.reg r18_4) (IC.cond (.t 12) (IC.reg r18_5) IC.skip)) (IC.seq (IC.reg r18_6) IC.ret)))))
abbrev g18 : FC := ⟨c18, 17, [.t 4]⟩
theorem comp18 : compF Go.Proofs.Try.prog (fun _ => 0) 18 = some g18 := by kernel_rfl

-- outlaw/outlawkit.LightTexts
abbrev r47_0 : List IOp := [⟨some 6, .op (.mov), [.c (.bool false)], none⟩]
abbrev r47_1 : List IOp := [⟨some 7, .op (.mov), [.c (.int .i64 0)], none⟩]
abbrev r47_2 : List IOp := [⟨some 8, .op (.mov), [.t 7], none⟩,
  ⟨some 9, .op (.mov), [.t 0], none⟩,
  ⟨some 10, .op (.len .slice), [.t 9], none⟩,
  ⟨some 11, .op (.bin .lss .prim), [.t 8, .t 10], none⟩]
abbrev r47_3 : List IOp := [⟨some 14, .op (.mov), [.t 0], none⟩,
  ⟨some 15, .op (.mov), [.t 7], none⟩,
  ⟨some 16, .op (.iaddr 1), [.t 14, .t 15], none⟩,
  ⟨some 17, .op (.load none), [.t 16], none⟩,
  ⟨some 18, .op (.len .str), [.t 17], none⟩,
  ⟨some 19, .op (.mov), [.t 2], none⟩,
  ⟨some 20, .op (.bin .gtr .prim), [.t 18, .t 19], none⟩]
abbrev r47_4 : List IOp := [⟨some 6, .op (.mov), [.c (.bool false)], none⟩]
abbrev r47_5 : List IOp := [⟨some 12, .op (.mov), [.t 7], none⟩,
  ⟨some 13, .op (.bin .add .prim), [.t 12, .c (.int .i64 1)], none⟩,
  ⟨some 7, .op (.mov), [.t 13], none⟩]
abbrev b47_0 : IC := (IC.seq (IC.seq (IC.reg r47_2) (IC.cond (.t 11) IC.skip (IC.exit 0))) (IC.seq (IC.block 1 (IC.seq (IC.reg r47_3) (IC.cond (.t 20) (IC.seq (IC.reg r47_4) IC.ret) IC.skip))) (IC.reg r47_5)))
abbrev r47_6 : List IOp := [⟨some 21, .op (.mov), [.t 0], none⟩,
  ⟨some 22, .op (.len .slice), [.t 21], none⟩,
  ⟨some 23, .op (.mov), [.t 1], none⟩,
  ⟨some 24, .op (.bin .leq .prim), [.t 22, .t 23], none⟩,
  ⟨some 6, .op (.mov), [.t 24], none⟩]
abbrev c47 : IC := (IC.seq (IC.reg r47_0) (IC.seq (IC.seq (IC.reg r47_1) (IC.block 0 (IC.loop b47_0))) (IC.seq (IC.reg r47_6) IC.ret)))
abbrev g47 : FC := ⟨c47, 25, [.t 6]⟩
theorem comp47 : compF Go.Proofs.Try.prog (fun _ => 0) 47 = some g47 := by kernel_rfl

-- outlaw/dfa.New
abbrev r48_0 : List IOp := [⟨some 6, .op (.mov), [.c (.nilp)], none⟩,
  ⟨some 7, .op (.mov), [.c (.int .i64 0)], none⟩]
abbrev r48_1 : List IOp := [⟨some 13, .op (.mov), [.t 0], none⟩,
  ⟨some 14, .op (.mov), [.t 1], none⟩,
  ⟨some 15, .call none, [.f 90, .t 13, .t 14], none⟩,
  ⟨some 12, .op (.mov), [.t 15], none⟩,
  ⟨some 16, .op (.extract 0), [.t 12], none⟩,
  ⟨some 17, .op (.extract 1), [.t 12], none⟩,
  ⟨some 8, .op (.mov), [.t 16], none⟩,
  ⟨some 9, .op (.mov), [.t 17], none⟩]
abbrev r48_2 : List IOp := [⟨some 18, .op (.mov), [.t 9], none⟩,
  ⟨some 19, .op (.bin .neq .prim), [.t 18, .c (.int .i64 0)], none⟩]
abbrev r48_3 : List IOp := [⟨some 20, .op (.mov), [.t 9], none⟩,
  ⟨some 6, .op (.mov), [.c (.nilp)], none⟩,
  ⟨some 7, .op (.mov), [.t 20], none⟩]
abbrev r48_4 : List IOp := [⟨some 21, .op (.mov), [.t 2], none⟩,
  ⟨some 22, .op (.bin .lss .prim), [.t 21, .c (.int .i64 1)], none⟩,
  ⟨some 23, .op (.mov), [.t 22], none⟩,
  ⟨some 24, .op (.mov), [.t 2], some (23, false)⟩,
  ⟨some 25, .op (.bin .gtr .prim), [.t 24, .c (.int .i64 256)], some (23, false)⟩,
  ⟨some 26, .op (.pick), [.t 23, .c (.bool true), .t 25], none⟩]
abbrev r48_5 : List IOp := [⟨some 6, .op (.mov), [.c (.nilp)], none⟩,
  ⟨some 7, .op (.mov), [.c (.int .i64 2)], none⟩]
abbrev r48_6 : List IOp := [⟨some 28, .op (.mov), [.t 0], none⟩,
  ⟨some 29, .op (.mov), [.t 1], none⟩,
  ⟨some 30, .op (.mov), [.t 2], none⟩,
  ⟨some 31, .call none, [.f 45, .t 28, .t 29, .t 30], none⟩,
  ⟨some 27, .op (.mov), [.t 31], none⟩,
  ⟨some 32, .op (.extract 0), [.t 27], none⟩,
  ⟨some 33, .op (.extract 1), [.t 27], none⟩,
  ⟨some 10, .op (.alloc 69 [.nils, .nils, .nils]), [], none⟩,
  ⟨none, .op (.store 3), [.t 10, .t 32], none⟩,
  ⟨some 11, .op (.mov), [.t 33], none⟩]
abbrev r48_7 : List IOp := [⟨some 34, .op (.mov), [.t 11], none⟩]
abbrev r48_8 : List IOp := [⟨some 35, .op (.load (some 3)), [.t 10], none⟩,
  ⟨some 36, .op (.bst [.nils, .nils, .nils] [(0, 3)] [0]), [.t 35], none⟩,
  ⟨some 37, .op (.mkif 127), [.t 36], none⟩,
  ⟨some 38, .op (.bst [.nili] [(0, 1)] [0]), [.t 37], none⟩,
  ⟨some 39, .op (.box 131), [.t 38], none⟩,
  ⟨some 6, .op (.mov), [.t 39], none⟩,
  ⟨some 7, .op (.mov), [.c (.int .i64 0)], none⟩]
abbrev r48_9 : List IOp := [⟨some 40, .op (.mov), [.t 8], none⟩,
  ⟨some 41, .op (.bst [.nilp] [(0, 1)] [0]), [.t 40], none⟩,
  ⟨some 42, .op (.mkif 133), [.t 41], none⟩,
  ⟨some 43, .op (.bst [.nili] [(0, 1)] [0]), [.t 42], none⟩,
  ⟨some 44, .op (.box 131), [.t 43], none⟩,
  ⟨some 6, .op (.mov), [.t 44], none⟩,
  ⟨some 7, .op (.mov), [.c (.int .i64 0)], none⟩]
abbrev c48 : IC := (IC.seq (IC.reg r48_0) (IC.seq (IC.reg r48_1) (IC.seq (IC.seq (IC.reg r48_2) (IC.cond (.t 19) (IC.seq (IC.reg r48_3) IC.ret) IC.skip)) (IC.seq (IC.seq (IC.reg r48_4) (IC.cond (.t 26) (IC.seq (IC.reg r48_5) IC.ret) IC.skip)) (IC.seq (IC.seq (IC.reg r48_6) (IC.seq (IC.reg r48_7) (IC.cond (.t 34) (IC.seq (IC.reg r48_8) IC.ret) IC.skip))) (IC.seq (IC.reg r48_9) IC.ret))))))
abbrev g48 : FC := ⟨c48, 45, [.t 6, .t 7]⟩
theorem comp48 : compF Go.Proofs.Try.prog (fun _ => 0) 48 = some g48 := by kernel_rfl

-- outlaw/glob.Check
abbrev r49_0 : List IOp := [⟨some 2, .op (.mov), [.c (.int .i64 0)], none⟩]
abbrev r49_1 : List IOp := [⟨some 4, .op (.mov), [.t 0], none⟩,
  ⟨some 5, .op (.bin .eql .prim), [.t 4, .c (.str [])], none⟩,
  ⟨some 3, .op (.mov), [.t 5], none⟩]
abbrev r49_2 : List IOp := [⟨some 2, .op (.mov), [.c (.int .i64 2)], none⟩]
abbrev r49_3 : List IOp := [⟨some 7, .op (.mov), [.t 0], none⟩,
  ⟨some 8, .op (.len .str), [.t 7], none⟩,
  ⟨some 9, .op (.bin .gtr .prim), [.t 8, .c (.int .i64 255)], none⟩,
  ⟨some 6, .op (.mov), [.t 9], none⟩]
abbrev r49_4 : List IOp := [⟨some 2, .op (.mov), [.c (.int .i64 4)], none⟩]
abbrev r49_5 : List IOp := [⟨some 2, .op (.mov), [.c (.int .i64 0)], none⟩]
abbrev c49 : IC := (IC.seq (IC.reg r49_0) (IC.seq (IC.block 0 (IC.seq (IC.reg r49_1) (IC.cond (.t 3) (IC.seq (IC.reg r49_2) IC.ret) (IC.seq (IC.reg r49_3) (IC.cond (.t 6) (IC.seq (IC.reg r49_4) IC.ret) IC.skip))))) (IC.seq (IC.reg r49_5) IC.ret)))
abbrev g49 : FC := ⟨c49, 10, [.t 2]⟩
theorem comp49 : compF Go.Proofs.Try.prog (fun _ => 0) 49 = some g49 := by kernel_rfl

-- (*outlaw/dfa.Auto).Full
abbrev r50_0 : List IOp := [⟨some 2, .op (.mov), [.c (.bool false)], none⟩]
abbrev r50_1 : List IOp := [⟨some 3, .op (.mov), [.t 0], none⟩,
  ⟨some 4, .op (.bin .neq .ptr), [.t 3, .c (.nilp)], none⟩,
  ⟨some 5, .op (.mov), [.t 4], none⟩,
  ⟨some 6, .op (.mov), [.t 0], some (5, true)⟩,
  ⟨some 7, .op (.nilchk), [.t 6], some (5, true)⟩,
  ⟨some 8, .op (.faddr 0), [.t 7], some (5, true)⟩,
  ⟨some 9, .op (.load none), [.t 8], some (5, true)⟩,
  ⟨some 10, .op (.bin .neq (.iface true)), [.t 9, .c (.nili)], some (5, true)⟩,
  ⟨some 11, .op (.pick), [.t 5, .t 10, .c (.bool false)], none⟩,
  ⟨some 12, .op (.mov), [.t 11], none⟩,
  ⟨some 13, .op (.mov), [.t 0], some (12, true)⟩,
  ⟨some 14, .op (.nilchk), [.t 13], some (12, true)⟩,
  ⟨some 15, .op (.faddr 0), [.t 14], some (12, true)⟩,
  ⟨some 16, .op (.load none), [.t 15], some (12, true)⟩,
  ⟨some 17, .call (some [(127, 189), (133, 191)]), [.t 16], some (12, true)⟩,
  ⟨some 18, .op (.bin .eql .prim), [.t 17, .c (.int .i64 0)], some (12, true)⟩,
  ⟨some 19, .op (.pick), [.t 12, .t 18, .c (.bool false)], none⟩,
  ⟨some 2, .op (.mov), [.t 19], none⟩]
abbrev c50 : IC := (IC.seq (IC.reg r50_0) (IC.seq (IC.reg r50_1) IC.ret))
abbrev g50 : FC := ⟨c50, 20, [.t 2]⟩
theorem comp50 : compF Go.Proofs.Try.prog (fun _ => 0) 50 = some g50 := by kernel_rfl

-- (*outlaw/dfa.Auto).States
abbrev r51_0 : List IOp := [⟨some 2, .op (.mov), [.c (.int .i64 0)], none⟩]
abbrev r51_1 : List IOp := [⟨some 3, .op (.mov), [.t 0], none⟩,
  ⟨some 4, .op (.bin .eql .ptr), [.t 3, .c (.nilp)], none⟩,
  ⟨some 5, .op (.mov), [.t 4], none⟩,
  ⟨some 6, .op (.mov), [.t 0], some (5, false)⟩,
  ⟨some 7, .op (.nilchk), [.t 6], some (5, false)⟩,
  ⟨some 8, .op (.faddr 0), [.t 7], some (5, false)⟩,
  ⟨some 9, .op (.load none), [.t 8], some (5, false)⟩,
  ⟨some 10, .op (.bin .eql (.iface true)), [.t 9, .c (.nili)], some (5, false)⟩,
  ⟨some 11, .op (.pick), [.t 5, .c (.bool true), .t 10], none⟩]
abbrev r51_2 : List IOp := [⟨some 2, .op (.mov), [.c (.int .i64 0)], none⟩]
abbrev r51_3 : List IOp := [⟨some 12, .op (.mov), [.t 0], none⟩,
  ⟨some 13, .op (.nilchk), [.t 12], none⟩,
  ⟨some 14, .op (.faddr 0), [.t 13], none⟩,
  ⟨some 15, .op (.load none), [.t 14], none⟩,
  ⟨some 16, .call (some [(127, 189), (133, 191)]), [.t 15], none⟩,
  ⟨some 2, .op (.mov), [.t 16], none⟩]
abbrev c51 : IC := (IC.seq (IC.reg r51_0) (IC.seq (IC.seq (IC.reg r51_1) (IC.cond (.t 11) (IC.seq (IC.reg r51_2) IC.ret) IC.skip)) (IC.seq (IC.reg r51_3) IC.ret)))
abbrev g51 : FC := ⟨c51, 17, [.t 2]⟩
theorem comp51 : compF Go.Proofs.Try.prog (fun _ => 0) 51 = some g51 := by kernel_rfl

-- outlaw/glob.Match
abbrev r52_0 : List IOp := [⟨some 6, .op (.mov), [.c (.bool false)], none⟩]
abbrev r52_1 : List IOp := [⟨some 7, .op (.mov), [.f 101], none⟩]
abbrev r52_2 : List IOp := [⟨some 12, .op (.mov), [.t 2], none⟩]
abbrev r52_3 : List IOp := [⟨some 7, .op (.mov), [.f 102], none⟩]
abbrev r52_4 : List IOp := [⟨some 8, .op (.mov), [.c (.int .i64 0)], none⟩,
  ⟨some 9, .op (.mov), [.c (.int .i64 0)], none⟩]
abbrev r52_5 : List IOp := [⟨some 10, .op (.mov), [.c (.int .i64 (-1))], none⟩,
  ⟨some 11, .op (.mov), [.c (.int .i64 0)], none⟩]
abbrev r52_6 : List IOp := [⟨some 13, .op (.mov), [.t 9], none⟩,
  ⟨some 14, .op (.mov), [.t 1], none⟩,
  ⟨some 15, .op (.len .str), [.t 14], none⟩,
  ⟨some 16, .op (.bin .lss .prim), [.t 13, .t 15], none⟩]
abbrev r52_7 : List IOp := [⟨some 18, .op (.mov), [.t 8], none⟩,
  ⟨some 19, .op (.mov), [.t 0], none⟩,
  ⟨some 20, .op (.len .str), [.t 19], none⟩,
  ⟨some 21, .op (.bin .lss .prim), [.t 18, .t 20], none⟩,
  ⟨some 22, .op (.mov), [.t 21], none⟩,
  ⟨some 23, .op (.mov), [.t 0], some (22, true)⟩,
  ⟨some 24, .op (.mov), [.t 8], some (22, true)⟩,
  ⟨some 25, .op (.idxs), [.t 23, .t 24], some (22, true)⟩,
  ⟨some 26, .op (.bin .eql .prim), [.t 25, .c (.int .u8 42)], some (22, true)⟩,
  ⟨some 27, .op (.pick), [.t 22, .t 26, .c (.bool false)], none⟩,
  ⟨some 17, .op (.mov), [.t 27], none⟩]
abbrev r52_8 : List IOp := [⟨some 28, .op (.mov), [.t 8], none⟩,
  ⟨some 29, .op (.mov), [.t 9], none⟩,
  ⟨some 10, .op (.mov), [.t 28], none⟩,
  ⟨some 11, .op (.mov), [.t 29], none⟩]
abbrev r52_9 : List IOp := [⟨some 30, .op (.mov), [.t 8], none⟩,
  ⟨some 31, .op (.bin .add .prim), [.t 30, .c (.int .i64 1)], none⟩,
  ⟨some 8, .op (.mov), [.t 31], none⟩]
abbrev r52_10 : List IOp := [⟨some 33, .op (.mov), [.t 8], none⟩,
  ⟨some 34, .op (.mov), [.t 0], none⟩,
  ⟨some 35, .op (.len .str), [.t 34], none⟩,
  ⟨some 36, .op (.bin .lss .prim), [.t 33, .t 35], none⟩,
  ⟨some 37, .op (.mov), [.t 36], none⟩,
  ⟨some 38, .op (.mov), [.t 0], some (37, true)⟩,
  ⟨some 39, .op (.mov), [.t 8], some (37, true)⟩,
  ⟨some 40, .op (.idxs), [.t 38, .t 39], some (37, true)⟩,
  ⟨some 41, .op (.bin .eql .prim), [.t 40, .c (.int .u8 63)], some (37, true)⟩,
  ⟨some 42, .op (.mov), [.t 41], some (37, true)⟩,
  ⟨some 43, .op (.mov), [.t 7], some (42, false)⟩,
  ⟨some 44, .op (.mov), [.t 0], some (42, false)⟩,
  ⟨some 45, .op (.mov), [.t 8], some (42, false)⟩,
  ⟨some 46, .op (.idxs), [.t 44, .t 45], some (42, false)⟩,
  ⟨some 47, .op (.mov), [.t 1], some (42, false)⟩,
  ⟨some 48, .op (.mov), [.t 9], some (42, false)⟩,
  ⟨some 49, .op (.idxs), [.t 47, .t 48], some (42, false)⟩,
  ⟨some 50, .call none, [.t 43, .t 46, .t 49], some (42, false)⟩,
  ⟨some 51, .op (.pick), [.t 42, .c (.bool true), .t 50], some (37, true)⟩,
  ⟨some 52, .op (.pick), [.t 37, .t 51, .c (.bool false)], none⟩,
  ⟨some 32, .op (.mov), [.t 52], none⟩]
abbrev r52_11 : List IOp := [⟨some 53, .op (.mov), [.t 8], none⟩,
  ⟨some 54, .op (.bin .add .prim), [.t 53, .c (.int .i64 1)], none⟩,
  ⟨some 8, .op (.mov), [.t 54], none⟩]
abbrev r52_12 : List IOp := [⟨some 55, .op (.mov), [.t 9], none⟩,
  ⟨some 56, .op (.bin .add .prim), [.t 55, .c (.int .i64 1)], none⟩,
  ⟨some 9, .op (.mov), [.t 56], none⟩]
abbrev r52_13 : List IOp := [⟨some 58, .op (.mov), [.t 10], none⟩,
  ⟨some 59, .op (.bin .lss .prim), [.t 58, .c (.int .i64 0)], none⟩,
  ⟨some 57, .op (.mov), [.t 59], none⟩]
abbrev r52_14 : List IOp := [⟨some 6, .op (.mov), [.c (.bool false)], none⟩]
abbrev r52_15 : List IOp := [⟨some 60, .op (.mov), [.t 11], none⟩,
  ⟨some 61, .op (.bin .add .prim), [.t 60, .c (.int .i64 1)], none⟩,
  ⟨some 11, .op (.mov), [.t 61], none⟩]
abbrev r52_16 : List IOp := [⟨some 62, .op (.mov), [.t 10], none⟩,
  ⟨some 63, .op (.bin .add .prim), [.t 62, .c (.int .i64 1)], none⟩,
  ⟨some 64, .op (.mov), [.t 11], none⟩,
  ⟨some 8, .op (.mov), [.t 63], none⟩,
  ⟨some 9, .op (.mov), [.t 64], none⟩]
abbrev b52_0 : IC := (IC.seq (IC.seq (IC.reg r52_6) (IC.cond (.t 16) IC.skip (IC.exit 0))) (IC.block 1 (IC.seq (IC.block 2 (IC.seq (IC.reg r52_7) (IC.cond (.t 17) (IC.seq (IC.reg r52_8) (IC.seq (IC.reg r52_9) (IC.exit 1))) (IC.seq (IC.regD .wild r52_10 (.take 0 (.take 1 (.take 2 (.take 3 (.take 4 (.take 5 (.take 6 (.take 7 (.take 8 (.take 9 (.take 10 (.take 11 (.take 12 (.take 13 (.take 14 (.take 15 (.take 16 (.take 17 (.take 18 (.take 19 (.take 20 (.done))))))))))))))))))))))) (IC.cond (.t 32) (IC.seq (IC.reg r52_11) (IC.seq (IC.reg r52_12) (IC.exit 1))) (IC.seq (IC.reg r52_13) (IC.cond (.t 57) (IC.seq (IC.reg r52_14) IC.ret) IC.skip))))))) (IC.seq (IC.reg r52_15) (IC.reg r52_16)))))
abbrev r52_17 : List IOp := [⟨some 65, .op (.mov), [.t 8], none⟩,
  ⟨some 66, .op (.mov), [.t 0], none⟩,
  ⟨some 67, .op (.len .str), [.t 66], none⟩,
  ⟨some 68, .op (.bin .lss .prim), [.t 65, .t 67], none⟩,
  ⟨some 69, .op (.mov), [.t 68], none⟩,
  ⟨some 70, .op (.mov), [.t 0], some (69, true)⟩,
  ⟨some 71, .op (.mov), [.t 8], some (69, true)⟩,
  ⟨some 72, .op (.idxs), [.t 70, .t 71], some (69, true)⟩,
  ⟨some 73, .op (.bin .eql .prim), [.t 72, .c (.int .u8 42)], some (69, true)⟩,
  ⟨some 74, .op (.pick), [.t 69, .t 73, .c (.bool false)], none⟩]
abbrev r52_18 : List IOp := [⟨some 75, .op (.mov), [.t 8], none⟩,
  ⟨some 76, .op (.bin .add .prim), [.t 75, .c (.int .i64 1)], none⟩,
  ⟨some 8, .op (.mov), [.t 76], none⟩]
abbrev b52_1 : IC := (IC.seq (IC.seq (IC.reg r52_17) (IC.cond (.t 74) IC.skip (IC.exit 3))) (IC.block 4 (IC.reg r52_18)))
abbrev r52_19 : List IOp := [⟨some 77, .op (.mov), [.t 8], none⟩,
  ⟨some 78, .op (.mov), [.t 0], none⟩,
  ⟨some 79, .op (.len .str), [.t 78], none⟩,
  ⟨some 80, .op (.bin .eql .prim), [.t 77, .t 79], none⟩,
  ⟨some 6, .op (.mov), [.t 80], none⟩]
abbrev c52 : IC := (IC.seq (IC.reg r52_0) (IC.seq (IC.reg r52_1) (IC.seq (IC.seq (IC.reg r52_2) (IC.cond (.t 12) (IC.reg r52_3) IC.skip)) (IC.seq (IC.reg r52_4) (IC.seq (IC.reg r52_5) (IC.seq IC.skip (IC.seq (IC.block 0 (IC.loop b52_0)) (IC.seq (IC.block 3 (IC.loop b52_1)) (IC.seq (IC.reg r52_19) IC.ret)))))))))
abbrev g52 : FC := ⟨c52, 81, [.t 6]⟩
theorem comp52 : compF Go.Proofs.Try.prog (hintL [(10, 6)]) 52 = some g52 := by kernel_rfl

-- (*outlaw/dfa.Auto).Match
abbrev r53_0 : List IOp := [⟨some 4, .op (.mov), [.c (.bool false)], none⟩]
abbrev r53_1 : List IOp := [⟨some 5, .op (.mov), [.t 0], none⟩,
  ⟨some 6, .op (.bin .neq .ptr), [.t 5, .c (.nilp)], none⟩,
  ⟨some 7, .op (.mov), [.t 6], none⟩,
  ⟨some 8, .op (.mov), [.t 0], some (7, true)⟩,
  ⟨some 9, .op (.nilchk), [.t 8], some (7, true)⟩,
  ⟨some 10, .op (.faddr 0), [.t 9], some (7, true)⟩,
  ⟨some 11, .op (.load none), [.t 10], some (7, true)⟩,
  ⟨some 12, .op (.bin .neq (.iface true)), [.t 11, .c (.nili)], some (7, true)⟩,
  ⟨some 13, .op (.pick), [.t 7, .t 12, .c (.bool false)], none⟩,
  ⟨some 14, .op (.mov), [.t 13], none⟩,
  ⟨some 15, .op (.mov), [.t 0], some (14, true)⟩,
  ⟨some 16, .op (.nilchk), [.t 15], some (14, true)⟩,
  ⟨some 17, .op (.faddr 0), [.t 16], some (14, true)⟩,
  ⟨some 18, .op (.load none), [.t 17], some (14, true)⟩,
  ⟨some 19, .op (.mov), [.t 1], some (14, true)⟩,
  ⟨some 20, .call (some [(127, 188), (133, 190)]), [.t 18, .t 19], some (14, true)⟩,
  ⟨some 21, .op (.pick), [.t 14, .t 20, .c (.bool false)], none⟩,
  ⟨some 4, .op (.mov), [.t 21], none⟩]
abbrev c53 : IC := (IC.seq (IC.reg r53_0) (IC.seq (IC.reg r53_1) IC.ret))
abbrev g53 : FC := ⟨c53, 22, [.t 4]⟩
theorem comp53 : compF Go.Proofs.Try.prog (fun _ => 0) 53 = some g53 := by kernel_rfl

-- outlaw/dfa.Check$1
abbrev r87_0 : List IOp := [⟨some 3, .op (.mov), [.c (.bool false)], none⟩]
abbrev r87_1 : List IOp := [⟨some 4, .op (.mov), [.t 0], none⟩,
  ⟨some 5, .op (.bin .lss .prim), [.t 4, .c (.int .i64 0)], none⟩,
  ⟨some 6, .op (.mov), [.t 5], none⟩,
  ⟨some 7, .op (.mov), [.t 0], some (6, false)⟩,
  ⟨some 8, .op (.load none), [.t 1], some (6, false)⟩,
  ⟨some 9, .op (.bin .geq .prim), [.t 7, .t 8], some (6, false)⟩,
  ⟨some 10, .op (.pick), [.t 6, .c (.bool true), .t 9], none⟩,
  ⟨some 3, .op (.mov), [.t 10], none⟩]
abbrev c87 : IC := (IC.seq (IC.reg r87_0) (IC.seq (IC.reg r87_1) IC.ret))
abbrev g87 : FC := ⟨c87, 11, [.t 3]⟩
theorem comp87 : compF Go.Proofs.Try.prog (fun _ => 0) 87 = some g87 := by kernel_rfl

-- slices.ContainsFunc[[]int,int]
abbrev r86_0 : List IOp := [⟨some 4, .op (.mov), [.c (.bool false)], none⟩]
abbrev r86_1 : List IOp := [⟨some 5, .op (.mov), [.t 0], none⟩,
  ⟨some 6, .op (.mov), [.t 1], none⟩,
  ⟨some 7, .call none, [.f 117, .t 5, .t 6], none⟩,
  ⟨some 8, .op (.bin .geq .prim), [.t 7, .c (.int .i64 0)], none⟩,
  ⟨some 4, .op (.mov), [.t 8], none⟩]
abbrev c86 : IC := (IC.seq (IC.reg r86_0) (IC.seq (IC.reg r86_1) IC.ret))
abbrev g86 : FC := ⟨c86, 9, [.t 4]⟩
theorem comp86 : compF Go.Proofs.Try.prog (fun _ => 0) 86 = some g86 := by kernel_rfl

-- outlaw/dfa.Check$2
abbrev r88_0 : List IOp := [⟨some 3, .op (.mov), [.c (.bool false)], none⟩]
abbrev r88_1 : List IOp := [⟨some 4, .op (.mov), [.t 0], none⟩,
  ⟨some 5, .op (.bin .lss .prim), [.t 4, .c (.int .i64 0)], none⟩,
  ⟨some 6, .op (.mov), [.t 5], none⟩,
  ⟨some 7, .op (.mov), [.t 0], some (6, false)⟩,
  ⟨some 8, .op (.faddr 1), [.t 1], some (6, false)⟩,
  ⟨some 9, .op (.load none), [.t 8], some (6, false)⟩,
  ⟨some 10, .op (.len .slice), [.t 9], some (6, false)⟩,
  ⟨some 11, .op (.bin .geq .prim), [.t 7, .t 10], some (6, false)⟩,
  ⟨some 12, .op (.pick), [.t 6, .c (.bool true), .t 11], none⟩,
  ⟨some 3, .op (.mov), [.t 12], none⟩]
abbrev c88 : IC := (IC.seq (IC.reg r88_0) (IC.seq (IC.reg r88_1) IC.ret))
abbrev g88 : FC := ⟨c88, 13, [.t 3]⟩
theorem comp88 : compF Go.Proofs.Try.prog (fun _ => 0) 88 = some g88 := by kernel_rfl

-- outlaw/dfa.through
abbrev r89_0 : List IOp := [⟨some 2, .op (.box 69), [.t 0], none⟩,
  ⟨some 4, .op (.mov), [.c (.bool false)], none⟩]
abbrev r89_1 : List IOp := [⟨some 5, .op (.mov), [.c (.int .i64 0)], none⟩]
abbrev r89_2 : List IOp := [⟨some 7, .op (.mov), [.t 1], none⟩,
  ⟨some 8, .op (.len .str), [.t 7], none⟩,
  ⟨some 9, .op (.mov), [.c (.int .i64 0)], none⟩]
abbrev r89_3 : List IOp := [⟨some 10, .op (.bin .lss .prim), [.t 9, .t 8], none⟩]
abbrev r89_4 : List IOp := [⟨some 11, .op (.mov), [.t 9], none⟩,
  ⟨some 6, .op (.mov), [.t 11], none⟩]
abbrev r89_5 : List IOp := [⟨some 12, .op (.faddr 1), [.t 2], none⟩,
  ⟨some 13, .op (.load none), [.t 12], none⟩,
  ⟨some 14, .op (.mov), [.t 5], none⟩,
  ⟨some 15, .op (.iaddr 1), [.t 13, .t 14], none⟩,
  ⟨some 16, .op (.load none), [.t 15], none⟩,
  ⟨some 17, .op (.faddr 0), [.t 2], none⟩,
  ⟨some 18, .op (.load none), [.t 17], none⟩,
  ⟨some 19, .op (.mov), [.t 1], none⟩,
  ⟨some 20, .op (.mov), [.t 6], none⟩,
  ⟨some 21, .op (.idxs), [.t 19, .t 20], none⟩,
  ⟨some 22, .op (.iaddr 1), [.t 18, .t 21], none⟩,
  ⟨some 23, .op (.load none), [.t 22], none⟩,
  ⟨some 24, .op (.iaddr 1), [.t 16, .t 23], none⟩,
  ⟨some 25, .op (.load none), [.t 24], none⟩,
  ⟨some 5, .op (.mov), [.t 25], none⟩]
abbrev r89_6 : List IOp := [⟨some 26, .op (.bin .add .prim), [.t 9, .c (.int .i64 1)], none⟩,
  ⟨some 9, .op (.mov), [.t 26], none⟩]
abbrev b89_0 : IC := (IC.seq (IC.reg r89_3) (IC.seq (IC.cond (.t 10) IC.skip (IC.exit 0)) (IC.seq (IC.block 1 (IC.seq (IC.reg r89_4) (IC.regD .wild r89_5 (.take 0 (.take 1 (.take 2 (.take 3 (.take 4 (.take 5 (.take 6 (.take 7 (.take 8 (.take 9 (.take 10 (.take 11 (.take 12 (.take 13 (.take 14 (.done))))))))))))))))))) (IC.reg r89_6))))
abbrev r89_7 : List IOp := [⟨some 27, .op (.faddr 2), [.t 2], none⟩,
  ⟨some 28, .op (.load none), [.t 27], none⟩,
  ⟨some 29, .op (.mov), [.t 5], none⟩,
  ⟨some 30, .op (.iaddr 1), [.t 28, .t 29], none⟩,
  ⟨some 31, .op (.load none), [.t 30], none⟩,
  ⟨some 4, .op (.mov), [.t 31], none⟩]
abbrev c89 : IC := (IC.seq (IC.reg r89_0) (IC.seq (IC.reg r89_1) (IC.seq (IC.seq (IC.reg r89_2) (IC.block 0 (IC.loop b89_0))) (IC.seq (IC.reg r89_7) IC.ret))))
abbrev g89 : FC := ⟨c89, 32, [.t 4]⟩
theorem comp89 : compF Go.Proofs.Try.prog (hintL [(5, 6)]) 89 = some g89 := by kernel_rfl

-- outlaw/nfa.New
abbrev r90_0 : List IOp := [⟨some 4, .op (.mov), [.c (.nilp)], none⟩,
  ⟨some 5, .op (.mov), [.c (.int .i64 0)], none⟩]
abbrev r90_1 : List IOp := [⟨some 7, .op (.mov), [.t 0], none⟩,
  ⟨some 8, .call none, [.f 49, .t 7], none⟩,
  ⟨some 6, .op (.mov), [.t 8], none⟩]
abbrev r90_2 : List IOp := [⟨some 9, .op (.mov), [.t 6], none⟩,
  ⟨some 10, .op (.bin .neq .prim), [.t 9, .c (.int .i64 0)], none⟩]
abbrev r90_3 : List IOp := [⟨some 11, .op (.mov), [.t 6], none⟩,
  ⟨some 4, .op (.mov), [.c (.nilp)], none⟩,
  ⟨some 5, .op (.mov), [.t 11], none⟩]
abbrev r90_4 : List IOp := [⟨some 12, .op (.mov), [.t 0], none⟩,
  ⟨some 13, .call none, [.f 118, .t 12], none⟩,
  ⟨some 14, .op (.mov), [.t 1], none⟩,
  ⟨some 15, .op (.bst [.str [], .bool false] [(0, 1), (1, 1)] [0, 1]), [.t 13, .t 14], none⟩,
  ⟨some 16, .op (.box 148), [.t 15], none⟩,
  ⟨some 4, .op (.mov), [.t 16], none⟩,
  ⟨some 5, .op (.mov), [.c (.int .i64 0)], none⟩]
abbrev c90 : IC := (IC.seq (IC.reg r90_0) (IC.seq (IC.seq (IC.reg r90_1) (IC.seq (IC.reg r90_2) (IC.cond (.t 10) (IC.seq (IC.reg r90_3) IC.ret) IC.skip))) (IC.seq (IC.reg r90_4) IC.ret)))
abbrev g90 : FC := ⟨c90, 17, [.t 4, .t 5]⟩
theorem comp90 : compF Go.Proofs.Try.prog (fun _ => 0) 90 = some g90 := by kernel_rfl

-- (*outlaw/nfa.Nfa).Pattern
abbrev r91_0 : List IOp := [⟨some 2, .op (.mov), [.c (.str [])], none⟩,
  ⟨some 3, .op (.mov), [.c (.bool false)], none⟩]
abbrev r91_1 : List IOp := [⟨some 4, .op (.mov), [.t 0], none⟩,
  ⟨some 5, .op (.bin .eql .ptr), [.t 4, .c (.nilp)], none⟩]
abbrev r91_2 : List IOp := [⟨some 2, .op (.mov), [.c (.str [])], none⟩,
  ⟨some 3, .op (.mov), [.c (.bool false)], none⟩]
abbrev r91_3 : List IOp := [⟨some 6, .op (.mov), [.t 0], none⟩,
  ⟨some 7, .op (.nilchk), [.t 6], none⟩,
  ⟨some 8, .op (.faddr 0), [.t 7], none⟩,
  ⟨some 9, .op (.load none), [.t 8], none⟩,
  ⟨some 10, .op (.mov), [.t 0], none⟩,
  ⟨some 11, .op (.nilchk), [.t 10], none⟩,
  ⟨some 12, .op (.faddr 1), [.t 11], none⟩,
  ⟨some 13, .op (.load none), [.t 12], none⟩,
  ⟨some 2, .op (.mov), [.t 9], none⟩,
  ⟨some 3, .op (.mov), [.t 13], none⟩]
abbrev c91 : IC := (IC.seq (IC.reg r91_0) (IC.seq (IC.seq (IC.reg r91_1) (IC.cond (.t 5) (IC.seq (IC.reg r91_2) IC.ret) IC.skip)) (IC.seq (IC.regD .wild r91_3 (.take 0 (.take 1 (.take 2 (.take 3 (.take 4 (.take 5 (.take 6 (.take 7 (.take 8 (.take 9 (.done)))))))))))) IC.ret)))
abbrev g91 : FC := ⟨c91, 14, [.t 2, .t 3]⟩
theorem comp91 : compF Go.Proofs.Try.prog (hintL [(3, 6)]) 91 = some g91 := by kernel_rfl

-- outlaw/dfa.classes
abbrev r92_0 : List IOp := [⟨some 4, .op (.alloc 111 [.int .i64 0, .int .i64 0, .int .i64 0, .int .i64 0, .int .i64 0, .int .i64 0, .int .i64 0, .int .i64 0, .int .i64 0, .int .i64 0, .int .i64 0, .int .i64 0, .int .i64 0, .int .i64 0, .int .i64 0, .int .i64 0, .int .i64 0, .int .i64 0, .int .i64 0, .int .i64 0, .int .i64 0, .int .i64 0, .int .i64 0, .int .i64 0, .int .i64 0, .int .i64 0, .int .i64 0, .int .i64 0, .int .i64 0, .int .i64 0, .int .i64 0, .int .i64 0, .int .i64 0, .int .i64 0, .int .i64 0, .int .i64 0, .int .i64 0, .int .i64 0, .int .i64 0, .int .i64 0, .int .i64 0, .int .i64 0, .int .i64 0, .int .i64 0, .int .i64 0, .int .i64 0, .int .i64 0, .int .i64 0, .int .i64 0, .int .i64 0, .int .i64 0, .int .i64 0, .int .i64 0, .int .i64 0, .int .i64 0, .int .i64 0, .int .i64 0, .int .i64 0, .int .i64 0, .int .i64 0, .int .i64 0, .int .i64 0, .int .i64 0, .int .i64 0, .int .i64 0, .int .i64 0, .int .i64 0, .int .i64 0, .int .i64 0, .int .i64 0, .int .i64 0, .int .i64 0, .int .i64 0, .int .i64 0, .int .i64 0, .int .i64 0, .int .i64 0, .int .i64 0, .int .i64 0, .int .i64 0, .int .i64 0, .int .i64 0, .int .i64 0, .int .i64 0, .int .i64 0, .int .i64 0, .int .i64 0, .int .i64 0, .int .i64 0, .int .i64 0, .int .i64 0, .int .i64 0, .int .i64 0, .int .i64 0, .int .i64 0, .int .i64 0, .int .i64 0, .int .i64 0, .int .i64 0, .int .i64 0, .int .i64 0, .int .i64 0, .int .i64 0, .int .i64 0, .int .i64 0, .int .i64 0, .int .i64 0, .int .i64 0, .int .i64 0, .int .i64 0, .int .i64 0, .int .i64 0, .int .i64 0, .int .i64 0, .int .i64 0, .int .i64 0, .int .i64 0, .int .i64 0, .int .i64 0, .int .i64 0, .int .i64 0, .int .i64 0, .int .i64 0, .int .i64 0, .int .i64 0, .int .i64 0, .int .i64 0, .int .i64 0, .int .i64 0, .int .i64 0, .int .i64 0, .int .i64 0, .int .i64 0, .int .i64 0, .int .i64 0, .int .i64 0, .int .i64 0, .int .i64 0, .int .i64 0, .int .i64 0, .int .i64 0, .int .i64 0, .int .i64 0, .int .i64 0, .int .i64 0, .int .i64 0, .int .i64 0, .int .i64 0, .int .i64 0, .int .i64 0, .int .i64 0, .int .i64 0, .int .i64 0, .int .i64 0, .int .i64 0, .int .i64 0, .int .i64 0, .int .i64 0, .int .i64 0, .int .i64 0, .int .i64 0, .int .i64 0, .int .i64 0, .int .i64 0, .int .i64 0, .int .i64 0, .int .i64 0, .int .i64 0, .int .i64 0, .int .i64 0, .int .i64 0, .int .i64 0, .int .i64 0, .int .i64 0, .int .i64 0, .int .i64 0, .int .i64 0, .int .i64 0, .int .i64 0, .int .i64 0, .int .i64 0, .int .i64 0, .int .i64 0, .int .i64 0, .int .i64 0, .int .i64 0, .int .i64 0, .int .i64 0, .int .i64 0, .int .i64 0, .int .i64 0, .int .i64 0, .int .i64 0, .int .i64 0, .int .i64 0, .int .i64 0, .int .i64 0, .int .i64 0, .int .i64 0, .int .i64 0, .int .i64 0, .int .i64 0, .int .i64 0, .int .i64 0, .int .i64 0, .int .i64 0, .int .i64 0, .int .i64 0, .int .i64 0, .int .i64 0, .int .i64 0, .int .i64 0, .int .i64 0, .int .i64 0, .int .i64 0, .int .i64 0, .int .i64 0, .int .i64 0, .int .i64 0, .int .i64 0, .int .i64 0, .int .i64 0, .int .i64 0, .int .i64 0, .int .i64 0, .int .i64 0, .int .i64 0, .int .i64 0, .int .i64 0, .int .i64 0, .int .i64 0, .int .i64 0, .int .i64 0, .int .i64 0, .int .i64 0, .int .i64 0, .int .i64 0, .int .i64 0, .int .i64 0, .int .i64 0, .int .i64 0, .int .i64 0, .int .i64 0, .int .i64 0, .int .i64 0, .int .i64 0, .int .i64 0, .int .i64 0, .int .i64 0, .int .i64 0, .int .i64 0, .int .i64 0, .int .i64 0, .int .i64 0, .int .i64 0, .int .i64 0]), [], none⟩,
  ⟨some 5, .op (.mov), [.c (.nils)], none⟩]
abbrev r92_1 : List IOp := [⟨some 6, .op (.mov), [.f 119], none⟩]
abbrev r92_2 : List IOp := [⟨some 16, .op (.mov), [.t 1], none⟩]
abbrev r92_3 : List IOp := [⟨some 6, .op (.mov), [.f 120], none⟩]
abbrev r92_4 : List IOp := [⟨some 7, .op (.mov), [.c (.nils)], none⟩]
abbrev r92_5 : List IOp := [⟨some 17, .op (.mov), [.t 0], none⟩,
  ⟨some 18, .op (.len .str), [.t 17], none⟩,
  ⟨some 19, .op (.mov), [.c (.int .i64 0)], none⟩]
abbrev r92_6 : List IOp := [⟨some 20, .op (.bin .lss .prim), [.t 19, .t 18], none⟩]
abbrev r92_7 : List IOp := [⟨some 21, .op (.mov), [.t 19], none⟩,
  ⟨some 8, .op (.mov), [.t 21], none⟩]
abbrev r92_8 : List IOp := [⟨some 22, .op (.mov), [.t 0], none⟩,
  ⟨some 23, .op (.mov), [.t 8], none⟩,
  ⟨some 24, .op (.idxs), [.t 22, .t 23], none⟩,
  ⟨some 25, .op (.bin .neq .prim), [.t 24, .c (.int .u8 42)], none⟩,
  ⟨some 26, .op (.mov), [.t 25], none⟩,
  ⟨some 27, .op (.mov), [.t 0], some (26, true)⟩,
  ⟨some 28, .op (.mov), [.t 8], some (26, true)⟩,
  ⟨some 29, .op (.idxs), [.t 27, .t 28], some (26, true)⟩,
  ⟨some 30, .op (.bin .neq .prim), [.t 29, .c (.int .u8 63)], some (26, true)⟩,
  ⟨some 31, .op (.pick), [.t 26, .t 30, .c (.bool false)], none⟩]
abbrev r92_9 : List IOp := [⟨some 32, .op (.mov), [.t 7], none⟩,
  ⟨some 33, .op (.mov), [.t 6], none⟩,
  ⟨some 34, .op (.mov), [.t 0], none⟩,
  ⟨some 35, .op (.mov), [.t 8], none⟩,
  ⟨some 36, .op (.idxs), [.t 34, .t 35], none⟩,
  ⟨some 37, .call none, [.t 33, .t 36], none⟩,
  ⟨some 38, .op (.bsl 5 1 false), [.t 37], none⟩,
  ⟨some 39, .op (.app 5 1 1), [.t 32, .t 38], none⟩,
  ⟨some 7, .op (.mov), [.t 39], none⟩]
abbrev r92_10 : List IOp := [⟨some 40, .op (.bin .add .prim), [.t 19, .c (.int .i64 1)], none⟩,
  ⟨some 19, .op (.mov), [.t 40], none⟩]
abbrev b92_0 : IC := (IC.seq (IC.reg r92_6) (IC.seq (IC.cond (.t 20) IC.skip (IC.exit 0)) (IC.seq (IC.block 1 (IC.seq (IC.reg r92_7) (IC.seq (IC.reg r92_8) (IC.cond (.t 31) (IC.reg r92_9) IC.skip)))) (IC.reg r92_10))))
abbrev r92_11 : List IOp := [⟨some 41, .op (.mov), [.t 7], none⟩,
  ⟨some 42, .call none, [.f 122, .t 41], none⟩]
abbrev r92_12 : List IOp := [⟨some 43, .op (.mov), [.t 7], none⟩,
  ⟨some 44, .call none, [.f 123, .t 43], none⟩,
  ⟨some 7, .op (.mov), [.t 44], none⟩]
abbrev r92_13 : List IOp := [⟨some 9, .op (.alloc 111 [.int .i64 0, .int .i64 0, .int .i64 0, .int .i64 0, .int .i64 0, .int .i64 0, .int .i64 0, .int .i64 0, .int .i64 0, .int .i64 0, .int .i64 0, .int .i64 0, .int .i64 0, .int .i64 0, .int .i64 0, .int .i64 0, .int .i64 0, .int .i64 0, .int .i64 0, .int .i64 0, .int .i64 0, .int .i64 0, .int .i64 0, .int .i64 0, .int .i64 0, .int .i64 0, .int .i64 0, .int .i64 0, .int .i64 0, .int .i64 0, .int .i64 0, .int .i64 0, .int .i64 0, .int .i64 0, .int .i64 0, .int .i64 0, .int .i64 0, .int .i64 0, .int .i64 0, .int .i64 0, .int .i64 0, .int .i64 0, .int .i64 0, .int .i64 0, .int .i64 0, .int .i64 0, .int .i64 0, .int .i64 0, .int .i64 0, .int .i64 0, .int .i64 0, .int .i64 0, .int .i64 0, .int .i64 0, .int .i64 0, .int .i64 0, .int .i64 0, .int .i64 0, .int .i64 0, .int .i64 0, .int .i64 0, .int .i64 0, .int .i64 0, .int .i64 0, .int .i64 0, .int .i64 0, .int .i64 0, .int .i64 0, .int .i64 0, .int .i64 0, .int .i64 0, .int .i64 0, .int .i64 0, .int .i64 0, .int .i64 0, .int .i64 0, .int .i64 0, .int .i64 0, .int .i64 0, .int .i64 0, .int .i64 0, .int .i64 0, .int .i64 0, .int .i64 0, .int .i64 0, .int .i64 0, .int .i64 0, .int .i64 0, .int .i64 0, .int .i64 0, .int .i64 0, .int .i64 0, .int .i64 0, .int .i64 0, .int .i64 0, .int .i64 0, .int .i64 0, .int .i64 0, .int .i64 0, .int .i64 0, .int .i64 0, .int .i64 0, .int .i64 0, .int .i64 0, .int .i64 0, .int .i64 0, .int .i64 0, .int .i64 0, .int .i64 0, .int .i64 0, .int .i64 0, .int .i64 0, .int .i64 0, .int .i64 0, .int .i64 0, .int .i64 0, .int .i64 0, .int .i64 0, .int .i64 0, .int .i64 0, .int .i64 0, .int .i64 0, .int .i64 0, .int .i64 0, .int .i64 0, .int .i64 0, .int .i64 0, .int .i64 0, .int .i64 0, .int .i64 0, .int .i64 0, .int .i64 0, .int .i64 0, .int .i64 0, .int .i64 0, .int .i64 0, .int .i64 0, .int .i64 0, .int .i64 0, .int .i64 0, .int .i64 0, .int .i64 0, .int .i64 0, .int .i64 0, .int .i64 0, .int .i64 0, .int .i64 0, .int .i64 0, .int .i64 0, .int .i64 0, .int .i64 0, .int .i64 0, .int .i64 0, .int .i64 0, .int .i64 0, .int .i64 0, .int .i64 0, .int .i64 0, .int .i64 0, .int .i64 0, .int .i64 0, .int .i64 0, .int .i64 0, .int .i64 0, .int .i64 0, .int .i64 0, .int .i64 0, .int .i64 0, .int .i64 0, .int .i64 0, .int .i64 0, .int .i64 0, .int .i64 0, .int .i64 0, .int .i64 0, .int .i64 0, .int .i64 0, .int .i64 0, .int .i64 0, .int .i64 0, .int .i64 0, .int .i64 0, .int .i64 0, .int .i64 0, .int .i64 0, .int .i64 0, .int .i64 0, .int .i64 0, .int .i64 0, .int .i64 0, .int .i64 0, .int .i64 0, .int .i64 0, .int .i64 0, .int .i64 0, .int .i64 0, .int .i64 0, .int .i64 0, .int .i64 0, .int .i64 0, .int .i64 0, .int .i64 0, .int .i64 0, .int .i64 0, .int .i64 0, .int .i64 0, .int .i64 0, .int .i64 0, .int .i64 0, .int .i64 0, .int .i64 0, .int .i64 0, .int .i64 0, .int .i64 0, .int .i64 0, .int .i64 0, .int .i64 0, .int .i64 0, .int .i64 0, .int .i64 0, .int .i64 0, .int .i64 0, .int .i64 0, .int .i64 0, .int .i64 0, .int .i64 0, .int .i64 0, .int .i64 0, .int .i64 0, .int .i64 0, .int .i64 0, .int .i64 0, .int .i64 0, .int .i64 0, .int .i64 0, .int .i64 0, .int .i64 0, .int .i64 0, .int .i64 0, .int .i64 0, .int .i64 0, .int .i64 0, .int .i64 0, .int .i64 0, .int .i64 0, .int .i64 0, .int .i64 0, .int .i64 0, .int .i64 0, .int .i64 0, .int .i64 0, .int .i64 0, .int .i64 0, .int .i64 0, .int .i64 0, .int .i64 0]), [], none⟩]
abbrev r92_14 : List IOp := [⟨some 45, .op (.bsl 3 1 false), [.c (.int .i64 (-1))], none⟩,
  ⟨some 10, .op (.mov), [.t 45], none⟩]
abbrev r92_15 : List IOp := [⟨some 46, .op (.mov), [.t 7], none⟩,
  ⟨some 47, .op (.len .slice), [.t 46], none⟩,
  ⟨some 48, .op (.mov), [.c (.int .i64 0)], none⟩]
abbrev r92_16 : List IOp := [⟨some 49, .op (.bin .lss .prim), [.t 48, .t 47], none⟩]
abbrev r92_17 : List IOp := [⟨some 50, .op (.iaddr 1), [.t 46, .t 48], none⟩,
  ⟨some 51, .op (.load none), [.t 50], none⟩,
  ⟨some 12, .op (.mov), [.t 51], none⟩]
abbrev r92_18 : List IOp := [⟨some 52, .op (.mov), [.t 10], none⟩,
  ⟨some 53, .op (.mov), [.t 12], none⟩,
  ⟨some 54, .op (.toInt .i64), [.t 53], none⟩,
  ⟨some 55, .op (.bsl 3 1 false), [.t 54], none⟩,
  ⟨some 56, .op (.app 3 1 8), [.t 52, .t 55], none⟩,
  ⟨some 10, .op (.mov), [.t 56], none⟩]
abbrev r92_19 : List IOp := [⟨some 57, .op (.bin .add .prim), [.t 48, .c (.int .i64 1)], none⟩,
  ⟨some 48, .op (.mov), [.t 57], none⟩]
abbrev b92_1 : IC := (IC.seq (IC.reg r92_16) (IC.seq (IC.cond (.t 49) IC.skip (IC.exit 2)) (IC.seq (IC.block 3 (IC.seq (IC.reg r92_17) (IC.reg r92_18))) (IC.reg r92_19))))
abbrev r92_20 : List IOp := [⟨some 58, .op (.mov), [.c (.int .i64 0)], none⟩]
abbrev r92_21 : List IOp := [⟨some 59, .op (.bin .lss .prim), [.t 58, .c (.int .i64 256)], none⟩]
abbrev r92_22 : List IOp := [⟨some 60, .op (.mov), [.t 58], none⟩,
  ⟨some 13, .op (.mov), [.t 60], none⟩]
abbrev r92_23 : List IOp := [⟨some 62, .op (.mov), [.t 7], none⟩,
  ⟨some 63, .op (.mov), [.t 6], none⟩,
  ⟨some 64, .op (.mov), [.t 13], none⟩,
  ⟨some 65, .op (.toInt .u8), [.t 64], none⟩,
  ⟨some 66, .call none, [.t 63, .t 65], none⟩,
  ⟨some 67, .call none, [.f 124, .t 62, .t 66], none⟩,
  ⟨some 61, .op (.mov), [.t 67], none⟩,
  ⟨some 68, .op (.extract 0), [.t 61], none⟩,
  ⟨some 69, .op (.extract 1), [.t 61], none⟩,
  ⟨some 14, .op (.mov), [.t 68], none⟩,
  ⟨some 15, .op (.mov), [.t 69], none⟩]
abbrev r92_24 : List IOp := [⟨some 70, .op (.mov), [.t 15], none⟩]
abbrev r92_25 : List IOp := [⟨some 71, .op (.mov), [.t 13], none⟩,
  ⟨some 72, .op (.mov), [.t 14], none⟩,
  ⟨some 73, .op (.bin .add .prim), [.t 72, .c (.int .i64 1)], none⟩,
  ⟨some 74, .op (.aaddr 256 1), [.t 9, .t 71], none⟩,
  ⟨none, .op (.store 1), [.t 74, .t 73], none⟩]
abbrev r92_26 : List IOp := [⟨some 75, .op (.mov), [.t 10], none⟩,
  ⟨some 76, .op (.mov), [.t 13], none⟩,
  ⟨some 77, .op (.iaddr 1), [.t 75, .c (.int .i64 0)], none⟩,
  ⟨none, .op (.store 1), [.t 77, .t 76], none⟩]
abbrev r92_27 : List IOp := [⟨some 78, .op (.bin .add .prim), [.t 58, .c (.int .i64 1)], none⟩,
  ⟨some 58, .op (.mov), [.t 78], none⟩]
abbrev b92_2 : IC := (IC.seq (IC.reg r92_21) (IC.seq (IC.cond (.t 59) IC.skip (IC.exit 4)) (IC.seq (IC.block 5 (IC.seq (IC.reg r92_22) (IC.seq (IC.reg r92_23) (IC.seq (IC.reg r92_24) (IC.cond (.t 70) (IC.reg r92_25) (IC.reg r92_26)))))) (IC.reg r92_27))))
abbrev r92_28 : List IOp := [⟨some 79, .op (.load (some 256)), [.t 9], none⟩,
  ⟨some 80, .op (.mov), [.t 10], none⟩,
  ⟨none, .op (.store 256), [.t 4, .t 79], none⟩,
  ⟨some 5, .op (.mov), [.t 80], none⟩]
abbrev c92 : IC := (IC.seq (IC.reg r92_0) (IC.seq (IC.reg r92_1) (IC.seq (IC.seq (IC.reg r92_2) (IC.cond (.t 16) (IC.reg r92_3) IC.skip)) (IC.seq (IC.reg r92_4) (IC.seq (IC.seq (IC.reg r92_5) (IC.block 0 (IC.loop b92_0))) (IC.seq (IC.reg r92_11) (IC.seq (IC.reg r92_12) (IC.seq (IC.reg r92_13) (IC.seq (IC.reg r92_14) (IC.seq (IC.seq (IC.reg r92_15) (IC.block 2 (IC.loop b92_1))) (IC.seq (IC.seq (IC.reg r92_20) (IC.block 4 (IC.loop b92_2))) (IC.seq (IC.reg r92_28) IC.ret))))))))))))
abbrev g92 : FC := ⟨c92, 81, [.cell 4 (some 256), .t 5]⟩
theorem comp92 : compF Go.Proofs.Try.prog (fun _ => 0) 92 = some g92 := by kernel_rfl

-- outlaw/dfa.Build$1
abbrev r93_0 : List IOp := [⟨some 4, .op (.mov), [.c (.int .i64 0)], none⟩]
abbrev r93_1 : List IOp := [⟨some 8, .op (.load none), [.t 1], none⟩,
  ⟨some 9, .op (.mov), [.t 0], none⟩,
  ⟨some 10, .call none, [.f 94, .t 9], none⟩,
  ⟨some 11, .op (.look .str (.agg [.int .i64 0]) true), [.t 8, .t 10], none⟩,
  ⟨some 7, .op (.mov), [.t 11], none⟩,
  ⟨some 12, .op (.extract 0), [.t 7], none⟩,
  ⟨some 13, .op (.extract 1), [.t 7], none⟩,
  ⟨some 5, .op (.alloc 116 [.int .i64 0]), [], none⟩,
  ⟨none, .op (.store 1), [.t 5, .t 12], none⟩,
  ⟨some 6, .op (.mov), [.t 13], none⟩]
abbrev r93_2 : List IOp := [⟨some 14, .op (.mov), [.t 6], none⟩,
  ⟨some 15, .op (.un .not), [.t 14], none⟩]
abbrev r93_3 : List IOp := [⟨some 16, .op (.load none), [.t 2], none⟩,
  ⟨some 17, .op (.len .slice), [.t 16], none⟩,
  ⟨some 18, .op (.bst [.int .i64 0] [(0, 1)] [0]), [.t 17], none⟩,
  ⟨none, .op (.store 1), [.t 5, .t 18], none⟩]
abbrev r93_4 : List IOp := [⟨some 19, .op (.load none), [.t 1], none⟩,
  ⟨some 20, .op (.mov), [.t 0], none⟩,
  ⟨some 21, .call none, [.f 94, .t 20], none⟩,
  ⟨some 22, .op (.load (some 1)), [.t 5], none⟩,
  ⟨none, .op (.mapup .str), [.t 19, .t 21, .t 22], none⟩]
abbrev r93_5 : List IOp := [⟨some 23, .op (.load none), [.t 2], none⟩,
  ⟨some 24, .op (.mov), [.t 0], none⟩,
  ⟨some 25, .op (.bsl 65 1 false), [.t 24], none⟩,
  ⟨some 26, .op (.app 65 1 24), [.t 23, .t 25], none⟩,
  ⟨none, .op (.store 1), [.t 2, .t 26], none⟩]
abbrev r93_6 : List IOp := [⟨some 27, .op (.faddr 0), [.t 5], none⟩,
  ⟨some 28, .op (.load none), [.t 27], none⟩,
  ⟨some 4, .op (.mov), [.t 28], none⟩]
abbrev c93 : IC := (IC.seq (IC.reg r93_0) (IC.seq (IC.regD .wild r93_1 (.take 1 (.fork [(0, .fork [(2, .take 3 (.take 4 (.take 5 (.take 6 (.take 7 (.take 8 (.take 9 (.done)))))))), (7, .take 2 (.take 3 (.take 4 (.take 5 (.take 6 (.take 8 (.take 9 (.done))))))))]), (2, .take 0 (.take 3 (.take 4 (.take 5 (.take 6 (.take 7 (.take 8 (.take 9 (.done))))))))), (7, .fork [(0, .take 2 (.take 3 (.take 4 (.take 5 (.take 6 (.take 8 (.take 9 (.done)))))))), (2, .take 0 (.take 3 (.take 4 (.take 5 (.take 6 (.take 8 (.take 9 (.done))))))))])]))) (IC.seq (IC.seq (IC.reg r93_2) (IC.cond (.t 15) (IC.seq (IC.reg r93_3) (IC.seq (IC.regD .alloc r93_4 (.take 0 (.take 1 (.take 3 (.take 2 (.take 4 (.done))))))) (IC.reg r93_5))) IC.skip)) (IC.seq (IC.reg r93_6) IC.ret))))
abbrev g93 : FC := ⟨c93, 29, [.t 4]⟩
theorem comp93 : compF Go.Proofs.Try.prog (hintL [(1, 6), (4, 7)]) 93 = some g93 := by kernel_rfl

-- (*outlaw/nfa.Nfa).Start
abbrev r95_0 : List IOp := [⟨some 2, .op (.mov), [.c (.nils)], none⟩]
abbrev r95_1 : List IOp := [⟨some 3, .op (.mov), [.t 0], none⟩,
  ⟨some 4, .call none, [.f 125, .t 3], none⟩,
  ⟨some 5, .call none, [.f 126, .t 4], none⟩,
  ⟨some 2, .op (.mov), [.t 5], none⟩]
abbrev c95 : IC := (IC.seq (IC.reg r95_0) (IC.seq (IC.reg r95_1) IC.ret))
abbrev g95 : FC := ⟨c95, 6, [.t 2]⟩
theorem comp95 : compF Go.Proofs.Try.prog (fun _ => 0) 95 = some g95 := by kernel_rfl

-- (*outlaw/nfa.Nfa).Step
abbrev r96_0 : List IOp := [⟨some 6, .op (.mov), [.c (.nils)], none⟩]
abbrev r96_1 : List IOp := [⟨some 7, .op (.mov), [.t 0], none⟩,
  ⟨some 8, .op (.mov), [.t 0], none⟩,
  ⟨some 9, .op (.mov), [.t 1], none⟩,
  ⟨some 10, .call none, [.f 128, .t 8, .t 9], none⟩,
  ⟨some 11, .op (.mov), [.t 2], none⟩,
  ⟨some 12, .call none, [.f 127, .t 7, .t 10, .t 11], none⟩,
  ⟨some 13, .call none, [.f 126, .t 12], none⟩,
  ⟨some 6, .op (.mov), [.t 13], none⟩]
abbrev c96 : IC := (IC.seq (IC.reg r96_0) (IC.seq (IC.reg r96_1) IC.ret))
abbrev g96 : FC := ⟨c96, 14, [.t 6]⟩
theorem comp96 : compF Go.Proofs.Try.prog (fun _ => 0) 96 = some g96 := by kernel_rfl

-- (*outlaw/nfa.Nfa).Accepts
abbrev r97_0 : List IOp := [⟨some 4, .op (.mov), [.c (.bool false)], none⟩]
abbrev r97_1 : List IOp := [⟨some 6, .op (.mov), [.t 0], none⟩,
  ⟨some 7, .op (.mov), [.t 1], none⟩,
  ⟨some 8, .call none, [.f 128, .t 6, .t 7], none⟩,
  ⟨some 5, .op (.mov), [.t 8], none⟩]
abbrev r97_2 : List IOp := [⟨some 9, .op (.mov), [.t 5], none⟩,
  ⟨some 10, .op (.len .slice), [.t 9], none⟩,
  ⟨some 11, .op (.bin .gtr .prim), [.t 10, .c (.int .i64 0)], none⟩,
  ⟨some 12, .op (.mov), [.t 11], none⟩,
  ⟨some 13, .op (.mov), [.t 5], some (12, true)⟩,
  ⟨some 14, .op (.mov), [.t 5], some (12, true)⟩,
  ⟨some 15, .op (.len .slice), [.t 14], some (12, true)⟩,
  ⟨some 16, .op (.bin .sub .prim), [.t 15, .c (.int .i64 1)], some (12, true)⟩,
  ⟨some 17, .op (.iaddr 1), [.t 13, .t 16], some (12, true)⟩,
  ⟨some 18, .op (.load none), [.t 17], some (12, true)⟩,
  ⟨some 19, .op (.pick), [.t 12, .t 18, .c (.bool false)], none⟩,
  ⟨some 4, .op (.mov), [.t 19], none⟩]
abbrev c97 : IC := (IC.seq (IC.reg r97_0) (IC.seq (IC.reg r97_1) (IC.seq (IC.reg r97_2) IC.ret)))
abbrev g97 : FC := ⟨c97, 20, [.t 4]⟩
theorem comp97 : compF Go.Proofs.Try.prog (fun _ => 0) 97 = some g97 := by kernel_rfl

-- slices.Equal[[]int,int]
abbrev r98_0 : List IOp := [⟨some 4, .op (.mov), [.c (.bool false)], none⟩]
abbrev r98_1 : List IOp := [⟨some 6, .op (.mov), [.t 0], none⟩,
  ⟨some 7, .op (.len .slice), [.t 6], none⟩,
  ⟨some 8, .op (.mov), [.t 1], none⟩,
  ⟨some 9, .op (.len .slice), [.t 8], none⟩,
  ⟨some 10, .op (.bin .neq .prim), [.t 7, .t 9], none⟩]
abbrev r98_2 : List IOp := [⟨some 4, .op (.mov), [.c (.bool false)], none⟩]
abbrev r98_3 : List IOp := [⟨some 11, .op (.mov), [.t 0], none⟩,
  ⟨some 12, .op (.len .slice), [.t 11], none⟩,
  ⟨some 13, .op (.mov), [.c (.int .i64 0)], none⟩]
abbrev r98_4 : List IOp := [⟨some 14, .op (.bin .lss .prim), [.t 13, .t 12], none⟩]
abbrev r98_5 : List IOp := [⟨some 15, .op (.mov), [.t 13], none⟩,
  ⟨some 5, .op (.mov), [.t 15], none⟩]
abbrev r98_6 : List IOp := [⟨some 16, .op (.mov), [.t 0], none⟩,
  ⟨some 17, .op (.mov), [.t 5], none⟩,
  ⟨some 18, .op (.iaddr 1), [.t 16, .t 17], none⟩,
  ⟨some 19, .op (.load none), [.t 18], none⟩,
  ⟨some 20, .op (.mov), [.t 1], none⟩,
  ⟨some 21, .op (.mov), [.t 5], none⟩,
  ⟨some 22, .op (.iaddr 1), [.t 20, .t 21], none⟩,
  ⟨some 23, .op (.load none), [.t 22], none⟩,
  ⟨some 24, .op (.bin .neq .prim), [.t 19, .t 23], none⟩]
abbrev r98_7 : List IOp := [⟨some 4, .op (.mov), [.c (.bool false)], none⟩]
abbrev r98_8 : List IOp := [⟨some 25, .op (.bin .add .prim), [.t 13, .c (.int .i64 1)], none⟩,
  ⟨some 13, .op (.mov), [.t 25], none⟩]
abbrev b98_0 : IC := (IC.seq (IC.reg r98_4) (IC.seq (IC.cond (.t 14) IC.skip (IC.exit 0)) (IC.seq (IC.block 1 (IC.seq (IC.reg r98_5) (IC.seq (IC.regD .wild r98_6 (.take 0 (.take 1 (.take 2 (.take 3 (.take 4 (.take 5 (.take 6 (.take 7 (.take 8 (.done))))))))))) (IC.cond (.t 24) (IC.seq (IC.reg r98_7) IC.ret) IC.skip)))) (IC.reg r98_8))))
abbrev r98_9 : List IOp := [⟨some 4, .op (.mov), [.c (.bool true)], none⟩]
abbrev c98 : IC := (IC.seq (IC.reg r98_0) (IC.seq (IC.seq (IC.reg r98_1) (IC.cond (.t 10) (IC.seq (IC.reg r98_2) IC.ret) IC.skip)) (IC.seq (IC.seq (IC.reg r98_3) (IC.block 0 (IC.loop b98_0))) (IC.seq (IC.reg r98_9) IC.ret))))
abbrev g98 : FC := ⟨c98, 26, [.t 4]⟩
theorem comp98 : compF Go.Proofs.Try.prog (hintL [(6, 6)]) 98 = some g98 := by kernel_rfl

-- slices.EqualFunc[[][]int,[][]int,[]int,[]int]
abbrev r99_0 : List IOp := [⟨some 6, .op (.mov), [.c (.bool false)], none⟩]
abbrev r99_1 : List IOp := [⟨some 10, .op (.mov), [.t 0], none⟩,
  ⟨some 11, .op (.len .slice), [.t 10], none⟩,
  ⟨some 12, .op (.mov), [.t 1], none⟩,
  ⟨some 13, .op (.len .slice), [.t 12], none⟩,
  ⟨some 14, .op (.bin .neq .prim), [.t 11, .t 13], none⟩]
abbrev r99_2 : List IOp := [⟨some 6, .op (.mov), [.c (.bool false)], none⟩]
abbrev r99_3 : List IOp := [⟨some 15, .op (.mov), [.t 0], none⟩,
  ⟨some 16, .op (.len .slice), [.t 15], none⟩,
  ⟨some 17, .op (.mov), [.c (.int .i64 0)], none⟩]
abbrev r99_4 : List IOp := [⟨some 18, .op (.bin .lss .prim), [.t 17, .t 16], none⟩]
abbrev r99_5 : List IOp := [⟨some 19, .op (.mov), [.t 17], none⟩,
  ⟨some 20, .op (.iaddr 1), [.t 15, .t 17], none⟩,
  ⟨some 21, .op (.load none), [.t 20], none⟩,
  ⟨some 7, .op (.mov), [.t 19], none⟩,
  ⟨some 8, .op (.mov), [.t 21], none⟩]
abbrev r99_6 : List IOp := [⟨some 22, .op (.mov), [.t 1], none⟩,
  ⟨some 23, .op (.mov), [.t 7], none⟩,
  ⟨some 24, .op (.iaddr 1), [.t 22, .t 23], none⟩,
  ⟨some 25, .op (.load none), [.t 24], none⟩,
  ⟨some 9, .op (.mov), [.t 25], none⟩]
abbrev r99_7 : List IOp := [⟨some 26, .op (.mov), [.t 2], none⟩,
  ⟨some 27, .op (.mov), [.t 8], none⟩,
  ⟨some 28, .op (.mov), [.t 9], none⟩,
  ⟨some 29, .call none, [.t 26, .t 27, .t 28], none⟩,
  ⟨some 30, .op (.un .not), [.t 29], none⟩]
abbrev r99_8 : List IOp := [⟨some 6, .op (.mov), [.c (.bool false)], none⟩]
abbrev r99_9 : List IOp := [⟨some 31, .op (.bin .add .prim), [.t 17, .c (.int .i64 1)], none⟩,
  ⟨some 17, .op (.mov), [.t 31], none⟩]
abbrev b99_0 : IC := (IC.seq (IC.reg r99_4) (IC.seq (IC.cond (.t 18) IC.skip (IC.exit 0)) (IC.seq (IC.block 1 (IC.seq (IC.reg r99_5) (IC.seq (IC.reg r99_6) (IC.seq (IC.reg r99_7) (IC.cond (.t 30) (IC.seq (IC.reg r99_8) IC.ret) IC.skip))))) (IC.reg r99_9))))
abbrev r99_10 : List IOp := [⟨some 6, .op (.mov), [.c (.bool true)], none⟩]
abbrev c99 : IC := (IC.seq (IC.reg r99_0) (IC.seq (IC.seq (IC.reg r99_1) (IC.cond (.t 14) (IC.seq (IC.reg r99_2) IC.ret) IC.skip)) (IC.seq (IC.seq (IC.reg r99_3) (IC.block 0 (IC.loop b99_0))) (IC.seq (IC.reg r99_10) IC.ret))))
abbrev g99 : FC := ⟨c99, 32, [.t 6]⟩
theorem comp99 : compF Go.Proofs.Try.prog (fun _ => 0) 99 = some g99 := by kernel_rfl

-- slices.Equal[[]bool,bool]
abbrev r100_0 : List IOp := [⟨some 4, .op (.mov), [.c (.bool false)], none⟩]
abbrev r100_1 : List IOp := [⟨some 6, .op (.mov), [.t 0], none⟩,
  ⟨some 7, .op (.len .slice), [.t 6], none⟩,
  ⟨some 8, .op (.mov), [.t 1], none⟩,
  ⟨some 9, .op (.len .slice), [.t 8], none⟩,
  ⟨some 10, .op (.bin .neq .prim), [.t 7, .t 9], none⟩]
abbrev r100_2 : List IOp := [⟨some 4, .op (.mov), [.c (.bool false)], none⟩]
abbrev r100_3 : List IOp := [⟨some 11, .op (.mov), [.t 0], none⟩,
  ⟨some 12, .op (.len .slice), [.t 11], none⟩,
  ⟨some 13, .op (.mov), [.c (.int .i64 0)], none⟩]
abbrev r100_4 : List IOp := [⟨some 14, .op (.bin .lss .prim), [.t 13, .t 12], none⟩]
abbrev r100_5 : List IOp := [⟨some 15, .op (.mov), [.t 13], none⟩,
  ⟨some 5, .op (.mov), [.t 15], none⟩]
abbrev r100_6 : List IOp := [⟨some 16, .op (.mov), [.t 0], none⟩,
  ⟨some 17, .op (.mov), [.t 5], none⟩,
  ⟨some 18, .op (.iaddr 1), [.t 16, .t 17], none⟩,
  ⟨some 19, .op (.load none), [.t 18], none⟩,
  ⟨some 20, .op (.mov), [.t 1], none⟩,
  ⟨some 21, .op (.mov), [.t 5], none⟩,
  ⟨some 22, .op (.iaddr 1), [.t 20, .t 21], none⟩,
  ⟨some 23, .op (.load none), [.t 22], none⟩,
  ⟨some 24, .op (.bin .neq .bool), [.t 19, .t 23], none⟩]
abbrev r100_7 : List IOp := [⟨some 4, .op (.mov), [.c (.bool false)], none⟩]
abbrev r100_8 : List IOp := [⟨some 25, .op (.bin .add .prim), [.t 13, .c (.int .i64 1)], none⟩,
  ⟨some 13, .op (.mov), [.t 25], none⟩]
abbrev b100_0 : IC := (IC.seq (IC.reg r100_4) (IC.seq (IC.cond (.t 14) IC.skip (IC.exit 0)) (IC.seq (IC.block 1 (IC.seq (IC.reg r100_5) (IC.seq (IC.regD .wild r100_6 (.take 0 (.take 1 (.take 2 (.take 3 (.take 4 (.take 5 (.take 6 (.take 7 (.take 8 (.done))))))))))) (IC.cond (.t 24) (IC.seq (IC.reg r100_7) IC.ret) IC.skip)))) (IC.reg r100_8))))
abbrev r100_9 : List IOp := [⟨some 4, .op (.mov), [.c (.bool true)], none⟩]
abbrev c100 : IC := (IC.seq (IC.reg r100_0) (IC.seq (IC.seq (IC.reg r100_1) (IC.cond (.t 10) (IC.seq (IC.reg r100_2) IC.ret) IC.skip)) (IC.seq (IC.seq (IC.reg r100_3) (IC.block 0 (IC.loop b100_0))) (IC.seq (IC.reg r100_9) IC.ret))))
abbrev g100 : FC := ⟨c100, 26, [.t 4]⟩
theorem comp100 : compF Go.Proofs.Try.prog (hintL [(6, 6)]) 100 = some g100 := by kernel_rfl

-- (outlaw/dfa.table).states
abbrev r189_0 : List IOp := [⟨some 1, .op (.box 127), [.t 0], none⟩,
  ⟨some 2, .op (.mov), [.c (.int .i64 0)], none⟩]
abbrev r189_1 : List IOp := [⟨some 3, .op (.faddr 0), [.t 1], none⟩,
  ⟨some 4, .op (.faddr 1), [.t 3], none⟩,
  ⟨some 5, .op (.load none), [.t 4], none⟩,
  ⟨some 6, .op (.len .slice), [.t 5], none⟩,
  ⟨some 2, .op (.mov), [.t 6], none⟩]
abbrev c189 : IC := (IC.seq (IC.reg r189_0) (IC.seq (IC.reg r189_1) IC.ret))
abbrev g189 : FC := ⟨c189, 7, [.t 2]⟩
theorem comp189 : compF Go.Proofs.Try.prog (fun _ => 0) 189 = some g189 := by kernel_rfl

-- (outlaw/dfa.rows).states
abbrev r191_0 : List IOp := [⟨some 1, .op (.box 133), [.t 0], none⟩,
  ⟨some 2, .op (.mov), [.c (.int .i64 0)], none⟩]
abbrev r191_1 : List IOp := [⟨some 2, .op (.mov), [.c (.int .i64 0)], none⟩]
abbrev c191 : IC := (IC.seq (IC.reg r191_0) (IC.seq (IC.reg r191_1) IC.ret))
abbrev g191 : FC := ⟨c191, 3, [.t 2]⟩
theorem comp191 : compF Go.Proofs.Try.prog (fun _ => 0) 191 = some g191 := by kernel_rfl

-- outlaw/glob.Match$1
abbrev r101_0 : List IOp := [⟨some 4, .op (.mov), [.c (.bool false)], none⟩]
abbrev r101_1 : List IOp := [⟨some 5, .op (.mov), [.t 0], none⟩,
  ⟨some 6, .op (.mov), [.t 1], none⟩,
  ⟨some 7, .op (.bin .eql .prim), [.t 5, .t 6], none⟩,
  ⟨some 4, .op (.mov), [.t 7], none⟩]
abbrev c101 : IC := (IC.seq (IC.reg r101_0) (IC.seq (IC.reg r101_1) IC.ret))
abbrev g101 : FC := ⟨c101, 8, [.t 4]⟩
theorem comp101 : compF Go.Proofs.Try.prog (fun _ => 0) 101 = some g101 := by kernel_rfl

-- outlaw/glob.Match$2
abbrev r102_0 : List IOp := [⟨some 4, .op (.mov), [.c (.bool false)], none⟩]
abbrev r102_1 : List IOp := [⟨some 5, .op (.mov), [.t 0], none⟩,
  ⟨some 6, .call none, [.f 103, .t 5], none⟩,
  ⟨some 7, .op (.mov), [.t 1], none⟩,
  ⟨some 8, .call none, [.f 103, .t 7], none⟩,
  ⟨some 9, .op (.bin .eql .prim), [.t 6, .t 8], none⟩,
  ⟨some 4, .op (.mov), [.t 9], none⟩]
abbrev c102 : IC := (IC.seq (IC.reg r102_0) (IC.seq (IC.reg r102_1) IC.ret))
abbrev g102 : FC := ⟨c102, 10, [.t 4]⟩
theorem comp102 : compF Go.Proofs.Try.prog (fun _ => 0) 102 = some g102 := by kernel_rfl

-- (outlaw/dfa.table).match
abbrev r188_0 : List IOp := [⟨some 2, .op (.box 127), [.t 0], none⟩,
  ⟨some 4, .op (.mov), [.c (.bool false)], none⟩]
abbrev r188_1 : List IOp := [⟨some 5, .op (.faddr 0), [.t 2], none⟩,
  ⟨some 6, .op (.load (some 3)), [.t 5], none⟩,
  ⟨some 7, .op (.mov), [.t 1], none⟩,
  ⟨some 8, .call none, [.f 89, .t 6, .t 7], none⟩,
  ⟨some 4, .op (.mov), [.t 8], none⟩]
abbrev c188 : IC := (IC.seq (IC.reg r188_0) (IC.seq (IC.reg r188_1) IC.ret))
abbrev g188 : FC := ⟨c188, 9, [.t 4]⟩
theorem comp188 : compF Go.Proofs.Try.prog (fun _ => 0) 188 = some g188 := by kernel_rfl

-- (outlaw/dfa.rows).match
abbrev r190_0 : List IOp := [⟨some 2, .op (.box 133), [.t 0], none⟩,
  ⟨some 4, .op (.mov), [.c (.bool false)], none⟩]
abbrev r190_1 : List IOp := [⟨some 5, .op (.faddr 0), [.t 2], none⟩,
  ⟨some 6, .op (.load none), [.t 5], none⟩,
  ⟨some 7, .op (.mov), [.t 1], none⟩,
  ⟨some 8, .call none, [.f 192, .t 6, .t 7], none⟩,
  ⟨some 4, .op (.mov), [.t 8], none⟩]
abbrev c190 : IC := (IC.seq (IC.reg r190_0) (IC.seq (IC.reg r190_1) IC.ret))
abbrev g190 : FC := ⟨c190, 9, [.t 4]⟩
theorem comp190 : compF Go.Proofs.Try.prog (fun _ => 0) 190 = some g190 := by kernel_rfl

-- slices.IndexFunc[[]int,int]
abbrev r117_0 : List IOp := [⟨some 4, .op (.mov), [.c (.int .i64 0)], none⟩]
abbrev r117_1 : List IOp := [⟨some 6, .op (.mov), [.t 0], none⟩,
  ⟨some 7, .op (.len .slice), [.t 6], none⟩,
  ⟨some 8, .op (.mov), [.c (.int .i64 0)], none⟩]
abbrev r117_2 : List IOp := [⟨some 9, .op (.bin .lss .prim), [.t 8, .t 7], none⟩]
abbrev r117_3 : List IOp := [⟨some 10, .op (.mov), [.t 8], none⟩,
  ⟨some 5, .op (.mov), [.t 10], none⟩]
abbrev r117_4 : List IOp := [⟨some 11, .op (.mov), [.t 1], none⟩,
  ⟨some 12, .op (.mov), [.t 0], none⟩,
  ⟨some 13, .op (.mov), [.t 5], none⟩,
  ⟨some 14, .op (.iaddr 1), [.t 12, .t 13], none⟩,
  ⟨some 15, .op (.load none), [.t 14], none⟩,
  ⟨some 16, .call none, [.t 11, .t 15], none⟩]
abbrev r117_5 : List IOp := [⟨some 17, .op (.mov), [.t 5], none⟩,
  ⟨some 4, .op (.mov), [.t 17], none⟩]
abbrev r117_6 : List IOp := [⟨some 18, .op (.bin .add .prim), [.t 8, .c (.int .i64 1)], none⟩,
  ⟨some 8, .op (.mov), [.t 18], none⟩]
abbrev b117_0 : IC := (IC.seq (IC.reg r117_2) (IC.seq (IC.cond (.t 9) IC.skip (IC.exit 0)) (IC.seq (IC.block 1 (IC.seq (IC.reg r117_3) (IC.seq (IC.reg r117_4) (IC.cond (.t 16) (IC.seq (IC.reg r117_5) IC.ret) IC.skip)))) (IC.reg r117_6))))
abbrev r117_7 : List IOp := [⟨some 4, .op (.mov), [.c (.int .i64 (-1))], none⟩]
abbrev c117 : IC := (IC.seq (IC.reg r117_0) (IC.seq (IC.seq (IC.reg r117_1) (IC.block 0 (IC.loop b117_0))) (IC.seq (IC.reg r117_7) IC.ret)))
abbrev g117 : FC := ⟨c117, 19, [.t 4]⟩
theorem comp117 : compF Go.Proofs.Try.prog (fun _ => 0) 117 = some g117 := by kernel_rfl

-- outlaw/glob.Norm
abbrev r118_0 : List IOp := [⟨some 2, .op (.mov), [.c (.str [])], none⟩]
abbrev r118_1 : List IOp := [⟨some 3, .op (.mov), [.c (.nils)], none⟩]
abbrev r118_2 : List IOp := [⟨some 4, .op (.mov), [.c (.int .i64 0)], none⟩]
abbrev r118_3 : List IOp := [⟨some 7, .op (.mov), [.t 4], none⟩,
  ⟨some 8, .op (.mov), [.t 0], none⟩,
  ⟨some 9, .op (.len .str), [.t 8], none⟩,
  ⟨some 10, .op (.bin .lss .prim), [.t 7, .t 9], none⟩]
abbrev r118_4 : List IOp := [⟨some 11, .op (.mov), [.t 4], none⟩,
  ⟨some 5, .op (.mov), [.t 11], none⟩]
abbrev r118_5 : List IOp := [⟨some 12, .op (.mov), [.t 5], none⟩,
  ⟨some 13, .op (.mov), [.t 0], none⟩,
  ⟨some 14, .op (.len .str), [.t 13], none⟩,
  ⟨some 15, .op (.bin .lss .prim), [.t 12, .t 14], none⟩,
  ⟨some 16, .op (.mov), [.t 15], none⟩,
  ⟨some 17, .op (.mov), [.t 0], some (16, true)⟩,
  ⟨some 18, .op (.mov), [.t 5], some (16, true)⟩,
  ⟨some 19, .op (.idxs), [.t 17, .t 18], some (16, true)⟩,
  ⟨some 20, .op (.bin .eql .prim), [.t 19, .c (.int .u8 42)], some (16, true)⟩,
  ⟨some 21, .op (.mov), [.t 20], some (16, true)⟩,
  ⟨some 22, .op (.mov), [.t 0], some (21, false)⟩,
  ⟨some 23, .op (.mov), [.t 5], some (21, false)⟩,
  ⟨some 24, .op (.idxs), [.t 22, .t 23], some (21, false)⟩,
  ⟨some 25, .op (.bin .eql .prim), [.t 24, .c (.int .u8 63)], some (21, false)⟩,
  ⟨some 26, .op (.pick), [.t 21, .c (.bool true), .t 25], some (16, true)⟩,
  ⟨some 27, .op (.pick), [.t 16, .t 26, .c (.bool false)], none⟩]
abbrev r118_6 : List IOp := [⟨some 28, .op (.mov), [.t 5], none⟩,
  ⟨some 29, .op (.bin .add .prim), [.t 28, .c (.int .i64 1)], none⟩,
  ⟨some 5, .op (.mov), [.t 29], none⟩]
abbrev b118_0 : IC := (IC.seq (IC.seq (IC.reg r118_5) (IC.cond (.t 27) IC.skip (IC.exit 2))) (IC.block 3 (IC.reg r118_6)))
abbrev r118_7 : List IOp := [⟨some 30, .op (.mov), [.t 5], none⟩,
  ⟨some 31, .op (.mov), [.t 4], none⟩,
  ⟨some 32, .op (.bin .eql .prim), [.t 30, .t 31], none⟩]
abbrev r118_8 : List IOp := [⟨some 33, .op (.mov), [.t 3], none⟩,
  ⟨some 34, .op (.mov), [.t 0], none⟩,
  ⟨some 35, .op (.mov), [.t 4], none⟩,
  ⟨some 36, .op (.idxs), [.t 34, .t 35], none⟩,
  ⟨some 37, .op (.bsl 5 1 false), [.t 36], none⟩,
  ⟨some 38, .op (.app 5 1 1), [.t 33, .t 37], none⟩,
  ⟨some 3, .op (.mov), [.t 38], none⟩]
abbrev r118_9 : List IOp := [⟨some 39, .op (.mov), [.t 4], none⟩,
  ⟨some 40, .op (.bin .add .prim), [.t 39, .c (.int .i64 1)], none⟩,
  ⟨some 4, .op (.mov), [.t 40], none⟩]
abbrev r118_10 : List IOp := [⟨some 41, .op (.mov), [.t 0], none⟩,
  ⟨some 42, .op (.mov), [.t 4], none⟩,
  ⟨some 43, .op (.mov), [.t 5], none⟩,
  ⟨some 44, .op (.sslice true true false), [.t 41, .t 42, .t 43], none⟩,
  ⟨some 45, .op (.s2b 5), [.t 44], none⟩,
  ⟨some 46, .op (.bsl 5 1 false), [.c (.int .u8 63)], none⟩,
  ⟨some 47, .op (.cvs), [.t 46], none⟩,
  ⟨some 48, .call none, [.f 131, .t 45, .t 47], none⟩,
  ⟨some 6, .op (.mov), [.t 48], none⟩]
abbrev r118_11 : List IOp := [⟨some 49, .op (.mov), [.t 3], none⟩,
  ⟨some 50, .op (.bsl 5 1 false), [.c (.int .u8 63)], none⟩,
  ⟨some 51, .op (.cvs), [.t 50], none⟩,
  ⟨some 52, .op (.mov), [.t 6], none⟩,
  ⟨some 53, .call none, [.f 132, .t 51, .t 52], none⟩,
  ⟨some 54, .op (.app 5 1 1), [.t 49, .t 53], none⟩,
  ⟨some 3, .op (.mov), [.t 54], none⟩]
abbrev r118_12 : List IOp := [⟨some 55, .op (.mov), [.t 6], none⟩,
  ⟨some 56, .op (.mov), [.t 5], none⟩,
  ⟨some 57, .op (.mov), [.t 4], none⟩,
  ⟨some 58, .op (.bin .sub .prim), [.t 56, .t 57], none⟩,
  ⟨some 59, .op (.bin .lss .prim), [.t 55, .t 58], none⟩]
abbrev r118_13 : List IOp := [⟨some 60, .op (.mov), [.t 3], none⟩,
  ⟨some 61, .op (.bsl 5 1 false), [.c (.int .u8 42)], none⟩,
  ⟨some 62, .op (.app 5 1 1), [.t 60, .t 61], none⟩,
  ⟨some 3, .op (.mov), [.t 62], none⟩]
abbrev r118_14 : List IOp := [⟨some 63, .op (.mov), [.t 5], none⟩,
  ⟨some 4, .op (.mov), [.t 63], none⟩]
abbrev b118_1 : IC := (IC.seq (IC.seq (IC.reg r118_3) (IC.cond (.t 10) IC.skip (IC.exit 0))) (IC.block 1 (IC.seq (IC.reg r118_4) (IC.seq (IC.block 2 (IC.loop b118_0)) (IC.seq (IC.seq (IC.reg r118_7) (IC.cond (.t 32) (IC.seq (IC.reg r118_8) (IC.seq (IC.reg r118_9) (IC.exit 1))) IC.skip)) (IC.seq (IC.reg r118_10) (IC.seq (IC.reg r118_11) (IC.seq (IC.seq (IC.reg r118_12) (IC.cond (.t 59) (IC.reg r118_13) IC.skip)) (IC.reg r118_14)))))))))
abbrev r118_15 : List IOp := [⟨some 64, .op (.mov), [.t 3], none⟩,
  ⟨some 65, .op (.b2s), [.t 64], none⟩,
  ⟨some 2, .op (.mov), [.t 65], none⟩]
abbrev c118 : IC := (IC.seq (IC.reg r118_0) (IC.seq (IC.reg r118_1) (IC.seq (IC.seq (IC.reg r118_2) (IC.block 0 (IC.loop b118_1))) (IC.seq (IC.reg r118_15) IC.ret))))
abbrev g118 : FC := ⟨c118, 66, [.t 2]⟩
theorem comp118 : compF Go.Proofs.Try.prog (fun _ => 0) 118 = some g118 := by kernel_rfl

-- outlaw/dfa.classes$1
abbrev r119_0 : List IOp := [⟨some 2, .op (.mov), [.c (.int .u8 0)], none⟩]
abbrev r119_1 : List IOp := [⟨some 3, .op (.mov), [.t 0], none⟩,
  ⟨some 2, .op (.mov), [.t 3], none⟩]
abbrev c119 : IC := (IC.seq (IC.reg r119_0) (IC.seq (IC.reg r119_1) IC.ret))
abbrev g119 : FC := ⟨c119, 4, [.t 2]⟩
theorem comp119 : compF Go.Proofs.Try.prog (fun _ => 0) 119 = some g119 := by kernel_rfl

-- outlaw/dfa.classes$2
abbrev r120_0 : List IOp := [⟨some 2, .op (.mov), [.c (.int .u8 0)], none⟩]
abbrev r120_1 : List IOp := [⟨some 3, .op (.mov), [.t 0], none⟩,
  ⟨some 4, .op (.bsl 5 1 false), [.t 3], none⟩,
  ⟨some 5, .op (.b2s), [.t 4], none⟩,
  ⟨some 6, .call none, [.f 121, .t 5], none⟩,
  ⟨some 7, .op (.idxs), [.t 6, .c (.int .i64 0)], none⟩,
  ⟨some 2, .op (.mov), [.t 7], none⟩]
abbrev c120 : IC := (IC.seq (IC.reg r120_0) (IC.seq (IC.reg r120_1) IC.ret))
abbrev g120 : FC := ⟨c120, 8, [.t 2]⟩
theorem comp120 : compF Go.Proofs.Try.prog (fun _ => 0) 120 = some g120 := by kernel_rfl

-- slices.Sort[[]byte,byte]
abbrev r122_0 : List IOp := [⟨some 3, .op (.mov), [.t 0], none⟩,
  ⟨some 4, .op (.len .slice), [.t 3], none⟩,
  ⟨some 2, .op (.mov), [.t 4], none⟩]
abbrev r122_1 : List IOp := [⟨some 5, .op (.mov), [.t 0], none⟩,
  ⟨some 6, .op (.mov), [.t 2], none⟩,
  ⟨some 7, .op (.mov), [.t 2], none⟩,
  ⟨some 8, .op (.toInt .u64), [.t 7], none⟩,
  ⟨some 9, .call none, [.f 134, .t 8], none⟩,
  ⟨some 10, .call none, [.f 133, .t 5, .c (.int .i64 0), .t 6, .t 9], none⟩]
abbrev c122 : IC := (IC.seq (IC.reg r122_0) (IC.reg r122_1))
abbrev g122 : FC := ⟨c122, 11, []⟩
theorem comp122 : compF Go.Proofs.Try.prog (fun _ => 0) 122 = some g122 := by kernel_rfl

-- slices.Compact[[]byte,byte]
abbrev r123_0 : List IOp := [⟨some 2, .op (.mov), [.c (.nils)], none⟩]
abbrev r123_1 : List IOp := [⟨some 6, .op (.mov), [.t 0], none⟩,
  ⟨some 7, .op (.len .slice), [.t 6], none⟩,
  ⟨some 8, .op (.bin .lss .prim), [.t 7, .c (.int .i64 2)], none⟩]
abbrev r123_2 : List IOp := [⟨some 9, .op (.mov), [.t 0], none⟩,
  ⟨some 2, .op (.mov), [.t 9], none⟩]
abbrev r123_3 : List IOp := [⟨some 3, .op (.mov), [.c (.int .i64 1)], none⟩]
abbrev r123_4 : List IOp := [⟨some 10, .op (.mov), [.t 3], none⟩,
  ⟨some 11, .op (.mov), [.t 0], none⟩,
  ⟨some 12, .op (.len .slice), [.t 11], none⟩,
  ⟨some 13, .op (.bin .lss .prim), [.t 10, .t 12], none⟩]
abbrev r123_5 : List IOp := [⟨some 16, .op (.mov), [.t 0], none⟩,
  ⟨some 17, .op (.mov), [.t 3], none⟩,
  ⟨some 18, .op (.iaddr 1), [.t 16, .t 17], none⟩,
  ⟨some 19, .op (.load none), [.t 18], none⟩,
  ⟨some 20, .op (.mov), [.t 0], none⟩,
  ⟨some 21, .op (.mov), [.t 3], none⟩,
  ⟨some 22, .op (.bin .sub .prim), [.t 21, .c (.int .i64 1)], none⟩,
  ⟨some 23, .op (.iaddr 1), [.t 20, .t 22], none⟩,
  ⟨some 24, .op (.load none), [.t 23], none⟩,
  ⟨some 25, .op (.bin .eql .prim), [.t 19, .t 24], none⟩]
abbrev r123_6 : List IOp := [⟨some 26, .op (.mov), [.t 0], none⟩,
  ⟨some 27, .op (.mov), [.t 3], none⟩,
  ⟨some 28, .op (.slice 1 true false false), [.t 26, .t 27], none⟩,
  ⟨some 4, .op (.mov), [.t 28], none⟩]
abbrev r123_7 : List IOp := [⟨some 5, .op (.mov), [.c (.int .i64 1)], none⟩]
abbrev r123_8 : List IOp := [⟨some 29, .op (.mov), [.t 5], none⟩,
  ⟨some 30, .op (.mov), [.t 4], none⟩,
  ⟨some 31, .op (.len .slice), [.t 30], none⟩,
  ⟨some 32, .op (.bin .lss .prim), [.t 29, .t 31], none⟩]
abbrev r123_9 : List IOp := [⟨some 35, .op (.mov), [.t 4], none⟩,
  ⟨some 36, .op (.mov), [.t 5], none⟩,
  ⟨some 37, .op (.iaddr 1), [.t 35, .t 36], none⟩,
  ⟨some 38, .op (.load none), [.t 37], none⟩,
  ⟨some 39, .op (.mov), [.t 4], none⟩,
  ⟨some 40, .op (.mov), [.t 5], none⟩,
  ⟨some 41, .op (.bin .sub .prim), [.t 40, .c (.int .i64 1)], none⟩,
  ⟨some 42, .op (.iaddr 1), [.t 39, .t 41], none⟩,
  ⟨some 43, .op (.load none), [.t 42], none⟩,
  ⟨some 44, .op (.bin .neq .prim), [.t 38, .t 43], none⟩]
abbrev r123_10 : List IOp := [⟨some 45, .op (.mov), [.t 0], none⟩,
  ⟨some 46, .op (.mov), [.t 3], none⟩,
  ⟨some 47, .op (.mov), [.t 4], none⟩,
  ⟨some 48, .op (.mov), [.t 5], none⟩,
  ⟨some 49, .op (.iaddr 1), [.t 47, .t 48], none⟩,
  ⟨some 50, .op (.load none), [.t 49], none⟩,
  ⟨some 51, .op (.iaddr 1), [.t 45, .t 46], none⟩,
  ⟨none, .op (.store 1), [.t 51, .t 50], none⟩]
abbrev r123_11 : List IOp := [⟨some 52, .op (.mov), [.t 3], none⟩,
  ⟨some 53, .op (.bin .add .prim), [.t 52, .c (.int .i64 1)], none⟩,
  ⟨some 3, .op (.mov), [.t 53], none⟩]
abbrev r123_12 : List IOp := [⟨some 33, .op (.mov), [.t 5], none⟩,
  ⟨some 34, .op (.bin .add .prim), [.t 33, .c (.int .i64 1)], none⟩,
  ⟨some 5, .op (.mov), [.t 34], none⟩]
abbrev b123_0 : IC := (IC.seq (IC.seq (IC.reg r123_8) (IC.cond (.t 32) IC.skip (IC.exit 2))) (IC.seq (IC.block 3 (IC.seq (IC.regD .wild r123_9 (.take 0 (.take 1 (.take 2 (.take 3 (.take 4 (.take 5 (.take 6 (.take 7 (.take 8 (.take 9 (.done)))))))))))) (IC.cond (.t 44) (IC.seq (IC.reg r123_10) (IC.reg r123_11)) IC.skip))) (IC.reg r123_12)))
abbrev r123_13 : List IOp := [⟨some 54, .op (.mov), [.t 0], none⟩,
  ⟨some 55, .op (.mov), [.t 3], none⟩,
  ⟨some 56, .op (.slice 1 true false false), [.t 54, .t 55], none⟩,
  ⟨none, .op (.clear [.int .u8 0]), [.t 56], none⟩]
abbrev r123_14 : List IOp := [⟨some 57, .op (.mov), [.t 0], none⟩,
  ⟨some 58, .op (.mov), [.t 3], none⟩,
  ⟨some 59, .op (.slice 1 false true false), [.t 57, .t 58], none⟩,
  ⟨some 2, .op (.mov), [.t 59], none⟩]
abbrev r123_15 : List IOp := [⟨some 14, .op (.mov), [.t 3], none⟩,
  ⟨some 15, .op (.bin .add .prim), [.t 14, .c (.int .i64 1)], none⟩,
  ⟨some 3, .op (.mov), [.t 15], none⟩]
abbrev b123_1 : IC := (IC.seq (IC.seq (IC.reg r123_4) (IC.cond (.t 13) IC.skip (IC.exit 0))) (IC.seq (IC.block 1 (IC.seq (IC.regD .wild r123_5 (.take 0 (.take 1 (.take 2 (.take 3 (.take 4 (.take 5 (.take 6 (.take 7 (.take 8 (.take 9 (.done)))))))))))) (IC.cond (.t 25) (IC.seq (IC.reg r123_6) (IC.seq (IC.seq (IC.reg r123_7) (IC.block 2 (IC.loop b123_0))) (IC.seq (IC.reg r123_13) (IC.seq (IC.reg r123_14) IC.ret)))) IC.skip))) (IC.reg r123_15)))
abbrev r123_16 : List IOp := [⟨some 60, .op (.mov), [.t 0], none⟩,
  ⟨some 2, .op (.mov), [.t 60], none⟩]
abbrev c123 : IC := (IC.seq (IC.reg r123_0) (IC.seq (IC.seq (IC.reg r123_1) (IC.cond (.t 8) (IC.seq (IC.reg r123_2) IC.ret) IC.skip)) (IC.seq (IC.seq (IC.reg r123_3) (IC.block 0 (IC.loop b123_1))) (IC.seq (IC.reg r123_16) IC.ret))))
abbrev g123 : FC := ⟨c123, 61, [.t 2]⟩
theorem comp123 : compF Go.Proofs.Try.prog (hintL [(6, 6), (11, 6)]) 123 = some g123 := by kernel_rfl

-- slices.BinarySearch[[]byte,byte]
abbrev r124_0 : List IOp := [⟨some 4, .op (.mov), [.c (.int .i64 0)], none⟩,
  ⟨some 5, .op (.mov), [.c (.bool false)], none⟩]
abbrev r124_1 : List IOp := [⟨some 10, .op (.mov), [.t 0], none⟩,
  ⟨some 11, .op (.len .slice), [.t 10], none⟩,
  ⟨some 6, .op (.mov), [.t 11], none⟩]
abbrev r124_2 : List IOp := [⟨some 12, .op (.mov), [.t 6], none⟩,
  ⟨some 7, .op (.mov), [.c (.int .i64 0)], none⟩,
  ⟨some 8, .op (.mov), [.t 12], none⟩]
abbrev r124_3 : List IOp := [⟨some 13, .op (.mov), [.t 7], none⟩,
  ⟨some 14, .op (.mov), [.t 8], none⟩,
  ⟨some 15, .op (.bin .lss .prim), [.t 13, .t 14], none⟩]
abbrev r124_4 : List IOp := [⟨some 16, .op (.mov), [.t 7], none⟩,
  ⟨some 17, .op (.mov), [.t 8], none⟩,
  ⟨some 18, .op (.bin .add .prim), [.t 16, .t 17], none⟩,
  ⟨some 19, .op (.toInt .u64), [.t 18], none⟩,
  ⟨some 20, .op (.bin .shr .prim), [.t 19, .c (.int .u64 1)], none⟩,
  ⟨some 21, .op (.toInt .i64), [.t 20], none⟩,
  ⟨some 9, .op (.mov), [.t 21], none⟩]
abbrev r124_5 : List IOp := [⟨some 22, .op (.mov), [.t 0], none⟩,
  ⟨some 23, .op (.mov), [.t 9], none⟩,
  ⟨some 24, .op (.iaddr 1), [.t 22, .t 23], none⟩,
  ⟨some 25, .op (.load none), [.t 24], none⟩,
  ⟨some 26, .op (.mov), [.t 1], none⟩,
  ⟨some 27, .call none, [.f 135, .t 25, .t 26], none⟩]
abbrev r124_6 : List IOp := [⟨some 28, .op (.mov), [.t 9], none⟩,
  ⟨some 29, .op (.bin .add .prim), [.t 28, .c (.int .i64 1)], none⟩,
  ⟨some 7, .op (.mov), [.t 29], none⟩]
abbrev r124_7 : List IOp := [⟨some 30, .op (.mov), [.t 9], none⟩,
  ⟨some 8, .op (.mov), [.t 30], none⟩]
abbrev b124_0 : IC := (IC.seq (IC.seq (IC.reg r124_3) (IC.cond (.t 15) IC.skip (IC.exit 0))) (IC.block 1 (IC.seq (IC.reg r124_4) (IC.seq (IC.reg r124_5) (IC.cond (.t 27) (IC.reg r124_6) (IC.reg r124_7))))))
abbrev r124_8 : List IOp := [⟨some 31, .op (.mov), [.t 7], none⟩,
  ⟨some 32, .op (.mov), [.t 7], none⟩,
  ⟨some 33, .op (.mov), [.t 6], none⟩,
  ⟨some 34, .op (.bin .lss .prim), [.t 32, .t 33], none⟩,
  ⟨some 35, .op (.mov), [.t 34], none⟩,
  ⟨some 36, .op (.mov), [.t 0], some (35, true)⟩,
  ⟨some 37, .op (.mov), [.t 7], some (35, true)⟩,
  ⟨some 38, .op (.iaddr 1), [.t 36, .t 37], some (35, true)⟩,
  ⟨some 39, .op (.load none), [.t 38], some (35, true)⟩,
  ⟨some 40, .op (.mov), [.t 1], some (35, true)⟩,
  ⟨some 41, .op (.bin .eql .prim), [.t 39, .t 40], some (35, true)⟩,
  ⟨some 42, .op (.mov), [.t 41], some (35, true)⟩,
  ⟨some 43, .op (.mov), [.t 0], some (42, false)⟩,
  ⟨some 44, .op (.mov), [.t 7], some (42, false)⟩,
  ⟨some 45, .op (.iaddr 1), [.t 43, .t 44], some (42, false)⟩,
  ⟨some 46, .op (.load none), [.t 45], some (42, false)⟩,
  ⟨some 47, .call none, [.f 136, .t 46], some (42, false)⟩,
  ⟨some 48, .op (.mov), [.t 47], some (42, false)⟩,
  ⟨some 49, .op (.mov), [.t 1], some (48, true)⟩,
  ⟨some 50, .call none, [.f 136, .t 49], some (48, true)⟩,
  ⟨some 51, .op (.pick), [.t 48, .t 50, .c (.bool false)], some (42, false)⟩,
  ⟨some 52, .op (.pick), [.t 42, .c (.bool true), .t 51], some (35, true)⟩,
  ⟨some 53, .op (.pick), [.t 35, .t 52, .c (.bool false)], none⟩,
  ⟨some 4, .op (.mov), [.t 31], none⟩,
  ⟨some 5, .op (.mov), [.t 53], none⟩]
abbrev c124 : IC := (IC.seq (IC.reg r124_0) (IC.seq (IC.reg r124_1) (IC.seq (IC.reg r124_2) (IC.seq (IC.block 0 (IC.loop b124_0)) (IC.seq (IC.reg r124_8) IC.ret)))))
abbrev g124 : FC := ⟨c124, 54, [.t 4, .t 5]⟩
theorem comp124 : compF Go.Proofs.Try.prog (fun _ => 0) 124 = some g124 := by kernel_rfl

-- outlaw/dfa.key
abbrev r94_0 : List IOp := [⟨some 2, .op (.mov), [.c (.str [])], none⟩]
abbrev r94_1 : List IOp := [⟨some 3, .op (.mov), [.c (.nils)], none⟩]
abbrev r94_2 : List IOp := [⟨some 6, .op (.mov), [.t 0], none⟩,
  ⟨some 7, .op (.len .slice), [.t 6], none⟩,
  ⟨some 8, .op (.mov), [.c (.int .i64 0)], none⟩]
abbrev r94_3 : List IOp := [⟨some 9, .op (.bin .lss .prim), [.t 8, .t 7], none⟩]
abbrev r94_4 : List IOp := [⟨some 10, .op (.iaddr 1), [.t 6, .t 8], none⟩,
  ⟨some 11, .op (.load none), [.t 10], none⟩,
  ⟨some 5, .op (.mov), [.t 11], none⟩]
abbrev r94_5 : List IOp := [⟨some 12, .op (.mov), [.t 3], none⟩,
  ⟨some 13, .op (.mov), [.t 5], none⟩,
  ⟨some 14, .op (.toInt .u8), [.t 13], none⟩,
  ⟨some 15, .op (.bsl 5 1 false), [.t 14], none⟩,
  ⟨some 16, .op (.app 5 1 1), [.t 12, .t 15], none⟩,
  ⟨some 3, .op (.mov), [.t 16], none⟩]
abbrev r94_6 : List IOp := [⟨some 17, .op (.bin .add .prim), [.t 8, .c (.int .i64 1)], none⟩,
  ⟨some 8, .op (.mov), [.t 17], none⟩]
abbrev b94_0 : IC := (IC.seq (IC.reg r94_3) (IC.seq (IC.cond (.t 9) IC.skip (IC.exit 0)) (IC.seq (IC.block 1 (IC.seq (IC.reg r94_4) (IC.reg r94_5))) (IC.reg r94_6))))
abbrev r94_7 : List IOp := [⟨some 18, .op (.mov), [.t 3], none⟩,
  ⟨some 19, .op (.b2s), [.t 18], none⟩,
  ⟨some 2, .op (.mov), [.t 19], none⟩]
abbrev c94 : IC := (IC.seq (IC.reg r94_0) (IC.seq (IC.reg r94_1) (IC.seq (IC.seq (IC.reg r94_2) (IC.block 0 (IC.loop b94_0))) (IC.seq (IC.reg r94_7) IC.ret))))
abbrev g94 : FC := ⟨c94, 20, [.t 2]⟩
theorem comp94 : compF Go.Proofs.Try.prog (fun _ => 0) 94 = some g94 := by kernel_rfl

-- (*outlaw/nfa.Nfa).start
abbrev r125_0 : List IOp := [⟨some 2, .op (.mov), [.c (.nils)], none⟩]
abbrev r125_1 : List IOp := [⟨some 4, .op (.mov), [.t 0], none⟩,
  ⟨some 5, .call none, [.f 137, .t 4], none⟩,
  ⟨some 6, .op (.make 4 [.bool false] 1), [.t 5, .t 5], none⟩,
  ⟨some 3, .op (.mov), [.t 6], none⟩]
abbrev r125_2 : List IOp := [⟨some 7, .op (.mov), [.t 3], none⟩,
  ⟨some 8, .op (.len .slice), [.t 7], none⟩,
  ⟨some 9, .op (.bin .gtr .prim), [.t 8, .c (.int .i64 0)], none⟩]
abbrev r125_3 : List IOp := [⟨some 10, .op (.mov), [.t 0], none⟩,
  ⟨some 11, .op (.mov), [.t 3], none⟩,
  ⟨some 12, .call none, [.f 138, .t 10, .t 11, .c (.int .i64 0)], none⟩]
abbrev r125_4 : List IOp := [⟨some 13, .op (.mov), [.t 3], none⟩,
  ⟨some 2, .op (.mov), [.t 13], none⟩]
abbrev c125 : IC := (IC.seq (IC.reg r125_0) (IC.seq (IC.reg r125_1) (IC.seq (IC.seq (IC.reg r125_2) (IC.cond (.t 9) (IC.reg r125_3) IC.skip)) (IC.seq (IC.reg r125_4) IC.ret))))
abbrev g125 : FC := ⟨c125, 14, [.t 2]⟩
theorem comp125 : compF Go.Proofs.Try.prog (fun _ => 0) 125 = some g125 := by kernel_rfl

-- (outlaw/nfa.row).list
abbrev r126_0 : List IOp := [⟨some 2, .op (.mov), [.c (.nils)], none⟩]
abbrev r126_1 : List IOp := [⟨some 3, .op (.alloc 65 [.nils]), [], none⟩]
abbrev r126_2 : List IOp := [⟨some 5, .op (.mov), [.t 0], none⟩,
  ⟨some 6, .call none, [.f 139, .t 5], none⟩]
abbrev r126_3 : List IOp := [⟨some 12, .op (.load none), [.t 3], none⟩,
  ⟨some 2, .op (.mov), [.t 12], none⟩]
abbrev r126_4 : List IOp := [⟨some 4, .op (.mov), [.t 7], none⟩]
abbrev r126_5 : List IOp := [⟨some 8, .op (.load none), [.t 3], none⟩,
  ⟨some 9, .op (.mov), [.t 4], none⟩,
  ⟨some 10, .op (.bsl 3 1 false), [.t 9], none⟩,
  ⟨some 11, .op (.app 3 1 8), [.t 8, .t 10], none⟩,
  ⟨none, .op (.store 1), [.t 3, .t 11], none⟩]
abbrev c126 : IC := (IC.seq (IC.reg r126_0) (IC.seq (IC.reg r126_1) (IC.seq (IC.seq (IC.reg r126_2) (IC.block 0 (IC.rangeF 126000 13 (.t 6)))) (IC.seq (IC.reg r126_3) IC.ret))))
abbrev g126 : FC := ⟨c126, 13, [.t 2]⟩
theorem comp126 : compF Go.Proofs.Try.prog (hintL [(1000003, 126000), (2000003, 13)]) 126 = some g126 := by kernel_rfl
abbrev li126000 : LI := ⟨13, [7], (IC.reg r126_4), (IC.block 1 (IC.reg r126_5))⟩
theorem keys126 : KeysF Go.Proofs.Try.prog (hintL [(1000003, 126000), (2000003, 13)]) 126 := keysF_of (by kernel_rfl)
theorem lok126000 : LOk Go.Proofs.Try.prog 126000 li126000 := ⟨hintL [(1000003, 126000), (2000003, 13)], by kernel_rfl, by kernel_rfl, by kernel_rfl, by kernel_rfl, by decide⟩

-- (*outlaw/nfa.Nfa).of
abbrev r128_0 : List IOp := [⟨some 4, .op (.mov), [.c (.nils)], none⟩]
abbrev r128_1 : List IOp := [⟨some 8, .op (.mov), [.t 0], none⟩,
  ⟨some 9, .call none, [.f 137, .t 8], none⟩,
  ⟨some 10, .op (.make 4 [.bool false] 1), [.t 9, .t 9], none⟩,
  ⟨some 5, .op (.mov), [.t 10], none⟩]
abbrev r128_2 : List IOp := [⟨some 11, .op (.mov), [.t 1], none⟩,
  ⟨some 12, .op (.len .slice), [.t 11], none⟩,
  ⟨some 13, .op (.mov), [.c (.int .i64 0)], none⟩]
abbrev r128_3 : List IOp := [⟨some 14, .op (.bin .lss .prim), [.t 13, .t 12], none⟩]
abbrev r128_4 : List IOp := [⟨some 15, .op (.iaddr 1), [.t 11, .t 13], none⟩,
  ⟨some 16, .op (.load none), [.t 15], none⟩,
  ⟨some 7, .op (.mov), [.t 16], none⟩]
abbrev r128_5 : List IOp := [⟨some 17, .op (.mov), [.t 7], none⟩,
  ⟨some 18, .op (.bin .geq .prim), [.t 17, .c (.int .i64 0)], none⟩,
  ⟨some 19, .op (.mov), [.t 18], none⟩,
  ⟨some 20, .op (.mov), [.t 7], some (19, true)⟩,
  ⟨some 21, .op (.mov), [.t 5], some (19, true)⟩,
  ⟨some 22, .op (.len .slice), [.t 21], some (19, true)⟩,
  ⟨some 23, .op (.bin .lss .prim), [.t 20, .t 22], some (19, true)⟩,
  ⟨some 24, .op (.pick), [.t 19, .t 23, .c (.bool false)], none⟩]
abbrev r128_6 : List IOp := [⟨some 25, .op (.mov), [.t 5], none⟩,
  ⟨some 26, .op (.mov), [.t 7], none⟩,
  ⟨some 27, .op (.iaddr 1), [.t 25, .t 26], none⟩,
  ⟨none, .op (.store 1), [.t 27, .c (.bool true)], none⟩]
abbrev r128_7 : List IOp := [⟨some 28, .op (.bin .add .prim), [.t 13, .c (.int .i64 1)], none⟩,
  ⟨some 13, .op (.mov), [.t 28], none⟩]
abbrev b128_0 : IC := (IC.seq (IC.reg r128_3) (IC.seq (IC.cond (.t 14) IC.skip (IC.exit 0)) (IC.seq (IC.block 1 (IC.seq (IC.reg r128_4) (IC.seq (IC.reg r128_5) (IC.cond (.t 24) (IC.reg r128_6) IC.skip)))) (IC.reg r128_7))))
abbrev r128_8 : List IOp := [⟨some 29, .op (.mov), [.t 5], none⟩,
  ⟨some 4, .op (.mov), [.t 29], none⟩]
abbrev c128 : IC := (IC.seq (IC.reg r128_0) (IC.seq (IC.reg r128_1) (IC.seq (IC.seq (IC.reg r128_2) (IC.block 0 (IC.loop b128_0))) (IC.seq (IC.reg r128_8) IC.ret))))
abbrev g128 : FC := ⟨c128, 30, [.t 4]⟩
theorem comp128 : compF Go.Proofs.Try.prog (fun _ => 0) 128 = some g128 := by kernel_rfl

-- (*outlaw/nfa.Nfa).step
abbrev r127_0 : List IOp := [⟨some 3, .op (.box 106), [.t 0], none⟩,
  ⟨some 5, .op (.box 5), [.t 2], none⟩,
  ⟨some 6, .op (.mov), [.c (.nils)], none⟩]
abbrev r127_1 : List IOp := [⟨some 10, .op (.mov), [.t 1], none⟩,
  ⟨some 11, .op (.len .slice), [.t 10], none⟩,
  ⟨some 12, .op (.make 4 [.bool false] 1), [.t 11, .t 11], none⟩,
  ⟨some 7, .op (.alloc 153 [.nils]), [], none⟩,
  ⟨none, .op (.store 1), [.t 7, .t 12], none⟩]
abbrev r127_2 : List IOp := [⟨some 13, .op (.mov), [.t 1], none⟩,
  ⟨some 14, .call none, [.f 139, .t 13], none⟩]
abbrev r127_3 : List IOp := [⟨some 62, .op (.load none), [.t 7], none⟩,
  ⟨some 6, .op (.mov), [.t 62], none⟩]
abbrev r127_4 : List IOp := [⟨some 8, .op (.mov), [.t 15], none⟩]
abbrev r127_5 : List IOp := [⟨some 16, .op (.mov), [.t 8], none⟩,
  ⟨some 17, .op (.load none), [.t 3], none⟩,
  ⟨some 18, .op (.nilchk), [.t 17], none⟩,
  ⟨some 19, .op (.faddr 0), [.t 18], none⟩,
  ⟨some 20, .op (.load none), [.t 19], none⟩,
  ⟨some 21, .op (.len .str), [.t 20], none⟩,
  ⟨some 22, .op (.bin .eql .prim), [.t 16, .t 21], none⟩]
abbrev r127_6 : List IOp := [⟨some 23, .op (.load none), [.t 3], none⟩,
  ⟨some 24, .op (.nilchk), [.t 23], none⟩,
  ⟨some 25, .op (.faddr 0), [.t 24], none⟩,
  ⟨some 26, .op (.load none), [.t 25], none⟩,
  ⟨some 27, .op (.mov), [.t 8], none⟩,
  ⟨some 28, .op (.idxs), [.t 26, .t 27], none⟩,
  ⟨some 9, .op (.mov), [.t 28], none⟩]
abbrev r127_7 : List IOp := [⟨some 30, .op (.mov), [.t 9], none⟩,
  ⟨some 31, .op (.bin .eql .prim), [.t 30, .c (.int .u8 42)], none⟩,
  ⟨some 29, .op (.mov), [.t 31], none⟩]
abbrev r127_8 : List IOp := [⟨some 32, .op (.load none), [.t 3], none⟩,
  ⟨some 33, .op (.load none), [.t 7], none⟩,
  ⟨some 34, .op (.mov), [.t 8], none⟩,
  ⟨some 35, .call none, [.f 138, .t 32, .t 33, .t 34], none⟩]
abbrev r127_9 : List IOp := [⟨some 37, .op (.mov), [.t 9], none⟩,
  ⟨some 38, .op (.bin .eql .prim), [.t 37, .c (.int .u8 63)], none⟩,
  ⟨some 36, .op (.mov), [.t 38], none⟩]
abbrev r127_10 : List IOp := [⟨some 39, .op (.mov), [.t 9], none⟩,
  ⟨some 40, .op (.load none), [.t 5], none⟩,
  ⟨some 41, .op (.bin .eql .prim), [.t 39, .t 40], none⟩,
  ⟨some 36, .op (.mov), [.t 41], none⟩]
abbrev r127_11 : List IOp := [⟨some 42, .op (.load none), [.t 3], none⟩,
  ⟨some 43, .op (.nilchk), [.t 42], none⟩,
  ⟨some 44, .op (.faddr 1), [.t 43], none⟩,
  ⟨some 45, .op (.load none), [.t 44], none⟩,
  ⟨some 46, .op (.mov), [.t 45], none⟩,
  ⟨some 47, .op (.mov), [.t 9], some (46, true)⟩,
  ⟨some 48, .op (.bsl 5 1 true), [.t 47], some (46, true)⟩,
  ⟨some 49, .op (.b2s), [.t 48], some (46, true)⟩,
  ⟨some 50, .call none, [.f 121, .t 49], some (46, true)⟩,
  ⟨some 51, .op (.load none), [.t 5], some (46, true)⟩,
  ⟨some 52, .op (.bsl 5 1 true), [.t 51], some (46, true)⟩,
  ⟨some 53, .op (.b2s), [.t 52], some (46, true)⟩,
  ⟨some 54, .call none, [.f 121, .t 53], some (46, true)⟩,
  ⟨some 55, .op (.bin .eql .prim), [.t 50, .t 54], some (46, true)⟩,
  ⟨some 56, .op (.pick), [.t 46, .t 55, .c (.bool false)], none⟩,
  ⟨some 36, .op (.mov), [.t 56], none⟩]
abbrev r127_12 : List IOp := [⟨some 57, .op (.load none), [.t 3], none⟩,
  ⟨some 58, .op (.load none), [.t 7], none⟩,
  ⟨some 59, .op (.mov), [.t 8], none⟩,
  ⟨some 60, .op (.bin .add .prim), [.t 59, .c (.int .i64 1)], none⟩,
  ⟨some 61, .call none, [.f 138, .t 57, .t 58, .t 60], none⟩]
abbrev c127 : IC := (IC.seq (IC.reg r127_0) (IC.seq (IC.reg r127_1) (IC.seq (IC.seq (IC.reg r127_2) (IC.block 0 (IC.rangeF 127000 63 (.t 14)))) (IC.seq (IC.reg r127_3) IC.ret))))
abbrev g127 : FC := ⟨c127, 63, [.t 6]⟩
theorem comp127 : compF Go.Proofs.Try.prog (hintL [(10, 3), (1000003, 127000), (2000003, 63)]) 127 = some g127 := by kernel_rfl
abbrev li127000 : LI := ⟨63, [15], (IC.reg r127_4), (IC.block 1 (IC.seq (IC.seq (IC.reg r127_5) (IC.cond (.t 22) (IC.exit 0) IC.skip)) (IC.seq (IC.reg r127_6) (IC.block 2 (IC.seq (IC.reg r127_7) (IC.cond (.t 29) (IC.reg r127_8) (IC.seq (IC.seq (IC.reg r127_9) (IC.cond (.t 36) IC.skip (IC.seq (IC.reg r127_10) (IC.cond (.t 36) IC.skip (IC.regD .alloc r127_11 (.take 0 (.take 1 (.take 2 (.take 3 (.take 4 (.take 5 (.take 6 (.take 7 (.take 9 (.take 10 (.take 11 (.take 8 (.take 12 (.take 13 (.take 14 (.take 15 (.done)))))))))))))))))))))) (IC.cond (.t 36) (IC.reg r127_12) IC.skip))))))))⟩
theorem keys127 : KeysF Go.Proofs.Try.prog (hintL [(10, 3), (1000003, 127000), (2000003, 63)]) 127 := keysF_of (by kernel_rfl)
theorem lok127000 : LOk Go.Proofs.Try.prog 127000 li127000 := ⟨hintL [(10, 3), (1000003, 127000), (2000003, 63)], by kernel_rfl, by kernel_rfl, by kernel_rfl, by kernel_rfl, by decide⟩

-- outlaw/glob.fold
abbrev r103_0 : List IOp := [⟨some 2, .op (.mov), [.c (.int .u8 0)], none⟩]
abbrev r103_1 : List IOp := [⟨some 3, .op (.mov), [.t 0], none⟩,
  ⟨some 4, .op (.bin .geq .prim), [.t 3, .c (.int .u8 65)], none⟩,
  ⟨some 5, .op (.mov), [.t 4], none⟩,
  ⟨some 6, .op (.mov), [.t 0], some (5, true)⟩,
  ⟨some 7, .op (.bin .leq .prim), [.t 6, .c (.int .u8 90)], some (5, true)⟩,
  ⟨some 8, .op (.pick), [.t 5, .t 7, .c (.bool false)], none⟩]
abbrev r103_2 : List IOp := [⟨some 9, .op (.mov), [.t 0], none⟩,
  ⟨some 10, .op (.bin .add .prim), [.t 9, .c (.int .u8 32)], none⟩,
  ⟨some 2, .op (.mov), [.t 10], none⟩]
abbrev r103_3 : List IOp := [⟨some 11, .op (.mov), [.t 0], none⟩,
  ⟨some 2, .op (.mov), [.t 11], none⟩]
abbrev c103 : IC := (IC.seq (IC.reg r103_0) (IC.seq (IC.seq (IC.reg r103_1) (IC.cond (.t 8) (IC.seq (IC.reg r103_2) IC.ret) IC.skip)) (IC.seq (IC.reg r103_3) IC.ret)))
abbrev g103 : FC := ⟨c103, 12, [.t 2]⟩
theorem comp103 : compF Go.Proofs.Try.prog (fun _ => 0) 103 = some g103 := by kernel_rfl

-- (*outlaw/nfa.Nfa).Run
abbrev r192_0 : List IOp := [⟨some 4, .op (.mov), [.c (.bool false)], none⟩]
abbrev r192_1 : List IOp := [⟨some 8, .op (.mov), [.t 0], none⟩,
  ⟨some 9, .op (.mkbound 127), [.t 8], none⟩,
  ⟨some 5, .op (.mov), [.t 9], none⟩]
abbrev r192_2 : List IOp := [⟨some 10, .op (.mov), [.t 0], none⟩,
  ⟨some 11, .call none, [.f 125, .t 10], none⟩,
  ⟨some 6, .op (.mov), [.t 11], none⟩]
abbrev r192_3 : List IOp := [⟨some 12, .op (.mov), [.t 1], none⟩,
  ⟨some 13, .op (.len .str), [.t 12], none⟩,
  ⟨some 14, .op (.mov), [.c (.int .i64 0)], none⟩]
abbrev r192_4 : List IOp := [⟨some 15, .op (.bin .lss .prim), [.t 14, .t 13], none⟩]
abbrev r192_5 : List IOp := [⟨some 16, .op (.mov), [.t 14], none⟩,
  ⟨some 7, .op (.mov), [.t 16], none⟩]
abbrev r192_6 : List IOp := [⟨some 17, .op (.mov), [.t 5], none⟩,
  ⟨some 18, .op (.mov), [.t 6], none⟩,
  ⟨some 19, .op (.mov), [.t 1], none⟩,
  ⟨some 20, .op (.mov), [.t 7], none⟩,
  ⟨some 21, .op (.idxs), [.t 19, .t 20], none⟩,
  ⟨some 22, .call none, [.t 17, .t 18, .t 21], none⟩,
  ⟨some 6, .op (.mov), [.t 22], none⟩]
abbrev r192_7 : List IOp := [⟨some 23, .op (.bin .add .prim), [.t 14, .c (.int .i64 1)], none⟩,
  ⟨some 14, .op (.mov), [.t 23], none⟩]
abbrev b192_0 : IC := (IC.seq (IC.reg r192_4) (IC.seq (IC.cond (.t 15) IC.skip (IC.exit 0)) (IC.seq (IC.block 1 (IC.seq (IC.reg r192_5) (IC.reg r192_6))) (IC.reg r192_7))))
abbrev r192_8 : List IOp := [⟨some 24, .op (.mov), [.t 6], none⟩,
  ⟨some 25, .op (.len .slice), [.t 24], none⟩,
  ⟨some 26, .op (.bin .gtr .prim), [.t 25, .c (.int .i64 0)], none⟩,
  ⟨some 27, .op (.mov), [.t 26], none⟩,
  ⟨some 28, .op (.mov), [.t 6], some (27, true)⟩,
  ⟨some 29, .op (.mov), [.t 6], some (27, true)⟩,
  ⟨some 30, .op (.len .slice), [.t 29], some (27, true)⟩,
  ⟨some 31, .op (.bin .sub .prim), [.t 30, .c (.int .i64 1)], some (27, true)⟩,
  ⟨some 32, .op (.iaddr 1), [.t 28, .t 31], some (27, true)⟩,
  ⟨some 33, .op (.load none), [.t 32], some (27, true)⟩,
  ⟨some 34, .op (.pick), [.t 27, .t 33, .c (.bool false)], none⟩,
  ⟨some 4, .op (.mov), [.t 34], none⟩]
abbrev c192 : IC := (IC.seq (IC.reg r192_0) (IC.seq (IC.reg r192_1) (IC.seq (IC.reg r192_2) (IC.seq (IC.seq (IC.reg r192_3) (IC.block 0 (IC.loop b192_0))) (IC.seq (IC.reg r192_8) IC.ret)))))
abbrev g192 : FC := ⟨c192, 35, [.t 4]⟩
theorem comp192 : compF Go.Proofs.Try.prog (fun _ => 0) 192 = some g192 := by kernel_rfl

-- bytes.Count
abbrev r131_0 : List IOp := [⟨some 4, .op (.mov), [.c (.int .i64 0)], none⟩]
abbrev r131_1 : List IOp := [⟨some 7, .op (.mov), [.t 1], none⟩,
  ⟨some 8, .op (.len .slice), [.t 7], none⟩,
  ⟨some 9, .op (.bin .eql .prim), [.t 8, .c (.int .i64 0)], none⟩]
abbrev r131_2 : List IOp := [⟨some 10, .op (.mov), [.t 0], none⟩,
  ⟨some 11, .call none, [.f 140, .t 10], none⟩,
  ⟨some 12, .op (.bin .add .prim), [.t 11, .c (.int .i64 1)], none⟩,
  ⟨some 4, .op (.mov), [.t 12], none⟩]
abbrev r131_3 : List IOp := [⟨some 13, .op (.mov), [.t 1], none⟩,
  ⟨some 14, .op (.len .slice), [.t 13], none⟩,
  ⟨some 15, .op (.bin .eql .prim), [.t 14, .c (.int .i64 1)], none⟩]
abbrev r131_4 : List IOp := [⟨some 16, .op (.mov), [.t 0], none⟩,
  ⟨some 17, .op (.mov), [.t 1], none⟩,
  ⟨some 18, .op (.iaddr 1), [.t 17, .c (.int .i64 0)], none⟩,
  ⟨some 19, .op (.load none), [.t 18], none⟩,
  ⟨some 20, .call none, [.f 141, .t 16, .t 19], none⟩,
  ⟨some 4, .op (.mov), [.t 20], none⟩]
abbrev r131_5 : List IOp := [⟨some 5, .op (.mov), [.c (.int .i64 0)], none⟩]
abbrev r131_6 : List IOp := [⟨some 21, .op (.mov), [.t 0], none⟩,
  ⟨some 22, .op (.mov), [.t 1], none⟩,
  ⟨some 23, .call none, [.f 142, .t 21, .t 22], none⟩,
  ⟨some 6, .op (.mov), [.t 23], none⟩]
abbrev r131_7 : List IOp := [⟨some 24, .op (.mov), [.t 6], none⟩,
  ⟨some 25, .op (.bin .eql .prim), [.t 24, .c (.int .i64 (-1))], none⟩]
abbrev r131_8 : List IOp := [⟨some 26, .op (.mov), [.t 5], none⟩,
  ⟨some 4, .op (.mov), [.t 26], none⟩]
abbrev r131_9 : List IOp := [⟨some 27, .op (.mov), [.t 5], none⟩,
  ⟨some 28, .op (.bin .add .prim), [.t 27, .c (.int .i64 1)], none⟩,
  ⟨some 5, .op (.mov), [.t 28], none⟩]
abbrev r131_10 : List IOp := [⟨some 29, .op (.mov), [.t 0], none⟩,
  ⟨some 30, .op (.mov), [.t 6], none⟩,
  ⟨some 31, .op (.mov), [.t 1], none⟩,
  ⟨some 32, .op (.len .slice), [.t 31], none⟩,
  ⟨some 33, .op (.bin .add .prim), [.t 30, .t 32], none⟩,
  ⟨some 34, .op (.slice 1 true false false), [.t 29, .t 33], none⟩,
  ⟨some 0, .op (.mov), [.t 34], none⟩]
abbrev b131_0 : IC := (IC.block 1 (IC.seq (IC.reg r131_6) (IC.seq (IC.seq (IC.reg r131_7) (IC.cond (.t 25) (IC.seq (IC.reg r131_8) IC.ret) IC.skip)) (IC.seq (IC.reg r131_9) (IC.reg r131_10)))))
abbrev c131 : IC := (IC.seq (IC.reg r131_0) (IC.seq (IC.seq (IC.reg r131_1) (IC.cond (.t 9) (IC.seq (IC.reg r131_2) IC.ret) IC.skip)) (IC.seq (IC.seq (IC.reg r131_3) (IC.cond (.t 15) (IC.seq (IC.reg r131_4) IC.ret) IC.skip)) (IC.seq (IC.reg r131_5) (IC.block 0 (IC.loop b131_0))))))
abbrev g131 : FC := ⟨c131, 35, [.t 4]⟩
theorem comp131 : compF Go.Proofs.Try.prog (fun _ => 0) 131 = some g131 := by kernel_rfl

-- bytes.Repeat
abbrev r132_0 : List IOp := [⟨some 4, .op (.mov), [.c (.nils)], none⟩]
abbrev r132_1 : List IOp := [⟨some 12, .op (.mov), [.t 1], none⟩,
  ⟨some 13, .op (.bin .eql .prim), [.t 12, .c (.int .i64 0)], none⟩]
abbrev r132_2 : List IOp := [⟨some 14, .op (.bsl 5 1 false), [], none⟩,
  ⟨some 4, .op (.mov), [.t 14], none⟩]
abbrev r132_3 : List IOp := [⟨some 15, .op (.mov), [.t 1], none⟩,
  ⟨some 16, .op (.bin .lss .prim), [.t 15, .c (.int .i64 0)], none⟩]
abbrev r132_4 : List IOp := [⟨some 17, .op (.mkif 9), [.c (.str [98, 121, 116, 101, 115, 58, 32, 110, 101, 103, 97, 116, 105, 118, 101, 32, 82, 101, 112, 101, 97, 116, 32, 99, 111, 117, 110, 116])], none⟩,
  ⟨none, .op (.never), [], none⟩]
abbrev r132_5 : List IOp := [⟨some 19, .op (.mov), [.t 0], none⟩,
  ⟨some 20, .op (.len .slice), [.t 19], none⟩,
  ⟨some 21, .op (.toInt .u64), [.t 20], none⟩,
  ⟨some 22, .op (.mov), [.t 1], none⟩,
  ⟨some 23, .op (.toInt .u64), [.t 22], none⟩,
  ⟨some 24, .call none, [.f 143, .t 21, .t 23], none⟩,
  ⟨some 18, .op (.mov), [.t 24], none⟩,
  ⟨some 25, .op (.extract 0), [.t 18], none⟩,
  ⟨some 26, .op (.extract 1), [.t 18], none⟩,
  ⟨some 5, .op (.mov), [.t 25], none⟩,
  ⟨some 6, .op (.mov), [.t 26], none⟩]
abbrev r132_6 : List IOp := [⟨some 27, .op (.mov), [.t 5], none⟩,
  ⟨some 28, .op (.bin .gtr .prim), [.t 27, .c (.int .u64 0)], none⟩,
  ⟨some 29, .op (.mov), [.t 28], none⟩,
  ⟨some 30, .op (.mov), [.t 6], some (29, false)⟩,
  ⟨some 31, .op (.bin .gtr .prim), [.t 30, .c (.int .u64 9223372036854775807)], some (29, false)⟩,
  ⟨some 32, .op (.pick), [.t 29, .c (.bool true), .t 31], none⟩]
abbrev r132_7 : List IOp := [⟨some 33, .op (.mkif 9), [.c (.str [98, 121, 116, 101, 115, 58, 32, 82, 101, 112, 101, 97, 116, 32, 111, 117, 116, 112, 117, 116, 32, 108, 101, 110, 103, 116, 104, 32, 111, 118, 101, 114, 102, 108, 111, 119])], none⟩,
  ⟨none, .op (.never), [], none⟩]
abbrev r132_8 : List IOp := [⟨some 34, .op (.mov), [.t 6], none⟩,
  ⟨some 35, .op (.toInt .i64), [.t 34], none⟩,
  ⟨some 7, .op (.mov), [.t 35], none⟩]
abbrev r132_9 : List IOp := [⟨some 36, .op (.mov), [.t 0], none⟩,
  ⟨some 37, .op (.len .slice), [.t 36], none⟩,
  ⟨some 38, .op (.bin .eql .prim), [.t 37, .c (.int .i64 0)], none⟩]
abbrev r132_10 : List IOp := [⟨some 39, .op (.bsl 5 1 false), [], none⟩,
  ⟨some 4, .op (.mov), [.t 39], none⟩]
abbrev r132_11 : List IOp := [⟨some 40, .op (.mov), [.t 7], none⟩,
  ⟨some 8, .op (.mov), [.t 40], none⟩]
abbrev r132_12 : List IOp := [⟨some 41, .op (.mov), [.t 8], none⟩,
  ⟨some 42, .op (.bin .gtr .prim), [.t 41, .c (.int .i64 8192)], none⟩]
abbrev r132_13 : List IOp := [⟨some 43, .op (.mov), [.t 0], none⟩,
  ⟨some 44, .op (.len .slice), [.t 43], none⟩,
  ⟨some 45, .op (.bin .quo .prim), [.c (.int .i64 8192), .t 44], none⟩,
  ⟨some 46, .op (.mov), [.t 0], none⟩,
  ⟨some 47, .op (.len .slice), [.t 46], none⟩,
  ⟨some 48, .op (.bin .mul .prim), [.t 45, .t 47], none⟩,
  ⟨some 8, .op (.mov), [.t 48], none⟩]
abbrev r132_14 : List IOp := [⟨some 49, .op (.mov), [.t 8], none⟩,
  ⟨some 50, .op (.bin .eql .prim), [.t 49, .c (.int .i64 0)], none⟩]
abbrev r132_15 : List IOp := [⟨some 51, .op (.mov), [.t 0], none⟩,
  ⟨some 52, .op (.len .slice), [.t 51], none⟩,
  ⟨some 8, .op (.mov), [.t 52], none⟩]
abbrev r132_16 : List IOp := [⟨some 53, .op (.mov), [.t 7], none⟩,
  ⟨some 54, .call none, [.f 144, .t 53], none⟩,
  ⟨some 55, .op (.mov), [.t 7], none⟩,
  ⟨some 56, .op (.mov), [.t 7], none⟩,
  ⟨some 57, .op (.slice 1 false true true), [.t 54, .t 55, .t 56], none⟩,
  ⟨some 9, .op (.mov), [.t 57], none⟩]
abbrev r132_17 : List IOp := [⟨some 58, .op (.mov), [.t 9], none⟩,
  ⟨some 59, .op (.mov), [.t 0], none⟩,
  ⟨some 60, .op (.cpy 1), [.t 58, .t 59], none⟩,
  ⟨some 10, .op (.mov), [.t 60], none⟩]
abbrev r132_18 : List IOp := [⟨some 61, .op (.mov), [.t 10], none⟩,
  ⟨some 62, .op (.mov), [.t 7], none⟩,
  ⟨some 63, .op (.bin .lss .prim), [.t 61, .t 62], none⟩]
abbrev r132_19 : List IOp := [⟨some 64, .op (.mov), [.t 10], none⟩,
  ⟨some 65, .op (.mov), [.t 8], none⟩,
  ⟨some 66, .op (.min), [.t 64, .t 65], none⟩,
  ⟨some 11, .op (.mov), [.t 66], none⟩]
abbrev r132_20 : List IOp := [⟨some 67, .op (.mov), [.t 10], none⟩,
  ⟨some 68, .op (.mov), [.t 9], none⟩,
  ⟨some 69, .op (.mov), [.t 10], none⟩,
  ⟨some 70, .op (.slice 1 true false false), [.t 68, .t 69], none⟩,
  ⟨some 71, .op (.mov), [.t 9], none⟩,
  ⟨some 72, .op (.mov), [.t 11], none⟩,
  ⟨some 73, .op (.slice 1 false true false), [.t 71, .t 72], none⟩,
  ⟨some 74, .op (.cpy 1), [.t 70, .t 73], none⟩,
  ⟨some 75, .op (.bin .add .prim), [.t 67, .t 74], none⟩,
  ⟨some 10, .op (.mov), [.t 75], none⟩]
abbrev b132_0 : IC := (IC.seq (IC.seq (IC.reg r132_18) (IC.cond (.t 63) IC.skip (IC.exit 0))) (IC.block 1 (IC.seq (IC.reg r132_19) (IC.regD .wild r132_20 (.take 0 (.take 1 (.take 2 (.take 3 (.take 4 (.take 5 (.take 6 (.take 7 (.take 8 (.take 9 (.done)))))))))))))))
abbrev r132_21 : List IOp := [⟨some 76, .op (.mov), [.t 9], none⟩,
  ⟨some 4, .op (.mov), [.t 76], none⟩]
abbrev c132 : IC := (IC.seq (IC.reg r132_0) (IC.seq (IC.seq (IC.reg r132_1) (IC.cond (.t 13) (IC.seq (IC.reg r132_2) IC.ret) IC.skip)) (IC.seq (IC.seq (IC.reg r132_3) (IC.cond (.t 16) (IC.reg r132_4) IC.skip)) (IC.seq (IC.reg r132_5) (IC.seq (IC.seq (IC.reg r132_6) (IC.cond (.t 32) (IC.reg r132_7) IC.skip)) (IC.seq (IC.reg r132_8) (IC.seq (IC.seq (IC.reg r132_9) (IC.cond (.t 38) (IC.seq (IC.reg r132_10) IC.ret) IC.skip)) (IC.seq (IC.reg r132_11) (IC.seq (IC.seq (IC.reg r132_12) (IC.cond (.t 42) (IC.seq (IC.reg r132_13) (IC.seq (IC.reg r132_14) (IC.cond (.t 50) (IC.reg r132_15) IC.skip))) IC.skip)) (IC.seq (IC.reg r132_16) (IC.seq (IC.reg r132_17) (IC.seq (IC.block 0 (IC.loop b132_0)) (IC.seq (IC.reg r132_21) IC.ret)))))))))))))
abbrev g132 : FC := ⟨c132, 77, [.t 4]⟩
theorem comp132 : compF Go.Proofs.Try.prog (hintL [(20, 6)]) 132 = some g132 := by kernel_rfl

-- outlaw/glob.Fold
abbrev r121_0 : List IOp := [⟨some 2, .op (.mov), [.c (.str [])], none⟩]
abbrev r121_1 : List IOp := [⟨some 5, .op (.mov), [.t 0], none⟩,
  ⟨some 6, .op (.s2b 5), [.t 5], none⟩,
  ⟨some 3, .op (.mov), [.t 6], none⟩]
abbrev r121_2 : List IOp := [⟨some 7, .op (.mov), [.t 3], none⟩,
  ⟨some 8, .op (.len .slice), [.t 7], none⟩,
  ⟨some 9, .op (.mov), [.c (.int .i64 0)], none⟩]
abbrev r121_3 : List IOp := [⟨some 10, .op (.bin .lss .prim), [.t 9, .t 8], none⟩]
abbrev r121_4 : List IOp := [⟨some 11, .op (.mov), [.t 9], none⟩,
  ⟨some 4, .op (.mov), [.t 11], none⟩]
abbrev r121_5 : List IOp := [⟨some 12, .op (.mov), [.t 3], none⟩,
  ⟨some 13, .op (.mov), [.t 4], none⟩,
  ⟨some 14, .op (.mov), [.t 3], none⟩,
  ⟨some 15, .op (.mov), [.t 4], none⟩,
  ⟨some 16, .op (.iaddr 1), [.t 14, .t 15], none⟩,
  ⟨some 17, .op (.load none), [.t 16], none⟩,
  ⟨some 18, .call none, [.f 103, .t 17], none⟩,
  ⟨some 19, .op (.iaddr 1), [.t 12, .t 13], none⟩,
  ⟨none, .op (.store 1), [.t 19, .t 18], none⟩]
abbrev r121_6 : List IOp := [⟨some 20, .op (.bin .add .prim), [.t 9, .c (.int .i64 1)], none⟩,
  ⟨some 9, .op (.mov), [.t 20], none⟩]
abbrev b121_0 : IC := (IC.seq (IC.reg r121_3) (IC.seq (IC.cond (.t 10) IC.skip (IC.exit 0)) (IC.seq (IC.block 1 (IC.seq (IC.reg r121_4) (IC.reg r121_5))) (IC.reg r121_6))))
abbrev r121_7 : List IOp := [⟨some 21, .op (.mov), [.t 3], none⟩,
  ⟨some 22, .op (.b2s), [.t 21], none⟩,
  ⟨some 2, .op (.mov), [.t 22], none⟩]
abbrev c121 : IC := (IC.seq (IC.reg r121_0) (IC.seq (IC.reg r121_1) (IC.seq (IC.seq (IC.reg r121_2) (IC.block 0 (IC.loop b121_0))) (IC.seq (IC.reg r121_7) IC.ret))))
abbrev g121 : FC := ⟨c121, 23, [.t 2]⟩
theorem comp121 : compF Go.Proofs.Try.prog (fun _ => 0) 121 = some g121 := by kernel_rfl

-- math/bits.Len
abbrev r134_0 : List IOp := [⟨some 2, .op (.mov), [.c (.int .i64 0)], none⟩]
abbrev r134_1 : List IOp := [⟨some 3, .op (.mov), [.t 0], none⟩,
  ⟨some 4, .op (.toInt .u32), [.t 3], none⟩,
  ⟨some 5, .call none, [.f 153, .t 4], none⟩,
  ⟨some 2, .op (.mov), [.t 5], none⟩]
abbrev r134_2 : List IOp := [⟨some 6, .op (.mov), [.t 0], none⟩,
  ⟨some 7, .call none, [.f 154, .t 6], none⟩,
  ⟨some 2, .op (.mov), [.t 7], none⟩]
abbrev c134 : IC := (IC.seq (IC.reg r134_0) (IC.seq (IC.cond (.c (.bool false)) (IC.seq (IC.reg r134_1) IC.ret) IC.skip) (IC.seq (IC.reg r134_2) IC.ret)))
abbrev g134 : FC := ⟨c134, 8, [.t 2]⟩
theorem comp134 : compF Go.Proofs.Try.prog (fun _ => 0) 134 = some g134 := by kernel_rfl

-- slices.pdqsortOrdered[byte]
abbrev r133_0 : List IOp := [⟨some 8, .op (.mov), [.c (.bool true)], none⟩]
abbrev r133_1 : List IOp := [⟨some 9, .op (.mov), [.c (.bool true)], none⟩]
abbrev r133_2 : List IOp := [⟨some 19, .op (.mov), [.t 2], none⟩,
  ⟨some 20, .op (.mov), [.t 1], none⟩,
  ⟨some 21, .op (.bin .sub .prim), [.t 19, .t 20], none⟩,
  ⟨some 10, .op (.mov), [.t 21], none⟩]
abbrev r133_3 : List IOp := [⟨some 22, .op (.mov), [.t 10], none⟩,
  ⟨some 23, .op (.bin .leq .prim), [.t 22, .c (.int .i64 12)], none⟩]
abbrev r133_4 : List IOp := [⟨some 24, .op (.mov), [.t 0], none⟩,
  ⟨some 25, .op (.mov), [.t 1], none⟩,
  ⟨some 26, .op (.mov), [.t 2], none⟩,
  ⟨some 27, .call none, [.f 145, .t 24, .t 25, .t 26], none⟩]
abbrev r133_5 : List IOp := [⟨some 28, .op (.mov), [.t 3], none⟩,
  ⟨some 29, .op (.bin .eql .prim), [.t 28, .c (.int .i64 0)], none⟩]
abbrev r133_6 : List IOp := [⟨some 30, .op (.mov), [.t 0], none⟩,
  ⟨some 31, .op (.mov), [.t 1], none⟩,
  ⟨some 32, .op (.mov), [.t 2], none⟩,
  ⟨some 33, .call none, [.f 146, .t 30, .t 31, .t 32], none⟩]
abbrev r133_7 : List IOp := [⟨some 34, .op (.mov), [.t 8], none⟩,
  ⟨some 35, .op (.un .not), [.t 34], none⟩]
abbrev r133_8 : List IOp := [⟨some 36, .op (.mov), [.t 0], none⟩,
  ⟨some 37, .op (.mov), [.t 1], none⟩,
  ⟨some 38, .op (.mov), [.t 2], none⟩,
  ⟨some 39, .call none, [.f 147, .t 36, .t 37, .t 38], none⟩]
abbrev r133_9 : List IOp := [⟨some 40, .op (.mov), [.t 3], none⟩,
  ⟨some 41, .op (.bin .sub .prim), [.t 40, .c (.int .i64 1)], none⟩,
  ⟨some 3, .op (.mov), [.t 41], none⟩]
abbrev r133_10 : List IOp := [⟨some 43, .op (.mov), [.t 0], none⟩,
  ⟨some 44, .op (.mov), [.t 1], none⟩,
  ⟨some 45, .op (.mov), [.t 2], none⟩,
  ⟨some 46, .call none, [.f 148, .t 43, .t 44, .t 45], none⟩,
  ⟨some 42, .op (.mov), [.t 46], none⟩,
  ⟨some 47, .op (.extract 0), [.t 42], none⟩,
  ⟨some 48, .op (.extract 1), [.t 42], none⟩,
  ⟨some 11, .op (.mov), [.t 47], none⟩,
  ⟨some 12, .op (.mov), [.t 48], none⟩]
abbrev r133_11 : List IOp := [⟨some 49, .op (.mov), [.t 12], none⟩,
  ⟨some 50, .op (.bin .eql .prim), [.t 49, .c (.int .i64 2)], none⟩]
abbrev r133_12 : List IOp := [⟨some 51, .op (.mov), [.t 0], none⟩,
  ⟨some 52, .op (.mov), [.t 1], none⟩,
  ⟨some 53, .op (.mov), [.t 2], none⟩,
  ⟨some 54, .call none, [.f 149, .t 51, .t 52, .t 53], none⟩]
abbrev r133_13 : List IOp := [⟨some 55, .op (.mov), [.t 2], none⟩,
  ⟨some 56, .op (.bin .sub .prim), [.t 55, .c (.int .i64 1)], none⟩,
  ⟨some 57, .op (.mov), [.t 11], none⟩,
  ⟨some 58, .op (.mov), [.t 1], none⟩,
  ⟨some 59, .op (.bin .sub .prim), [.t 57, .t 58], none⟩,
  ⟨some 60, .op (.bin .sub .prim), [.t 56, .t 59], none⟩,
  ⟨some 11, .op (.mov), [.t 60], none⟩]
abbrev r133_14 : List IOp := [⟨some 12, .op (.mov), [.c (.int .i64 1)], none⟩]
abbrev r133_15 : List IOp := [⟨some 61, .op (.mov), [.t 8], none⟩,
  ⟨some 62, .op (.mov), [.t 61], none⟩,
  ⟨some 63, .op (.mov), [.t 9], some (62, true)⟩,
  ⟨some 64, .op (.pick), [.t 62, .t 63, .c (.bool false)], none⟩,
  ⟨some 65, .op (.mov), [.t 64], none⟩,
  ⟨some 66, .op (.mov), [.t 12], some (65, true)⟩,
  ⟨some 67, .op (.bin .eql .prim), [.t 66, .c (.int .i64 1)], some (65, true)⟩,
  ⟨some 68, .op (.pick), [.t 65, .t 67, .c (.bool false)], none⟩]
abbrev r133_16 : List IOp := [⟨some 69, .op (.mov), [.t 0], none⟩,
  ⟨some 70, .op (.mov), [.t 1], none⟩,
  ⟨some 71, .op (.mov), [.t 2], none⟩,
  ⟨some 72, .call none, [.f 150, .t 69, .t 70, .t 71], none⟩]
abbrev r133_17 : List IOp := [⟨some 73, .op (.mov), [.t 1], none⟩,
  ⟨some 74, .op (.bin .gtr .prim), [.t 73, .c (.int .i64 0)], none⟩,
  ⟨some 75, .op (.mov), [.t 74], none⟩,
  ⟨some 76, .op (.mov), [.t 0], some (75, true)⟩,
  ⟨some 77, .op (.mov), [.t 1], some (75, true)⟩,
  ⟨some 78, .op (.bin .sub .prim), [.t 77, .c (.int .i64 1)], some (75, true)⟩,
  ⟨some 79, .op (.iaddr 1), [.t 76, .t 78], some (75, true)⟩,
  ⟨some 80, .op (.load none), [.t 79], some (75, true)⟩,
  ⟨some 81, .op (.mov), [.t 0], some (75, true)⟩,
  ⟨some 82, .op (.mov), [.t 11], some (75, true)⟩,
  ⟨some 83, .op (.iaddr 1), [.t 81, .t 82], some (75, true)⟩,
  ⟨some 84, .op (.load none), [.t 83], some (75, true)⟩,
  ⟨some 85, .call none, [.f 135, .t 80, .t 84], some (75, true)⟩,
  ⟨some 86, .op (.un .not), [.t 85], some (75, true)⟩,
  ⟨some 87, .op (.pick), [.t 75, .t 86, .c (.bool false)], none⟩]
abbrev r133_18 : List IOp := [⟨some 88, .op (.mov), [.t 0], none⟩,
  ⟨some 89, .op (.mov), [.t 1], none⟩,
  ⟨some 90, .op (.mov), [.t 2], none⟩,
  ⟨some 91, .op (.mov), [.t 11], none⟩,
  ⟨some 92, .call none, [.f 151, .t 88, .t 89, .t 90, .t 91], none⟩,
  ⟨some 13, .op (.mov), [.t 92], none⟩]
abbrev r133_19 : List IOp := [⟨some 93, .op (.mov), [.t 13], none⟩,
  ⟨some 1, .op (.mov), [.t 93], none⟩]
abbrev r133_20 : List IOp := [⟨some 95, .op (.mov), [.t 0], none⟩,
  ⟨some 96, .op (.mov), [.t 1], none⟩,
  ⟨some 97, .op (.mov), [.t 2], none⟩,
  ⟨some 98, .op (.mov), [.t 11], none⟩,
  ⟨some 99, .call none, [.f 152, .t 95, .t 96, .t 97, .t 98], none⟩,
  ⟨some 94, .op (.mov), [.t 99], none⟩,
  ⟨some 100, .op (.extract 0), [.t 94], none⟩,
  ⟨some 101, .op (.extract 1), [.t 94], none⟩,
  ⟨some 14, .op (.mov), [.t 100], none⟩,
  ⟨some 15, .op (.mov), [.t 101], none⟩]
abbrev r133_21 : List IOp := [⟨some 102, .op (.mov), [.t 15], none⟩,
  ⟨some 9, .op (.mov), [.t 102], none⟩]
abbrev r133_22 : List IOp := [⟨some 103, .op (.mov), [.t 14], none⟩,
  ⟨some 104, .op (.mov), [.t 1], none⟩,
  ⟨some 105, .op (.bin .sub .prim), [.t 103, .t 104], none⟩,
  ⟨some 106, .op (.mov), [.t 2], none⟩,
  ⟨some 107, .op (.mov), [.t 14], none⟩,
  ⟨some 108, .op (.bin .sub .prim), [.t 106, .t 107], none⟩,
  ⟨some 16, .op (.mov), [.t 105], none⟩,
  ⟨some 17, .op (.mov), [.t 108], none⟩]
abbrev r133_23 : List IOp := [⟨some 109, .op (.mov), [.t 10], none⟩,
  ⟨some 110, .op (.bin .quo .prim), [.t 109, .c (.int .i64 8)], none⟩,
  ⟨some 18, .op (.mov), [.t 110], none⟩]
abbrev r133_24 : List IOp := [⟨some 111, .op (.mov), [.t 16], none⟩,
  ⟨some 112, .op (.mov), [.t 17], none⟩,
  ⟨some 113, .op (.bin .lss .prim), [.t 111, .t 112], none⟩]
abbrev r133_25 : List IOp := [⟨some 114, .op (.mov), [.t 16], none⟩,
  ⟨some 115, .op (.mov), [.t 18], none⟩,
  ⟨some 116, .op (.bin .geq .prim), [.t 114, .t 115], none⟩,
  ⟨some 8, .op (.mov), [.t 116], none⟩]
abbrev r133_26 : List IOp := [⟨some 117, .op (.mov), [.t 0], none⟩,
  ⟨some 118, .op (.mov), [.t 1], none⟩,
  ⟨some 119, .op (.mov), [.t 14], none⟩,
  ⟨some 120, .op (.mov), [.t 3], none⟩,
  ⟨some 121, .call none, [.f 133, .t 117, .t 118, .t 119, .t 120], none⟩]
abbrev r133_27 : List IOp := [⟨some 122, .op (.mov), [.t 14], none⟩,
  ⟨some 123, .op (.bin .add .prim), [.t 122, .c (.int .i64 1)], none⟩,
  ⟨some 1, .op (.mov), [.t 123], none⟩]
abbrev r133_28 : List IOp := [⟨some 124, .op (.mov), [.t 17], none⟩,
  ⟨some 125, .op (.mov), [.t 18], none⟩,
  ⟨some 126, .op (.bin .geq .prim), [.t 124, .t 125], none⟩,
  ⟨some 8, .op (.mov), [.t 126], none⟩]
abbrev r133_29 : List IOp := [⟨some 127, .op (.mov), [.t 0], none⟩,
  ⟨some 128, .op (.mov), [.t 14], none⟩,
  ⟨some 129, .op (.bin .add .prim), [.t 128, .c (.int .i64 1)], none⟩,
  ⟨some 130, .op (.mov), [.t 2], none⟩,
  ⟨some 131, .op (.mov), [.t 3], none⟩,
  ⟨some 132, .call none, [.f 133, .t 127, .t 129, .t 130, .t 131], none⟩]
abbrev r133_30 : List IOp := [⟨some 133, .op (.mov), [.t 14], none⟩,
  ⟨some 2, .op (.mov), [.t 133], none⟩]
abbrev b133_0 : IC := (IC.block 1 (IC.seq (IC.reg r133_2) (IC.seq (IC.seq (IC.reg r133_3) (IC.cond (.t 23) (IC.seq (IC.reg r133_4) IC.ret) IC.skip)) (IC.seq (IC.seq (IC.reg r133_5) (IC.cond (.t 29) (IC.seq (IC.reg r133_6) IC.ret) IC.skip)) (IC.seq (IC.seq (IC.reg r133_7) (IC.cond (.t 35) (IC.seq (IC.reg r133_8) (IC.reg r133_9)) IC.skip)) (IC.seq (IC.reg r133_10) (IC.seq (IC.seq (IC.reg r133_11) (IC.cond (.t 50) (IC.seq (IC.reg r133_12) (IC.seq (IC.reg r133_13) (IC.reg r133_14))) IC.skip)) (IC.seq (IC.seq (IC.reg r133_15) (IC.cond (.t 68) (IC.seq (IC.reg r133_16) (IC.cond (.t 72) IC.ret IC.skip)) IC.skip)) (IC.seq (IC.seq (IC.regD .wild r133_17 (.take 0 (.take 1 (.take 2 (.take 3 (.take 4 (.take 5 (.take 6 (.take 7 (.take 8 (.take 9 (.take 10 (.take 11 (.take 12 (.take 13 (.take 14 (.done))))))))))))))))) (IC.cond (.t 87) (IC.seq (IC.reg r133_18) (IC.seq (IC.reg r133_19) (IC.exit 1))) IC.skip)) (IC.seq (IC.reg r133_20) (IC.seq (IC.reg r133_21) (IC.seq (IC.reg r133_22) (IC.seq (IC.reg r133_23) (IC.seq (IC.reg r133_24) (IC.cond (.t 113) (IC.seq (IC.reg r133_25) (IC.seq (IC.reg r133_26) (IC.reg r133_27))) (IC.seq (IC.reg r133_28) (IC.seq (IC.reg r133_29) (IC.reg r133_30))))))))))))))))))
abbrev c133 : IC := (IC.seq (IC.reg r133_0) (IC.seq (IC.reg r133_1) (IC.block 0 (IC.loop b133_0))))
abbrev g133 : FC := ⟨c133, 134, []⟩
theorem comp133 : compF Go.Proofs.Try.prog (hintL [(17, 6)]) 133 = some g133 := by kernel_rfl

-- cmp.Less[byte]
abbrev r135_0 : List IOp := [⟨some 4, .op (.mov), [.c (.bool false)], none⟩]
abbrev r135_1 : List IOp := [⟨some 5, .op (.mov), [.t 0], none⟩,
  ⟨some 6, .call none, [.f 155, .t 5], none⟩,
  ⟨some 7, .op (.mov), [.t 6], none⟩,
  ⟨some 8, .op (.mov), [.t 1], some (7, true)⟩,
  ⟨some 9, .call none, [.f 155, .t 8], some (7, true)⟩,
  ⟨some 10, .op (.un .not), [.t 9], some (7, true)⟩,
  ⟨some 11, .op (.pick), [.t 7, .t 10, .c (.bool false)], none⟩,
  ⟨some 12, .op (.mov), [.t 11], none⟩,
  ⟨some 13, .op (.mov), [.t 0], some (12, false)⟩,
  ⟨some 14, .op (.mov), [.t 1], some (12, false)⟩,
  ⟨some 15, .op (.bin .lss .prim), [.t 13, .t 14], some (12, false)⟩,
  ⟨some 16, .op (.pick), [.t 12, .c (.bool true), .t 15], none⟩,
  ⟨some 4, .op (.mov), [.t 16], none⟩]
abbrev c135 : IC := (IC.seq (IC.reg r135_0) (IC.seq (IC.reg r135_1) IC.ret))
abbrev g135 : FC := ⟨c135, 17, [.t 4]⟩
theorem comp135 : compF Go.Proofs.Try.prog (fun _ => 0) 135 = some g135 := by kernel_rfl

-- slices.isNaN[byte]
abbrev r136_0 : List IOp := [⟨some 2, .op (.mov), [.c (.bool false)], none⟩]
abbrev r136_1 : List IOp := [⟨some 3, .op (.mov), [.t 0], none⟩,
  ⟨some 4, .op (.mov), [.t 0], none⟩,
  ⟨some 5, .op (.bin .neq .prim), [.t 3, .t 4], none⟩,
  ⟨some 2, .op (.mov), [.t 5], none⟩]
abbrev c136 : IC := (IC.seq (IC.reg r136_0) (IC.seq (IC.reg r136_1) IC.ret))
abbrev g136 : FC := ⟨c136, 6, [.t 2]⟩
theorem comp136 : compF Go.Proofs.Try.prog (fun _ => 0) 136 = some g136 := by kernel_rfl

-- (*outlaw/nfa.Nfa).States
abbrev r137_0 : List IOp := [⟨some 2, .op (.mov), [.c (.int .i64 0)], none⟩]
abbrev r137_1 : List IOp := [⟨some 3, .op (.mov), [.t 0], none⟩,
  ⟨some 4, .op (.bin .eql .ptr), [.t 3, .c (.nilp)], none⟩,
  ⟨some 5, .op (.mov), [.t 4], none⟩,
  ⟨some 6, .op (.mov), [.t 0], some (5, false)⟩,
  ⟨some 7, .op (.nilchk), [.t 6], some (5, false)⟩,
  ⟨some 8, .op (.faddr 0), [.t 7], some (5, false)⟩,
  ⟨some 9, .op (.load none), [.t 8], some (5, false)⟩,
  ⟨some 10, .op (.bin .eql .prim), [.t 9, .c (.str [])], some (5, false)⟩,
  ⟨some 11, .op (.pick), [.t 5, .c (.bool true), .t 10], none⟩]
abbrev r137_2 : List IOp := [⟨some 2, .op (.mov), [.c (.int .i64 0)], none⟩]
abbrev r137_3 : List IOp := [⟨some 12, .op (.mov), [.t 0], none⟩,
  ⟨some 13, .op (.nilchk), [.t 12], none⟩,
  ⟨some 14, .op (.faddr 0), [.t 13], none⟩,
  ⟨some 15, .op (.load none), [.t 14], none⟩,
  ⟨some 16, .op (.len .str), [.t 15], none⟩,
  ⟨some 17, .op (.bin .add .prim), [.t 16, .c (.int .i64 1)], none⟩,
  ⟨some 2, .op (.mov), [.t 17], none⟩]
abbrev c137 : IC := (IC.seq (IC.reg r137_0) (IC.seq (IC.seq (IC.reg r137_1) (IC.cond (.t 11) (IC.seq (IC.reg r137_2) IC.ret) IC.skip)) (IC.seq (IC.reg r137_3) IC.ret)))
abbrev g137 : FC := ⟨c137, 18, [.t 2]⟩
theorem comp137 : compF Go.Proofs.Try.prog (fun _ => 0) 137 = some g137 := by kernel_rfl

-- (*outlaw/nfa.Nfa).come
abbrev r138_0 : List IOp := [⟨some 6, .op (.mov), [.t 1], none⟩,
  ⟨some 7, .op (.mov), [.t 2], none⟩,
  ⟨some 8, .op (.iaddr 1), [.t 6, .t 7], none⟩,
  ⟨none, .op (.store 1), [.t 8, .c (.bool true)], none⟩]
abbrev r138_1 : List IOp := [⟨some 9, .op (.mov), [.t 2], none⟩,
  ⟨some 10, .op (.mov), [.t 0], none⟩,
  ⟨some 11, .op (.nilchk), [.t 10], none⟩,
  ⟨some 12, .op (.faddr 0), [.t 11], none⟩,
  ⟨some 13, .op (.load none), [.t 12], none⟩,
  ⟨some 14, .op (.len .str), [.t 13], none⟩,
  ⟨some 15, .op (.bin .lss .prim), [.t 9, .t 14], none⟩,
  ⟨some 16, .op (.mov), [.t 15], none⟩,
  ⟨some 17, .op (.mov), [.t 0], some (16, true)⟩,
  ⟨some 18, .op (.nilchk), [.t 17], some (16, true)⟩,
  ⟨some 19, .op (.faddr 0), [.t 18], some (16, true)⟩,
  ⟨some 20, .op (.load none), [.t 19], some (16, true)⟩,
  ⟨some 21, .op (.mov), [.t 2], some (16, true)⟩,
  ⟨some 22, .op (.idxs), [.t 20, .t 21], some (16, true)⟩,
  ⟨some 23, .op (.bin .eql .prim), [.t 22, .c (.int .u8 42)], some (16, true)⟩,
  ⟨some 24, .op (.pick), [.t 16, .t 23, .c (.bool false)], none⟩]
abbrev r138_2 : List IOp := [⟨some 28, .op (.mov), [.t 2], none⟩,
  ⟨some 29, .op (.bin .add .prim), [.t 28, .c (.int .i64 1)], none⟩,
  ⟨some 2, .op (.mov), [.t 29], none⟩]
abbrev r138_3 : List IOp := [⟨some 25, .op (.mov), [.t 1], none⟩,
  ⟨some 26, .op (.mov), [.t 2], none⟩,
  ⟨some 27, .op (.iaddr 1), [.t 25, .t 26], none⟩,
  ⟨none, .op (.store 1), [.t 27, .c (.bool true)], none⟩]
abbrev b138_0 : IC := (IC.seq (IC.seq (IC.reg r138_1) (IC.cond (.t 24) IC.skip (IC.exit 0))) (IC.seq (IC.block 1 (IC.reg r138_2)) (IC.reg r138_3)))
abbrev c138 : IC := (IC.seq (IC.reg r138_0) (IC.block 0 (IC.loop b138_0)))
abbrev g138 : FC := ⟨c138, 30, []⟩
theorem comp138 : compF Go.Proofs.Try.prog (fun _ => 0) 138 = some g138 := by kernel_rfl

-- (outlaw/nfa.row).all
abbrev r139_0 : List IOp := [⟨some 1, .op (.box 153), [.t 0], none⟩,
  ⟨some 2, .op (.mov), [.c (.nilf)], none⟩]
abbrev r139_1 : List IOp := [⟨some 3, .op (.mkfn 156), [.t 1], none⟩,
  ⟨some 2, .op (.mov), [.t 3], none⟩]
abbrev c139 : IC := (IC.seq (IC.reg r139_0) (IC.seq (IC.reg r139_1) IC.ret))
abbrev g139 : FC := ⟨c139, 4, [.t 2]⟩
theorem comp139 : compF Go.Proofs.Try.prog (fun _ => 0) 139 = some g139 := by kernel_rfl

-- unicode/utf8.RuneCount
abbrev r140_0 : List IOp := [⟨some 2, .op (.mov), [.c (.int .i64 0)], none⟩]
abbrev r140_1 : List IOp := [⟨some 6, .op (.mov), [.t 0], none⟩,
  ⟨some 7, .op (.len .slice), [.t 6], none⟩,
  ⟨some 3, .op (.mov), [.t 7], none⟩]
abbrev r140_2 : List IOp := [⟨some 4, .op (.mov), [.c (.int .i64 0)], none⟩]
abbrev r140_3 : List IOp := [⟨some 8, .op (.mov), [.t 4], none⟩,
  ⟨some 9, .op (.mov), [.t 3], none⟩,
  ⟨some 10, .op (.bin .lss .prim), [.t 8, .t 9], none⟩]
abbrev r140_4 : List IOp := [⟨some 13, .op (.mov), [.t 0], none⟩,
  ⟨some 14, .op (.mov), [.t 4], none⟩,
  ⟨some 15, .op (.iaddr 1), [.t 13, .t 14], none⟩,
  ⟨some 16, .op (.load none), [.t 15], none⟩,
  ⟨some 5, .op (.mov), [.t 16], none⟩]
abbrev r140_5 : List IOp := [⟨some 17, .op (.mov), [.t 5], none⟩,
  ⟨some 18, .op (.bin .geq .prim), [.t 17, .c (.int .u8 128)], none⟩]
abbrev r140_6 : List IOp := [⟨some 19, .op (.mov), [.t 4], none⟩,
  ⟨some 20, .op (.mov), [.t 0], none⟩,
  ⟨some 21, .op (.mov), [.t 4], none⟩,
  ⟨some 22, .op (.slice 1 true false false), [.t 20, .t 21], none⟩,
  ⟨some 23, .op (.b2s), [.t 22], none⟩,
  ⟨some 24, .call none, [.f 157, .t 23], none⟩,
  ⟨some 25, .op (.bin .add .prim), [.t 19, .t 24], none⟩,
  ⟨some 2, .op (.mov), [.t 25], none⟩]
abbrev r140_7 : List IOp := [⟨some 11, .op (.mov), [.t 4], none⟩,
  ⟨some 12, .op (.bin .add .prim), [.t 11, .c (.int .i64 1)], none⟩,
  ⟨some 4, .op (.mov), [.t 12], none⟩]
abbrev b140_0 : IC := (IC.seq (IC.seq (IC.reg r140_3) (IC.cond (.t 10) IC.skip (IC.exit 0))) (IC.seq (IC.block 1 (IC.seq (IC.reg r140_4) (IC.seq (IC.reg r140_5) (IC.cond (.t 18) (IC.seq (IC.reg r140_6) IC.ret) IC.skip)))) (IC.reg r140_7)))
abbrev r140_8 : List IOp := [⟨some 26, .op (.mov), [.t 4], none⟩,
  ⟨some 2, .op (.mov), [.t 26], none⟩]
abbrev c140 : IC := (IC.seq (IC.reg r140_0) (IC.seq (IC.reg r140_1) (IC.seq (IC.reg r140_2) (IC.seq (IC.block 0 (IC.loop b140_0)) (IC.seq (IC.reg r140_8) IC.ret)))))
abbrev g140 : FC := ⟨c140, 27, [.t 2]⟩
theorem comp140 : compF Go.Proofs.Try.prog (fun _ => 0) 140 = some g140 := by kernel_rfl


-- bytes.Index
abbrev r142_0 : List IOp := [⟨some 4, .op (.mov), [.c (.int .i64 0)], none⟩]
abbrev r142_1 : List IOp := [⟨some 20, .op (.mov), [.t 1], none⟩,
  ⟨some 21, .op (.len .slice), [.t 20], none⟩,
  ⟨some 5, .op (.mov), [.t 21], none⟩]
abbrev r142_2 : List IOp := [⟨some 23, .op (.mov), [.t 5], none⟩,
  ⟨some 24, .op (.bin .eql .prim), [.t 23, .c (.int .i64 0)], none⟩,
  ⟨some 22, .op (.mov), [.t 24], none⟩]
abbrev r142_3 : List IOp := [⟨some 4, .op (.mov), [.c (.int .i64 0)], none⟩]
abbrev r142_4 : List IOp := [⟨some 26, .op (.mov), [.t 5], none⟩,
  ⟨some 27, .op (.bin .eql .prim), [.t 26, .c (.int .i64 1)], none⟩,
  ⟨some 25, .op (.mov), [.t 27], none⟩]
abbrev r142_5 : List IOp := [⟨some 28, .op (.mov), [.t 0], none⟩,
  ⟨some 29, .op (.mov), [.t 1], none⟩,
  ⟨some 30, .op (.iaddr 1), [.t 29, .c (.int .i64 0)], none⟩,
  ⟨some 31, .op (.load none), [.t 30], none⟩,
  ⟨some 32, .call none, [.f 158, .t 28, .t 31], none⟩,
  ⟨some 4, .op (.mov), [.t 32], none⟩]
abbrev r142_6 : List IOp := [⟨some 34, .op (.mov), [.t 5], none⟩,
  ⟨some 35, .op (.mov), [.t 0], none⟩,
  ⟨some 36, .op (.len .slice), [.t 35], none⟩,
  ⟨some 37, .op (.bin .eql .prim), [.t 34, .t 36], none⟩,
  ⟨some 33, .op (.mov), [.t 37], none⟩]
abbrev r142_7 : List IOp := [⟨some 38, .op (.mov), [.t 1], none⟩,
  ⟨some 39, .op (.mov), [.t 0], none⟩,
  ⟨some 40, .call none, [.f 159, .t 38, .t 39], none⟩]
abbrev r142_8 : List IOp := [⟨some 4, .op (.mov), [.c (.int .i64 0)], none⟩]
abbrev r142_9 : List IOp := [⟨some 4, .op (.mov), [.c (.int .i64 (-1))], none⟩]
abbrev r142_10 : List IOp := [⟨some 42, .op (.mov), [.t 5], none⟩,
  ⟨some 43, .op (.mov), [.t 0], none⟩,
  ⟨some 44, .op (.len .slice), [.t 43], none⟩,
  ⟨some 45, .op (.bin .gtr .prim), [.t 42, .t 44], none⟩,
  ⟨some 41, .op (.mov), [.t 45], none⟩]
abbrev r142_11 : List IOp := [⟨some 4, .op (.mov), [.c (.int .i64 (-1))], none⟩]
abbrev r142_12 : List IOp := [⟨some 47, .op (.mov), [.t 5], none⟩,
  ⟨some 48, .op (.never), [], none⟩,
  ⟨some 49, .op (.bin .leq .prim), [.t 47, .t 48], none⟩,
  ⟨some 46, .op (.mov), [.t 49], none⟩]
abbrev r142_13 : List IOp := [⟨some 50, .op (.mov), [.t 0], none⟩,
  ⟨some 51, .op (.len .slice), [.t 50], none⟩,
  ⟨some 52, .op (.bin .leq .prim), [.t 51, .c (.int .i64 64)], none⟩]
abbrev r142_14 : List IOp := [⟨some 53, .op (.mov), [.t 0], none⟩,
  ⟨some 54, .op (.mov), [.t 1], none⟩,
  ⟨some 55, .call none, [.f 160, .t 53, .t 54], none⟩,
  ⟨some 4, .op (.mov), [.t 55], none⟩]
abbrev r142_15 : List IOp := [⟨some 56, .op (.mov), [.t 1], none⟩,
  ⟨some 57, .op (.iaddr 1), [.t 56, .c (.int .i64 0)], none⟩,
  ⟨some 58, .op (.load none), [.t 57], none⟩,
  ⟨some 6, .op (.mov), [.t 58], none⟩]
abbrev r142_16 : List IOp := [⟨some 59, .op (.mov), [.t 1], none⟩,
  ⟨some 60, .op (.iaddr 1), [.t 59, .c (.int .i64 1)], none⟩,
  ⟨some 61, .op (.load none), [.t 60], none⟩,
  ⟨some 7, .op (.mov), [.t 61], none⟩]
abbrev r142_17 : List IOp := [⟨some 8, .op (.mov), [.c (.int .i64 0)], none⟩]
abbrev r142_18 : List IOp := [⟨some 62, .op (.mov), [.t 0], none⟩,
  ⟨some 63, .op (.len .slice), [.t 62], none⟩,
  ⟨some 64, .op (.mov), [.t 5], none⟩,
  ⟨some 65, .op (.bin .sub .prim), [.t 63, .t 64], none⟩,
  ⟨some 66, .op (.bin .add .prim), [.t 65, .c (.int .i64 1)], none⟩,
  ⟨some 9, .op (.mov), [.t 66], none⟩]
abbrev r142_19 : List IOp := [⟨some 10, .op (.mov), [.c (.int .i64 0)], none⟩]
abbrev r142_20 : List IOp := [⟨some 67, .op (.mov), [.t 8], none⟩,
  ⟨some 68, .op (.mov), [.t 9], none⟩,
  ⟨some 69, .op (.bin .lss .prim), [.t 67, .t 68], none⟩]
abbrev r142_21 : List IOp := [⟨some 70, .op (.mov), [.t 0], none⟩,
  ⟨some 71, .op (.mov), [.t 8], none⟩,
  ⟨some 72, .op (.iaddr 1), [.t 70, .t 71], none⟩,
  ⟨some 73, .op (.load none), [.t 72], none⟩,
  ⟨some 74, .op (.mov), [.t 6], none⟩,
  ⟨some 75, .op (.bin .neq .prim), [.t 73, .t 74], none⟩]
abbrev r142_22 : List IOp := [⟨some 76, .op (.mov), [.t 0], none⟩,
  ⟨some 77, .op (.mov), [.t 8], none⟩,
  ⟨some 78, .op (.bin .add .prim), [.t 77, .c (.int .i64 1)], none⟩,
  ⟨some 79, .op (.mov), [.t 9], none⟩,
  ⟨some 80, .op (.slice 1 true true false), [.t 76, .t 78, .t 79], none⟩,
  ⟨some 81, .op (.mov), [.t 6], none⟩,
  ⟨some 82, .call none, [.f 158, .t 80, .t 81], none⟩,
  ⟨some 11, .op (.mov), [.t 82], none⟩]
abbrev r142_23 : List IOp := [⟨some 83, .op (.mov), [.t 11], none⟩,
  ⟨some 84, .op (.bin .lss .prim), [.t 83, .c (.int .i64 0)], none⟩]
abbrev r142_24 : List IOp := [⟨some 4, .op (.mov), [.c (.int .i64 (-1))], none⟩]
abbrev r142_25 : List IOp := [⟨some 85, .op (.mov), [.t 8], none⟩,
  ⟨some 86, .op (.mov), [.t 11], none⟩,
  ⟨some 87, .op (.bin .add .prim), [.t 86, .c (.int .i64 1)], none⟩,
  ⟨some 88, .op (.bin .add .prim), [.t 85, .t 87], none⟩,
  ⟨some 8, .op (.mov), [.t 88], none⟩]
abbrev r142_26 : List IOp := [⟨some 89, .op (.mov), [.t 0], none⟩,
  ⟨some 90, .op (.mov), [.t 8], none⟩,
  ⟨some 91, .op (.bin .add .prim), [.t 90, .c (.int .i64 1)], none⟩,
  ⟨some 92, .op (.iaddr 1), [.t 89, .t 91], none⟩,
  ⟨some 93, .op (.load none), [.t 92], none⟩,
  ⟨some 94, .op (.mov), [.t 7], none⟩,
  ⟨some 95, .op (.bin .eql .prim), [.t 93, .t 94], none⟩,
  ⟨some 96, .op (.mov), [.t 95], none⟩,
  ⟨some 97, .op (.mov), [.t 0], some (96, true)⟩,
  ⟨some 98, .op (.mov), [.t 8], some (96, true)⟩,
  ⟨some 99, .op (.mov), [.t 8], some (96, true)⟩,
  ⟨some 100, .op (.mov), [.t 5], some (96, true)⟩,
  ⟨some 101, .op (.bin .add .prim), [.t 99, .t 100], some (96, true)⟩,
  ⟨some 102, .op (.slice 1 true true false), [.t 97, .t 98, .t 101], some (96, true)⟩,
  ⟨some 103, .op (.mov), [.t 1], some (96, true)⟩,
  ⟨some 104, .call none, [.f 159, .t 102, .t 103], some (96, true)⟩,
  ⟨some 105, .op (.pick), [.t 96, .t 104, .c (.bool false)], none⟩]
abbrev r142_27 : List IOp := [⟨some 106, .op (.mov), [.t 8], none⟩,
  ⟨some 4, .op (.mov), [.t 106], none⟩]
abbrev r142_28 : List IOp := [⟨some 107, .op (.mov), [.t 10], none⟩,
  ⟨some 108, .op (.bin .add .prim), [.t 107, .c (.int .i64 1)], none⟩,
  ⟨some 10, .op (.mov), [.t 108], none⟩]
abbrev r142_29 : List IOp := [⟨some 109, .op (.mov), [.t 8], none⟩,
  ⟨some 110, .op (.bin .add .prim), [.t 109, .c (.int .i64 1)], none⟩,
  ⟨some 8, .op (.mov), [.t 110], none⟩]
abbrev r142_30 : List IOp := [⟨some 111, .op (.mov), [.t 10], none⟩,
  ⟨some 112, .op (.mov), [.t 8], none⟩,
  ⟨some 113, .call none, [.f 161, .t 112], none⟩,
  ⟨some 114, .op (.bin .gtr .prim), [.t 111, .t 113], none⟩]
abbrev r142_31 : List IOp := [⟨some 115, .op (.mov), [.t 0], none⟩,
  ⟨some 116, .op (.mov), [.t 8], none⟩,
  ⟨some 117, .op (.slice 1 true false false), [.t 115, .t 116], none⟩,
  ⟨some 118, .op (.mov), [.t 1], none⟩,
  ⟨some 119, .call none, [.f 160, .t 117, .t 118], none⟩,
  ⟨some 12, .op (.mov), [.t 119], none⟩]
abbrev r142_32 : List IOp := [⟨some 120, .op (.mov), [.t 12], none⟩,
  ⟨some 121, .op (.bin .geq .prim), [.t 120, .c (.int .i64 0)], none⟩]
abbrev r142_33 : List IOp := [⟨some 122, .op (.mov), [.t 12], none⟩,
  ⟨some 123, .op (.mov), [.t 8], none⟩,
  ⟨some 124, .op (.bin .add .prim), [.t 122, .t 123], none⟩,
  ⟨some 4, .op (.mov), [.t 124], none⟩]
abbrev r142_34 : List IOp := [⟨some 4, .op (.mov), [.c (.int .i64 (-1))], none⟩]
abbrev b142_0 : IC := (IC.seq (IC.seq (IC.reg r142_20) (IC.cond (.t 69) IC.skip (IC.exit 1))) (IC.block 2 (IC.seq (IC.seq (IC.reg r142_21) (IC.cond (.t 75) (IC.seq (IC.reg r142_22) (IC.seq (IC.seq (IC.reg r142_23) (IC.cond (.t 84) (IC.seq (IC.reg r142_24) IC.ret) IC.skip)) (IC.reg r142_25))) IC.skip)) (IC.seq (IC.seq (IC.reg r142_26) (IC.cond (.t 105) (IC.seq (IC.reg r142_27) IC.ret) IC.skip)) (IC.seq (IC.reg r142_28) (IC.seq (IC.reg r142_29) (IC.seq (IC.reg r142_30) (IC.cond (.t 114) (IC.seq (IC.reg r142_31) (IC.seq (IC.seq (IC.reg r142_32) (IC.cond (.t 121) (IC.seq (IC.reg r142_33) IC.ret) IC.skip)) (IC.seq (IC.reg r142_34) IC.ret))) IC.skip))))))))
abbrev r142_35 : List IOp := [⟨some 4, .op (.mov), [.c (.int .i64 (-1))], none⟩]
abbrev r142_36 : List IOp := [⟨some 125, .op (.mov), [.t 1], none⟩,
  ⟨some 126, .op (.iaddr 1), [.t 125, .c (.int .i64 0)], none⟩,
  ⟨some 127, .op (.load none), [.t 126], none⟩,
  ⟨some 13, .op (.mov), [.t 127], none⟩]
abbrev r142_37 : List IOp := [⟨some 128, .op (.mov), [.t 1], none⟩,
  ⟨some 129, .op (.iaddr 1), [.t 128, .c (.int .i64 1)], none⟩,
  ⟨some 130, .op (.load none), [.t 129], none⟩,
  ⟨some 14, .op (.mov), [.t 130], none⟩]
abbrev r142_38 : List IOp := [⟨some 15, .op (.mov), [.c (.int .i64 0)], none⟩]
abbrev r142_39 : List IOp := [⟨some 16, .op (.mov), [.c (.int .i64 0)], none⟩]
abbrev r142_40 : List IOp := [⟨some 131, .op (.mov), [.t 0], none⟩,
  ⟨some 132, .op (.len .slice), [.t 131], none⟩,
  ⟨some 133, .op (.mov), [.t 5], none⟩,
  ⟨some 134, .op (.bin .sub .prim), [.t 132, .t 133], none⟩,
  ⟨some 135, .op (.bin .add .prim), [.t 134, .c (.int .i64 1)], none⟩,
  ⟨some 17, .op (.mov), [.t 135], none⟩]
abbrev r142_41 : List IOp := [⟨some 136, .op (.mov), [.t 15], none⟩,
  ⟨some 137, .op (.mov), [.t 17], none⟩,
  ⟨some 138, .op (.bin .lss .prim), [.t 136, .t 137], none⟩]
abbrev r142_42 : List IOp := [⟨some 139, .op (.mov), [.t 0], none⟩,
  ⟨some 140, .op (.mov), [.t 15], none⟩,
  ⟨some 141, .op (.iaddr 1), [.t 139, .t 140], none⟩,
  ⟨some 142, .op (.load none), [.t 141], none⟩,
  ⟨some 143, .op (.mov), [.t 13], none⟩,
  ⟨some 144, .op (.bin .neq .prim), [.t 142, .t 143], none⟩]
abbrev r142_43 : List IOp := [⟨some 145, .op (.mov), [.t 0], none⟩,
  ⟨some 146, .op (.mov), [.t 15], none⟩,
  ⟨some 147, .op (.bin .add .prim), [.t 146, .c (.int .i64 1)], none⟩,
  ⟨some 148, .op (.mov), [.t 17], none⟩,
  ⟨some 149, .op (.slice 1 true true false), [.t 145, .t 147, .t 148], none⟩,
  ⟨some 150, .op (.mov), [.t 13], none⟩,
  ⟨some 151, .call none, [.f 158, .t 149, .t 150], none⟩,
  ⟨some 18, .op (.mov), [.t 151], none⟩]
abbrev r142_44 : List IOp := [⟨some 152, .op (.mov), [.t 18], none⟩,
  ⟨some 153, .op (.bin .lss .prim), [.t 152, .c (.int .i64 0)], none⟩]
abbrev r142_45 : List IOp := [⟨some 154, .op (.mov), [.t 15], none⟩,
  ⟨some 155, .op (.mov), [.t 18], none⟩,
  ⟨some 156, .op (.bin .add .prim), [.t 155, .c (.int .i64 1)], none⟩,
  ⟨some 157, .op (.bin .add .prim), [.t 154, .t 156], none⟩,
  ⟨some 15, .op (.mov), [.t 157], none⟩]
abbrev r142_46 : List IOp := [⟨some 158, .op (.mov), [.t 0], none⟩,
  ⟨some 159, .op (.mov), [.t 15], none⟩,
  ⟨some 160, .op (.bin .add .prim), [.t 159, .c (.int .i64 1)], none⟩,
  ⟨some 161, .op (.iaddr 1), [.t 158, .t 160], none⟩,
  ⟨some 162, .op (.load none), [.t 161], none⟩,
  ⟨some 163, .op (.mov), [.t 14], none⟩,
  ⟨some 164, .op (.bin .eql .prim), [.t 162, .t 163], none⟩,
  ⟨some 165, .op (.mov), [.t 164], none⟩,
  ⟨some 166, .op (.mov), [.t 0], some (165, true)⟩,
  ⟨some 167, .op (.mov), [.t 15], some (165, true)⟩,
  ⟨some 168, .op (.mov), [.t 15], some (165, true)⟩,
  ⟨some 169, .op (.mov), [.t 5], some (165, true)⟩,
  ⟨some 170, .op (.bin .add .prim), [.t 168, .t 169], some (165, true)⟩,
  ⟨some 171, .op (.slice 1 true true false), [.t 166, .t 167, .t 170], some (165, true)⟩,
  ⟨some 172, .op (.mov), [.t 1], some (165, true)⟩,
  ⟨some 173, .call none, [.f 159, .t 171, .t 172], some (165, true)⟩,
  ⟨some 174, .op (.pick), [.t 165, .t 173, .c (.bool false)], none⟩]
abbrev r142_47 : List IOp := [⟨some 175, .op (.mov), [.t 15], none⟩,
  ⟨some 4, .op (.mov), [.t 175], none⟩]
abbrev r142_48 : List IOp := [⟨some 176, .op (.mov), [.t 15], none⟩,
  ⟨some 177, .op (.bin .add .prim), [.t 176, .c (.int .i64 1)], none⟩,
  ⟨some 15, .op (.mov), [.t 177], none⟩]
abbrev r142_49 : List IOp := [⟨some 178, .op (.mov), [.t 16], none⟩,
  ⟨some 179, .op (.bin .add .prim), [.t 178, .c (.int .i64 1)], none⟩,
  ⟨some 16, .op (.mov), [.t 179], none⟩]
abbrev r142_50 : List IOp := [⟨some 180, .op (.mov), [.t 16], none⟩,
  ⟨some 181, .op (.mov), [.t 15], none⟩,
  ⟨some 182, .op (.bin .shr .prim), [.t 181, .c (.int .u64 4)], none⟩,
  ⟨some 183, .op (.bin .add .prim), [.c (.int .i64 4), .t 182], none⟩,
  ⟨some 184, .op (.bin .geq .prim), [.t 180, .t 183], none⟩,
  ⟨some 185, .op (.mov), [.t 184], none⟩,
  ⟨some 186, .op (.mov), [.t 15], some (185, true)⟩,
  ⟨some 187, .op (.mov), [.t 17], some (185, true)⟩,
  ⟨some 188, .op (.bin .lss .prim), [.t 186, .t 187], some (185, true)⟩,
  ⟨some 189, .op (.pick), [.t 185, .t 188, .c (.bool false)], none⟩]
abbrev r142_51 : List IOp := [⟨some 190, .op (.mov), [.t 0], none⟩,
  ⟨some 191, .op (.mov), [.t 15], none⟩,
  ⟨some 192, .op (.slice 1 true false false), [.t 190, .t 191], none⟩,
  ⟨some 193, .op (.mov), [.t 1], none⟩,
  ⟨some 194, .call none, [.f 162, .t 192, .t 193], none⟩,
  ⟨some 19, .op (.mov), [.t 194], none⟩]
abbrev r142_52 : List IOp := [⟨some 195, .op (.mov), [.t 19], none⟩,
  ⟨some 196, .op (.bin .lss .prim), [.t 195, .c (.int .i64 0)], none⟩]
abbrev r142_53 : List IOp := [⟨some 4, .op (.mov), [.c (.int .i64 (-1))], none⟩]
abbrev r142_54 : List IOp := [⟨some 197, .op (.mov), [.t 15], none⟩,
  ⟨some 198, .op (.mov), [.t 19], none⟩,
  ⟨some 199, .op (.bin .add .prim), [.t 197, .t 198], none⟩,
  ⟨some 4, .op (.mov), [.t 199], none⟩]
abbrev b142_1 : IC := (IC.seq (IC.seq (IC.reg r142_41) (IC.cond (.t 138) IC.skip (IC.exit 3))) (IC.block 4 (IC.seq (IC.seq (IC.reg r142_42) (IC.cond (.t 144) (IC.seq (IC.reg r142_43) (IC.seq (IC.seq (IC.reg r142_44) (IC.cond (.t 153) (IC.exit 3) IC.skip)) (IC.reg r142_45))) IC.skip)) (IC.seq (IC.seq (IC.reg r142_46) (IC.cond (.t 174) (IC.seq (IC.reg r142_47) IC.ret) IC.skip)) (IC.seq (IC.reg r142_48) (IC.seq (IC.reg r142_49) (IC.seq (IC.reg r142_50) (IC.cond (.t 189) (IC.seq (IC.reg r142_51) (IC.seq (IC.seq (IC.reg r142_52) (IC.cond (.t 196) (IC.seq (IC.reg r142_53) IC.ret) IC.skip)) (IC.seq (IC.reg r142_54) IC.ret))) IC.skip))))))))
abbrev r142_55 : List IOp := [⟨some 4, .op (.mov), [.c (.int .i64 (-1))], none⟩]
abbrev c142 : IC := (IC.seq (IC.reg r142_0) (IC.seq (IC.reg r142_1) (IC.seq (IC.block 0 (IC.seq (IC.reg r142_2) (IC.cond (.t 22) (IC.seq (IC.reg r142_3) IC.ret) (IC.seq (IC.reg r142_4) (IC.cond (.t 25) (IC.seq (IC.reg r142_5) IC.ret) (IC.seq (IC.reg r142_6) (IC.cond (.t 33) (IC.seq (IC.seq (IC.reg r142_7) (IC.cond (.t 40) (IC.seq (IC.reg r142_8) IC.ret) IC.skip)) (IC.seq (IC.reg r142_9) IC.ret)) (IC.seq (IC.reg r142_10) (IC.cond (.t 41) (IC.seq (IC.reg r142_11) IC.ret) (IC.seq (IC.reg r142_12) (IC.cond (.t 46) (IC.seq (IC.seq (IC.reg r142_13) (IC.cond (.t 52) (IC.seq (IC.reg r142_14) IC.ret) IC.skip)) (IC.seq (IC.reg r142_15) (IC.seq (IC.reg r142_16) (IC.seq (IC.reg r142_17) (IC.seq (IC.reg r142_18) (IC.seq (IC.reg r142_19) (IC.seq (IC.block 1 (IC.loop b142_0)) (IC.seq (IC.reg r142_35) IC.ret)))))))) IC.skip))))))))))) (IC.seq (IC.reg r142_36) (IC.seq (IC.reg r142_37) (IC.seq (IC.reg r142_38) (IC.seq (IC.reg r142_39) (IC.seq (IC.reg r142_40) (IC.seq (IC.block 3 (IC.loop b142_1)) (IC.seq (IC.reg r142_55) IC.ret))))))))))
abbrev g142 : FC := ⟨c142, 200, [.t 4]⟩
theorem comp142 : compF Go.Proofs.Try.prog (fun _ => 0) 142 = some g142 := by kernel_rfl

-- math/bits.Mul
abbrev r143_0 : List IOp := [⟨some 4, .op (.mov), [.c (.int .u64 0)], none⟩,
  ⟨some 5, .op (.mov), [.c (.int .u64 0)], none⟩]
abbrev r143_1 : List IOp := [⟨some 11, .op (.mov), [.t 0], none⟩,
  ⟨some 12, .op (.toInt .u32), [.t 11], none⟩,
  ⟨some 13, .op (.mov), [.t 1], none⟩,
  ⟨some 14, .op (.toInt .u32), [.t 13], none⟩,
  ⟨some 15, .call none, [.f 163, .t 12, .t 14], none⟩,
  ⟨some 10, .op (.mov), [.t 15], none⟩,
  ⟨some 16, .op (.extract 0), [.t 10], none⟩,
  ⟨some 17, .op (.extract 1), [.t 10], none⟩,
  ⟨some 6, .op (.mov), [.t 16], none⟩,
  ⟨some 7, .op (.mov), [.t 17], none⟩]
abbrev r143_2 : List IOp := [⟨some 18, .op (.mov), [.t 6], none⟩,
  ⟨some 19, .op (.toInt .u64), [.t 18], none⟩,
  ⟨some 20, .op (.mov), [.t 7], none⟩,
  ⟨some 21, .op (.toInt .u64), [.t 20], none⟩,
  ⟨some 4, .op (.mov), [.t 19], none⟩,
  ⟨some 5, .op (.mov), [.t 21], none⟩]
abbrev r143_3 : List IOp := [⟨some 23, .op (.mov), [.t 0], none⟩,
  ⟨some 24, .op (.mov), [.t 1], none⟩,
  ⟨some 25, .call none, [.f 164, .t 23, .t 24], none⟩,
  ⟨some 22, .op (.mov), [.t 25], none⟩,
  ⟨some 26, .op (.extract 0), [.t 22], none⟩,
  ⟨some 27, .op (.extract 1), [.t 22], none⟩,
  ⟨some 8, .op (.mov), [.t 26], none⟩,
  ⟨some 9, .op (.mov), [.t 27], none⟩]
abbrev r143_4 : List IOp := [⟨some 28, .op (.mov), [.t 8], none⟩,
  ⟨some 29, .op (.mov), [.t 9], none⟩,
  ⟨some 4, .op (.mov), [.t 28], none⟩,
  ⟨some 5, .op (.mov), [.t 29], none⟩]
abbrev c143 : IC := (IC.seq (IC.reg r143_0) (IC.seq (IC.cond (.c (.bool false)) (IC.seq (IC.reg r143_1) (IC.seq (IC.reg r143_2) IC.ret)) IC.skip) (IC.seq (IC.reg r143_3) (IC.seq (IC.reg r143_4) IC.ret))))
abbrev g143 : FC := ⟨c143, 30, [.t 4, .t 5]⟩
theorem comp143 : compF Go.Proofs.Try.prog (fun _ => 0) 143 = some g143 := by kernel_rfl


-- math/bits.Len32
abbrev r153_0 : List IOp := [⟨some 2, .op (.mov), [.c (.int .i64 0)], none⟩]
abbrev r153_1 : List IOp := [⟨some 3, .op (.mov), [.t 0], none⟩,
  ⟨some 4, .op (.bin .geq .prim), [.t 3, .c (.int .u32 65536)], none⟩]
abbrev r153_2 : List IOp := [⟨some 5, .op (.mov), [.t 0], none⟩,
  ⟨some 6, .op (.bin .shr .prim), [.t 5, .c (.int .u64 16)], none⟩,
  ⟨some 0, .op (.mov), [.t 6], none⟩]
abbrev r153_3 : List IOp := [⟨some 2, .op (.mov), [.c (.int .i64 16)], none⟩]
abbrev r153_4 : List IOp := [⟨some 7, .op (.mov), [.t 0], none⟩,
  ⟨some 8, .op (.bin .geq .prim), [.t 7, .c (.int .u32 256)], none⟩]
abbrev r153_5 : List IOp := [⟨some 9, .op (.mov), [.t 0], none⟩,
  ⟨some 10, .op (.bin .shr .prim), [.t 9, .c (.int .u64 8)], none⟩,
  ⟨some 0, .op (.mov), [.t 10], none⟩]
abbrev r153_6 : List IOp := [⟨some 11, .op (.mov), [.t 2], none⟩,
  ⟨some 12, .op (.bin .add .prim), [.t 11, .c (.int .i64 8)], none⟩,
  ⟨some 2, .op (.mov), [.t 12], none⟩]
abbrev r153_7 : List IOp := [⟨some 13, .op (.mov), [.t 2], none⟩,
  ⟨some 14, .op (.mov), [.t 0], none⟩,
  ⟨some 15, .op (.toInt .u8), [.t 14], none⟩,
  ⟨some 16, .op (.idxs), [.c (.str [0, 1, 2, 2, 3, 3, 3, 3, 4, 4, 4, 4, 4, 4, 4, 4, 5, 5, 5, 5, 5, 5, 5, 5, 5, 5, 5, 5, 5, 5, 5, 5, 6, 6, 6, 6, 6, 6, 6, 6, 6, 6, 6, 6, 6, 6, 6, 6, 6, 6, 6, 6, 6, 6, 6, 6, 6, 6, 6, 6, 6, 6, 6, 6, 7, 7, 7, 7, 7, 7, 7, 7, 7, 7, 7, 7, 7, 7, 7, 7, 7, 7, 7, 7, 7, 7, 7, 7, 7, 7, 7, 7, 7, 7, 7, 7, 7, 7, 7, 7, 7, 7, 7, 7, 7, 7, 7, 7, 7, 7, 7, 7, 7, 7, 7, 7, 7, 7, 7, 7, 7, 7, 7, 7, 7, 7, 7, 7, 8, 8, 8, 8, 8, 8, 8, 8, 8, 8, 8, 8, 8, 8, 8, 8, 8, 8, 8, 8, 8, 8, 8, 8, 8, 8, 8, 8, 8, 8, 8, 8, 8, 8, 8, 8, 8, 8, 8, 8, 8, 8, 8, 8, 8, 8, 8, 8, 8, 8, 8, 8, 8, 8, 8, 8, 8, 8, 8, 8, 8, 8, 8, 8, 8, 8, 8, 8, 8, 8, 8, 8, 8, 8, 8, 8, 8, 8, 8, 8, 8, 8, 8, 8, 8, 8, 8, 8, 8, 8, 8, 8, 8, 8, 8, 8, 8, 8, 8, 8, 8, 8, 8, 8, 8, 8, 8, 8, 8, 8, 8, 8, 8, 8, 8, 8, 8, 8, 8, 8, 8, 8, 8, 8, 8, 8, 8, 8]), .t 15], none⟩,
  ⟨some 17, .op (.toInt .i64), [.t 16], none⟩,
  ⟨some 18, .op (.bin .add .prim), [.t 13, .t 17], none⟩,
  ⟨some 2, .op (.mov), [.t 18], none⟩]
abbrev c153 : IC := (IC.seq (IC.reg r153_0) (IC.seq (IC.seq (IC.reg r153_1) (IC.cond (.t 4) (IC.seq (IC.reg r153_2) (IC.reg r153_3)) IC.skip)) (IC.seq (IC.seq (IC.reg r153_4) (IC.cond (.t 8) (IC.seq (IC.reg r153_5) (IC.reg r153_6)) IC.skip)) (IC.seq (IC.reg r153_7) IC.ret))))
abbrev g153 : FC := ⟨c153, 19, [.t 2]⟩
theorem comp153 : compF Go.Proofs.Try.prog (fun _ => 0) 153 = some g153 := by kernel_rfl

-- math/bits.Len64
abbrev r154_0 : List IOp := [⟨some 2, .op (.mov), [.c (.int .i64 0)], none⟩]
abbrev r154_1 : List IOp := [⟨some 3, .op (.mov), [.t 0], none⟩,
  ⟨some 4, .op (.bin .geq .prim), [.t 3, .c (.int .u64 4294967296)], none⟩]
abbrev r154_2 : List IOp := [⟨some 5, .op (.mov), [.t 0], none⟩,
  ⟨some 6, .op (.bin .shr .prim), [.t 5, .c (.int .u64 32)], none⟩,
  ⟨some 0, .op (.mov), [.t 6], none⟩]
abbrev r154_3 : List IOp := [⟨some 2, .op (.mov), [.c (.int .i64 32)], none⟩]
abbrev r154_4 : List IOp := [⟨some 7, .op (.mov), [.t 0], none⟩,
  ⟨some 8, .op (.bin .geq .prim), [.t 7, .c (.int .u64 65536)], none⟩]
abbrev r154_5 : List IOp := [⟨some 9, .op (.mov), [.t 0], none⟩,
  ⟨some 10, .op (.bin .shr .prim), [.t 9, .c (.int .u64 16)], none⟩,
  ⟨some 0, .op (.mov), [.t 10], none⟩]
abbrev r154_6 : List IOp := [⟨some 11, .op (.mov), [.t 2], none⟩,
  ⟨some 12, .op (.bin .add .prim), [.t 11, .c (.int .i64 16)], none⟩,
  ⟨some 2, .op (.mov), [.t 12], none⟩]
abbrev r154_7 : List IOp := [⟨some 13, .op (.mov), [.t 0], none⟩,
  ⟨some 14, .op (.bin .geq .prim), [.t 13, .c (.int .u64 256)], none⟩]
abbrev r154_8 : List IOp := [⟨some 15, .op (.mov), [.t 0], none⟩,
  ⟨some 16, .op (.bin .shr .prim), [.t 15, .c (.int .u64 8)], none⟩,
  ⟨some 0, .op (.mov), [.t 16], none⟩]
abbrev r154_9 : List IOp := [⟨some 17, .op (.mov), [.t 2], none⟩,
  ⟨some 18, .op (.bin .add .prim), [.t 17, .c (.int .i64 8)], none⟩,
  ⟨some 2, .op (.mov), [.t 18], none⟩]
abbrev r154_10 : List IOp := [⟨some 19, .op (.mov), [.t 2], none⟩,
  ⟨some 20, .op (.mov), [.t 0], none⟩,
  ⟨some 21, .op (.toInt .u8), [.t 20], none⟩,
  ⟨some 22, .op (.idxs), [.c (.str [0, 1, 2, 2, 3, 3, 3, 3, 4, 4, 4, 4, 4, 4, 4, 4, 5, 5, 5, 5, 5, 5, 5, 5, 5, 5, 5, 5, 5, 5, 5, 5, 6, 6, 6, 6, 6, 6, 6, 6, 6, 6, 6, 6, 6, 6, 6, 6, 6, 6, 6, 6, 6, 6, 6, 6, 6, 6, 6, 6, 6, 6, 6, 6, 7, 7, 7, 7, 7, 7, 7, 7, 7, 7, 7, 7, 7, 7, 7, 7, 7, 7, 7, 7, 7, 7, 7, 7, 7, 7, 7, 7, 7, 7, 7, 7, 7, 7, 7, 7, 7, 7, 7, 7, 7, 7, 7, 7, 7, 7, 7, 7, 7, 7, 7, 7, 7, 7, 7, 7, 7, 7, 7, 7, 7, 7, 7, 7, 8, 8, 8, 8, 8, 8, 8, 8, 8, 8, 8, 8, 8, 8, 8, 8, 8, 8, 8, 8, 8, 8, 8, 8, 8, 8, 8, 8, 8, 8, 8, 8, 8, 8, 8, 8, 8, 8, 8, 8, 8, 8, 8, 8, 8, 8, 8, 8, 8, 8, 8, 8, 8, 8, 8, 8, 8, 8, 8, 8, 8, 8, 8, 8, 8, 8, 8, 8, 8, 8, 8, 8, 8, 8, 8, 8, 8, 8, 8, 8, 8, 8, 8, 8, 8, 8, 8, 8, 8, 8, 8, 8, 8, 8, 8, 8, 8, 8, 8, 8, 8, 8, 8, 8, 8, 8, 8, 8, 8, 8, 8, 8, 8, 8, 8, 8, 8, 8, 8, 8, 8, 8, 8, 8, 8, 8, 8, 8]), .t 21], none⟩,
  ⟨some 23, .op (.toInt .i64), [.t 22], none⟩,
  ⟨some 24, .op (.bin .add .prim), [.t 19, .t 23], none⟩,
  ⟨some 2, .op (.mov), [.t 24], none⟩]
abbrev c154 : IC := (IC.seq (IC.reg r154_0) (IC.seq (IC.seq (IC.reg r154_1) (IC.cond (.t 4) (IC.seq (IC.reg r154_2) (IC.reg r154_3)) IC.skip)) (IC.seq (IC.seq (IC.reg r154_4) (IC.cond (.t 8) (IC.seq (IC.reg r154_5) (IC.reg r154_6)) IC.skip)) (IC.seq (IC.seq (IC.reg r154_7) (IC.cond (.t 14) (IC.seq (IC.reg r154_8) (IC.reg r154_9)) IC.skip)) (IC.seq (IC.reg r154_10) IC.ret)))))
abbrev g154 : FC := ⟨c154, 25, [.t 2]⟩
theorem comp154 : compF Go.Proofs.Try.prog (fun _ => 0) 154 = some g154 := by kernel_rfl

-- slices.insertionSortOrdered[byte]
abbrev r145_0 : List IOp := [⟨some 8, .op (.mov), [.t 1], none⟩,
  ⟨some 9, .op (.bin .add .prim), [.t 8, .c (.int .i64 1)], none⟩,
  ⟨some 6, .op (.mov), [.t 9], none⟩]
abbrev r145_1 : List IOp := [⟨some 10, .op (.mov), [.t 6], none⟩,
  ⟨some 11, .op (.mov), [.t 2], none⟩,
  ⟨some 12, .op (.bin .lss .prim), [.t 10, .t 11], none⟩]
abbrev r145_2 : List IOp := [⟨some 15, .op (.mov), [.t 6], none⟩,
  ⟨some 7, .op (.mov), [.t 15], none⟩]
abbrev r145_3 : List IOp := [⟨some 16, .op (.mov), [.t 7], none⟩,
  ⟨some 17, .op (.mov), [.t 1], none⟩,
  ⟨some 18, .op (.bin .gtr .prim), [.t 16, .t 17], none⟩,
  ⟨some 19, .op (.mov), [.t 18], none⟩,
  ⟨some 20, .op (.mov), [.t 0], some (19, true)⟩,
  ⟨some 21, .op (.mov), [.t 7], some (19, true)⟩,
  ⟨some 22, .op (.iaddr 1), [.t 20, .t 21], some (19, true)⟩,
  ⟨some 23, .op (.load none), [.t 22], some (19, true)⟩,
  ⟨some 24, .op (.mov), [.t 0], some (19, true)⟩,
  ⟨some 25, .op (.mov), [.t 7], some (19, true)⟩,
  ⟨some 26, .op (.bin .sub .prim), [.t 25, .c (.int .i64 1)], some (19, true)⟩,
  ⟨some 27, .op (.iaddr 1), [.t 24, .t 26], some (19, true)⟩,
  ⟨some 28, .op (.load none), [.t 27], some (19, true)⟩,
  ⟨some 29, .call none, [.f 135, .t 23, .t 28], some (19, true)⟩,
  ⟨some 30, .op (.pick), [.t 19, .t 29, .c (.bool false)], none⟩]
abbrev r145_4 : List IOp := [⟨some 33, .op (.mov), [.t 0], none⟩,
  ⟨some 34, .op (.mov), [.t 7], none⟩,
  ⟨some 35, .op (.mov), [.t 0], none⟩,
  ⟨some 36, .op (.mov), [.t 7], none⟩,
  ⟨some 37, .op (.bin .sub .prim), [.t 36, .c (.int .i64 1)], none⟩,
  ⟨some 38, .op (.mov), [.t 0], none⟩,
  ⟨some 39, .op (.mov), [.t 7], none⟩,
  ⟨some 40, .op (.bin .sub .prim), [.t 39, .c (.int .i64 1)], none⟩,
  ⟨some 41, .op (.iaddr 1), [.t 38, .t 40], none⟩,
  ⟨some 42, .op (.load none), [.t 41], none⟩,
  ⟨some 43, .op (.mov), [.t 0], none⟩,
  ⟨some 44, .op (.mov), [.t 7], none⟩,
  ⟨some 45, .op (.iaddr 1), [.t 43, .t 44], none⟩,
  ⟨some 46, .op (.load none), [.t 45], none⟩,
  ⟨some 47, .op (.iaddr 1), [.t 33, .t 34], none⟩,
  ⟨none, .op (.store 1), [.t 47, .t 42], none⟩,
  ⟨some 48, .op (.iaddr 1), [.t 35, .t 37], none⟩,
  ⟨none, .op (.store 1), [.t 48, .t 46], none⟩]
abbrev r145_5 : List IOp := [⟨some 31, .op (.mov), [.t 7], none⟩,
  ⟨some 32, .op (.bin .sub .prim), [.t 31, .c (.int .i64 1)], none⟩,
  ⟨some 7, .op (.mov), [.t 32], none⟩]
abbrev b145_0 : IC := (IC.seq (IC.seq (IC.regD .wild r145_3 (.take 0 (.take 1 (.take 2 (.take 3 (.take 4 (.take 5 (.take 6 (.take 7 (.take 8 (.take 9 (.take 10 (.take 11 (.take 12 (.take 13 (.take 14 (.done))))))))))))))))) (IC.cond (.t 30) IC.skip (IC.exit 2))) (IC.seq (IC.block 3 (IC.regD .wild r145_4 (.take 0 (.take 1 (.take 2 (.take 3 (.take 4 (.take 5 (.take 6 (.take 7 (.take 8 (.take 9 (.take 10 (.take 11 (.take 12 (.take 13 (.take 14 (.take 15 (.take 16 (.take 17 (.done))))))))))))))))))))) (IC.reg r145_5)))
abbrev r145_6 : List IOp := [⟨some 13, .op (.mov), [.t 6], none⟩,
  ⟨some 14, .op (.bin .add .prim), [.t 13, .c (.int .i64 1)], none⟩,
  ⟨some 6, .op (.mov), [.t 14], none⟩]
abbrev b145_1 : IC := (IC.seq (IC.seq (IC.reg r145_1) (IC.cond (.t 12) IC.skip (IC.exit 0))) (IC.seq (IC.block 1 (IC.seq (IC.reg r145_2) (IC.block 2 (IC.loop b145_0)))) (IC.reg r145_6)))
abbrev c145 : IC := (IC.seq (IC.reg r145_0) (IC.block 0 (IC.loop b145_1)))
abbrev g145 : FC := ⟨c145, 49, []⟩
theorem comp145 : compF Go.Proofs.Try.prog (hintL [(4, 6), (6, 6)]) 145 = some g145 := by kernel_rfl

-- slices.heapSortOrdered[byte]
abbrev r146_0 : List IOp := [⟨some 11, .op (.mov), [.t 1], none⟩,
  ⟨some 6, .op (.mov), [.t 11], none⟩]
abbrev r146_1 : List IOp := [⟨some 7, .op (.mov), [.c (.int .i64 0)], none⟩]
abbrev r146_2 : List IOp := [⟨some 12, .op (.mov), [.t 2], none⟩,
  ⟨some 13, .op (.mov), [.t 1], none⟩,
  ⟨some 14, .op (.bin .sub .prim), [.t 12, .t 13], none⟩,
  ⟨some 8, .op (.mov), [.t 14], none⟩]
abbrev r146_3 : List IOp := [⟨some 15, .op (.mov), [.t 8], none⟩,
  ⟨some 16, .op (.bin .sub .prim), [.t 15, .c (.int .i64 1)], none⟩,
  ⟨some 17, .op (.bin .quo .prim), [.t 16, .c (.int .i64 2)], none⟩,
  ⟨some 9, .op (.mov), [.t 17], none⟩]
abbrev r146_4 : List IOp := [⟨some 18, .op (.mov), [.t 9], none⟩,
  ⟨some 19, .op (.bin .geq .prim), [.t 18, .c (.int .i64 0)], none⟩]
abbrev r146_5 : List IOp := [⟨some 22, .op (.mov), [.t 0], none⟩,
  ⟨some 23, .op (.mov), [.t 9], none⟩,
  ⟨some 24, .op (.mov), [.t 8], none⟩,
  ⟨some 25, .op (.mov), [.t 6], none⟩,
  ⟨some 26, .call none, [.f 165, .t 22, .t 23, .t 24, .t 25], none⟩]
abbrev r146_6 : List IOp := [⟨some 20, .op (.mov), [.t 9], none⟩,
  ⟨some 21, .op (.bin .sub .prim), [.t 20, .c (.int .i64 1)], none⟩,
  ⟨some 9, .op (.mov), [.t 21], none⟩]
abbrev b146_0 : IC := (IC.seq (IC.seq (IC.reg r146_4) (IC.cond (.t 19) IC.skip (IC.exit 0))) (IC.seq (IC.block 1 (IC.reg r146_5)) (IC.reg r146_6)))
abbrev r146_7 : List IOp := [⟨some 27, .op (.mov), [.t 8], none⟩,
  ⟨some 28, .op (.bin .sub .prim), [.t 27, .c (.int .i64 1)], none⟩,
  ⟨some 10, .op (.mov), [.t 28], none⟩]
abbrev r146_8 : List IOp := [⟨some 29, .op (.mov), [.t 10], none⟩,
  ⟨some 30, .op (.bin .geq .prim), [.t 29, .c (.int .i64 0)], none⟩]
abbrev r146_9 : List IOp := [⟨some 33, .op (.mov), [.t 0], none⟩,
  ⟨some 34, .op (.mov), [.t 6], none⟩,
  ⟨some 35, .op (.mov), [.t 0], none⟩,
  ⟨some 36, .op (.mov), [.t 6], none⟩,
  ⟨some 37, .op (.mov), [.t 10], none⟩,
  ⟨some 38, .op (.bin .add .prim), [.t 36, .t 37], none⟩,
  ⟨some 39, .op (.mov), [.t 0], none⟩,
  ⟨some 40, .op (.mov), [.t 6], none⟩,
  ⟨some 41, .op (.mov), [.t 10], none⟩,
  ⟨some 42, .op (.bin .add .prim), [.t 40, .t 41], none⟩,
  ⟨some 43, .op (.iaddr 1), [.t 39, .t 42], none⟩,
  ⟨some 44, .op (.load none), [.t 43], none⟩,
  ⟨some 45, .op (.mov), [.t 0], none⟩,
  ⟨some 46, .op (.mov), [.t 6], none⟩,
  ⟨some 47, .op (.iaddr 1), [.t 45, .t 46], none⟩,
  ⟨some 48, .op (.load none), [.t 47], none⟩,
  ⟨some 49, .op (.iaddr 1), [.t 33, .t 34], none⟩,
  ⟨none, .op (.store 1), [.t 49, .t 44], none⟩,
  ⟨some 50, .op (.iaddr 1), [.t 35, .t 38], none⟩,
  ⟨none, .op (.store 1), [.t 50, .t 48], none⟩]
abbrev r146_10 : List IOp := [⟨some 51, .op (.mov), [.t 0], none⟩,
  ⟨some 52, .op (.mov), [.t 7], none⟩,
  ⟨some 53, .op (.mov), [.t 10], none⟩,
  ⟨some 54, .op (.mov), [.t 6], none⟩,
  ⟨some 55, .call none, [.f 165, .t 51, .t 52, .t 53, .t 54], none⟩]
abbrev r146_11 : List IOp := [⟨some 31, .op (.mov), [.t 10], none⟩,
  ⟨some 32, .op (.bin .sub .prim), [.t 31, .c (.int .i64 1)], none⟩,
  ⟨some 10, .op (.mov), [.t 32], none⟩]
abbrev b146_1 : IC := (IC.seq (IC.seq (IC.reg r146_8) (IC.cond (.t 30) IC.skip (IC.exit 2))) (IC.seq (IC.block 3 (IC.seq (IC.regD .wild r146_9 (.take 0 (.take 1 (.take 2 (.take 3 (.take 4 (.take 5 (.take 6 (.take 7 (.take 8 (.take 9 (.take 10 (.take 11 (.take 12 (.take 13 (.take 14 (.take 15 (.take 16 (.take 17 (.take 18 (.take 19 (.done)))))))))))))))))))))) (IC.reg r146_10))) (IC.reg r146_11)))
abbrev c146 : IC := (IC.seq (IC.reg r146_0) (IC.seq (IC.reg r146_1) (IC.seq (IC.reg r146_2) (IC.seq (IC.seq (IC.reg r146_3) (IC.block 0 (IC.loop b146_0))) (IC.seq (IC.reg r146_7) (IC.block 2 (IC.loop b146_1)))))))
abbrev g146 : FC := ⟨c146, 56, []⟩
theorem comp146 : compF Go.Proofs.Try.prog (hintL [(10, 6)]) 146 = some g146 := by kernel_rfl

-- slices.breakPatternsOrdered[byte]
abbrev r147_0 : List IOp := [⟨some 11, .op (.mov), [.t 2], none⟩,
  ⟨some 12, .op (.mov), [.t 1], none⟩,
  ⟨some 13, .op (.bin .sub .prim), [.t 11, .t 12], none⟩,
  ⟨some 6, .op (.mov), [.t 13], none⟩]
abbrev r147_1 : List IOp := [⟨some 14, .op (.mov), [.t 6], none⟩,
  ⟨some 15, .op (.bin .geq .prim), [.t 14, .c (.int .i64 8)], none⟩]
abbrev r147_2 : List IOp := [⟨some 16, .op (.mov), [.t 6], none⟩,
  ⟨some 17, .op (.toInt .u64), [.t 16], none⟩,
  ⟨some 7, .op (.alloc 193 [.int .u64 0]), [], none⟩,
  ⟨none, .op (.store 1), [.t 7, .t 17], none⟩]
abbrev r147_3 : List IOp := [⟨some 18, .op (.mov), [.t 6], none⟩,
  ⟨some 19, .call none, [.f 166, .t 18], none⟩,
  ⟨some 8, .op (.mov), [.t 19], none⟩]
abbrev r147_4 : List IOp := [⟨some 20, .op (.mov), [.t 1], none⟩,
  ⟨some 21, .op (.mov), [.t 6], none⟩,
  ⟨some 22, .op (.bin .quo .prim), [.t 21, .c (.int .i64 4)], none⟩,
  ⟨some 23, .op (.bin .mul .prim), [.t 22, .c (.int .i64 2)], none⟩,
  ⟨some 24, .op (.bin .add .prim), [.t 20, .t 23], none⟩,
  ⟨some 25, .op (.bin .sub .prim), [.t 24, .c (.int .i64 1)], none⟩,
  ⟨some 9, .op (.mov), [.t 25], none⟩]
abbrev r147_5 : List IOp := [⟨some 26, .op (.mov), [.t 9], none⟩,
  ⟨some 27, .op (.mov), [.t 1], none⟩,
  ⟨some 28, .op (.mov), [.t 6], none⟩,
  ⟨some 29, .op (.bin .quo .prim), [.t 28, .c (.int .i64 4)], none⟩,
  ⟨some 30, .op (.bin .mul .prim), [.t 29, .c (.int .i64 2)], none⟩,
  ⟨some 31, .op (.bin .add .prim), [.t 27, .t 30], none⟩,
  ⟨some 32, .op (.bin .add .prim), [.t 31, .c (.int .i64 1)], none⟩,
  ⟨some 33, .op (.bin .leq .prim), [.t 26, .t 32], none⟩]
abbrev r147_6 : List IOp := [⟨some 36, .call none, [.f 167, .t 7], none⟩,
  ⟨some 37, .op (.mov), [.t 8], none⟩,
  ⟨some 38, .op (.bin .sub .prim), [.t 37, .c (.int .u64 1)], none⟩,
  ⟨some 39, .op (.bin .and .prim), [.t 36, .t 38], none⟩,
  ⟨some 40, .op (.toInt .i64), [.t 39], none⟩,
  ⟨some 10, .op (.mov), [.t 40], none⟩]
abbrev r147_7 : List IOp := [⟨some 41, .op (.mov), [.t 10], none⟩,
  ⟨some 42, .op (.mov), [.t 6], none⟩,
  ⟨some 43, .op (.bin .geq .prim), [.t 41, .t 42], none⟩]
abbrev r147_8 : List IOp := [⟨some 44, .op (.mov), [.t 10], none⟩,
  ⟨some 45, .op (.mov), [.t 6], none⟩,
  ⟨some 46, .op (.bin .sub .prim), [.t 44, .t 45], none⟩,
  ⟨some 10, .op (.mov), [.t 46], none⟩]
abbrev r147_9 : List IOp := [⟨some 47, .op (.mov), [.t 0], none⟩,
  ⟨some 48, .op (.mov), [.t 9], none⟩,
  ⟨some 49, .op (.mov), [.t 0], none⟩,
  ⟨some 50, .op (.mov), [.t 1], none⟩,
  ⟨some 51, .op (.mov), [.t 10], none⟩,
  ⟨some 52, .op (.bin .add .prim), [.t 50, .t 51], none⟩,
  ⟨some 53, .op (.mov), [.t 0], none⟩,
  ⟨some 54, .op (.mov), [.t 1], none⟩,
  ⟨some 55, .op (.mov), [.t 10], none⟩,
  ⟨some 56, .op (.bin .add .prim), [.t 54, .t 55], none⟩,
  ⟨some 57, .op (.iaddr 1), [.t 53, .t 56], none⟩,
  ⟨some 58, .op (.load none), [.t 57], none⟩,
  ⟨some 59, .op (.mov), [.t 0], none⟩,
  ⟨some 60, .op (.mov), [.t 9], none⟩,
  ⟨some 61, .op (.iaddr 1), [.t 59, .t 60], none⟩,
  ⟨some 62, .op (.load none), [.t 61], none⟩,
  ⟨some 63, .op (.iaddr 1), [.t 47, .t 48], none⟩,
  ⟨none, .op (.store 1), [.t 63, .t 58], none⟩,
  ⟨some 64, .op (.iaddr 1), [.t 49, .t 52], none⟩,
  ⟨none, .op (.store 1), [.t 64, .t 62], none⟩]
abbrev r147_10 : List IOp := [⟨some 34, .op (.mov), [.t 9], none⟩,
  ⟨some 35, .op (.bin .add .prim), [.t 34, .c (.int .i64 1)], none⟩,
  ⟨some 9, .op (.mov), [.t 35], none⟩]
abbrev b147_0 : IC := (IC.seq (IC.seq (IC.reg r147_5) (IC.cond (.t 33) IC.skip (IC.exit 0))) (IC.seq (IC.block 1 (IC.seq (IC.reg r147_6) (IC.seq (IC.seq (IC.reg r147_7) (IC.cond (.t 43) (IC.reg r147_8) IC.skip)) (IC.regD .wild r147_9 (.take 0 (.take 1 (.take 2 (.take 3 (.take 4 (.take 5 (.take 6 (.take 7 (.take 8 (.take 9 (.take 10 (.take 11 (.take 12 (.take 13 (.take 14 (.take 15 (.take 16 (.take 17 (.take 18 (.take 19 (.done))))))))))))))))))))))))) (IC.reg r147_10)))
abbrev c147 : IC := (IC.seq (IC.reg r147_0) (IC.seq (IC.reg r147_1) (IC.cond (.t 15) (IC.seq (IC.reg r147_2) (IC.seq (IC.reg r147_3) (IC.seq (IC.reg r147_4) (IC.block 0 (IC.loop b147_0))))) IC.skip)))
abbrev g147 : FC := ⟨c147, 65, []⟩
theorem comp147 : compF Go.Proofs.Try.prog (hintL [(10, 6)]) 147 = some g147 := by kernel_rfl

-- slices.choosePivotOrdered[byte]
abbrev r148_0 : List IOp := [⟨some 6, .op (.mov), [.c (.int .i64 0)], none⟩,
  ⟨some 7, .op (.mov), [.c (.int .i64 0)], none⟩]
abbrev r148_1 : List IOp := [⟨some 13, .op (.mov), [.t 2], none⟩,
  ⟨some 14, .op (.mov), [.t 1], none⟩,
  ⟨some 15, .op (.bin .sub .prim), [.t 13, .t 14], none⟩,
  ⟨some 8, .op (.mov), [.t 15], none⟩]
abbrev r148_2 : List IOp := [⟨some 9, .op (.alloc 3 [.int .i64 0]), [], none⟩]
abbrev r148_3 : List IOp := [⟨some 16, .op (.mov), [.t 1], none⟩,
  ⟨some 17, .op (.mov), [.t 8], none⟩,
  ⟨some 18, .op (.bin .quo .prim), [.t 17, .c (.int .i64 4)], none⟩,
  ⟨some 19, .op (.bin .mul .prim), [.t 18, .c (.int .i64 1)], none⟩,
  ⟨some 20, .op (.bin .add .prim), [.t 16, .t 19], none⟩,
  ⟨some 10, .op (.mov), [.t 20], none⟩]
abbrev r148_4 : List IOp := [⟨some 21, .op (.mov), [.t 1], none⟩,
  ⟨some 22, .op (.mov), [.t 8], none⟩,
  ⟨some 23, .op (.bin .quo .prim), [.t 22, .c (.int .i64 4)], none⟩,
  ⟨some 24, .op (.bin .mul .prim), [.t 23, .c (.int .i64 2)], none⟩,
  ⟨some 25, .op (.bin .add .prim), [.t 21, .t 24], none⟩,
  ⟨some 11, .op (.mov), [.t 25], none⟩]
abbrev r148_5 : List IOp := [⟨some 26, .op (.mov), [.t 1], none⟩,
  ⟨some 27, .op (.mov), [.t 8], none⟩,
  ⟨some 28, .op (.bin .quo .prim), [.t 27, .c (.int .i64 4)], none⟩,
  ⟨some 29, .op (.bin .mul .prim), [.t 28, .c (.int .i64 3)], none⟩,
  ⟨some 30, .op (.bin .add .prim), [.t 26, .t 29], none⟩,
  ⟨some 12, .op (.mov), [.t 30], none⟩]
abbrev r148_6 : List IOp := [⟨some 31, .op (.mov), [.t 8], none⟩,
  ⟨some 32, .op (.bin .geq .prim), [.t 31, .c (.int .i64 8)], none⟩]
abbrev r148_7 : List IOp := [⟨some 33, .op (.mov), [.t 8], none⟩,
  ⟨some 34, .op (.bin .geq .prim), [.t 33, .c (.int .i64 50)], none⟩]
abbrev r148_8 : List IOp := [⟨some 35, .op (.mov), [.t 0], none⟩,
  ⟨some 36, .op (.mov), [.t 10], none⟩,
  ⟨some 37, .call none, [.f 168, .t 35, .t 36, .t 9], none⟩,
  ⟨some 10, .op (.mov), [.t 37], none⟩]
abbrev r148_9 : List IOp := [⟨some 38, .op (.mov), [.t 0], none⟩,
  ⟨some 39, .op (.mov), [.t 11], none⟩,
  ⟨some 40, .call none, [.f 168, .t 38, .t 39, .t 9], none⟩,
  ⟨some 11, .op (.mov), [.t 40], none⟩]
abbrev r148_10 : List IOp := [⟨some 41, .op (.mov), [.t 0], none⟩,
  ⟨some 42, .op (.mov), [.t 12], none⟩,
  ⟨some 43, .call none, [.f 168, .t 41, .t 42, .t 9], none⟩,
  ⟨some 12, .op (.mov), [.t 43], none⟩]
abbrev r148_11 : List IOp := [⟨some 44, .op (.mov), [.t 0], none⟩,
  ⟨some 45, .op (.mov), [.t 10], none⟩,
  ⟨some 46, .op (.mov), [.t 11], none⟩,
  ⟨some 47, .op (.mov), [.t 12], none⟩,
  ⟨some 48, .call none, [.f 169, .t 44, .t 45, .t 46, .t 47, .t 9], none⟩,
  ⟨some 11, .op (.mov), [.t 48], none⟩]
abbrev r148_12 : List IOp := [⟨some 49, .op (.load none), [.t 9], none⟩]
abbrev r148_13 : List IOp := [⟨some 52, .op (.bin .eql .prim), [.t 49, .c (.int .i64 0)], none⟩,
  ⟨some 51, .op (.mov), [.t 52], none⟩]
abbrev r148_14 : List IOp := [⟨some 53, .op (.mov), [.t 11], none⟩,
  ⟨some 6, .op (.mov), [.t 53], none⟩,
  ⟨some 7, .op (.mov), [.c (.int .i64 1)], none⟩]
abbrev r148_15 : List IOp := [⟨some 55, .op (.bin .eql .prim), [.t 49, .c (.int .i64 12)], none⟩,
  ⟨some 54, .op (.mov), [.t 55], none⟩]
abbrev r148_16 : List IOp := [⟨some 56, .op (.mov), [.t 11], none⟩,
  ⟨some 6, .op (.mov), [.t 56], none⟩,
  ⟨some 7, .op (.mov), [.c (.int .i64 2)], none⟩]
abbrev r148_17 : List IOp := [⟨some 50, .op (.mov), [.t 11], none⟩,
  ⟨some 6, .op (.mov), [.t 50], none⟩,
  ⟨some 7, .op (.mov), [.c (.int .i64 0)], none⟩]
abbrev c148 : IC := (IC.seq (IC.reg r148_0) (IC.seq (IC.reg r148_1) (IC.seq (IC.reg r148_2) (IC.seq (IC.reg r148_3) (IC.seq (IC.reg r148_4) (IC.seq (IC.reg r148_5) (IC.seq (IC.seq (IC.reg r148_6) (IC.cond (.t 32) (IC.seq (IC.seq (IC.reg r148_7) (IC.cond (.t 34) (IC.seq (IC.reg r148_8) (IC.seq (IC.reg r148_9) (IC.reg r148_10))) IC.skip)) (IC.reg r148_11)) IC.skip)) (IC.seq (IC.reg r148_12) (IC.block 0 (IC.seq (IC.reg r148_13) (IC.cond (.t 51) (IC.seq (IC.reg r148_14) IC.ret) (IC.seq (IC.reg r148_15) (IC.cond (.t 54) (IC.seq (IC.reg r148_16) IC.ret) (IC.seq (IC.reg r148_17) IC.ret))))))))))))))
abbrev g148 : FC := ⟨c148, 57, [.t 6, .t 7]⟩
theorem comp148 : compF Go.Proofs.Try.prog (fun _ => 0) 148 = some g148 := by kernel_rfl

-- slices.reverseRangeOrdered[byte]
abbrev r149_0 : List IOp := [⟨some 8, .op (.mov), [.t 1], none⟩,
  ⟨some 6, .op (.mov), [.t 8], none⟩]
abbrev r149_1 : List IOp := [⟨some 9, .op (.mov), [.t 2], none⟩,
  ⟨some 10, .op (.bin .sub .prim), [.t 9, .c (.int .i64 1)], none⟩,
  ⟨some 7, .op (.mov), [.t 10], none⟩]
abbrev r149_2 : List IOp := [⟨some 11, .op (.mov), [.t 6], none⟩,
  ⟨some 12, .op (.mov), [.t 7], none⟩,
  ⟨some 13, .op (.bin .lss .prim), [.t 11, .t 12], none⟩]
abbrev r149_3 : List IOp := [⟨some 14, .op (.mov), [.t 0], none⟩,
  ⟨some 15, .op (.mov), [.t 6], none⟩,
  ⟨some 16, .op (.mov), [.t 0], none⟩,
  ⟨some 17, .op (.mov), [.t 7], none⟩,
  ⟨some 18, .op (.mov), [.t 0], none⟩,
  ⟨some 19, .op (.mov), [.t 7], none⟩,
  ⟨some 20, .op (.iaddr 1), [.t 18, .t 19], none⟩,
  ⟨some 21, .op (.load none), [.t 20], none⟩,
  ⟨some 22, .op (.mov), [.t 0], none⟩,
  ⟨some 23, .op (.mov), [.t 6], none⟩,
  ⟨some 24, .op (.iaddr 1), [.t 22, .t 23], none⟩,
  ⟨some 25, .op (.load none), [.t 24], none⟩,
  ⟨some 26, .op (.iaddr 1), [.t 14, .t 15], none⟩,
  ⟨none, .op (.store 1), [.t 26, .t 21], none⟩,
  ⟨some 27, .op (.iaddr 1), [.t 16, .t 17], none⟩,
  ⟨none, .op (.store 1), [.t 27, .t 25], none⟩]
abbrev r149_4 : List IOp := [⟨some 28, .op (.mov), [.t 6], none⟩,
  ⟨some 29, .op (.bin .add .prim), [.t 28, .c (.int .i64 1)], none⟩,
  ⟨some 6, .op (.mov), [.t 29], none⟩]
abbrev r149_5 : List IOp := [⟨some 30, .op (.mov), [.t 7], none⟩,
  ⟨some 31, .op (.bin .sub .prim), [.t 30, .c (.int .i64 1)], none⟩,
  ⟨some 7, .op (.mov), [.t 31], none⟩]
abbrev b149_0 : IC := (IC.seq (IC.seq (IC.reg r149_2) (IC.cond (.t 13) IC.skip (IC.exit 0))) (IC.block 1 (IC.seq (IC.regD .wild r149_3 (.take 0 (.take 1 (.take 2 (.take 3 (.take 4 (.take 5 (.take 6 (.take 7 (.take 8 (.take 9 (.take 10 (.take 11 (.take 12 (.take 13 (.take 14 (.take 15 (.done)))))))))))))))))) (IC.seq (IC.reg r149_4) (IC.reg r149_5)))))
abbrev c149 : IC := (IC.seq (IC.reg r149_0) (IC.seq (IC.reg r149_1) (IC.block 0 (IC.loop b149_0))))
abbrev g149 : FC := ⟨c149, 32, []⟩
theorem comp149 : compF Go.Proofs.Try.prog (hintL [(3, 6)]) 149 = some g149 := by kernel_rfl

-- slices.partialInsertionSortOrdered[byte]
abbrev r150_0 : List IOp := [⟨some 6, .op (.mov), [.c (.bool false)], none⟩]
abbrev r150_1 : List IOp := [⟨some 11, .op (.mov), [.t 1], none⟩,
  ⟨some 12, .op (.bin .add .prim), [.t 11, .c (.int .i64 1)], none⟩,
  ⟨some 7, .op (.mov), [.t 12], none⟩]
abbrev r150_2 : List IOp := [⟨some 8, .op (.mov), [.c (.int .i64 0)], none⟩]
abbrev r150_3 : List IOp := [⟨some 13, .op (.mov), [.t 8], none⟩,
  ⟨some 14, .op (.bin .lss .prim), [.t 13, .c (.int .i64 5)], none⟩]
abbrev r150_4 : List IOp := [⟨some 17, .op (.mov), [.t 7], none⟩,
  ⟨some 18, .op (.mov), [.t 2], none⟩,
  ⟨some 19, .op (.bin .lss .prim), [.t 17, .t 18], none⟩,
  ⟨some 20, .op (.mov), [.t 19], none⟩,
  ⟨some 21, .op (.mov), [.t 0], some (20, true)⟩,
  ⟨some 22, .op (.mov), [.t 7], some (20, true)⟩,
  ⟨some 23, .op (.iaddr 1), [.t 21, .t 22], some (20, true)⟩,
  ⟨some 24, .op (.load none), [.t 23], some (20, true)⟩,
  ⟨some 25, .op (.mov), [.t 0], some (20, true)⟩,
  ⟨some 26, .op (.mov), [.t 7], some (20, true)⟩,
  ⟨some 27, .op (.bin .sub .prim), [.t 26, .c (.int .i64 1)], some (20, true)⟩,
  ⟨some 28, .op (.iaddr 1), [.t 25, .t 27], some (20, true)⟩,
  ⟨some 29, .op (.load none), [.t 28], some (20, true)⟩,
  ⟨some 30, .call none, [.f 135, .t 24, .t 29], some (20, true)⟩,
  ⟨some 31, .op (.un .not), [.t 30], some (20, true)⟩,
  ⟨some 32, .op (.pick), [.t 20, .t 31, .c (.bool false)], none⟩]
abbrev r150_5 : List IOp := [⟨some 33, .op (.mov), [.t 7], none⟩,
  ⟨some 34, .op (.bin .add .prim), [.t 33, .c (.int .i64 1)], none⟩,
  ⟨some 7, .op (.mov), [.t 34], none⟩]
abbrev b150_0 : IC := (IC.seq (IC.seq (IC.regD .wild r150_4 (.take 0 (.take 1 (.take 2 (.take 3 (.take 4 (.take 5 (.take 6 (.take 7 (.take 8 (.take 9 (.take 10 (.take 11 (.take 12 (.take 13 (.take 14 (.take 15 (.done)))))))))))))))))) (IC.cond (.t 32) IC.skip (IC.exit 2))) (IC.block 3 (IC.reg r150_5)))
abbrev r150_6 : List IOp := [⟨some 35, .op (.mov), [.t 7], none⟩,
  ⟨some 36, .op (.mov), [.t 2], none⟩,
  ⟨some 37, .op (.bin .eql .prim), [.t 35, .t 36], none⟩]
abbrev r150_7 : List IOp := [⟨some 6, .op (.mov), [.c (.bool true)], none⟩]
abbrev r150_8 : List IOp := [⟨some 38, .op (.mov), [.t 2], none⟩,
  ⟨some 39, .op (.mov), [.t 1], none⟩,
  ⟨some 40, .op (.bin .sub .prim), [.t 38, .t 39], none⟩,
  ⟨some 41, .op (.bin .lss .prim), [.t 40, .c (.int .i64 50)], none⟩]
abbrev r150_9 : List IOp := [⟨some 6, .op (.mov), [.c (.bool false)], none⟩]
abbrev r150_10 : List IOp := [⟨some 42, .op (.mov), [.t 0], none⟩,
  ⟨some 43, .op (.mov), [.t 7], none⟩,
  ⟨some 44, .op (.mov), [.t 0], none⟩,
  ⟨some 45, .op (.mov), [.t 7], none⟩,
  ⟨some 46, .op (.bin .sub .prim), [.t 45, .c (.int .i64 1)], none⟩,
  ⟨some 47, .op (.mov), [.t 0], none⟩,
  ⟨some 48, .op (.mov), [.t 7], none⟩,
  ⟨some 49, .op (.bin .sub .prim), [.t 48, .c (.int .i64 1)], none⟩,
  ⟨some 50, .op (.iaddr 1), [.t 47, .t 49], none⟩,
  ⟨some 51, .op (.load none), [.t 50], none⟩,
  ⟨some 52, .op (.mov), [.t 0], none⟩,
  ⟨some 53, .op (.mov), [.t 7], none⟩,
  ⟨some 54, .op (.iaddr 1), [.t 52, .t 53], none⟩,
  ⟨some 55, .op (.load none), [.t 54], none⟩,
  ⟨some 56, .op (.iaddr 1), [.t 42, .t 43], none⟩,
  ⟨none, .op (.store 1), [.t 56, .t 51], none⟩,
  ⟨some 57, .op (.iaddr 1), [.t 44, .t 46], none⟩,
  ⟨none, .op (.store 1), [.t 57, .t 55], none⟩]
abbrev r150_11 : List IOp := [⟨some 58, .op (.mov), [.t 7], none⟩,
  ⟨some 59, .op (.mov), [.t 1], none⟩,
  ⟨some 60, .op (.bin .sub .prim), [.t 58, .t 59], none⟩,
  ⟨some 61, .op (.bin .geq .prim), [.t 60, .c (.int .i64 2)], none⟩]
abbrev r150_12 : List IOp := [⟨some 62, .op (.mov), [.t 7], none⟩,
  ⟨some 63, .op (.bin .sub .prim), [.t 62, .c (.int .i64 1)], none⟩,
  ⟨some 9, .op (.mov), [.t 63], none⟩]
abbrev r150_13 : List IOp := [⟨some 64, .op (.mov), [.t 9], none⟩,
  ⟨some 65, .op (.bin .geq .prim), [.t 64, .c (.int .i64 1)], none⟩]
abbrev r150_14 : List IOp := [⟨some 68, .op (.mov), [.t 0], none⟩,
  ⟨some 69, .op (.mov), [.t 9], none⟩,
  ⟨some 70, .op (.iaddr 1), [.t 68, .t 69], none⟩,
  ⟨some 71, .op (.load none), [.t 70], none⟩,
  ⟨some 72, .op (.mov), [.t 0], none⟩,
  ⟨some 73, .op (.mov), [.t 9], none⟩,
  ⟨some 74, .op (.bin .sub .prim), [.t 73, .c (.int .i64 1)], none⟩,
  ⟨some 75, .op (.iaddr 1), [.t 72, .t 74], none⟩,
  ⟨some 76, .op (.load none), [.t 75], none⟩,
  ⟨some 77, .call none, [.f 135, .t 71, .t 76], none⟩,
  ⟨some 78, .op (.un .not), [.t 77], none⟩]
abbrev r150_15 : List IOp := [⟨some 79, .op (.mov), [.t 0], none⟩,
  ⟨some 80, .op (.mov), [.t 9], none⟩,
  ⟨some 81, .op (.mov), [.t 0], none⟩,
  ⟨some 82, .op (.mov), [.t 9], none⟩,
  ⟨some 83, .op (.bin .sub .prim), [.t 82, .c (.int .i64 1)], none⟩,
  ⟨some 84, .op (.mov), [.t 0], none⟩,
  ⟨some 85, .op (.mov), [.t 9], none⟩,
  ⟨some 86, .op (.bin .sub .prim), [.t 85, .c (.int .i64 1)], none⟩,
  ⟨some 87, .op (.iaddr 1), [.t 84, .t 86], none⟩,
  ⟨some 88, .op (.load none), [.t 87], none⟩,
  ⟨some 89, .op (.mov), [.t 0], none⟩,
  ⟨some 90, .op (.mov), [.t 9], none⟩,
  ⟨some 91, .op (.iaddr 1), [.t 89, .t 90], none⟩,
  ⟨some 92, .op (.load none), [.t 91], none⟩,
  ⟨some 93, .op (.iaddr 1), [.t 79, .t 80], none⟩,
  ⟨none, .op (.store 1), [.t 93, .t 88], none⟩,
  ⟨some 94, .op (.iaddr 1), [.t 81, .t 83], none⟩,
  ⟨none, .op (.store 1), [.t 94, .t 92], none⟩]
abbrev r150_16 : List IOp := [⟨some 66, .op (.mov), [.t 9], none⟩,
  ⟨some 67, .op (.bin .sub .prim), [.t 66, .c (.int .i64 1)], none⟩,
  ⟨some 9, .op (.mov), [.t 67], none⟩]
abbrev b150_1 : IC := (IC.seq (IC.seq (IC.reg r150_13) (IC.cond (.t 65) IC.skip (IC.exit 4))) (IC.seq (IC.block 5 (IC.seq (IC.seq (IC.regD .wild r150_14 (.take 0 (.take 1 (.take 2 (.take 3 (.take 4 (.take 5 (.take 6 (.take 7 (.take 8 (.take 9 (.take 10 (.done))))))))))))) (IC.cond (.t 78) (IC.exit 4) IC.skip)) (IC.regD .wild r150_15 (.take 0 (.take 1 (.take 2 (.take 3 (.take 4 (.take 5 (.take 6 (.take 7 (.take 8 (.take 9 (.take 10 (.take 11 (.take 12 (.take 13 (.take 14 (.take 15 (.take 16 (.take 17 (.done)))))))))))))))))))))) (IC.reg r150_16)))
abbrev r150_17 : List IOp := [⟨some 95, .op (.mov), [.t 2], none⟩,
  ⟨some 96, .op (.mov), [.t 7], none⟩,
  ⟨some 97, .op (.bin .sub .prim), [.t 95, .t 96], none⟩,
  ⟨some 98, .op (.bin .geq .prim), [.t 97, .c (.int .i64 2)], none⟩]
abbrev r150_18 : List IOp := [⟨some 99, .op (.mov), [.t 7], none⟩,
  ⟨some 100, .op (.bin .add .prim), [.t 99, .c (.int .i64 1)], none⟩,
  ⟨some 10, .op (.mov), [.t 100], none⟩]
abbrev r150_19 : List IOp := [⟨some 101, .op (.mov), [.t 10], none⟩,
  ⟨some 102, .op (.mov), [.t 2], none⟩,
  ⟨some 103, .op (.bin .lss .prim), [.t 101, .t 102], none⟩]
abbrev r150_20 : List IOp := [⟨some 106, .op (.mov), [.t 0], none⟩,
  ⟨some 107, .op (.mov), [.t 10], none⟩,
  ⟨some 108, .op (.iaddr 1), [.t 106, .t 107], none⟩,
  ⟨some 109, .op (.load none), [.t 108], none⟩,
  ⟨some 110, .op (.mov), [.t 0], none⟩,
  ⟨some 111, .op (.mov), [.t 10], none⟩,
  ⟨some 112, .op (.bin .sub .prim), [.t 111, .c (.int .i64 1)], none⟩,
  ⟨some 113, .op (.iaddr 1), [.t 110, .t 112], none⟩,
  ⟨some 114, .op (.load none), [.t 113], none⟩,
  ⟨some 115, .call none, [.f 135, .t 109, .t 114], none⟩,
  ⟨some 116, .op (.un .not), [.t 115], none⟩]
abbrev r150_21 : List IOp := [⟨some 117, .op (.mov), [.t 0], none⟩,
  ⟨some 118, .op (.mov), [.t 10], none⟩,
  ⟨some 119, .op (.mov), [.t 0], none⟩,
  ⟨some 120, .op (.mov), [.t 10], none⟩,
  ⟨some 121, .op (.bin .sub .prim), [.t 120, .c (.int .i64 1)], none⟩,
  ⟨some 122, .op (.mov), [.t 0], none⟩,
  ⟨some 123, .op (.mov), [.t 10], none⟩,
  ⟨some 124, .op (.bin .sub .prim), [.t 123, .c (.int .i64 1)], none⟩,
  ⟨some 125, .op (.iaddr 1), [.t 122, .t 124], none⟩,
  ⟨some 126, .op (.load none), [.t 125], none⟩,
  ⟨some 127, .op (.mov), [.t 0], none⟩,
  ⟨some 128, .op (.mov), [.t 10], none⟩,
  ⟨some 129, .op (.iaddr 1), [.t 127, .t 128], none⟩,
  ⟨some 130, .op (.load none), [.t 129], none⟩,
  ⟨some 131, .op (.iaddr 1), [.t 117, .t 118], none⟩,
  ⟨none, .op (.store 1), [.t 131, .t 126], none⟩,
  ⟨some 132, .op (.iaddr 1), [.t 119, .t 121], none⟩,
  ⟨none, .op (.store 1), [.t 132, .t 130], none⟩]
abbrev r150_22 : List IOp := [⟨some 104, .op (.mov), [.t 10], none⟩,
  ⟨some 105, .op (.bin .add .prim), [.t 104, .c (.int .i64 1)], none⟩,
  ⟨some 10, .op (.mov), [.t 105], none⟩]
abbrev b150_2 : IC := (IC.seq (IC.seq (IC.reg r150_19) (IC.cond (.t 103) IC.skip (IC.exit 6))) (IC.seq (IC.block 7 (IC.seq (IC.seq (IC.regD .wild r150_20 (.take 0 (.take 1 (.take 2 (.take 3 (.take 4 (.take 5 (.take 6 (.take 7 (.take 8 (.take 9 (.take 10 (.done))))))))))))) (IC.cond (.t 116) (IC.exit 6) IC.skip)) (IC.regD .wild r150_21 (.take 0 (.take 1 (.take 2 (.take 3 (.take 4 (.take 5 (.take 6 (.take 7 (.take 8 (.take 9 (.take 10 (.take 11 (.take 12 (.take 13 (.take 14 (.take 15 (.take 16 (.take 17 (.done)))))))))))))))))))))) (IC.reg r150_22)))
abbrev r150_23 : List IOp := [⟨some 15, .op (.mov), [.t 8], none⟩,
  ⟨some 16, .op (.bin .add .prim), [.t 15, .c (.int .i64 1)], none⟩,
  ⟨some 8, .op (.mov), [.t 16], none⟩]
abbrev b150_3 : IC := (IC.seq (IC.seq (IC.reg r150_3) (IC.cond (.t 14) IC.skip (IC.exit 0))) (IC.seq (IC.block 1 (IC.seq (IC.block 2 (IC.loop b150_0)) (IC.seq (IC.seq (IC.reg r150_6) (IC.cond (.t 37) (IC.seq (IC.reg r150_7) IC.ret) IC.skip)) (IC.seq (IC.seq (IC.reg r150_8) (IC.cond (.t 41) (IC.seq (IC.reg r150_9) IC.ret) IC.skip)) (IC.seq (IC.regD .wild r150_10 (.take 0 (.take 1 (.take 2 (.take 3 (.take 4 (.take 5 (.take 6 (.take 7 (.take 8 (.take 9 (.take 10 (.take 11 (.take 12 (.take 13 (.take 14 (.take 15 (.take 16 (.take 17 (.done)))))))))))))))))))) (IC.seq (IC.seq (IC.reg r150_11) (IC.cond (.t 61) (IC.seq (IC.reg r150_12) (IC.block 4 (IC.loop b150_1))) IC.skip)) (IC.seq (IC.reg r150_17) (IC.cond (.t 98) (IC.seq (IC.reg r150_18) (IC.block 6 (IC.loop b150_2))) IC.skip)))))))) (IC.reg r150_23)))
abbrev r150_24 : List IOp := [⟨some 6, .op (.mov), [.c (.bool false)], none⟩]
abbrev c150 : IC := (IC.seq (IC.reg r150_0) (IC.seq (IC.reg r150_1) (IC.seq (IC.seq (IC.reg r150_2) (IC.block 0 (IC.loop b150_3))) (IC.seq (IC.reg r150_24) IC.ret))))
abbrev g150 : FC := ⟨c150, 133, [.t 6]⟩
theorem comp150 : compF Go.Proofs.Try.prog (hintL [(5, 6), (11, 6), (16, 6), (17, 6), (22, 6), (23, 6)]) 150 = some g150 := by kernel_rfl

-- slices.partitionEqualOrdered[byte]
abbrev r151_0 : List IOp := [⟨some 8, .op (.mov), [.c (.int .i64 0)], none⟩]
abbrev r151_1 : List IOp := [⟨some 11, .op (.mov), [.t 0], none⟩,
  ⟨some 12, .op (.mov), [.t 1], none⟩,
  ⟨some 13, .op (.mov), [.t 0], none⟩,
  ⟨some 14, .op (.mov), [.t 3], none⟩,
  ⟨some 15, .op (.mov), [.t 0], none⟩,
  ⟨some 16, .op (.mov), [.t 3], none⟩,
  ⟨some 17, .op (.iaddr 1), [.t 15, .t 16], none⟩,
  ⟨some 18, .op (.load none), [.t 17], none⟩,
  ⟨some 19, .op (.mov), [.t 0], none⟩,
  ⟨some 20, .op (.mov), [.t 1], none⟩,
  ⟨some 21, .op (.iaddr 1), [.t 19, .t 20], none⟩,
  ⟨some 22, .op (.load none), [.t 21], none⟩,
  ⟨some 23, .op (.iaddr 1), [.t 11, .t 12], none⟩,
  ⟨none, .op (.store 1), [.t 23, .t 18], none⟩,
  ⟨some 24, .op (.iaddr 1), [.t 13, .t 14], none⟩,
  ⟨none, .op (.store 1), [.t 24, .t 22], none⟩]
abbrev r151_2 : List IOp := [⟨some 25, .op (.mov), [.t 1], none⟩,
  ⟨some 26, .op (.bin .add .prim), [.t 25, .c (.int .i64 1)], none⟩,
  ⟨some 27, .op (.mov), [.t 2], none⟩,
  ⟨some 28, .op (.bin .sub .prim), [.t 27, .c (.int .i64 1)], none⟩,
  ⟨some 9, .op (.mov), [.t 26], none⟩,
  ⟨some 10, .op (.mov), [.t 28], none⟩]
abbrev r151_3 : List IOp := [⟨some 29, .op (.mov), [.t 9], none⟩,
  ⟨some 30, .op (.mov), [.t 10], none⟩,
  ⟨some 31, .op (.bin .leq .prim), [.t 29, .t 30], none⟩,
  ⟨some 32, .op (.mov), [.t 31], none⟩,
  ⟨some 33, .op (.mov), [.t 0], some (32, true)⟩,
  ⟨some 34, .op (.mov), [.t 1], some (32, true)⟩,
  ⟨some 35, .op (.iaddr 1), [.t 33, .t 34], some (32, true)⟩,
  ⟨some 36, .op (.load none), [.t 35], some (32, true)⟩,
  ⟨some 37, .op (.mov), [.t 0], some (32, true)⟩,
  ⟨some 38, .op (.mov), [.t 9], some (32, true)⟩,
  ⟨some 39, .op (.iaddr 1), [.t 37, .t 38], some (32, true)⟩,
  ⟨some 40, .op (.load none), [.t 39], some (32, true)⟩,
  ⟨some 41, .call none, [.f 135, .t 36, .t 40], some (32, true)⟩,
  ⟨some 42, .op (.un .not), [.t 41], some (32, true)⟩,
  ⟨some 43, .op (.pick), [.t 32, .t 42, .c (.bool false)], none⟩]
abbrev r151_4 : List IOp := [⟨some 44, .op (.mov), [.t 9], none⟩,
  ⟨some 45, .op (.bin .add .prim), [.t 44, .c (.int .i64 1)], none⟩,
  ⟨some 9, .op (.mov), [.t 45], none⟩]
abbrev b151_0 : IC := (IC.seq (IC.seq (IC.regD .wild r151_3 (.take 0 (.take 1 (.take 2 (.take 3 (.take 4 (.take 5 (.take 6 (.take 7 (.take 8 (.take 9 (.take 10 (.take 11 (.take 12 (.take 13 (.take 14 (.done))))))))))))))))) (IC.cond (.t 43) IC.skip (IC.exit 2))) (IC.block 3 (IC.reg r151_4)))
abbrev r151_5 : List IOp := [⟨some 46, .op (.mov), [.t 9], none⟩,
  ⟨some 47, .op (.mov), [.t 10], none⟩,
  ⟨some 48, .op (.bin .leq .prim), [.t 46, .t 47], none⟩,
  ⟨some 49, .op (.mov), [.t 48], none⟩,
  ⟨some 50, .op (.mov), [.t 0], some (49, true)⟩,
  ⟨some 51, .op (.mov), [.t 1], some (49, true)⟩,
  ⟨some 52, .op (.iaddr 1), [.t 50, .t 51], some (49, true)⟩,
  ⟨some 53, .op (.load none), [.t 52], some (49, true)⟩,
  ⟨some 54, .op (.mov), [.t 0], some (49, true)⟩,
  ⟨some 55, .op (.mov), [.t 10], some (49, true)⟩,
  ⟨some 56, .op (.iaddr 1), [.t 54, .t 55], some (49, true)⟩,
  ⟨some 57, .op (.load none), [.t 56], some (49, true)⟩,
  ⟨some 58, .call none, [.f 135, .t 53, .t 57], some (49, true)⟩,
  ⟨some 59, .op (.pick), [.t 49, .t 58, .c (.bool false)], none⟩]
abbrev r151_6 : List IOp := [⟨some 60, .op (.mov), [.t 10], none⟩,
  ⟨some 61, .op (.bin .sub .prim), [.t 60, .c (.int .i64 1)], none⟩,
  ⟨some 10, .op (.mov), [.t 61], none⟩]
abbrev b151_1 : IC := (IC.seq (IC.seq (IC.regD .wild r151_5 (.take 0 (.take 1 (.take 2 (.take 3 (.take 4 (.take 5 (.take 6 (.take 7 (.take 8 (.take 9 (.take 10 (.take 11 (.take 12 (.take 13 (.done)))))))))))))))) (IC.cond (.t 59) IC.skip (IC.exit 4))) (IC.block 5 (IC.reg r151_6)))
abbrev r151_7 : List IOp := [⟨some 62, .op (.mov), [.t 9], none⟩,
  ⟨some 63, .op (.mov), [.t 10], none⟩,
  ⟨some 64, .op (.bin .gtr .prim), [.t 62, .t 63], none⟩]
abbrev r151_8 : List IOp := [⟨some 65, .op (.mov), [.t 0], none⟩,
  ⟨some 66, .op (.mov), [.t 9], none⟩,
  ⟨some 67, .op (.mov), [.t 0], none⟩,
  ⟨some 68, .op (.mov), [.t 10], none⟩,
  ⟨some 69, .op (.mov), [.t 0], none⟩,
  ⟨some 70, .op (.mov), [.t 10], none⟩,
  ⟨some 71, .op (.iaddr 1), [.t 69, .t 70], none⟩,
  ⟨some 72, .op (.load none), [.t 71], none⟩,
  ⟨some 73, .op (.mov), [.t 0], none⟩,
  ⟨some 74, .op (.mov), [.t 9], none⟩,
  ⟨some 75, .op (.iaddr 1), [.t 73, .t 74], none⟩,
  ⟨some 76, .op (.load none), [.t 75], none⟩,
  ⟨some 77, .op (.iaddr 1), [.t 65, .t 66], none⟩,
  ⟨none, .op (.store 1), [.t 77, .t 72], none⟩,
  ⟨some 78, .op (.iaddr 1), [.t 67, .t 68], none⟩,
  ⟨none, .op (.store 1), [.t 78, .t 76], none⟩]
abbrev r151_9 : List IOp := [⟨some 79, .op (.mov), [.t 9], none⟩,
  ⟨some 80, .op (.bin .add .prim), [.t 79, .c (.int .i64 1)], none⟩,
  ⟨some 9, .op (.mov), [.t 80], none⟩]
abbrev r151_10 : List IOp := [⟨some 81, .op (.mov), [.t 10], none⟩,
  ⟨some 82, .op (.bin .sub .prim), [.t 81, .c (.int .i64 1)], none⟩,
  ⟨some 10, .op (.mov), [.t 82], none⟩]
abbrev b151_2 : IC := (IC.block 1 (IC.seq (IC.block 2 (IC.loop b151_0)) (IC.seq (IC.block 4 (IC.loop b151_1)) (IC.seq (IC.seq (IC.reg r151_7) (IC.cond (.t 64) (IC.exit 0) IC.skip)) (IC.seq (IC.regD .wild r151_8 (.take 0 (.take 1 (.take 2 (.take 3 (.take 4 (.take 5 (.take 6 (.take 7 (.take 8 (.take 9 (.take 10 (.take 11 (.take 12 (.take 13 (.take 14 (.take 15 (.done)))))))))))))))))) (IC.seq (IC.reg r151_9) (IC.reg r151_10)))))))
abbrev r151_11 : List IOp := [⟨some 83, .op (.mov), [.t 9], none⟩,
  ⟨some 8, .op (.mov), [.t 83], none⟩]
abbrev c151 : IC := (IC.seq (IC.reg r151_0) (IC.seq (IC.regD .wild r151_1 (.take 0 (.take 1 (.take 2 (.take 3 (.take 4 (.take 5 (.take 6 (.take 7 (.take 8 (.take 9 (.take 10 (.take 11 (.take 12 (.take 13 (.take 14 (.take 15 (.done)))))))))))))))))) (IC.seq (IC.reg r151_2) (IC.seq (IC.block 0 (IC.loop b151_2)) (IC.seq (IC.reg r151_11) IC.ret)))))
abbrev g151 : FC := ⟨c151, 84, [.t 8]⟩
theorem comp151 : compF Go.Proofs.Try.prog (hintL [(1, 6), (3, 6), (5, 6), (8, 6)]) 151 = some g151 := by kernel_rfl

-- slices.partitionOrdered[byte]
abbrev r152_0 : List IOp := [⟨some 8, .op (.mov), [.c (.int .i64 0)], none⟩,
  ⟨some 9, .op (.mov), [.c (.bool false)], none⟩]
abbrev r152_1 : List IOp := [⟨some 12, .op (.mov), [.t 0], none⟩,
  ⟨some 13, .op (.mov), [.t 1], none⟩,
  ⟨some 14, .op (.mov), [.t 0], none⟩,
  ⟨some 15, .op (.mov), [.t 3], none⟩,
  ⟨some 16, .op (.mov), [.t 0], none⟩,
  ⟨some 17, .op (.mov), [.t 3], none⟩,
  ⟨some 18, .op (.iaddr 1), [.t 16, .t 17], none⟩,
  ⟨some 19, .op (.load none), [.t 18], none⟩,
  ⟨some 20, .op (.mov), [.t 0], none⟩,
  ⟨some 21, .op (.mov), [.t 1], none⟩,
  ⟨some 22, .op (.iaddr 1), [.t 20, .t 21], none⟩,
  ⟨some 23, .op (.load none), [.t 22], none⟩,
  ⟨some 24, .op (.iaddr 1), [.t 12, .t 13], none⟩,
  ⟨none, .op (.store 1), [.t 24, .t 19], none⟩,
  ⟨some 25, .op (.iaddr 1), [.t 14, .t 15], none⟩,
  ⟨none, .op (.store 1), [.t 25, .t 23], none⟩]
abbrev r152_2 : List IOp := [⟨some 26, .op (.mov), [.t 1], none⟩,
  ⟨some 27, .op (.bin .add .prim), [.t 26, .c (.int .i64 1)], none⟩,
  ⟨some 28, .op (.mov), [.t 2], none⟩,
  ⟨some 29, .op (.bin .sub .prim), [.t 28, .c (.int .i64 1)], none⟩,
  ⟨some 10, .op (.mov), [.t 27], none⟩,
  ⟨some 11, .op (.mov), [.t 29], none⟩]
abbrev r152_3 : List IOp := [⟨some 30, .op (.mov), [.t 10], none⟩,
  ⟨some 31, .op (.mov), [.t 11], none⟩,
  ⟨some 32, .op (.bin .leq .prim), [.t 30, .t 31], none⟩,
  ⟨some 33, .op (.mov), [.t 32], none⟩,
  ⟨some 34, .op (.mov), [.t 0], some (33, true)⟩,
  ⟨some 35, .op (.mov), [.t 10], some (33, true)⟩,
  ⟨some 36, .op (.iaddr 1), [.t 34, .t 35], some (33, true)⟩,
  ⟨some 37, .op (.load none), [.t 36], some (33, true)⟩,
  ⟨some 38, .op (.mov), [.t 0], some (33, true)⟩,
  ⟨some 39, .op (.mov), [.t 1], some (33, true)⟩,
  ⟨some 40, .op (.iaddr 1), [.t 38, .t 39], some (33, true)⟩,
  ⟨some 41, .op (.load none), [.t 40], some (33, true)⟩,
  ⟨some 42, .call none, [.f 135, .t 37, .t 41], some (33, true)⟩,
  ⟨some 43, .op (.pick), [.t 33, .t 42, .c (.bool false)], none⟩]
abbrev r152_4 : List IOp := [⟨some 44, .op (.mov), [.t 10], none⟩,
  ⟨some 45, .op (.bin .add .prim), [.t 44, .c (.int .i64 1)], none⟩,
  ⟨some 10, .op (.mov), [.t 45], none⟩]
abbrev b152_0 : IC := (IC.seq (IC.seq (IC.regD .wild r152_3 (.take 0 (.take 1 (.take 2 (.take 3 (.take 4 (.take 5 (.take 6 (.take 7 (.take 8 (.take 9 (.take 10 (.take 11 (.take 12 (.take 13 (.done)))))))))))))))) (IC.cond (.t 43) IC.skip (IC.exit 0))) (IC.block 1 (IC.reg r152_4)))
abbrev r152_5 : List IOp := [⟨some 46, .op (.mov), [.t 10], none⟩,
  ⟨some 47, .op (.mov), [.t 11], none⟩,
  ⟨some 48, .op (.bin .leq .prim), [.t 46, .t 47], none⟩,
  ⟨some 49, .op (.mov), [.t 48], none⟩,
  ⟨some 50, .op (.mov), [.t 0], some (49, true)⟩,
  ⟨some 51, .op (.mov), [.t 11], some (49, true)⟩,
  ⟨some 52, .op (.iaddr 1), [.t 50, .t 51], some (49, true)⟩,
  ⟨some 53, .op (.load none), [.t 52], some (49, true)⟩,
  ⟨some 54, .op (.mov), [.t 0], some (49, true)⟩,
  ⟨some 55, .op (.mov), [.t 1], some (49, true)⟩,
  ⟨some 56, .op (.iaddr 1), [.t 54, .t 55], some (49, true)⟩,
  ⟨some 57, .op (.load none), [.t 56], some (49, true)⟩,
  ⟨some 58, .call none, [.f 135, .t 53, .t 57], some (49, true)⟩,
  ⟨some 59, .op (.un .not), [.t 58], some (49, true)⟩,
  ⟨some 60, .op (.pick), [.t 49, .t 59, .c (.bool false)], none⟩]
abbrev r152_6 : List IOp := [⟨some 61, .op (.mov), [.t 11], none⟩,
  ⟨some 62, .op (.bin .sub .prim), [.t 61, .c (.int .i64 1)], none⟩,
  ⟨some 11, .op (.mov), [.t 62], none⟩]
abbrev b152_1 : IC := (IC.seq (IC.seq (IC.regD .wild r152_5 (.take 0 (.take 1 (.take 2 (.take 3 (.take 4 (.take 5 (.take 6 (.take 7 (.take 8 (.take 9 (.take 10 (.take 11 (.take 12 (.take 13 (.take 14 (.done))))))))))))))))) (IC.cond (.t 60) IC.skip (IC.exit 2))) (IC.block 3 (IC.reg r152_6)))
abbrev r152_7 : List IOp := [⟨some 63, .op (.mov), [.t 10], none⟩,
  ⟨some 64, .op (.mov), [.t 11], none⟩,
  ⟨some 65, .op (.bin .gtr .prim), [.t 63, .t 64], none⟩]
abbrev r152_8 : List IOp := [⟨some 66, .op (.mov), [.t 0], none⟩,
  ⟨some 67, .op (.mov), [.t 11], none⟩,
  ⟨some 68, .op (.mov), [.t 0], none⟩,
  ⟨some 69, .op (.mov), [.t 1], none⟩,
  ⟨some 70, .op (.mov), [.t 0], none⟩,
  ⟨some 71, .op (.mov), [.t 1], none⟩,
  ⟨some 72, .op (.iaddr 1), [.t 70, .t 71], none⟩,
  ⟨some 73, .op (.load none), [.t 72], none⟩,
  ⟨some 74, .op (.mov), [.t 0], none⟩,
  ⟨some 75, .op (.mov), [.t 11], none⟩,
  ⟨some 76, .op (.iaddr 1), [.t 74, .t 75], none⟩,
  ⟨some 77, .op (.load none), [.t 76], none⟩,
  ⟨some 78, .op (.iaddr 1), [.t 66, .t 67], none⟩,
  ⟨none, .op (.store 1), [.t 78, .t 73], none⟩,
  ⟨some 79, .op (.iaddr 1), [.t 68, .t 69], none⟩,
  ⟨none, .op (.store 1), [.t 79, .t 77], none⟩]
abbrev r152_9 : List IOp := [⟨some 80, .op (.mov), [.t 11], none⟩,
  ⟨some 8, .op (.mov), [.t 80], none⟩,
  ⟨some 9, .op (.mov), [.c (.bool true)], none⟩]
abbrev r152_10 : List IOp := [⟨some 81, .op (.mov), [.t 0], none⟩,
  ⟨some 82, .op (.mov), [.t 10], none⟩,
  ⟨some 83, .op (.mov), [.t 0], none⟩,
  ⟨some 84, .op (.mov), [.t 11], none⟩,
  ⟨some 85, .op (.mov), [.t 0], none⟩,
  ⟨some 86, .op (.mov), [.t 11], none⟩,
  ⟨some 87, .op (.iaddr 1), [.t 85, .t 86], none⟩,
  ⟨some 88, .op (.load none), [.t 87], none⟩,
  ⟨some 89, .op (.mov), [.t 0], none⟩,
  ⟨some 90, .op (.mov), [.t 10], none⟩,
  ⟨some 91, .op (.iaddr 1), [.t 89, .t 90], none⟩,
  ⟨some 92, .op (.load none), [.t 91], none⟩,
  ⟨some 93, .op (.iaddr 1), [.t 81, .t 82], none⟩,
  ⟨none, .op (.store 1), [.t 93, .t 88], none⟩,
  ⟨some 94, .op (.iaddr 1), [.t 83, .t 84], none⟩,
  ⟨none, .op (.store 1), [.t 94, .t 92], none⟩]
abbrev r152_11 : List IOp := [⟨some 95, .op (.mov), [.t 10], none⟩,
  ⟨some 96, .op (.bin .add .prim), [.t 95, .c (.int .i64 1)], none⟩,
  ⟨some 10, .op (.mov), [.t 96], none⟩]
abbrev r152_12 : List IOp := [⟨some 97, .op (.mov), [.t 11], none⟩,
  ⟨some 98, .op (.bin .sub .prim), [.t 97, .c (.int .i64 1)], none⟩,
  ⟨some 11, .op (.mov), [.t 98], none⟩]
abbrev r152_13 : List IOp := [⟨some 99, .op (.mov), [.t 10], none⟩,
  ⟨some 100, .op (.mov), [.t 11], none⟩,
  ⟨some 101, .op (.bin .leq .prim), [.t 99, .t 100], none⟩,
  ⟨some 102, .op (.mov), [.t 101], none⟩,
  ⟨some 103, .op (.mov), [.t 0], some (102, true)⟩,
  ⟨some 104, .op (.mov), [.t 10], some (102, true)⟩,
  ⟨some 105, .op (.iaddr 1), [.t 103, .t 104], some (102, true)⟩,
  ⟨some 106, .op (.load none), [.t 105], some (102, true)⟩,
  ⟨some 107, .op (.mov), [.t 0], some (102, true)⟩,
  ⟨some 108, .op (.mov), [.t 1], some (102, true)⟩,
  ⟨some 109, .op (.iaddr 1), [.t 107, .t 108], some (102, true)⟩,
  ⟨some 110, .op (.load none), [.t 109], some (102, true)⟩,
  ⟨some 111, .call none, [.f 135, .t 106, .t 110], some (102, true)⟩,
  ⟨some 112, .op (.pick), [.t 102, .t 111, .c (.bool false)], none⟩]
abbrev r152_14 : List IOp := [⟨some 113, .op (.mov), [.t 10], none⟩,
  ⟨some 114, .op (.bin .add .prim), [.t 113, .c (.int .i64 1)], none⟩,
  ⟨some 10, .op (.mov), [.t 114], none⟩]
abbrev b152_2 : IC := (IC.seq (IC.seq (IC.regD .wild r152_13 (.take 0 (.take 1 (.take 2 (.take 3 (.take 4 (.take 5 (.take 6 (.take 7 (.take 8 (.take 9 (.take 10 (.take 11 (.take 12 (.take 13 (.done)))))))))))))))) (IC.cond (.t 112) IC.skip (IC.exit 6))) (IC.block 7 (IC.reg r152_14)))
abbrev r152_15 : List IOp := [⟨some 115, .op (.mov), [.t 10], none⟩,
  ⟨some 116, .op (.mov), [.t 11], none⟩,
  ⟨some 117, .op (.bin .leq .prim), [.t 115, .t 116], none⟩,
  ⟨some 118, .op (.mov), [.t 117], none⟩,
  ⟨some 119, .op (.mov), [.t 0], some (118, true)⟩,
  ⟨some 120, .op (.mov), [.t 11], some (118, true)⟩,
  ⟨some 121, .op (.iaddr 1), [.t 119, .t 120], some (118, true)⟩,
  ⟨some 122, .op (.load none), [.t 121], some (118, true)⟩,
  ⟨some 123, .op (.mov), [.t 0], some (118, true)⟩,
  ⟨some 124, .op (.mov), [.t 1], some (118, true)⟩,
  ⟨some 125, .op (.iaddr 1), [.t 123, .t 124], some (118, true)⟩,
  ⟨some 126, .op (.load none), [.t 125], some (118, true)⟩,
  ⟨some 127, .call none, [.f 135, .t 122, .t 126], some (118, true)⟩,
  ⟨some 128, .op (.un .not), [.t 127], some (118, true)⟩,
  ⟨some 129, .op (.pick), [.t 118, .t 128, .c (.bool false)], none⟩]
abbrev r152_16 : List IOp := [⟨some 130, .op (.mov), [.t 11], none⟩,
  ⟨some 131, .op (.bin .sub .prim), [.t 130, .c (.int .i64 1)], none⟩,
  ⟨some 11, .op (.mov), [.t 131], none⟩]
abbrev b152_3 : IC := (IC.seq (IC.seq (IC.regD .wild r152_15 (.take 0 (.take 1 (.take 2 (.take 3 (.take 4 (.take 5 (.take 6 (.take 7 (.take 8 (.take 9 (.take 10 (.take 11 (.take 12 (.take 13 (.take 14 (.done))))))))))))))))) (IC.cond (.t 129) IC.skip (IC.exit 8))) (IC.block 9 (IC.reg r152_16)))
abbrev r152_17 : List IOp := [⟨some 132, .op (.mov), [.t 10], none⟩,
  ⟨some 133, .op (.mov), [.t 11], none⟩,
  ⟨some 134, .op (.bin .gtr .prim), [.t 132, .t 133], none⟩]
abbrev r152_18 : List IOp := [⟨some 135, .op (.mov), [.t 0], none⟩,
  ⟨some 136, .op (.mov), [.t 10], none⟩,
  ⟨some 137, .op (.mov), [.t 0], none⟩,
  ⟨some 138, .op (.mov), [.t 11], none⟩,
  ⟨some 139, .op (.mov), [.t 0], none⟩,
  ⟨some 140, .op (.mov), [.t 11], none⟩,
  ⟨some 141, .op (.iaddr 1), [.t 139, .t 140], none⟩,
  ⟨some 142, .op (.load none), [.t 141], none⟩,
  ⟨some 143, .op (.mov), [.t 0], none⟩,
  ⟨some 144, .op (.mov), [.t 10], none⟩,
  ⟨some 145, .op (.iaddr 1), [.t 143, .t 144], none⟩,
  ⟨some 146, .op (.load none), [.t 145], none⟩,
  ⟨some 147, .op (.iaddr 1), [.t 135, .t 136], none⟩,
  ⟨none, .op (.store 1), [.t 147, .t 142], none⟩,
  ⟨some 148, .op (.iaddr 1), [.t 137, .t 138], none⟩,
  ⟨none, .op (.store 1), [.t 148, .t 146], none⟩]
abbrev r152_19 : List IOp := [⟨some 149, .op (.mov), [.t 10], none⟩,
  ⟨some 150, .op (.bin .add .prim), [.t 149, .c (.int .i64 1)], none⟩,
  ⟨some 10, .op (.mov), [.t 150], none⟩]
abbrev r152_20 : List IOp := [⟨some 151, .op (.mov), [.t 11], none⟩,
  ⟨some 152, .op (.bin .sub .prim), [.t 151, .c (.int .i64 1)], none⟩,
  ⟨some 11, .op (.mov), [.t 152], none⟩]
abbrev b152_4 : IC := (IC.block 5 (IC.seq (IC.block 6 (IC.loop b152_2)) (IC.seq (IC.block 8 (IC.loop b152_3)) (IC.seq (IC.seq (IC.reg r152_17) (IC.cond (.t 134) (IC.exit 4) IC.skip)) (IC.seq (IC.regD .wild r152_18 (.take 0 (.take 1 (.take 2 (.take 3 (.take 4 (.take 5 (.take 6 (.take 7 (.take 8 (.take 9 (.take 10 (.take 11 (.take 12 (.take 13 (.take 14 (.take 15 (.done)))))))))))))))))) (IC.seq (IC.reg r152_19) (IC.reg r152_20)))))))
abbrev r152_21 : List IOp := [⟨some 153, .op (.mov), [.t 0], none⟩,
  ⟨some 154, .op (.mov), [.t 11], none⟩,
  ⟨some 155, .op (.mov), [.t 0], none⟩,
  ⟨some 156, .op (.mov), [.t 1], none⟩,
  ⟨some 157, .op (.mov), [.t 0], none⟩,
  ⟨some 158, .op (.mov), [.t 1], none⟩,
  ⟨some 159, .op (.iaddr 1), [.t 157, .t 158], none⟩,
  ⟨some 160, .op (.load none), [.t 159], none⟩,
  ⟨some 161, .op (.mov), [.t 0], none⟩,
  ⟨some 162, .op (.mov), [.t 11], none⟩,
  ⟨some 163, .op (.iaddr 1), [.t 161, .t 162], none⟩,
  ⟨some 164, .op (.load none), [.t 163], none⟩,
  ⟨some 165, .op (.iaddr 1), [.t 153, .t 154], none⟩,
  ⟨none, .op (.store 1), [.t 165, .t 160], none⟩,
  ⟨some 166, .op (.iaddr 1), [.t 155, .t 156], none⟩,
  ⟨none, .op (.store 1), [.t 166, .t 164], none⟩]
abbrev r152_22 : List IOp := [⟨some 167, .op (.mov), [.t 11], none⟩,
  ⟨some 8, .op (.mov), [.t 167], none⟩,
  ⟨some 9, .op (.mov), [.c (.bool false)], none⟩]
abbrev c152 : IC := (IC.seq (IC.reg r152_0) (IC.seq (IC.regD .wild r152_1 (.take 0 (.take 1 (.take 2 (.take 3 (.take 4 (.take 5 (.take 6 (.take 7 (.take 8 (.take 9 (.take 10 (.take 11 (.take 12 (.take 13 (.take 14 (.take 15 (.done)))))))))))))))))) (IC.seq (IC.reg r152_2) (IC.seq (IC.block 0 (IC.loop b152_0)) (IC.seq (IC.block 2 (IC.loop b152_1)) (IC.seq (IC.seq (IC.reg r152_7) (IC.cond (.t 65) (IC.seq (IC.regD .wild r152_8 (.take 0 (.take 1 (.take 2 (.take 3 (.take 4 (.take 5 (.take 6 (.take 7 (.take 8 (.take 9 (.take 10 (.take 11 (.take 12 (.take 13 (.take 14 (.take 15 (.done)))))))))))))))))) (IC.seq (IC.reg r152_9) IC.ret)) IC.skip)) (IC.seq (IC.regD .wild r152_10 (.take 0 (.take 1 (.take 2 (.take 3 (.take 4 (.take 5 (.take 6 (.take 7 (.take 8 (.take 9 (.take 10 (.take 11 (.take 12 (.take 13 (.take 14 (.take 15 (.done)))))))))))))))))) (IC.seq (IC.reg r152_11) (IC.seq (IC.reg r152_12) (IC.seq (IC.block 4 (IC.loop b152_4)) (IC.seq (IC.regD .wild r152_21 (.take 0 (.take 1 (.take 2 (.take 3 (.take 4 (.take 5 (.take 6 (.take 7 (.take 8 (.take 9 (.take 10 (.take 11 (.take 12 (.take 13 (.take 14 (.take 15 (.done)))))))))))))))))) (IC.seq (IC.reg r152_22) IC.ret))))))))))))
abbrev g152 : FC := ⟨c152, 168, [.t 8, .t 9]⟩
theorem comp152 : compF Go.Proofs.Try.prog (hintL [(1, 6), (3, 6), (5, 6), (8, 6), (10, 6), (13, 6), (15, 6), (18, 6), (21, 6)]) 152 = some g152 := by kernel_rfl

-- cmp.isNaN[byte]
abbrev r155_0 : List IOp := [⟨some 2, .op (.mov), [.c (.bool false)], none⟩]
abbrev r155_1 : List IOp := [⟨some 3, .op (.mov), [.t 0], none⟩,
  ⟨some 4, .op (.mov), [.t 0], none⟩,
  ⟨some 5, .op (.bin .neq .prim), [.t 3, .t 4], none⟩,
  ⟨some 2, .op (.mov), [.t 5], none⟩]
abbrev c155 : IC := (IC.seq (IC.reg r155_0) (IC.seq (IC.reg r155_1) IC.ret))
abbrev g155 : FC := ⟨c155, 6, [.t 2]⟩
theorem comp155 : compF Go.Proofs.Try.prog (fun _ => 0) 155 = some g155 := by kernel_rfl

-- (outlaw/nfa.row).all$1
abbrev r156_0 : List IOp := [⟨some 5, .op (.load none), [.t 1], none⟩,
  ⟨some 6, .op (.len .slice), [.t 5], none⟩,
  ⟨some 7, .op (.mov), [.c (.int .i64 0)], none⟩]
abbrev r156_1 : List IOp := [⟨some 8, .op (.bin .lss .prim), [.t 7, .t 6], none⟩]
abbrev r156_2 : List IOp := [⟨some 9, .op (.mov), [.t 7], none⟩,
  ⟨some 10, .op (.iaddr 1), [.t 5, .t 7], none⟩,
  ⟨some 11, .op (.load none), [.t 10], none⟩,
  ⟨some 3, .op (.mov), [.t 9], none⟩,
  ⟨some 4, .op (.mov), [.t 11], none⟩]
abbrev r156_3 : List IOp := [⟨some 12, .op (.mov), [.t 4], none⟩,
  ⟨some 13, .op (.mov), [.t 12], none⟩,
  ⟨some 14, .op (.mov), [.t 0], some (13, true)⟩,
  ⟨some 15, .op (.mov), [.t 3], some (13, true)⟩,
  ⟨some 16, .call none, [.t 14, .t 15], some (13, true)⟩,
  ⟨some 17, .op (.un .not), [.t 16], some (13, true)⟩,
  ⟨some 18, .op (.pick), [.t 13, .t 17, .c (.bool false)], none⟩]
abbrev r156_4 : List IOp := [⟨some 19, .op (.bin .add .prim), [.t 7, .c (.int .i64 1)], none⟩,
  ⟨some 7, .op (.mov), [.t 19], none⟩]
abbrev b156_0 : IC := (IC.seq (IC.reg r156_1) (IC.seq (IC.cond (.t 8) IC.skip (IC.exit 0)) (IC.seq (IC.block 1 (IC.seq (IC.reg r156_2) (IC.seq (IC.reg r156_3) (IC.cond (.t 18) IC.ret IC.skip)))) (IC.reg r156_4))))
abbrev c156 : IC := (IC.seq (IC.reg r156_0) (IC.block 0 (IC.loop b156_0)))
abbrev g156 : FC := ⟨c156, 20, []⟩
theorem comp156 : compF Go.Proofs.Try.prog (fun _ => 0) 156 = some g156 := by kernel_rfl

-- unicode/utf8.RuneCountInString
abbrev r157_0 : List IOp := [⟨some 2, .op (.mov), [.c (.int .i64 0)], none⟩]
abbrev r157_1 : List IOp := [⟨some 3, .op (.mov), [.t 0], none⟩,
  ⟨some 4, .op (.ranges), [.t 3], none⟩]
abbrev r157_2 : List IOp := [⟨some 5, .op (.nexts), [.t 4], none⟩,
  ⟨some 6, .op (.extract 0), [.t 5], none⟩]
abbrev r157_3 : List IOp := [⟨some 7, .op (.mov), [.t 2], none⟩,
  ⟨some 8, .op (.bin .add .prim), [.t 7, .c (.int .i64 1)], none⟩,
  ⟨some 2, .op (.mov), [.t 8], none⟩]
abbrev b157_0 : IC := (IC.seq (IC.reg r157_2) (IC.seq (IC.cond (.t 6) IC.skip (IC.exit 0)) (IC.block 1 (IC.reg r157_3))))
abbrev r157_4 : List IOp := [⟨some 9, .op (.mov), [.t 2], none⟩,
  ⟨some 2, .op (.mov), [.t 9], none⟩]
abbrev c157 : IC := (IC.seq (IC.reg r157_0) (IC.seq (IC.seq (IC.reg r157_1) (IC.block 0 (IC.loop b157_0))) (IC.seq (IC.reg r157_4) IC.ret)))
abbrev g157 : FC := ⟨c157, 10, [.t 2]⟩
theorem comp157 : compF Go.Proofs.Try.prog (fun _ => 0) 157 = some g157 := by kernel_rfl

-- bytes.IndexByte
abbrev r158_0 : List IOp := [⟨some 4, .op (.mov), [.c (.int .i64 0)], none⟩]
abbrev r158_1 : List IOp := [⟨some 5, .op (.mov), [.t 0], none⟩,
  ⟨some 6, .op (.mov), [.t 1], none⟩,
  ⟨some 7, .call none, [.f 170, .t 5, .t 6], none⟩,
  ⟨some 4, .op (.mov), [.t 7], none⟩]
abbrev c158 : IC := (IC.seq (IC.reg r158_0) (IC.seq (IC.reg r158_1) IC.ret))
abbrev g158 : FC := ⟨c158, 8, [.t 4]⟩
theorem comp158 : compF Go.Proofs.Try.prog (fun _ => 0) 158 = some g158 := by kernel_rfl

-- bytes.Equal
abbrev r159_0 : List IOp := [⟨some 4, .op (.mov), [.c (.bool false)], none⟩]
abbrev r159_1 : List IOp := [⟨some 5, .op (.mov), [.t 0], none⟩,
  ⟨some 6, .op (.b2s), [.t 5], none⟩,
  ⟨some 7, .op (.mov), [.t 1], none⟩,
  ⟨some 8, .op (.b2s), [.t 7], none⟩,
  ⟨some 9, .op (.bin .eql .prim), [.t 6, .t 8], none⟩,
  ⟨some 4, .op (.mov), [.t 9], none⟩]
abbrev c159 : IC := (IC.seq (IC.reg r159_0) (IC.seq (IC.reg r159_1) IC.ret))
abbrev g159 : FC := ⟨c159, 10, [.t 4]⟩
theorem comp159 : compF Go.Proofs.Try.prog (fun _ => 0) 159 = some g159 := by kernel_rfl


-- internal/bytealg.Cutover
abbrev r161_0 : List IOp := [⟨some 2, .op (.mov), [.c (.int .i64 0)], none⟩]
abbrev r161_1 : List IOp := [⟨some 3, .op (.mov), [.t 0], none⟩,
  ⟨some 4, .op (.bin .add .prim), [.t 3, .c (.int .i64 16)], none⟩,
  ⟨some 5, .op (.bin .quo .prim), [.t 4, .c (.int .i64 8)], none⟩,
  ⟨some 2, .op (.mov), [.t 5], none⟩]
abbrev c161 : IC := (IC.seq (IC.reg r161_0) (IC.seq (IC.reg r161_1) IC.ret))
abbrev g161 : FC := ⟨c161, 6, [.t 2]⟩
theorem comp161 : compF Go.Proofs.Try.prog (fun _ => 0) 161 = some g161 := by kernel_rfl

-- internal/bytealg.IndexRabinKarp[[]byte]
abbrev r162_0 : List IOp := [⟨some 4, .op (.mov), [.c (.int .i64 0)], none⟩]
abbrev r162_1 : List IOp := [⟨some 12, .op (.mov), [.t 1], none⟩,
  ⟨some 13, .call none, [.f 171, .t 12], none⟩,
  ⟨some 11, .op (.mov), [.t 13], none⟩,
  ⟨some 14, .op (.extract 0), [.t 11], none⟩,
  ⟨some 15, .op (.extract 1), [.t 11], none⟩,
  ⟨some 5, .op (.mov), [.t 14], none⟩,
  ⟨some 6, .op (.mov), [.t 15], none⟩]
abbrev r162_2 : List IOp := [⟨some 16, .op (.mov), [.t 1], none⟩,
  ⟨some 17, .op (.len .slice), [.t 16], none⟩,
  ⟨some 7, .op (.mov), [.t 17], none⟩]
abbrev r162_3 : List IOp := [⟨some 8, .op (.mov), [.c (.int .u32 0)], none⟩]
abbrev r162_4 : List IOp := [⟨some 9, .op (.mov), [.c (.int .i64 0)], none⟩]
abbrev r162_5 : List IOp := [⟨some 18, .op (.mov), [.t 9], none⟩,
  ⟨some 19, .op (.mov), [.t 7], none⟩,
  ⟨some 20, .op (.bin .lss .prim), [.t 18, .t 19], none⟩]
abbrev r162_6 : List IOp := [⟨some 23, .op (.mov), [.t 8], none⟩,
  ⟨some 24, .op (.bin .mul .prim), [.t 23, .c (.int .u32 16777619)], none⟩,
  ⟨some 25, .op (.mov), [.t 0], none⟩,
  ⟨some 26, .op (.mov), [.t 9], none⟩,
  ⟨some 27, .op (.iaddr 1), [.t 25, .t 26], none⟩,
  ⟨some 28, .op (.load none), [.t 27], none⟩,
  ⟨some 29, .op (.toInt .u32), [.t 28], none⟩,
  ⟨some 30, .op (.bin .add .prim), [.t 24, .t 29], none⟩,
  ⟨some 8, .op (.mov), [.t 30], none⟩]
abbrev r162_7 : List IOp := [⟨some 21, .op (.mov), [.t 9], none⟩,
  ⟨some 22, .op (.bin .add .prim), [.t 21, .c (.int .i64 1)], none⟩,
  ⟨some 9, .op (.mov), [.t 22], none⟩]
abbrev b162_0 : IC := (IC.seq (IC.seq (IC.reg r162_5) (IC.cond (.t 20) IC.skip (IC.exit 0))) (IC.seq (IC.block 1 (IC.reg r162_6)) (IC.reg r162_7)))
abbrev r162_8 : List IOp := [⟨some 31, .op (.mov), [.t 8], none⟩,
  ⟨some 32, .op (.mov), [.t 5], none⟩,
  ⟨some 33, .op (.bin .eql .prim), [.t 31, .t 32], none⟩,
  ⟨some 34, .op (.mov), [.t 33], none⟩,
  ⟨some 35, .op (.mov), [.t 0], some (34, true)⟩,
  ⟨some 36, .op (.mov), [.t 7], some (34, true)⟩,
  ⟨some 37, .op (.slice 1 false true false), [.t 35, .t 36], some (34, true)⟩,
  ⟨some 38, .op (.b2s), [.t 37], some (34, true)⟩,
  ⟨some 39, .op (.mov), [.t 1], some (34, true)⟩,
  ⟨some 40, .op (.b2s), [.t 39], some (34, true)⟩,
  ⟨some 41, .op (.bin .eql .prim), [.t 38, .t 40], some (34, true)⟩,
  ⟨some 42, .op (.pick), [.t 34, .t 41, .c (.bool false)], none⟩]
abbrev r162_9 : List IOp := [⟨some 4, .op (.mov), [.c (.int .i64 0)], none⟩]
abbrev r162_10 : List IOp := [⟨some 43, .op (.mov), [.t 7], none⟩,
  ⟨some 10, .op (.mov), [.t 43], none⟩]
abbrev r162_11 : List IOp := [⟨some 44, .op (.mov), [.t 10], none⟩,
  ⟨some 45, .op (.mov), [.t 0], none⟩,
  ⟨some 46, .op (.len .slice), [.t 45], none⟩,
  ⟨some 47, .op (.bin .lss .prim), [.t 44, .t 46], none⟩]
abbrev r162_12 : List IOp := [⟨some 48, .op (.mov), [.t 8], none⟩,
  ⟨some 49, .op (.bin .mul .prim), [.t 48, .c (.int .u32 16777619)], none⟩,
  ⟨some 8, .op (.mov), [.t 49], none⟩]
abbrev r162_13 : List IOp := [⟨some 50, .op (.mov), [.t 8], none⟩,
  ⟨some 51, .op (.mov), [.t 0], none⟩,
  ⟨some 52, .op (.mov), [.t 10], none⟩,
  ⟨some 53, .op (.iaddr 1), [.t 51, .t 52], none⟩,
  ⟨some 54, .op (.load none), [.t 53], none⟩,
  ⟨some 55, .op (.toInt .u32), [.t 54], none⟩,
  ⟨some 56, .op (.bin .add .prim), [.t 50, .t 55], none⟩,
  ⟨some 8, .op (.mov), [.t 56], none⟩]
abbrev r162_14 : List IOp := [⟨some 57, .op (.mov), [.t 8], none⟩,
  ⟨some 58, .op (.mov), [.t 6], none⟩,
  ⟨some 59, .op (.mov), [.t 0], none⟩,
  ⟨some 60, .op (.mov), [.t 10], none⟩,
  ⟨some 61, .op (.mov), [.t 7], none⟩,
  ⟨some 62, .op (.bin .sub .prim), [.t 60, .t 61], none⟩,
  ⟨some 63, .op (.iaddr 1), [.t 59, .t 62], none⟩,
  ⟨some 64, .op (.load none), [.t 63], none⟩,
  ⟨some 65, .op (.toInt .u32), [.t 64], none⟩,
  ⟨some 66, .op (.bin .mul .prim), [.t 58, .t 65], none⟩,
  ⟨some 67, .op (.bin .sub .prim), [.t 57, .t 66], none⟩,
  ⟨some 8, .op (.mov), [.t 67], none⟩]
abbrev r162_15 : List IOp := [⟨some 68, .op (.mov), [.t 10], none⟩,
  ⟨some 69, .op (.bin .add .prim), [.t 68, .c (.int .i64 1)], none⟩,
  ⟨some 10, .op (.mov), [.t 69], none⟩]
abbrev r162_16 : List IOp := [⟨some 70, .op (.mov), [.t 8], none⟩,
  ⟨some 71, .op (.mov), [.t 5], none⟩,
  ⟨some 72, .op (.bin .eql .prim), [.t 70, .t 71], none⟩,
  ⟨some 73, .op (.mov), [.t 72], none⟩,
  ⟨some 74, .op (.mov), [.t 0], some (73, true)⟩,
  ⟨some 75, .op (.mov), [.t 10], some (73, true)⟩,
  ⟨some 76, .op (.mov), [.t 7], some (73, true)⟩,
  ⟨some 77, .op (.bin .sub .prim), [.t 75, .t 76], some (73, true)⟩,
  ⟨some 78, .op (.mov), [.t 10], some (73, true)⟩,
  ⟨some 79, .op (.slice 1 true true false), [.t 74, .t 77, .t 78], some (73, true)⟩,
  ⟨some 80, .op (.b2s), [.t 79], some (73, true)⟩,
  ⟨some 81, .op (.mov), [.t 1], some (73, true)⟩,
  ⟨some 82, .op (.b2s), [.t 81], some (73, true)⟩,
  ⟨some 83, .op (.bin .eql .prim), [.t 80, .t 82], some (73, true)⟩,
  ⟨some 84, .op (.pick), [.t 73, .t 83, .c (.bool false)], none⟩]
abbrev r162_17 : List IOp := [⟨some 85, .op (.mov), [.t 10], none⟩,
  ⟨some 86, .op (.mov), [.t 7], none⟩,
  ⟨some 87, .op (.bin .sub .prim), [.t 85, .t 86], none⟩,
  ⟨some 4, .op (.mov), [.t 87], none⟩]
abbrev b162_1 : IC := (IC.seq (IC.seq (IC.reg r162_11) (IC.cond (.t 47) IC.skip (IC.exit 2))) (IC.block 3 (IC.seq (IC.reg r162_12) (IC.seq (IC.reg r162_13) (IC.seq (IC.reg r162_14) (IC.seq (IC.reg r162_15) (IC.seq (IC.regD .wild r162_16 (.take 0 (.take 1 (.take 2 (.take 3 (.take 4 (.take 5 (.take 6 (.take 7 (.take 8 (.take 9 (.take 10 (.take 11 (.take 12 (.take 13 (.take 14 (.done))))))))))))))))) (IC.cond (.t 84) (IC.seq (IC.reg r162_17) IC.ret) IC.skip))))))))
abbrev r162_18 : List IOp := [⟨some 4, .op (.mov), [.c (.int .i64 (-1))], none⟩]
abbrev c162 : IC := (IC.seq (IC.reg r162_0) (IC.seq (IC.reg r162_1) (IC.seq (IC.reg r162_2) (IC.seq (IC.reg r162_3) (IC.seq (IC.seq (IC.reg r162_4) (IC.block 0 (IC.loop b162_0))) (IC.seq (IC.seq (IC.regD .wild r162_8 (.take 0 (.take 1 (.take 2 (.take 3 (.take 4 (.take 5 (.take 6 (.take 7 (.take 8 (.take 9 (.take 10 (.take 11 (.done)))))))))))))) (IC.cond (.t 42) (IC.seq (IC.reg r162_9) IC.ret) IC.skip)) (IC.seq (IC.seq (IC.reg r162_10) (IC.block 2 (IC.loop b162_1))) (IC.seq (IC.reg r162_18) IC.ret))))))))
abbrev g162 : FC := ⟨c162, 88, [.t 4]⟩
theorem comp162 : compF Go.Proofs.Try.prog (hintL [(8, 6), (16, 6)]) 162 = some g162 := by kernel_rfl

-- math/bits.Mul32
abbrev r163_0 : List IOp := [⟨some 4, .op (.mov), [.c (.int .u32 0)], none⟩,
  ⟨some 5, .op (.mov), [.c (.int .u32 0)], none⟩]
abbrev r163_1 : List IOp := [⟨some 7, .op (.mov), [.t 0], none⟩,
  ⟨some 8, .op (.toInt .u64), [.t 7], none⟩,
  ⟨some 9, .op (.mov), [.t 1], none⟩,
  ⟨some 10, .op (.toInt .u64), [.t 9], none⟩,
  ⟨some 11, .op (.bin .mul .prim), [.t 8, .t 10], none⟩,
  ⟨some 6, .op (.mov), [.t 11], none⟩]
abbrev r163_2 : List IOp := [⟨some 12, .op (.mov), [.t 6], none⟩,
  ⟨some 13, .op (.bin .shr .prim), [.t 12, .c (.int .u64 32)], none⟩,
  ⟨some 14, .op (.toInt .u32), [.t 13], none⟩,
  ⟨some 15, .op (.mov), [.t 6], none⟩,
  ⟨some 16, .op (.toInt .u32), [.t 15], none⟩,
  ⟨some 4, .op (.mov), [.t 14], none⟩,
  ⟨some 5, .op (.mov), [.t 16], none⟩]
abbrev c163 : IC := (IC.seq (IC.reg r163_0) (IC.seq (IC.reg r163_1) (IC.seq (IC.reg r163_2) IC.ret)))
abbrev g163 : FC := ⟨c163, 17, [.t 4, .t 5]⟩
theorem comp163 : compF Go.Proofs.Try.prog (fun _ => 0) 163 = some g163 := by kernel_rfl

-- math/bits.Mul64
abbrev r164_0 : List IOp := [⟨some 4, .op (.mov), [.c (.int .u64 0)], none⟩,
  ⟨some 5, .op (.mov), [.c (.int .u64 0)], none⟩]
abbrev r164_1 : List IOp := [⟨some 14, .op (.mov), [.t 0], none⟩,
  ⟨some 15, .op (.bin .and .prim), [.t 14, .c (.int .u64 4294967295)], none⟩,
  ⟨some 6, .op (.mov), [.t 15], none⟩]
abbrev r164_2 : List IOp := [⟨some 16, .op (.mov), [.t 0], none⟩,
  ⟨some 17, .op (.bin .shr .prim), [.t 16, .c (.int .u64 32)], none⟩,
  ⟨some 7, .op (.mov), [.t 17], none⟩]
abbrev r164_3 : List IOp := [⟨some 18, .op (.mov), [.t 1], none⟩,
  ⟨some 19, .op (.bin .and .prim), [.t 18, .c (.int .u64 4294967295)], none⟩,
  ⟨some 8, .op (.mov), [.t 19], none⟩]
abbrev r164_4 : List IOp := [⟨some 20, .op (.mov), [.t 1], none⟩,
  ⟨some 21, .op (.bin .shr .prim), [.t 20, .c (.int .u64 32)], none⟩,
  ⟨some 9, .op (.mov), [.t 21], none⟩]
abbrev r164_5 : List IOp := [⟨some 22, .op (.mov), [.t 6], none⟩,
  ⟨some 23, .op (.mov), [.t 8], none⟩,
  ⟨some 24, .op (.bin .mul .prim), [.t 22, .t 23], none⟩,
  ⟨some 10, .op (.mov), [.t 24], none⟩]
abbrev r164_6 : List IOp := [⟨some 25, .op (.mov), [.t 7], none⟩,
  ⟨some 26, .op (.mov), [.t 8], none⟩,
  ⟨some 27, .op (.bin .mul .prim), [.t 25, .t 26], none⟩,
  ⟨some 28, .op (.mov), [.t 10], none⟩,
  ⟨some 29, .op (.bin .shr .prim), [.t 28, .c (.int .u64 32)], none⟩,
  ⟨some 30, .op (.bin .add .prim), [.t 27, .t 29], none⟩,
  ⟨some 11, .op (.mov), [.t 30], none⟩]
abbrev r164_7 : List IOp := [⟨some 31, .op (.mov), [.t 11], none⟩,
  ⟨some 32, .op (.bin .and .prim), [.t 31, .c (.int .u64 4294967295)], none⟩,
  ⟨some 12, .op (.mov), [.t 32], none⟩]
abbrev r164_8 : List IOp := [⟨some 33, .op (.mov), [.t 11], none⟩,
  ⟨some 34, .op (.bin .shr .prim), [.t 33, .c (.int .u64 32)], none⟩,
  ⟨some 13, .op (.mov), [.t 34], none⟩]
abbrev r164_9 : List IOp := [⟨some 35, .op (.mov), [.t 12], none⟩,
  ⟨some 36, .op (.mov), [.t 6], none⟩,
  ⟨some 37, .op (.mov), [.t 9], none⟩,
  ⟨some 38, .op (.bin .mul .prim), [.t 36, .t 37], none⟩,
  ⟨some 39, .op (.bin .add .prim), [.t 35, .t 38], none⟩,
  ⟨some 12, .op (.mov), [.t 39], none⟩]
abbrev r164_10 : List IOp := [⟨some 40, .op (.mov), [.t 7], none⟩,
  ⟨some 41, .op (.mov), [.t 9], none⟩,
  ⟨some 42, .op (.bin .mul .prim), [.t 40, .t 41], none⟩,
  ⟨some 43, .op (.mov), [.t 13], none⟩,
  ⟨some 44, .op (.bin .add .prim), [.t 42, .t 43], none⟩,
  ⟨some 45, .op (.mov), [.t 12], none⟩,
  ⟨some 46, .op (.bin .shr .prim), [.t 45, .c (.int .u64 32)], none⟩,
  ⟨some 47, .op (.bin .add .prim), [.t 44, .t 46], none⟩,
  ⟨some 4, .op (.mov), [.t 47], none⟩]
abbrev r164_11 : List IOp := [⟨some 48, .op (.mov), [.t 0], none⟩,
  ⟨some 49, .op (.mov), [.t 1], none⟩,
  ⟨some 50, .op (.bin .mul .prim), [.t 48, .t 49], none⟩,
  ⟨some 5, .op (.mov), [.t 50], none⟩]
abbrev c164 : IC := (IC.seq (IC.reg r164_0) (IC.seq (IC.reg r164_1) (IC.seq (IC.reg r164_2) (IC.seq (IC.reg r164_3) (IC.seq (IC.reg r164_4) (IC.seq (IC.reg r164_5) (IC.seq (IC.reg r164_6) (IC.seq (IC.reg r164_7) (IC.seq (IC.reg r164_8) (IC.seq (IC.reg r164_9) (IC.seq (IC.reg r164_10) (IC.seq (IC.reg r164_11) IC.ret))))))))))))
abbrev g164 : FC := ⟨c164, 51, [.t 4, .t 5]⟩
theorem comp164 : compF Go.Proofs.Try.prog (fun _ => 0) 164 = some g164 := by kernel_rfl

-- slices.siftDownOrdered[byte]
abbrev r165_0 : List IOp := [⟨some 10, .op (.mov), [.t 1], none⟩,
  ⟨some 8, .op (.mov), [.t 10], none⟩]
abbrev r165_1 : List IOp := [⟨some 11, .op (.mov), [.t 8], none⟩,
  ⟨some 12, .op (.bin .mul .prim), [.c (.int .i64 2), .t 11], none⟩,
  ⟨some 13, .op (.bin .add .prim), [.t 12, .c (.int .i64 1)], none⟩,
  ⟨some 9, .op (.mov), [.t 13], none⟩]
abbrev r165_2 : List IOp := [⟨some 14, .op (.mov), [.t 9], none⟩,
  ⟨some 15, .op (.mov), [.t 2], none⟩,
  ⟨some 16, .op (.bin .geq .prim), [.t 14, .t 15], none⟩]
abbrev r165_3 : List IOp := [⟨some 17, .op (.mov), [.t 9], none⟩,
  ⟨some 18, .op (.bin .add .prim), [.t 17, .c (.int .i64 1)], none⟩,
  ⟨some 19, .op (.mov), [.t 2], none⟩,
  ⟨some 20, .op (.bin .lss .prim), [.t 18, .t 19], none⟩,
  ⟨some 21, .op (.mov), [.t 20], none⟩,
  ⟨some 22, .op (.mov), [.t 0], some (21, true)⟩,
  ⟨some 23, .op (.mov), [.t 3], some (21, true)⟩,
  ⟨some 24, .op (.mov), [.t 9], some (21, true)⟩,
  ⟨some 25, .op (.bin .add .prim), [.t 23, .t 24], some (21, true)⟩,
  ⟨some 26, .op (.iaddr 1), [.t 22, .t 25], some (21, true)⟩,
  ⟨some 27, .op (.load none), [.t 26], some (21, true)⟩,
  ⟨some 28, .op (.mov), [.t 0], some (21, true)⟩,
  ⟨some 29, .op (.mov), [.t 3], some (21, true)⟩,
  ⟨some 30, .op (.mov), [.t 9], some (21, true)⟩,
  ⟨some 31, .op (.bin .add .prim), [.t 29, .t 30], some (21, true)⟩,
  ⟨some 32, .op (.bin .add .prim), [.t 31, .c (.int .i64 1)], some (21, true)⟩,
  ⟨some 33, .op (.iaddr 1), [.t 28, .t 32], some (21, true)⟩,
  ⟨some 34, .op (.load none), [.t 33], some (21, true)⟩,
  ⟨some 35, .call none, [.f 135, .t 27, .t 34], some (21, true)⟩,
  ⟨some 36, .op (.pick), [.t 21, .t 35, .c (.bool false)], none⟩]
abbrev r165_4 : List IOp := [⟨some 37, .op (.mov), [.t 9], none⟩,
  ⟨some 38, .op (.bin .add .prim), [.t 37, .c (.int .i64 1)], none⟩,
  ⟨some 9, .op (.mov), [.t 38], none⟩]
abbrev r165_5 : List IOp := [⟨some 39, .op (.mov), [.t 0], none⟩,
  ⟨some 40, .op (.mov), [.t 3], none⟩,
  ⟨some 41, .op (.mov), [.t 8], none⟩,
  ⟨some 42, .op (.bin .add .prim), [.t 40, .t 41], none⟩,
  ⟨some 43, .op (.iaddr 1), [.t 39, .t 42], none⟩,
  ⟨some 44, .op (.load none), [.t 43], none⟩,
  ⟨some 45, .op (.mov), [.t 0], none⟩,
  ⟨some 46, .op (.mov), [.t 3], none⟩,
  ⟨some 47, .op (.mov), [.t 9], none⟩,
  ⟨some 48, .op (.bin .add .prim), [.t 46, .t 47], none⟩,
  ⟨some 49, .op (.iaddr 1), [.t 45, .t 48], none⟩,
  ⟨some 50, .op (.load none), [.t 49], none⟩,
  ⟨some 51, .call none, [.f 135, .t 44, .t 50], none⟩,
  ⟨some 52, .op (.un .not), [.t 51], none⟩]
abbrev r165_6 : List IOp := [⟨some 53, .op (.mov), [.t 0], none⟩,
  ⟨some 54, .op (.mov), [.t 3], none⟩,
  ⟨some 55, .op (.mov), [.t 8], none⟩,
  ⟨some 56, .op (.bin .add .prim), [.t 54, .t 55], none⟩,
  ⟨some 57, .op (.mov), [.t 0], none⟩,
  ⟨some 58, .op (.mov), [.t 3], none⟩,
  ⟨some 59, .op (.mov), [.t 9], none⟩,
  ⟨some 60, .op (.bin .add .prim), [.t 58, .t 59], none⟩,
  ⟨some 61, .op (.mov), [.t 0], none⟩,
  ⟨some 62, .op (.mov), [.t 3], none⟩,
  ⟨some 63, .op (.mov), [.t 9], none⟩,
  ⟨some 64, .op (.bin .add .prim), [.t 62, .t 63], none⟩,
  ⟨some 65, .op (.iaddr 1), [.t 61, .t 64], none⟩,
  ⟨some 66, .op (.load none), [.t 65], none⟩,
  ⟨some 67, .op (.mov), [.t 0], none⟩,
  ⟨some 68, .op (.mov), [.t 3], none⟩,
  ⟨some 69, .op (.mov), [.t 8], none⟩,
  ⟨some 70, .op (.bin .add .prim), [.t 68, .t 69], none⟩,
  ⟨some 71, .op (.iaddr 1), [.t 67, .t 70], none⟩,
  ⟨some 72, .op (.load none), [.t 71], none⟩,
  ⟨some 73, .op (.iaddr 1), [.t 53, .t 56], none⟩,
  ⟨none, .op (.store 1), [.t 73, .t 66], none⟩,
  ⟨some 74, .op (.iaddr 1), [.t 57, .t 60], none⟩,
  ⟨none, .op (.store 1), [.t 74, .t 72], none⟩]
abbrev r165_7 : List IOp := [⟨some 75, .op (.mov), [.t 9], none⟩,
  ⟨some 8, .op (.mov), [.t 75], none⟩]
abbrev b165_0 : IC := (IC.block 1 (IC.seq (IC.reg r165_1) (IC.seq (IC.seq (IC.reg r165_2) (IC.cond (.t 16) (IC.exit 0) IC.skip)) (IC.seq (IC.seq (IC.regD .wild r165_3 (.take 0 (.take 1 (.take 2 (.take 3 (.take 4 (.take 5 (.take 6 (.take 7 (.take 8 (.take 9 (.take 10 (.take 11 (.take 12 (.take 13 (.take 14 (.take 15 (.take 16 (.take 17 (.take 18 (.take 19 (.done)))))))))))))))))))))) (IC.cond (.t 36) (IC.reg r165_4) IC.skip)) (IC.seq (IC.seq (IC.regD .wild r165_5 (.take 0 (.take 1 (.take 2 (.take 3 (.take 4 (.take 5 (.take 6 (.take 7 (.take 8 (.take 9 (.take 10 (.take 11 (.take 12 (.take 13 (.done)))))))))))))))) (IC.cond (.t 52) IC.ret IC.skip)) (IC.seq (IC.regD .wild r165_6 (.take 0 (.take 1 (.take 2 (.take 3 (.take 4 (.take 5 (.take 6 (.take 7 (.take 8 (.take 9 (.take 10 (.take 11 (.take 12 (.take 13 (.take 14 (.take 15 (.take 16 (.take 17 (.take 18 (.take 19 (.take 20 (.take 21 (.take 22 (.take 23 (.done)))))))))))))))))))))))))) (IC.reg r165_7)))))))
abbrev c165 : IC := (IC.seq (IC.reg r165_0) (IC.block 0 (IC.loop b165_0)))
abbrev g165 : FC := ⟨c165, 76, []⟩
theorem comp165 : compF Go.Proofs.Try.prog (hintL [(3, 6), (5, 6), (6, 6)]) 165 = some g165 := by kernel_rfl

-- slices.nextPowerOfTwo
abbrev r166_0 : List IOp := [⟨some 2, .op (.mov), [.c (.int .u64 0)], none⟩]
abbrev r166_1 : List IOp := [⟨some 3, .op (.mov), [.t 0], none⟩,
  ⟨some 4, .op (.toInt .u64), [.t 3], none⟩,
  ⟨some 5, .call none, [.f 134, .t 4], none⟩,
  ⟨some 6, .op (.bin .shl .prim), [.c (.int .u64 1), .t 5], none⟩,
  ⟨some 2, .op (.mov), [.t 6], none⟩]
abbrev c166 : IC := (IC.seq (IC.reg r166_0) (IC.seq (IC.reg r166_1) IC.ret))
abbrev g166 : FC := ⟨c166, 7, [.t 2]⟩
theorem comp166 : compF Go.Proofs.Try.prog (fun _ => 0) 166 = some g166 := by kernel_rfl

-- (*slices.xorshift).Next
abbrev r167_0 : List IOp := [⟨some 2, .op (.mov), [.c (.int .u64 0)], none⟩]
abbrev r167_1 : List IOp := [⟨some 3, .op (.mov), [.t 0], none⟩,
  ⟨some 4, .op (.nilchk), [.t 3], none⟩,
  ⟨some 5, .op (.load none), [.t 4], none⟩,
  ⟨some 6, .op (.mov), [.t 0], none⟩,
  ⟨some 7, .op (.nilchk), [.t 6], none⟩,
  ⟨some 8, .op (.load none), [.t 7], none⟩,
  ⟨some 9, .op (.bin .shl .prim), [.t 8, .c (.int .u64 13)], none⟩,
  ⟨some 10, .op (.bin .xor .prim), [.t 5, .t 9], none⟩,
  ⟨some 11, .op (.nilchk), [.t 3], none⟩,
  ⟨none, .op (.store 1), [.t 11, .t 10], none⟩]
abbrev r167_2 : List IOp := [⟨some 12, .op (.mov), [.t 0], none⟩,
  ⟨some 13, .op (.nilchk), [.t 12], none⟩,
  ⟨some 14, .op (.load none), [.t 13], none⟩,
  ⟨some 15, .op (.mov), [.t 0], none⟩,
  ⟨some 16, .op (.nilchk), [.t 15], none⟩,
  ⟨some 17, .op (.load none), [.t 16], none⟩,
  ⟨some 18, .op (.bin .shr .prim), [.t 17, .c (.int .u64 7)], none⟩,
  ⟨some 19, .op (.bin .xor .prim), [.t 14, .t 18], none⟩,
  ⟨some 20, .op (.nilchk), [.t 12], none⟩,
  ⟨none, .op (.store 1), [.t 20, .t 19], none⟩]
abbrev r167_3 : List IOp := [⟨some 21, .op (.mov), [.t 0], none⟩,
  ⟨some 22, .op (.nilchk), [.t 21], none⟩,
  ⟨some 23, .op (.load none), [.t 22], none⟩,
  ⟨some 24, .op (.mov), [.t 0], none⟩,
  ⟨some 25, .op (.nilchk), [.t 24], none⟩,
  ⟨some 26, .op (.load none), [.t 25], none⟩,
  ⟨some 27, .op (.bin .shl .prim), [.t 26, .c (.int .u64 17)], none⟩,
  ⟨some 28, .op (.bin .xor .prim), [.t 23, .t 27], none⟩,
  ⟨some 29, .op (.nilchk), [.t 21], none⟩,
  ⟨none, .op (.store 1), [.t 29, .t 28], none⟩]
abbrev r167_4 : List IOp := [⟨some 30, .op (.mov), [.t 0], none⟩,
  ⟨some 31, .op (.nilchk), [.t 30], none⟩,
  ⟨some 32, .op (.load none), [.t 31], none⟩,
  ⟨some 2, .op (.mov), [.t 32], none⟩]
abbrev c167 : IC := (IC.seq (IC.reg r167_0) (IC.seq (IC.regD .wild r167_1 (.take 0 (.take 1 (.take 2 (.take 3 (.take 4 (.take 5 (.take 6 (.take 7 (.take 8 (.take 9 (.done)))))))))))) (IC.seq (IC.regD .wild r167_2 (.take 0 (.take 1 (.take 2 (.take 3 (.take 4 (.take 5 (.take 6 (.take 7 (.take 8 (.take 9 (.done)))))))))))) (IC.seq (IC.regD .wild r167_3 (.take 0 (.take 1 (.take 2 (.take 3 (.take 4 (.take 5 (.take 6 (.take 7 (.take 8 (.take 9 (.done)))))))))))) (IC.seq (IC.reg r167_4) IC.ret)))))
abbrev g167 : FC := ⟨c167, 33, [.t 2]⟩
theorem comp167 : compF Go.Proofs.Try.prog (hintL [(1, 6), (2, 6), (3, 6)]) 167 = some g167 := by kernel_rfl

-- slices.medianAdjacentOrdered[byte]
abbrev r168_0 : List IOp := [⟨some 6, .op (.mov), [.c (.int .i64 0)], none⟩]
abbrev r168_1 : List IOp := [⟨some 7, .op (.mov), [.t 0], none⟩,
  ⟨some 8, .op (.mov), [.t 1], none⟩,
  ⟨some 9, .op (.bin .sub .prim), [.t 8, .c (.int .i64 1)], none⟩,
  ⟨some 10, .op (.mov), [.t 1], none⟩,
  ⟨some 11, .op (.mov), [.t 1], none⟩,
  ⟨some 12, .op (.bin .add .prim), [.t 11, .c (.int .i64 1)], none⟩,
  ⟨some 13, .op (.mov), [.t 2], none⟩,
  ⟨some 14, .call none, [.f 169, .t 7, .t 9, .t 10, .t 12, .t 13], none⟩,
  ⟨some 6, .op (.mov), [.t 14], none⟩]
abbrev c168 : IC := (IC.seq (IC.reg r168_0) (IC.seq (IC.reg r168_1) IC.ret))
abbrev g168 : FC := ⟨c168, 15, [.t 6]⟩
theorem comp168 : compF Go.Proofs.Try.prog (fun _ => 0) 168 = some g168 := by kernel_rfl

-- slices.medianOrdered[byte]
abbrev r169_0 : List IOp := [⟨some 10, .op (.mov), [.c (.int .i64 0)], none⟩]
abbrev r169_1 : List IOp := [⟨some 12, .op (.mov), [.t 0], none⟩,
  ⟨some 13, .op (.mov), [.t 1], none⟩,
  ⟨some 14, .op (.mov), [.t 2], none⟩,
  ⟨some 15, .op (.mov), [.t 4], none⟩,
  ⟨some 16, .call none, [.f 172, .t 12, .t 13, .t 14, .t 15], none⟩,
  ⟨some 11, .op (.mov), [.t 16], none⟩,
  ⟨some 17, .op (.extract 0), [.t 11], none⟩,
  ⟨some 18, .op (.extract 1), [.t 11], none⟩,
  ⟨some 1, .op (.mov), [.t 17], none⟩,
  ⟨some 2, .op (.mov), [.t 18], none⟩]
abbrev r169_2 : List IOp := [⟨some 20, .op (.mov), [.t 0], none⟩,
  ⟨some 21, .op (.mov), [.t 2], none⟩,
  ⟨some 22, .op (.mov), [.t 3], none⟩,
  ⟨some 23, .op (.mov), [.t 4], none⟩,
  ⟨some 24, .call none, [.f 172, .t 20, .t 21, .t 22, .t 23], none⟩,
  ⟨some 19, .op (.mov), [.t 24], none⟩,
  ⟨some 25, .op (.extract 0), [.t 19], none⟩,
  ⟨some 26, .op (.extract 1), [.t 19], none⟩,
  ⟨some 2, .op (.mov), [.t 25], none⟩,
  ⟨some 3, .op (.mov), [.t 26], none⟩]
abbrev r169_3 : List IOp := [⟨some 28, .op (.mov), [.t 0], none⟩,
  ⟨some 29, .op (.mov), [.t 1], none⟩,
  ⟨some 30, .op (.mov), [.t 2], none⟩,
  ⟨some 31, .op (.mov), [.t 4], none⟩,
  ⟨some 32, .call none, [.f 172, .t 28, .t 29, .t 30, .t 31], none⟩,
  ⟨some 27, .op (.mov), [.t 32], none⟩,
  ⟨some 33, .op (.extract 0), [.t 27], none⟩,
  ⟨some 34, .op (.extract 1), [.t 27], none⟩,
  ⟨some 1, .op (.mov), [.t 33], none⟩,
  ⟨some 2, .op (.mov), [.t 34], none⟩]
abbrev r169_4 : List IOp := [⟨some 35, .op (.mov), [.t 2], none⟩,
  ⟨some 10, .op (.mov), [.t 35], none⟩]
abbrev c169 : IC := (IC.seq (IC.reg r169_0) (IC.seq (IC.reg r169_1) (IC.seq (IC.reg r169_2) (IC.seq (IC.reg r169_3) (IC.seq (IC.reg r169_4) IC.ret)))))
abbrev g169 : FC := ⟨c169, 36, [.t 10]⟩
theorem comp169 : compF Go.Proofs.Try.prog (fun _ => 0) 169 = some g169 := by kernel_rfl


-- internal/bytealg.hashStr[[]byte]
abbrev r171_0 : List IOp := [⟨some 2, .op (.mov), [.c (.int .u32 0)], none⟩,
  ⟨some 3, .op (.mov), [.c (.int .u32 0)], none⟩]
abbrev r171_1 : List IOp := [⟨some 4, .op (.mov), [.c (.int .u32 0)], none⟩]
abbrev r171_2 : List IOp := [⟨some 5, .op (.mov), [.c (.int .i64 0)], none⟩]
abbrev r171_3 : List IOp := [⟨some 9, .op (.mov), [.t 5], none⟩,
  ⟨some 10, .op (.mov), [.t 0], none⟩,
  ⟨some 11, .op (.len .slice), [.t 10], none⟩,
  ⟨some 12, .op (.bin .lss .prim), [.t 9, .t 11], none⟩]
abbrev r171_4 : List IOp := [⟨some 15, .op (.mov), [.t 4], none⟩,
  ⟨some 16, .op (.bin .mul .prim), [.t 15, .c (.int .u32 16777619)], none⟩,
  ⟨some 17, .op (.mov), [.t 0], none⟩,
  ⟨some 18, .op (.mov), [.t 5], none⟩,
  ⟨some 19, .op (.iaddr 1), [.t 17, .t 18], none⟩,
  ⟨some 20, .op (.load none), [.t 19], none⟩,
  ⟨some 21, .op (.toInt .u32), [.t 20], none⟩,
  ⟨some 22, .op (.bin .add .prim), [.t 16, .t 21], none⟩,
  ⟨some 4, .op (.mov), [.t 22], none⟩]
abbrev r171_5 : List IOp := [⟨some 13, .op (.mov), [.t 5], none⟩,
  ⟨some 14, .op (.bin .add .prim), [.t 13, .c (.int .i64 1)], none⟩,
  ⟨some 5, .op (.mov), [.t 14], none⟩]
abbrev b171_0 : IC := (IC.seq (IC.seq (IC.reg r171_3) (IC.cond (.t 12) IC.skip (IC.exit 0))) (IC.seq (IC.block 1 (IC.reg r171_4)) (IC.reg r171_5)))
abbrev r171_6 : List IOp := [⟨some 6, .op (.mov), [.c (.int .u32 1)], none⟩,
  ⟨some 7, .op (.mov), [.c (.int .u32 16777619)], none⟩]
abbrev r171_7 : List IOp := [⟨some 23, .op (.mov), [.t 0], none⟩,
  ⟨some 24, .op (.len .slice), [.t 23], none⟩,
  ⟨some 8, .op (.mov), [.t 24], none⟩]
abbrev r171_8 : List IOp := [⟨some 25, .op (.mov), [.t 8], none⟩,
  ⟨some 26, .op (.bin .gtr .prim), [.t 25, .c (.int .i64 0)], none⟩]
abbrev r171_9 : List IOp := [⟨some 29, .op (.mov), [.t 8], none⟩,
  ⟨some 30, .op (.bin .and .prim), [.t 29, .c (.int .i64 1)], none⟩,
  ⟨some 31, .op (.bin .neq .prim), [.t 30, .c (.int .i64 0)], none⟩]
abbrev r171_10 : List IOp := [⟨some 32, .op (.mov), [.t 6], none⟩,
  ⟨some 33, .op (.mov), [.t 7], none⟩,
  ⟨some 34, .op (.bin .mul .prim), [.t 32, .t 33], none⟩,
  ⟨some 6, .op (.mov), [.t 34], none⟩]
abbrev r171_11 : List IOp := [⟨some 35, .op (.mov), [.t 7], none⟩,
  ⟨some 36, .op (.mov), [.t 7], none⟩,
  ⟨some 37, .op (.bin .mul .prim), [.t 35, .t 36], none⟩,
  ⟨some 7, .op (.mov), [.t 37], none⟩]
abbrev r171_12 : List IOp := [⟨some 27, .op (.mov), [.t 8], none⟩,
  ⟨some 28, .op (.bin .shr .prim), [.t 27, .c (.int .u64 1)], none⟩,
  ⟨some 8, .op (.mov), [.t 28], none⟩]
abbrev b171_1 : IC := (IC.seq (IC.seq (IC.reg r171_8) (IC.cond (.t 26) IC.skip (IC.exit 2))) (IC.seq (IC.block 3 (IC.seq (IC.seq (IC.reg r171_9) (IC.cond (.t 31) (IC.reg r171_10) IC.skip)) (IC.reg r171_11))) (IC.reg r171_12)))
abbrev r171_13 : List IOp := [⟨some 38, .op (.mov), [.t 4], none⟩,
  ⟨some 39, .op (.mov), [.t 6], none⟩,
  ⟨some 2, .op (.mov), [.t 38], none⟩,
  ⟨some 3, .op (.mov), [.t 39], none⟩]
abbrev c171 : IC := (IC.seq (IC.reg r171_0) (IC.seq (IC.reg r171_1) (IC.seq (IC.seq (IC.reg r171_2) (IC.block 0 (IC.loop b171_0))) (IC.seq (IC.reg r171_6) (IC.seq (IC.seq (IC.reg r171_7) (IC.block 2 (IC.loop b171_1))) (IC.seq (IC.reg r171_13) IC.ret))))))
abbrev g171 : FC := ⟨c171, 40, [.t 2, .t 3]⟩
theorem comp171 : compF Go.Proofs.Try.prog (fun _ => 0) 171 = some g171 := by kernel_rfl

-- slices.order2Ordered[byte]
abbrev r172_0 : List IOp := [⟨some 8, .op (.mov), [.c (.int .i64 0)], none⟩,
  ⟨some 9, .op (.mov), [.c (.int .i64 0)], none⟩]
abbrev r172_1 : List IOp := [⟨some 10, .op (.mov), [.t 0], none⟩,
  ⟨some 11, .op (.mov), [.t 2], none⟩,
  ⟨some 12, .op (.iaddr 1), [.t 10, .t 11], none⟩,
  ⟨some 13, .op (.load none), [.t 12], none⟩,
  ⟨some 14, .op (.mov), [.t 0], none⟩,
  ⟨some 15, .op (.mov), [.t 1], none⟩,
  ⟨some 16, .op (.iaddr 1), [.t 14, .t 15], none⟩,
  ⟨some 17, .op (.load none), [.t 16], none⟩,
  ⟨some 18, .call none, [.f 135, .t 13, .t 17], none⟩]
abbrev r172_2 : List IOp := [⟨some 19, .op (.mov), [.t 3], none⟩,
  ⟨some 20, .op (.nilchk), [.t 19], none⟩,
  ⟨some 21, .op (.load none), [.t 20], none⟩,
  ⟨some 22, .op (.bin .add .prim), [.t 21, .c (.int .i64 1)], none⟩,
  ⟨some 23, .op (.nilchk), [.t 19], none⟩,
  ⟨none, .op (.store 1), [.t 23, .t 22], none⟩]
abbrev r172_3 : List IOp := [⟨some 24, .op (.mov), [.t 2], none⟩,
  ⟨some 25, .op (.mov), [.t 1], none⟩,
  ⟨some 8, .op (.mov), [.t 24], none⟩,
  ⟨some 9, .op (.mov), [.t 25], none⟩]
abbrev r172_4 : List IOp := [⟨some 26, .op (.mov), [.t 1], none⟩,
  ⟨some 27, .op (.mov), [.t 2], none⟩,
  ⟨some 8, .op (.mov), [.t 26], none⟩,
  ⟨some 9, .op (.mov), [.t 27], none⟩]
abbrev c172 : IC := (IC.seq (IC.reg r172_0) (IC.seq (IC.seq (IC.regD .wild r172_1 (.take 0 (.take 1 (.take 2 (.take 3 (.take 4 (.take 5 (.take 6 (.take 7 (.take 8 (.done))))))))))) (IC.cond (.t 18) (IC.seq (IC.reg r172_2) (IC.seq (IC.reg r172_3) IC.ret)) IC.skip)) (IC.seq (IC.reg r172_4) IC.ret)))
abbrev g172 : FC := ⟨c172, 28, [.t 8, .t 9]⟩
theorem comp172 : compF Go.Proofs.Try.prog (hintL [(1, 6)]) 172 = some g172 := by kernel_rfl

set_option maxRecDepth 100000 in
abbrev FT : FTr := (.node 126 g126 (.node 90 g90 (.node 47 g47 (.node 41 g41 (.node 9 g9 (.node 8 g8 (.node 7 g7 .nil .nil) .nil) (.node 40 g40 (.node 18 g18 .nil .nil) .nil)) (.node 44 g44 (.node 43 g43 (.node 42 g42 .nil .nil) .nil) (.node 46 g46 (.node 45 g45 .nil .nil) .nil))) (.node 53 g53 (.node 50 g50 (.node 49 g49 (.node 48 g48 .nil .nil) .nil) (.node 52 g52 (.node 51 g51 .nil .nil) .nil)) (.node 88 g88 (.node 87 g87 (.node 86 g86 .nil .nil) .nil) (.node 89 g89 .nil .nil)))) (.node 102 g102 (.node 96 g96 (.node 93 g93 (.node 92 g92 (.node 91 g91 .nil .nil) .nil) (.node 95 g95 (.node 94 g94 .nil .nil) .nil)) (.node 99 g99 (.node 98 g98 (.node 97 g97 .nil .nil) .nil) (.node 101 g101 (.node 100 g100 .nil .nil) .nil))) (.node 121 g121 (.node 118 g118 (.node 117 g117 (.node 103 g103 .nil .nil) .nil) (.node 120 g120 (.node 119 g119 .nil .nil) .nil)) (.node 124 g124 (.node 123 g123 (.node 122 g122 .nil .nil) .nil) (.node 125 g125 .nil .nil))))) (.node 153 g153 (.node 140 g140 (.node 134 g134 (.node 131 g131 (.node 128 g128 (.node 127 g127 .nil .nil) .nil) (.node 133 g133 (.node 132 g132 .nil .nil) .nil)) (.node 137 g137 (.node 136 g136 (.node 135 g135 .nil .nil) .nil) (.node 139 g139 (.node 138 g138 .nil .nil) .nil))) (.node 148 g148 (.node 145 g145 (.node 143 g143 (.node 142 g142 .nil .nil) .nil) (.node 147 g147 (.node 146 g146 .nil .nil) .nil)) (.node 151 g151 (.node 150 g150 (.node 149 g149 .nil .nil) .nil) (.node 152 g152 .nil .nil)))) (.node 166 g166 (.node 159 g159 (.node 156 g156 (.node 155 g155 (.node 154 g154 .nil .nil) .nil) (.node 158 g158 (.node 157 g157 .nil .nil) .nil)) (.node 163 g163 (.node 162 g162 (.node 161 g161 .nil .nil) .nil) (.node 165 g165 (.node 164 g164 .nil .nil) .nil))) (.node 188 g188 (.node 169 g169 (.node 168 g168 (.node 167 g167 .nil .nil) .nil) (.node 172 g172 (.node 171 g171 .nil .nil) .nil)) (.node 191 g191 (.node 190 g190 (.node 189 g189 .nil .nil) .nil) (.node 192 g192 .nil .nil))))))
set_option maxRecDepth 100000 in
theorem FT_ok : FT.All (FOk Go.Proofs.Try.prog) := ⟨⟨_, comp126, by decide, .inr keys126⟩, ⟨⟨_, comp90, by decide, .inl (by decide)⟩, ⟨⟨_, comp47, by decide, .inl (by decide)⟩, ⟨⟨_, comp41, by decide, .inl (by decide)⟩, ⟨⟨_, comp9, by decide, .inl (by decide)⟩, ⟨⟨_, comp8, by decide, .inl (by decide)⟩, ⟨⟨_, comp7, by decide, .inl (by decide)⟩, trivial, trivial⟩, trivial⟩, ⟨⟨_, comp40, by decide, .inl (by decide)⟩, ⟨⟨_, comp18, by decide, .inl (by decide)⟩, trivial, trivial⟩, trivial⟩⟩, ⟨⟨_, comp44, by decide, .inl (by decide)⟩, ⟨⟨_, comp43, by decide, .inl (by decide)⟩, ⟨⟨_, comp42, by decide, .inl (by decide)⟩, trivial, trivial⟩, trivial⟩, ⟨⟨_, comp46, by decide, .inl (by decide)⟩, ⟨⟨_, comp45, by decide, .inl (by decide)⟩, trivial, trivial⟩, trivial⟩⟩⟩, ⟨⟨_, comp53, by decide, .inl (by decide)⟩, ⟨⟨_, comp50, by decide, .inl (by decide)⟩, ⟨⟨_, comp49, by decide, .inl (by decide)⟩, ⟨⟨_, comp48, by decide, .inl (by decide)⟩, trivial, trivial⟩, trivial⟩, ⟨⟨_, comp52, by decide, .inl (by decide)⟩, ⟨⟨_, comp51, by decide, .inl (by decide)⟩, trivial, trivial⟩, trivial⟩⟩, ⟨⟨_, comp88, by decide, .inl (by decide)⟩, ⟨⟨_, comp87, by decide, .inl (by decide)⟩, ⟨⟨_, comp86, by decide, .inl (by decide)⟩, trivial, trivial⟩, trivial⟩, ⟨⟨_, comp89, by decide, .inl (by decide)⟩, trivial, trivial⟩⟩⟩⟩, ⟨⟨_, comp102, by decide, .inl (by decide)⟩, ⟨⟨_, comp96, by decide, .inl (by decide)⟩, ⟨⟨_, comp93, by decide, .inl (by decide)⟩, ⟨⟨_, comp92, by decide, .inl (by decide)⟩, ⟨⟨_, comp91, by decide, .inl (by decide)⟩, trivial, trivial⟩, trivial⟩, ⟨⟨_, comp95, by decide, .inl (by decide)⟩, ⟨⟨_, comp94, by decide, .inl (by decide)⟩, trivial, trivial⟩, trivial⟩⟩, ⟨⟨_, comp99, by decide, .inl (by decide)⟩, ⟨⟨_, comp98, by decide, .inl (by decide)⟩, ⟨⟨_, comp97, by decide, .inl (by decide)⟩, trivial, trivial⟩, trivial⟩, ⟨⟨_, comp101, by decide, .inl (by decide)⟩, ⟨⟨_, comp100, by decide, .inl (by decide)⟩, trivial, trivial⟩, trivial⟩⟩⟩, ⟨⟨_, comp121, by decide, .inl (by decide)⟩, ⟨⟨_, comp118, by decide, .inl (by decide)⟩, ⟨⟨_, comp117, by decide, .inl (by decide)⟩, ⟨⟨_, comp103, by decide, .inl (by decide)⟩, trivial, trivial⟩, trivial⟩, ⟨⟨_, comp120, by decide, .inl (by decide)⟩, ⟨⟨_, comp119, by decide, .inl (by decide)⟩, trivial, trivial⟩, trivial⟩⟩, ⟨⟨_, comp124, by decide, .inl (by decide)⟩, ⟨⟨_, comp123, by decide, .inl (by decide)⟩, ⟨⟨_, comp122, by decide, .inl (by decide)⟩, trivial, trivial⟩, trivial⟩, ⟨⟨_, comp125, by decide, .inl (by decide)⟩, trivial, trivial⟩⟩⟩⟩⟩, ⟨⟨_, comp153, by decide, .inl (by decide)⟩, ⟨⟨_, comp140, by decide, .inl (by decide)⟩, ⟨⟨_, comp134, by decide, .inl (by decide)⟩, ⟨⟨_, comp131, by decide, .inl (by decide)⟩, ⟨⟨_, comp128, by decide, .inl (by decide)⟩, ⟨⟨_, comp127, by decide, .inr keys127⟩, trivial, trivial⟩, trivial⟩, ⟨⟨_, comp133, by decide, .inl (by decide)⟩, ⟨⟨_, comp132, by decide, .inl (by decide)⟩, trivial, trivial⟩, trivial⟩⟩, ⟨⟨_, comp137, by decide, .inl (by decide)⟩, ⟨⟨_, comp136, by decide, .inl (by decide)⟩, ⟨⟨_, comp135, by decide, .inl (by decide)⟩, trivial, trivial⟩, trivial⟩, ⟨⟨_, comp139, by decide, .inl (by decide)⟩, ⟨⟨_, comp138, by decide, .inl (by decide)⟩, trivial, trivial⟩, trivial⟩⟩⟩, ⟨⟨_, comp148, by decide, .inl (by decide)⟩, ⟨⟨_, comp145, by decide, .inl (by decide)⟩, ⟨⟨_, comp143, by decide, .inl (by decide)⟩, ⟨⟨_, comp142, by decide, .inl (by decide)⟩, trivial, trivial⟩, trivial⟩, ⟨⟨_, comp147, by decide, .inl (by decide)⟩, ⟨⟨_, comp146, by decide, .inl (by decide)⟩, trivial, trivial⟩, trivial⟩⟩, ⟨⟨_, comp151, by decide, .inl (by decide)⟩, ⟨⟨_, comp150, by decide, .inl (by decide)⟩, ⟨⟨_, comp149, by decide, .inl (by decide)⟩, trivial, trivial⟩, trivial⟩, ⟨⟨_, comp152, by decide, .inl (by decide)⟩, trivial, trivial⟩⟩⟩⟩, ⟨⟨_, comp166, by decide, .inl (by decide)⟩, ⟨⟨_, comp159, by decide, .inl (by decide)⟩, ⟨⟨_, comp156, by decide, .inl (by decide)⟩, ⟨⟨_, comp155, by decide, .inl (by decide)⟩, ⟨⟨_, comp154, by decide, .inl (by decide)⟩, trivial, trivial⟩, trivial⟩, ⟨⟨_, comp158, by decide, .inl (by decide)⟩, ⟨⟨_, comp157, by decide, .inl (by decide)⟩, trivial, trivial⟩, trivial⟩⟩, ⟨⟨_, comp163, by decide, .inl (by decide)⟩, ⟨⟨_, comp162, by decide, .inl (by decide)⟩, ⟨⟨_, comp161, by decide, .inl (by decide)⟩, trivial, trivial⟩, trivial⟩, ⟨⟨_, comp165, by decide, .inl (by decide)⟩, ⟨⟨_, comp164, by decide, .inl (by decide)⟩, trivial, trivial⟩, trivial⟩⟩⟩, ⟨⟨_, comp188, by decide, .inl (by decide)⟩, ⟨⟨_, comp169, by decide, .inl (by decide)⟩, ⟨⟨_, comp168, by decide, .inl (by decide)⟩, ⟨⟨_, comp167, by decide, .inl (by decide)⟩, trivial, trivial⟩, trivial⟩, ⟨⟨_, comp172, by decide, .inl (by decide)⟩, ⟨⟨_, comp171, by decide, .inl (by decide)⟩, trivial, trivial⟩, trivial⟩⟩, ⟨⟨_, comp191, by decide, .inl (by decide)⟩, ⟨⟨_, comp190, by decide, .inl (by decide)⟩, ⟨⟨_, comp189, by decide, .inl (by decide)⟩, trivial, trivial⟩, trivial⟩, ⟨⟨_, comp192, by decide, .inl (by decide)⟩, trivial, trivial⟩⟩⟩⟩⟩⟩
abbrev LT : List (Nat × LI) := [(126000, li126000), (127000, li127000)]
theorem LT_ok : LAll Go.Proofs.Try.prog LT := ⟨lok126000, ⟨lok127000, trivial⟩⟩
end Go.Gi
