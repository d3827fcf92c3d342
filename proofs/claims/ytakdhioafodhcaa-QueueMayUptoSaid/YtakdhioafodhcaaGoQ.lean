/- Functions of the program in the form of the abstract machine, printed by a program; each is checked against the translation. -/
import Derived.Test.YtakdhioafodhcaaGiAU
import Derived.Test.YtakdhioafodhcaaProg
import Derived.KernelRfl
set_option linter.unusedVariables false
namespace Go.Gi
open Go
def hintL (l : List (Nat × Nat)) (i : Nat) : Nat := (l.lookup i).getD 0
-- outlaw/outlawlaw22.QueueMay
abbrev r5_0 : List IOp := [⟨some 2, .op (.box 29), [.t 0], none⟩,
  ⟨some 4, .op (.mov), [.c (.bool false)], none⟩]
abbrev r5_1 : List IOp := [⟨some 13, .call none, [.f 10], none⟩,
  ⟨some 14, .op (.un .not), [.t 13], none⟩]
abbrev r5_2 : List IOp := [⟨some 4, .op (.mov), [.c (.bool false)], none⟩]
abbrev r5_3 : List IOp := [⟨some 15, .op (.mov), [.t 1], none⟩,
  ⟨some 16, .call none, [.f 21, .t 15], none⟩,
  ⟨some 17, .op (.un .not), [.t 16], none⟩,
  ⟨some 18, .op (.mov), [.t 17], none⟩,
  ⟨some 19, .op (.load (some 6)), [.t 2], some (18, false)⟩,
  ⟨some 20, .call none, [.f 26, .t 19], some (18, false)⟩,
  ⟨some 21, .op (.un .not), [.t 20], some (18, false)⟩,
  ⟨some 22, .op (.pick), [.t 18, .c (.bool true), .t 21], none⟩,
  ⟨some 23, .op (.mov), [.t 22], none⟩,
  ⟨some 24, .op (.load (some 6)), [.t 2], some (23, false)⟩,
  ⟨some 25, .call none, [.f 27, .t 24], some (23, false)⟩,
  ⟨some 26, .op (.bin .neq .prim), [.t 25, .c (.int .i64 0)], some (23, false)⟩,
  ⟨some 27, .op (.pick), [.t 23, .c (.bool true), .t 26], none⟩]
abbrev r5_4 : List IOp := [⟨some 4, .op (.mov), [.c (.bool true)], none⟩]
abbrev r5_5 : List IOp := [⟨some 5, .op (.mov), [.c (.int .i64 0)], none⟩]
abbrev r5_6 : List IOp := [⟨some 28, .op (.mov), [.t 5], none⟩,
  ⟨some 29, .op (.mov), [.t 1], none⟩,
  ⟨some 30, .op (.len .slice), [.t 29], none⟩,
  ⟨some 31, .op (.bin .lss .prim), [.t 28, .t 30], none⟩]
abbrev r5_7 : List IOp := [⟨some 35, .op (.load (some 6)), [.t 2], none⟩,
  ⟨some 36, .call none, [.f 23, .t 35], none⟩,
  ⟨some 37, .op (.mov), [.t 1], none⟩,
  ⟨some 38, .op (.mov), [.t 5], none⟩,
  ⟨some 39, .op (.iaddr 10), [.t 37, .t 38], none⟩,
  ⟨some 40, .op (.load (some 10)), [.t 39], none⟩,
  ⟨some 41, .call none, [.f 22, .t 36, .t 40], none⟩,
  ⟨some 34, .op (.mov), [.t 41], none⟩,
  ⟨some 42, .op (.extract 0), [.t 34], none⟩,
  ⟨some 43, .op (.extract 1), [.t 34], none⟩,
  ⟨some 44, .op (.extract 2), [.t 34], none⟩,
  ⟨some 45, .op (.extract 3), [.t 34], none⟩,
  ⟨some 46, .op (.extract 4), [.t 34], none⟩,
  ⟨some 6, .op (.alloc 29 [.nils, .int .i64 0, .int .i64 0, .nils, .nils, .bool false]), [], none⟩,
  ⟨none, .op (.store 6), [.t 6, .t 42], none⟩,
  ⟨some 7, .op (.mov), [.t 43], none⟩,
  ⟨some 8, .op (.mov), [.t 44], none⟩,
  ⟨some 9, .op (.mov), [.t 45], none⟩,
  ⟨some 10, .op (.mov), [.t 46], none⟩]
abbrev r5_8 : List IOp := [⟨some 47, .op (.load (some 6)), [.t 6], none⟩,
  ⟨some 48, .call none, [.f 27, .t 47], none⟩,
  ⟨some 49, .op (.bin .neq .prim), [.t 48, .c (.int .i64 0)], none⟩,
  ⟨some 50, .op (.mov), [.t 49], none⟩,
  ⟨some 51, .op (.faddr 2), [.t 6], some (50, false)⟩,
  ⟨some 52, .op (.load none), [.t 51], some (50, false)⟩,
  ⟨some 53, .op (.faddr 2), [.t 2], some (50, false)⟩,
  ⟨some 54, .op (.load none), [.t 53], some (50, false)⟩,
  ⟨some 55, .op (.bin .lss .prim), [.t 52, .t 54], some (50, false)⟩,
  ⟨some 56, .op (.pick), [.t 50, .c (.bool true), .t 55], none⟩,
  ⟨some 57, .op (.mov), [.t 56], none⟩,
  ⟨some 58, .op (.faddr 1), [.t 6], some (57, false)⟩,
  ⟨some 59, .op (.load none), [.t 58], some (57, false)⟩,
  ⟨some 60, .op (.faddr 1), [.t 2], some (57, false)⟩,
  ⟨some 61, .op (.load none), [.t 60], some (57, false)⟩,
  ⟨some 62, .op (.bin .lss .prim), [.t 59, .t 61], some (57, false)⟩,
  ⟨some 63, .op (.pick), [.t 57, .c (.bool true), .t 62], none⟩]
abbrev r5_9 : List IOp := [⟨some 4, .op (.mov), [.c (.bool false)], none⟩]
abbrev r5_10 : List IOp := [⟨some 64, .op (.mov), [.t 1], none⟩,
  ⟨some 65, .op (.mov), [.t 5], none⟩,
  ⟨some 66, .op (.iaddr 10), [.t 64, .t 65], none⟩,
  ⟨some 67, .op (.faddr 0), [.t 66], none⟩,
  ⟨some 68, .op (.load none), [.t 67], none⟩,
  ⟨some 69, .call none, [.f 18, .t 68, .c (.int .i64 9)], none⟩,
  ⟨some 70, .op (.bin .lss .prim), [.t 69, .c (.int .i64 2)], none⟩,
  ⟨some 11, .op (.mov), [.t 70], none⟩]
abbrev r5_11 : List IOp := [⟨some 71, .op (.mov), [.t 7], none⟩,
  ⟨some 72, .op (.bin .neq .prim), [.t 71, .c (.int .i64 0)], none⟩]
abbrev r5_12 : List IOp := [⟨some 73, .op (.load (some 6)), [.t 2], none⟩,
  ⟨some 74, .call none, [.f 23, .t 73], none⟩,
  ⟨some 12, .op (.alloc 29 [.nils, .int .i64 0, .int .i64 0, .nils, .nils, .bool false]), [], none⟩,
  ⟨none, .op (.store 6), [.t 12, .t 74], none⟩]
abbrev r5_13 : List IOp := [⟨some 75, .op (.faddr 5), [.t 12], none⟩,
  ⟨some 76, .op (.load none), [.t 75], none⟩,
  ⟨some 77, .op (.mov), [.t 76], none⟩,
  ⟨some 78, .op (.mov), [.t 11], some (77, false)⟩,
  ⟨some 79, .op (.mov), [.t 78], some (77, false)⟩,
  ⟨some 80, .op (.mov), [.t 7], some (79, true)⟩,
  ⟨some 81, .op (.bin .eql .prim), [.t 80, .c (.int .i64 13)], some (79, true)⟩,
  ⟨some 82, .op (.pick), [.t 79, .t 81, .c (.bool false)], some (77, false)⟩,
  ⟨some 83, .op (.pick), [.t 77, .c (.bool true), .t 82], none⟩,
  ⟨some 84, .op (.faddr 5), [.t 12], none⟩,
  ⟨none, .op (.store 1), [.t 84, .t 83], none⟩]
abbrev r5_14 : List IOp := [⟨some 85, .op (.load (some 6)), [.t 6], none⟩,
  ⟨some 86, .op (.load (some 6)), [.t 12], none⟩,
  ⟨some 87, .call none, [.f 28, .t 85, .t 86], none⟩,
  ⟨some 88, .op (.un .not), [.t 87], none⟩]
abbrev r5_15 : List IOp := [⟨some 4, .op (.mov), [.c (.bool false)], none⟩]
abbrev r5_16 : List IOp := [⟨some 89, .op (.mov), [.t 11], none⟩,
  ⟨some 90, .op (.mov), [.t 89], none⟩,
  ⟨some 91, .op (.mov), [.t 9], some (90, true)⟩,
  ⟨some 92, .op (.faddr 1), [.t 2], some (90, true)⟩,
  ⟨some 93, .op (.load none), [.t 92], some (90, true)⟩,
  ⟨some 94, .op (.bin .neq .prim), [.t 91, .t 93], some (90, true)⟩,
  ⟨some 95, .op (.mov), [.t 94], some (90, true)⟩,
  ⟨some 96, .op (.faddr 1), [.t 6], some (95, false)⟩,
  ⟨some 97, .op (.load none), [.t 96], some (95, false)⟩,
  ⟨some 98, .op (.mov), [.t 9], some (95, false)⟩,
  ⟨some 99, .op (.bin .add .prim), [.t 98, .c (.int .i64 1)], some (95, false)⟩,
  ⟨some 100, .op (.bin .neq .prim), [.t 97, .t 99], some (95, false)⟩,
  ⟨some 101, .op (.pick), [.t 95, .c (.bool true), .t 100], some (90, true)⟩,
  ⟨some 102, .op (.pick), [.t 90, .t 101, .c (.bool false)], none⟩,
  ⟨some 103, .op (.mov), [.t 102], none⟩,
  ⟨some 104, .op (.mov), [.t 11], some (103, false)⟩,
  ⟨some 105, .op (.un .not), [.t 104], some (103, false)⟩,
  ⟨some 106, .op (.mov), [.t 105], some (103, false)⟩,
  ⟨some 107, .op (.faddr 1), [.t 6], some (106, true)⟩,
  ⟨some 108, .op (.load none), [.t 107], some (106, true)⟩,
  ⟨some 109, .op (.faddr 1), [.t 2], some (106, true)⟩,
  ⟨some 110, .op (.load none), [.t 109], some (106, true)⟩,
  ⟨some 111, .op (.bin .neq .prim), [.t 108, .t 110], some (106, true)⟩,
  ⟨some 112, .op (.pick), [.t 106, .t 111, .c (.bool false)], some (103, false)⟩,
  ⟨some 113, .op (.pick), [.t 103, .c (.bool true), .t 112], none⟩]
abbrev r5_17 : List IOp := [⟨some 4, .op (.mov), [.c (.bool false)], none⟩]
abbrev r5_18 : List IOp := [⟨some 114, .op (.load (some 6)), [.t 6], none⟩,
  ⟨none, .op (.store 6), [.t 2, .t 114], none⟩]
abbrev r5_19 : List IOp := [⟨some 32, .op (.mov), [.t 5], none⟩,
  ⟨some 33, .op (.bin .add .prim), [.t 32, .c (.int .i64 1)], none⟩,
  ⟨some 5, .op (.mov), [.t 33], none⟩]
abbrev b5_0 : IC := (IC.seq (IC.seq (IC.reg r5_6) (IC.cond (.t 31) IC.skip (IC.exit 0))) (IC.seq (IC.block 1 (IC.seq (IC.regD .wild r5_7 (.take 0 (.take 2 (.take 3 (.take 4 (.fork [(1, .take 5 (.fork [(6, .take 7 (.take 8 (.take 9 (.take 10 (.take 11 (.take 12 (.take 13 (.take 14 (.take 15 (.take 16 (.take 17 (.take 18 (.done))))))))))))), (13, .take 6 (.take 7 (.take 8 (.take 9 (.take 10 (.take 11 (.take 12 (.take 14 (.take 15 (.take 16 (.take 17 (.take 18 (.done)))))))))))))])), (5, .fork [(1, .fork [(6, .take 7 (.take 8 (.take 9 (.take 10 (.take 11 (.take 12 (.take 13 (.take 14 (.take 15 (.take 16 (.take 17 (.take 18 (.done))))))))))))), (13, .take 6 (.take 7 (.take 8 (.take 9 (.take 10 (.take 11 (.take 12 (.take 14 (.take 15 (.take 16 (.take 17 (.take 18 (.done)))))))))))))]), (13, .take 1 (.take 6 (.take 7 (.take 8 (.take 9 (.take 10 (.take 11 (.take 12 (.take 14 (.take 15 (.take 16 (.take 17 (.take 18 (.done))))))))))))))]), (13, .fork [(1, .take 5 (.take 6 (.take 7 (.take 8 (.take 9 (.take 10 (.take 11 (.take 12 (.take 14 (.take 15 (.take 16 (.take 17 (.take 18 (.done)))))))))))))), (5, .take 1 (.take 6 (.take 7 (.take 8 (.take 9 (.take 10 (.take 11 (.take 12 (.take 14 (.take 15 (.take 16 (.take 17 (.take 18 (.done))))))))))))))])])))))) (IC.seq (IC.seq (IC.reg r5_8) (IC.cond (.t 63) (IC.seq (IC.reg r5_9) IC.ret) IC.skip)) (IC.seq (IC.reg r5_10) (IC.seq (IC.seq (IC.reg r5_11) (IC.cond (.t 72) (IC.seq (IC.reg r5_12) (IC.seq (IC.reg r5_13) (IC.seq (IC.reg r5_14) (IC.cond (.t 88) (IC.seq (IC.reg r5_15) IC.ret) IC.skip)))) (IC.seq (IC.reg r5_16) (IC.cond (.t 113) (IC.seq (IC.reg r5_17) IC.ret) IC.skip)))) (IC.reg r5_18)))))) (IC.reg r5_19)))
abbrev r5_20 : List IOp := [⟨some 4, .op (.mov), [.c (.bool true)], none⟩]
abbrev c5 : IC := (IC.seq (IC.reg r5_0) (IC.seq (IC.seq (IC.reg r5_1) (IC.cond (.t 14) (IC.seq (IC.reg r5_2) IC.ret) IC.skip)) (IC.seq (IC.seq (IC.reg r5_3) (IC.cond (.t 27) (IC.seq (IC.reg r5_4) IC.ret) IC.skip)) (IC.seq (IC.seq (IC.reg r5_5) (IC.block 0 (IC.loop b5_0))) (IC.seq (IC.reg r5_20) IC.ret)))))
abbrev g5 : FC := ⟨c5, 115, [.t 4]⟩
theorem comp5 : compF Go.Proofs.Try.prog (hintL [(8, 6)]) 5 = some g5 := by kernel_rfl

-- outlaw/outlawlaw22.lives
abbrev r10_0 : List IOp := [⟨some 0, .op (.mov), [.c (.bool false)], none⟩]
abbrev r10_1 : List IOp := [⟨some 16, .call none, [.f 13], none⟩,
  ⟨some 17, .call none, [.f 54, .c (.str [64, 97, 58, 98])], none⟩,
  ⟨some 18, .call none, [.f 12, .t 16, .t 17], none⟩,
  ⟨some 15, .op (.mov), [.t 18], none⟩,
  ⟨some 19, .op (.extract 0), [.t 15], none⟩,
  ⟨some 20, .op (.extract 1), [.t 15], none⟩,
  ⟨some 21, .op (.extract 2), [.t 15], none⟩,
  ⟨some 1, .op (.alloc 29 [.nils, .int .i64 0, .int .i64 0, .nils, .nils, .bool false]), [], none⟩,
  ⟨none, .op (.store 6), [.t 1, .t 19], none⟩,
  ⟨some 2, .op (.mov), [.t 20], none⟩,
  ⟨some 3, .op (.mov), [.t 21], none⟩]
abbrev r10_2 : List IOp := [⟨some 23, .op (.load (some 6)), [.t 1], none⟩,
  ⟨some 24, .call none, [.f 14, .t 23, .c (.int .i64 1)], none⟩,
  ⟨some 22, .op (.mov), [.t 24], none⟩,
  ⟨some 25, .op (.extract 0), [.t 22], none⟩,
  ⟨some 26, .op (.extract 1), [.t 22], none⟩,
  ⟨none, .op (.store 6), [.t 1, .t 25], none⟩,
  ⟨some 4, .op (.mov), [.t 26], none⟩]
abbrev r10_3 : List IOp := [⟨some 28, .op (.load (some 6)), [.t 1], none⟩,
  ⟨some 29, .call none, [.f 55, .t 28], none⟩,
  ⟨some 30, .call none, [.f 20, .t 29, .c (.nils)], none⟩,
  ⟨some 27, .op (.mov), [.t 30], none⟩,
  ⟨some 31, .op (.extract 0), [.t 27], none⟩,
  ⟨some 32, .op (.extract 1), [.t 27], none⟩,
  ⟨some 5, .op (.alloc 42 [.int .i64 0, .int .i64 0, .str [], .str [], .str [], .str [], .bool false, .bool false, .int .i64 0, .int .i64 0]), [], none⟩,
  ⟨none, .op (.store 10), [.t 5, .t 31], none⟩,
  ⟨some 6, .op (.mov), [.t 32], none⟩]
abbrev r10_4 : List IOp := [⟨some 34, .op (.load (some 6)), [.t 1], none⟩,
  ⟨some 35, .call none, [.f 15, .t 34, .c (.int .i64 1), .c (.bool false)], none⟩,
  ⟨some 33, .op (.mov), [.t 35], none⟩,
  ⟨some 36, .op (.extract 0), [.t 33], none⟩,
  ⟨some 37, .op (.extract 1), [.t 33], none⟩,
  ⟨some 38, .op (.extract 2), [.t 33], none⟩,
  ⟨some 7, .op (.alloc 29 [.nils, .int .i64 0, .int .i64 0, .nils, .nils, .bool false]), [], none⟩,
  ⟨none, .op (.store 6), [.t 7, .t 36], none⟩,
  ⟨some 8, .op (.mov), [.t 37], none⟩,
  ⟨some 9, .op (.mov), [.t 38], none⟩]
abbrev r10_5 : List IOp := [⟨some 40, .op (.load (some 6)), [.t 7], none⟩,
  ⟨some 41, .call none, [.f 20, .t 40, .c (.nils)], none⟩,
  ⟨some 39, .op (.mov), [.t 41], none⟩,
  ⟨some 42, .op (.extract 0), [.t 39], none⟩,
  ⟨some 43, .op (.extract 1), [.t 39], none⟩,
  ⟨some 10, .op (.alloc 42 [.int .i64 0, .int .i64 0, .str [], .str [], .str [], .str [], .bool false, .bool false, .int .i64 0, .int .i64 0]), [], none⟩,
  ⟨none, .op (.store 10), [.t 10, .t 42], none⟩,
  ⟨some 11, .op (.mov), [.t 43], none⟩]
abbrev r10_6 : List IOp := [⟨some 45, .op (.load (some 6)), [.t 7], none⟩,
  ⟨some 46, .call none, [.f 19, .t 45, .c (.int .i64 2)], none⟩,
  ⟨some 44, .op (.mov), [.t 46], none⟩,
  ⟨some 47, .op (.extract 0), [.t 44], none⟩,
  ⟨some 48, .op (.extract 1), [.t 44], none⟩,
  ⟨none, .op (.store 6), [.t 7, .t 47], none⟩,
  ⟨some 12, .op (.mov), [.t 48], none⟩]
abbrev r10_7 : List IOp := [⟨some 50, .op (.load (some 6)), [.t 7], none⟩,
  ⟨some 51, .call none, [.f 20, .t 50, .c (.nils)], none⟩,
  ⟨some 49, .op (.mov), [.t 51], none⟩,
  ⟨some 52, .op (.extract 0), [.t 49], none⟩,
  ⟨some 53, .op (.extract 1), [.t 49], none⟩,
  ⟨some 13, .op (.alloc 42 [.int .i64 0, .int .i64 0, .str [], .str [], .str [], .str [], .bool false, .bool false, .int .i64 0, .int .i64 0]), [], none⟩,
  ⟨none, .op (.store 10), [.t 13, .t 52], none⟩,
  ⟨some 14, .op (.mov), [.t 53], none⟩]
abbrev r10_8 : List IOp := [⟨some 54, .op (.mov), [.t 3], none⟩,
  ⟨some 55, .op (.bin .eql .prim), [.t 54, .c (.int .i64 0)], none⟩,
  ⟨some 56, .op (.mov), [.t 55], none⟩,
  ⟨some 57, .op (.mov), [.t 2], some (56, true)⟩,
  ⟨some 58, .op (.bin .eql .prim), [.t 57, .c (.int .i64 1)], some (56, true)⟩,
  ⟨some 59, .op (.pick), [.t 56, .t 58, .c (.bool false)], none⟩,
  ⟨some 60, .op (.mov), [.t 59], none⟩,
  ⟨some 61, .op (.mov), [.t 4], some (60, true)⟩,
  ⟨some 62, .op (.bin .eql .prim), [.t 61, .c (.int .i64 0)], some (60, true)⟩,
  ⟨some 63, .op (.pick), [.t 60, .t 62, .c (.bool false)], none⟩,
  ⟨some 64, .op (.mov), [.t 63], none⟩,
  ⟨some 65, .op (.mov), [.t 6], some (64, true)⟩,
  ⟨some 66, .op (.pick), [.t 64, .t 65, .c (.bool false)], none⟩,
  ⟨some 67, .op (.mov), [.t 66], none⟩,
  ⟨some 68, .op (.faddr 0), [.t 5], some (67, true)⟩,
  ⟨some 69, .op (.load none), [.t 68], some (67, true)⟩,
  ⟨some 70, .op (.bin .eql .prim), [.t 69, .c (.int .i64 1)], some (67, true)⟩,
  ⟨some 71, .op (.pick), [.t 67, .t 70, .c (.bool false)], none⟩,
  ⟨some 72, .op (.mov), [.t 71], none⟩,
  ⟨some 73, .op (.faddr 7), [.t 5], some (72, true)⟩,
  ⟨some 74, .op (.load none), [.t 73], some (72, true)⟩,
  ⟨some 75, .op (.pick), [.t 72, .t 74, .c (.bool false)], none⟩,
  ⟨some 76, .op (.mov), [.t 75], none⟩,
  ⟨some 77, .op (.mov), [.t 9], some (76, true)⟩,
  ⟨some 78, .op (.bin .eql .prim), [.t 77, .c (.int .i64 0)], some (76, true)⟩,
  ⟨some 79, .op (.pick), [.t 76, .t 78, .c (.bool false)], none⟩,
  ⟨some 80, .op (.mov), [.t 79], none⟩,
  ⟨some 81, .op (.mov), [.t 8], some (80, true)⟩,
  ⟨some 82, .op (.bin .eql .prim), [.t 81, .c (.int .i64 2)], some (80, true)⟩,
  ⟨some 83, .op (.pick), [.t 80, .t 82, .c (.bool false)], none⟩,
  ⟨some 84, .op (.mov), [.t 83], none⟩,
  ⟨some 85, .op (.mov), [.t 11], some (84, true)⟩,
  ⟨some 86, .op (.un .not), [.t 85], some (84, true)⟩,
  ⟨some 87, .op (.pick), [.t 84, .t 86, .c (.bool false)], none⟩,
  ⟨some 88, .op (.mov), [.t 87], none⟩,
  ⟨some 89, .op (.mov), [.t 12], some (88, true)⟩,
  ⟨some 90, .op (.bin .eql .prim), [.t 89, .c (.int .i64 0)], some (88, true)⟩,
  ⟨some 91, .op (.pick), [.t 88, .t 90, .c (.bool false)], none⟩,
  ⟨some 92, .op (.mov), [.t 91], none⟩,
  ⟨some 93, .op (.mov), [.t 14], some (92, true)⟩,
  ⟨some 94, .op (.pick), [.t 92, .t 93, .c (.bool false)], none⟩,
  ⟨some 95, .op (.mov), [.t 94], none⟩,
  ⟨some 96, .op (.faddr 0), [.t 13], some (95, true)⟩,
  ⟨some 97, .op (.load none), [.t 96], some (95, true)⟩,
  ⟨some 98, .op (.bin .eql .prim), [.t 97, .c (.int .i64 1)], some (95, true)⟩,
  ⟨some 99, .op (.pick), [.t 95, .t 98, .c (.bool false)], none⟩,
  ⟨some 0, .op (.mov), [.t 99], none⟩]
abbrev c10 : IC := (IC.seq (IC.reg r10_0) (IC.seq (IC.reg r10_1) (IC.seq (IC.reg r10_2) (IC.seq (IC.reg r10_3) (IC.seq (IC.reg r10_4) (IC.seq (IC.reg r10_5) (IC.seq (IC.reg r10_6) (IC.seq (IC.reg r10_7) (IC.seq (IC.reg r10_8) IC.ret)))))))))
abbrev g10 : FC := ⟨c10, 100, [.t 0]⟩
theorem comp10 : compF Go.Proofs.Try.prog (fun _ => 0) 10 = some g10 := by kernel_rfl

-- outlaw/outlawkit.LightAction
abbrev r11_0 : List IOp := [⟨some 1, .op (.box 23), [.t 0], none⟩,
  ⟨some 2, .op (.mov), [.c (.bool false)], none⟩]
abbrev r11_1 : List IOp := [⟨some 3, .op (.faddr 1), [.t 1], none⟩,
  ⟨some 4, .op (.load none), [.t 3], none⟩,
  ⟨some 5, .op (.len .str), [.t 4], none⟩,
  ⟨some 6, .op (.bin .leq .prim), [.t 5, .c (.int .i64 300)], none⟩,
  ⟨some 7, .op (.mov), [.t 6], none⟩,
  ⟨some 8, .op (.faddr 2), [.t 1], some (7, true)⟩,
  ⟨some 9, .op (.load none), [.t 8], some (7, true)⟩,
  ⟨some 10, .op (.len .str), [.t 9], some (7, true)⟩,
  ⟨some 11, .op (.bin .leq .prim), [.t 10, .c (.int .i64 300)], some (7, true)⟩,
  ⟨some 12, .op (.pick), [.t 7, .t 11, .c (.bool false)], none⟩,
  ⟨some 13, .op (.mov), [.t 12], none⟩,
  ⟨some 14, .op (.faddr 3), [.t 1], some (13, true)⟩,
  ⟨some 15, .op (.load none), [.t 14], some (13, true)⟩,
  ⟨some 16, .op (.len .str), [.t 15], some (13, true)⟩,
  ⟨some 17, .op (.bin .leq .prim), [.t 16, .c (.int .i64 300)], some (13, true)⟩,
  ⟨some 18, .op (.pick), [.t 13, .t 17, .c (.bool false)], none⟩,
  ⟨some 19, .op (.mov), [.t 18], none⟩,
  ⟨some 20, .op (.faddr 4), [.t 1], some (19, true)⟩,
  ⟨some 21, .op (.load none), [.t 20], some (19, true)⟩,
  ⟨some 22, .op (.len .str), [.t 21], some (19, true)⟩,
  ⟨some 23, .op (.bin .leq .prim), [.t 22, .c (.int .i64 3000)], some (19, true)⟩,
  ⟨some 24, .op (.pick), [.t 19, .t 23, .c (.bool false)], none⟩,
  ⟨some 2, .op (.mov), [.t 24], none⟩]
abbrev c11 : IC := (IC.seq (IC.reg r11_0) (IC.seq (IC.reg r11_1) IC.ret))
abbrev g11 : FC := ⟨c11, 25, [.t 2]⟩
theorem comp11 : compF Go.Proofs.Try.prog (fun _ => 0) 11 = some g11 := by kernel_rfl

-- outlaw/queue.Put
abbrev r12_0 : List IOp := [⟨some 2, .op (.box 29), [.t 0], none⟩,
  ⟨some 3, .op (.box 23), [.t 1], none⟩,
  ⟨some 4, .op (.alloc 29 [.nils, .int .i64 0, .int .i64 0, .nils, .nils, .bool false]), [], none⟩,
  ⟨some 5, .op (.mov), [.c (.int .i64 0)], none⟩,
  ⟨some 6, .op (.mov), [.c (.int .i64 0)], none⟩]
abbrev r12_1 : List IOp := [⟨some 8, .op (.load (some 6)), [.t 2], none⟩,
  ⟨some 9, .call none, [.f 56, .t 8], none⟩,
  ⟨none, .op (.store 6), [.t 2, .t 9], none⟩]
abbrev r12_2 : List IOp := [⟨some 11, .op (.load (some 5)), [.t 3], none⟩,
  ⟨some 12, .call none, [.f 57, .t 11], none⟩,
  ⟨some 13, .op (.un .not), [.t 12], none⟩,
  ⟨some 10, .op (.mov), [.t 13], none⟩]
abbrev r12_3 : List IOp := [⟨some 14, .op (.load (some 6)), [.t 2], none⟩,
  ⟨none, .op (.store 6), [.t 4, .t 14], none⟩,
  ⟨some 5, .op (.mov), [.c (.int .i64 0)], none⟩,
  ⟨some 6, .op (.mov), [.c (.int .i64 2)], none⟩]
abbrev r12_4 : List IOp := [⟨some 16, .op (.load (some 6)), [.t 2], none⟩,
  ⟨some 17, .call none, [.f 59, .t 16], none⟩,
  ⟨some 18, .op (.mkfn 60), [.t 3], none⟩,
  ⟨some 19, .call none, [.f 58, .t 17, .t 18], none⟩,
  ⟨some 15, .op (.mov), [.t 19], none⟩]
abbrev r12_5 : List IOp := [⟨some 20, .op (.load (some 6)), [.t 2], none⟩,
  ⟨none, .op (.store 6), [.t 4, .t 20], none⟩,
  ⟨some 5, .op (.mov), [.c (.int .i64 0)], none⟩,
  ⟨some 6, .op (.mov), [.c (.int .i64 8)], none⟩]
abbrev r12_6 : List IOp := [⟨some 22, .op (.faddr 0), [.t 2], none⟩,
  ⟨some 23, .op (.load none), [.t 22], none⟩,
  ⟨some 24, .op (.len .slice), [.t 23], none⟩,
  ⟨some 25, .op (.bin .geq .prim), [.t 24, .c (.int .i64 32)], none⟩,
  ⟨some 26, .op (.mov), [.t 25], none⟩,
  ⟨some 27, .op (.faddr 1), [.t 2], some (26, false)⟩,
  ⟨some 28, .op (.load none), [.t 27], some (26, false)⟩,
  ⟨some 29, .op (.bin .geq .prim), [.t 28, .c (.int .i64 1152921504606846976)], some (26, false)⟩,
  ⟨some 30, .op (.pick), [.t 26, .c (.bool true), .t 29], none⟩,
  ⟨some 21, .op (.mov), [.t 30], none⟩]
abbrev r12_7 : List IOp := [⟨some 31, .op (.faddr 5), [.t 2], none⟩,
  ⟨none, .op (.store 1), [.t 31, .c (.bool true)], none⟩]
abbrev r12_8 : List IOp := [⟨some 32, .op (.load (some 6)), [.t 2], none⟩,
  ⟨none, .op (.store 6), [.t 4, .t 32], none⟩,
  ⟨some 5, .op (.mov), [.c (.int .i64 0)], none⟩,
  ⟨some 6, .op (.mov), [.c (.int .i64 13)], none⟩]
abbrev r12_9 : List IOp := [⟨some 33, .op (.faddr 1), [.t 2], none⟩,
  ⟨some 34, .op (.load none), [.t 33], none⟩,
  ⟨some 7, .op (.mov), [.t 34], none⟩]
abbrev r12_10 : List IOp := [⟨some 35, .op (.faddr 0), [.t 2], none⟩,
  ⟨some 36, .op (.load none), [.t 35], none⟩,
  ⟨some 37, .op (.mov), [.t 7], none⟩,
  ⟨some 38, .op (.load (some 5)), [.t 3], none⟩,
  ⟨some 39, .op (.faddr 2), [.t 2], none⟩,
  ⟨some 40, .op (.load none), [.t 39], none⟩,
  ⟨some 41, .op (.bst [.int .i64 0, .int .i64 0, .str [], .str [], .str [], .str [], .bool false, .bool false, .int .i64 0, .int .i64 0] [(0, 1), (1, 5), (6, 1), (7, 1), (8, 1), (9, 1)] [0, 1, 5]), [.t 37, .t 38, .t 40], none⟩,
  ⟨some 42, .op (.bsl 42 10 false), [.t 41], none⟩,
  ⟨some 43, .op (.app 42 10 104), [.t 36, .t 42], none⟩,
  ⟨some 44, .op (.faddr 0), [.t 2], none⟩,
  ⟨none, .op (.store 1), [.t 44, .t 43], none⟩]
abbrev r12_11 : List IOp := [⟨some 45, .op (.faddr 1), [.t 2], none⟩,
  ⟨some 46, .op (.load none), [.t 45], none⟩,
  ⟨some 47, .op (.bin .add .prim), [.t 46, .c (.int .i64 1)], none⟩,
  ⟨some 48, .op (.faddr 1), [.t 2], none⟩,
  ⟨none, .op (.store 1), [.t 48, .t 47], none⟩]
abbrev r12_12 : List IOp := [⟨some 49, .op (.load (some 6)), [.t 2], none⟩,
  ⟨some 50, .op (.mov), [.t 7], none⟩,
  ⟨none, .op (.store 6), [.t 4, .t 49], none⟩,
  ⟨some 5, .op (.mov), [.t 50], none⟩,
  ⟨some 6, .op (.mov), [.c (.int .i64 0)], none⟩]
abbrev c12 : IC := (IC.seq (IC.reg r12_0) (IC.seq (IC.reg r12_1) (IC.seq (IC.block 0 (IC.seq (IC.reg r12_2) (IC.cond (.t 10) (IC.seq (IC.reg r12_3) IC.ret) (IC.seq (IC.reg r12_4) (IC.cond (.t 15) (IC.seq (IC.reg r12_5) IC.ret) (IC.seq (IC.reg r12_6) (IC.cond (.t 21) (IC.seq (IC.reg r12_7) (IC.seq (IC.reg r12_8) IC.ret)) IC.skip))))))) (IC.seq (IC.reg r12_9) (IC.seq (IC.reg r12_10) (IC.seq (IC.reg r12_11) (IC.seq (IC.reg r12_12) IC.ret)))))))
abbrev g12 : FC := ⟨c12, 51, [.cell 4 (some 6), .t 5, .t 6]⟩
theorem comp12 : compF Go.Proofs.Try.prog (fun _ => 0) 12 = some g12 := by kernel_rfl

-- outlaw/queue.Empty
abbrev r13_0 : List IOp := [⟨some 0, .op (.alloc 29 [.nils, .int .i64 0, .int .i64 0, .nils, .nils, .bool false]), [], none⟩]
abbrev r13_1 : List IOp := [⟨some 1, .op (.bst [.nils, .int .i64 0, .int .i64 0, .nils, .nils, .bool false] [(0, 1), (1, 1), (2, 1), (3, 1), (4, 1), (5, 1)] [1]), [.c (.int .i64 1)], none⟩,
  ⟨none, .op (.store 6), [.t 0, .t 1], none⟩]
abbrev c13 : IC := (IC.seq (IC.reg r13_0) (IC.seq (IC.reg r13_1) IC.ret))
abbrev g13 : FC := ⟨c13, 2, [.cell 0 (some 6)]⟩
theorem comp13 : compF Go.Proofs.Try.prog (fun _ => 0) 13 = some g13 := by kernel_rfl

-- outlaw/queue.Send
abbrev r14_0 : List IOp := [⟨some 2, .op (.box 29), [.t 0], none⟩,
  ⟨some 4, .op (.alloc 29 [.nils, .int .i64 0, .int .i64 0, .nils, .nils, .bool false]), [], none⟩,
  ⟨some 5, .op (.mov), [.c (.int .i64 0)], none⟩]
abbrev r14_1 : List IOp := [⟨some 7, .op (.load (some 6)), [.t 2], none⟩,
  ⟨some 8, .call none, [.f 56, .t 7], none⟩,
  ⟨none, .op (.store 6), [.t 2, .t 8], none⟩]
abbrev r14_2 : List IOp := [⟨some 9, .op (.load (some 6)), [.t 2], none⟩,
  ⟨some 10, .op (.mov), [.t 1], none⟩,
  ⟨some 11, .call none, [.f 61, .t 9, .t 10], none⟩,
  ⟨some 6, .op (.mov), [.t 11], none⟩]
abbrev r14_3 : List IOp := [⟨some 13, .op (.mov), [.t 6], none⟩,
  ⟨some 14, .op (.bin .lss .prim), [.t 13, .c (.int .i64 0)], none⟩,
  ⟨some 12, .op (.mov), [.t 14], none⟩]
abbrev r14_4 : List IOp := [⟨some 15, .op (.load (some 6)), [.t 2], none⟩,
  ⟨none, .op (.store 6), [.t 4, .t 15], none⟩,
  ⟨some 5, .op (.mov), [.c (.int .i64 12)], none⟩]
abbrev r14_5 : List IOp := [⟨some 17, .op (.faddr 0), [.t 2], none⟩,
  ⟨some 18, .op (.load none), [.t 17], none⟩,
  ⟨some 19, .op (.mov), [.t 6], none⟩,
  ⟨some 20, .op (.iaddr 10), [.t 18, .t 19], none⟩,
  ⟨some 21, .op (.faddr 6), [.t 20], none⟩,
  ⟨some 22, .op (.load none), [.t 21], none⟩,
  ⟨some 16, .op (.mov), [.t 22], none⟩]
abbrev r14_6 : List IOp := [⟨some 23, .op (.faddr 0), [.t 2], none⟩,
  ⟨some 24, .op (.load none), [.t 23], none⟩,
  ⟨some 25, .op (.mov), [.t 6], none⟩,
  ⟨some 26, .op (.iaddr 10), [.t 24, .t 25], none⟩,
  ⟨some 27, .op (.load (some 10)), [.t 26], none⟩,
  ⟨some 28, .call none, [.f 62, .t 27], none⟩,
  ⟨some 29, .op (.mov), [.t 28], none⟩,
  ⟨some 30, .op (.faddr 0), [.t 2], some (29, true)⟩,
  ⟨some 31, .op (.load none), [.t 30], some (29, true)⟩,
  ⟨some 32, .op (.mov), [.t 6], some (29, true)⟩,
  ⟨some 33, .op (.iaddr 10), [.t 31, .t 32], some (29, true)⟩,
  ⟨some 34, .op (.faddr 9), [.t 33], some (29, true)⟩,
  ⟨some 35, .op (.load none), [.t 34], some (29, true)⟩,
  ⟨some 36, .op (.faddr 2), [.t 2], some (29, true)⟩,
  ⟨some 37, .op (.load none), [.t 36], some (29, true)⟩,
  ⟨some 38, .op (.bin .gtr .prim), [.t 35, .t 37], some (29, true)⟩,
  ⟨some 39, .op (.pick), [.t 29, .t 38, .c (.bool false)], none⟩,
  ⟨some 16, .op (.mov), [.t 39], none⟩]
abbrev r14_7 : List IOp := [⟨some 40, .op (.load (some 6)), [.t 2], none⟩,
  ⟨some 41, .call none, [.f 63, .t 40], none⟩,
  ⟨some 42, .op (.bin .geq .prim), [.t 41, .c (.int .i64 4)], none⟩,
  ⟨some 16, .op (.mov), [.t 42], none⟩]
abbrev r14_8 : List IOp := [⟨some 43, .op (.load (some 6)), [.t 2], none⟩,
  ⟨none, .op (.store 6), [.t 4, .t 43], none⟩,
  ⟨some 5, .op (.mov), [.c (.int .i64 14)], none⟩]
abbrev r14_9 : List IOp := [⟨some 44, .op (.faddr 0), [.t 2], none⟩,
  ⟨some 45, .op (.load none), [.t 44], none⟩,
  ⟨some 46, .op (.mov), [.t 6], none⟩,
  ⟨some 47, .op (.iaddr 10), [.t 45, .t 46], none⟩,
  ⟨some 48, .op (.faddr 6), [.t 47], none⟩,
  ⟨none, .op (.store 1), [.t 48, .c (.bool true)], none⟩]
abbrev r14_10 : List IOp := [⟨some 49, .op (.load (some 6)), [.t 2], none⟩,
  ⟨none, .op (.store 6), [.t 4, .t 49], none⟩,
  ⟨some 5, .op (.mov), [.c (.int .i64 0)], none⟩]
abbrev c14 : IC := (IC.seq (IC.reg r14_0) (IC.seq (IC.reg r14_1) (IC.seq (IC.reg r14_2) (IC.seq (IC.block 0 (IC.seq (IC.reg r14_3) (IC.cond (.t 12) (IC.seq (IC.reg r14_4) IC.ret) (IC.seq (IC.seq (IC.reg r14_5) (IC.cond (.t 16) IC.skip (IC.seq (IC.regD .wild r14_6 (.take 0 (.take 1 (.take 2 (.take 3 (.take 4 (.take 5 (.take 6 (.take 7 (.take 8 (.take 9 (.take 10 (.take 11 (.take 12 (.take 13 (.take 14 (.take 15 (.take 16 (.take 17 (.done)))))))))))))))))))) (IC.cond (.t 16) IC.skip (IC.reg r14_7))))) (IC.cond (.t 16) (IC.seq (IC.reg r14_8) IC.ret) IC.skip))))) (IC.seq (IC.reg r14_9) (IC.seq (IC.reg r14_10) IC.ret))))))
abbrev g14 : FC := ⟨c14, 50, [.cell 4 (some 6), .t 5]⟩
theorem comp14 : compF Go.Proofs.Try.prog (hintL [(6, 6)]) 14 = some g14 := by kernel_rfl

-- outlaw/queue.Reply
abbrev r15_0 : List IOp := [⟨some 3, .op (.box 29), [.t 0], none⟩,
  ⟨some 6, .op (.alloc 29 [.nils, .int .i64 0, .int .i64 0, .nils, .nils, .bool false]), [], none⟩,
  ⟨some 7, .op (.mov), [.c (.int .i64 0)], none⟩,
  ⟨some 8, .op (.mov), [.c (.int .i64 0)], none⟩]
abbrev r15_1 : List IOp := [⟨some 12, .op (.load (some 6)), [.t 3], none⟩,
  ⟨some 13, .call none, [.f 56, .t 12], none⟩,
  ⟨none, .op (.store 6), [.t 3, .t 13], none⟩]
abbrev r15_2 : List IOp := [⟨some 14, .op (.load (some 6)), [.t 3], none⟩,
  ⟨some 15, .op (.mov), [.t 1], none⟩,
  ⟨some 16, .call none, [.f 61, .t 14, .t 15], none⟩,
  ⟨some 9, .op (.mov), [.t 16], none⟩]
abbrev r15_3 : List IOp := [⟨some 17, .op (.mov), [.t 9], none⟩,
  ⟨some 18, .op (.bin .lss .prim), [.t 17, .c (.int .i64 0)], none⟩]
abbrev r15_4 : List IOp := [⟨some 19, .op (.load (some 6)), [.t 3], none⟩,
  ⟨none, .op (.store 6), [.t 6, .t 19], none⟩,
  ⟨some 7, .op (.mov), [.c (.int .i64 0)], none⟩,
  ⟨some 8, .op (.mov), [.c (.int .i64 12)], none⟩]
abbrev r15_5 : List IOp := [⟨some 20, .op (.faddr 0), [.t 3], none⟩,
  ⟨some 21, .op (.load none), [.t 20], none⟩,
  ⟨some 22, .op (.mov), [.t 9], none⟩,
  ⟨some 23, .op (.iaddr 10), [.t 21, .t 22], none⟩,
  ⟨some 24, .op (.load (some 10)), [.t 23], none⟩,
  ⟨some 10, .op (.alloc 42 [.int .i64 0, .int .i64 0, .str [], .str [], .str [], .str [], .bool false, .bool false, .int .i64 0, .int .i64 0]), [], none⟩,
  ⟨none, .op (.store 10), [.t 10, .t 24], none⟩]
abbrev r15_6 : List IOp := [⟨some 11, .op (.mov), [.c (.int .i64 2)], none⟩]
abbrev r15_7 : List IOp := [⟨some 26, .op (.load (some 10)), [.t 10], none⟩,
  ⟨some 27, .call none, [.f 62, .t 26], none⟩,
  ⟨some 25, .op (.mov), [.t 27], none⟩]
abbrev r15_8 : List IOp := [⟨some 28, .op (.load (some 6)), [.t 3], none⟩,
  ⟨none, .op (.store 6), [.t 6, .t 28], none⟩,
  ⟨some 7, .op (.mov), [.c (.int .i64 0)], none⟩,
  ⟨some 8, .op (.mov), [.c (.int .i64 14)], none⟩]
abbrev r15_9 : List IOp := [⟨some 30, .op (.mov), [.t 2], none⟩,
  ⟨some 29, .op (.mov), [.t 30], none⟩]
abbrev r15_10 : List IOp := [⟨some 11, .op (.mov), [.c (.int .i64 1)], none⟩]
abbrev r15_11 : List IOp := [⟨some 32, .op (.faddr 8), [.t 10], none⟩,
  ⟨some 33, .op (.load none), [.t 32], none⟩,
  ⟨some 34, .op (.bin .add .prim), [.t 33, .c (.int .i64 1)], none⟩,
  ⟨some 35, .op (.bin .lss .prim), [.t 34, .c (.int .i64 5)], none⟩,
  ⟨some 31, .op (.mov), [.t 35], none⟩]
abbrev r15_12 : List IOp := [⟨some 37, .op (.faddr 3), [.t 3], none⟩,
  ⟨some 38, .op (.load none), [.t 37], none⟩,
  ⟨some 39, .op (.len .slice), [.t 38], none⟩,
  ⟨some 40, .op (.bin .lss .prim), [.t 39, .c (.int .i64 64)], none⟩,
  ⟨some 36, .op (.mov), [.t 40], none⟩]
abbrev r15_13 : List IOp := [⟨some 11, .op (.mov), [.c (.int .i64 3)], none⟩]
abbrev r15_14 : List IOp := [⟨some 41, .op (.mov), [.t 11], none⟩]
abbrev r15_15 : List IOp := [⟨some 64, .op (.bin .eql .prim), [.t 41, .c (.int .i64 1)], none⟩,
  ⟨some 63, .op (.mov), [.t 64], none⟩]
abbrev r15_16 : List IOp := [⟨some 65, .op (.faddr 4), [.t 3], none⟩,
  ⟨some 66, .op (.load none), [.t 65], none⟩,
  ⟨some 67, .op (.faddr 1), [.t 10], none⟩,
  ⟨some 68, .op (.load (some 5)), [.t 67], none⟩,
  ⟨some 69, .op (.bsl 23 5 false), [.t 68], none⟩,
  ⟨some 70, .op (.app 23 5 72), [.t 66, .t 69], none⟩,
  ⟨some 71, .op (.faddr 4), [.t 3], none⟩,
  ⟨none, .op (.store 1), [.t 71, .t 70], none⟩]
abbrev r15_17 : List IOp := [⟨some 72, .op (.faddr 4), [.t 3], none⟩,
  ⟨some 73, .op (.load none), [.t 72], none⟩,
  ⟨some 74, .op (.faddr 4), [.t 3], none⟩,
  ⟨some 75, .op (.load none), [.t 74], none⟩,
  ⟨some 76, .op (.len .slice), [.t 75], none⟩,
  ⟨some 77, .op (.bin .sub .prim), [.t 76, .c (.int .i64 64)], none⟩,
  ⟨some 78, .op (.max), [.c (.int .i64 0), .t 77], none⟩,
  ⟨some 79, .call none, [.f 64, .t 73, .c (.int .i64 0), .t 78], none⟩,
  ⟨some 80, .op (.faddr 4), [.t 3], none⟩,
  ⟨none, .op (.store 1), [.t 80, .t 79], none⟩]
abbrev r15_18 : List IOp := [⟨some 82, .op (.bin .eql .prim), [.t 41, .c (.int .i64 3)], none⟩,
  ⟨some 81, .op (.mov), [.t 82], none⟩]
abbrev r15_19 : List IOp := [⟨some 83, .op (.faddr 3), [.t 3], none⟩,
  ⟨some 84, .op (.load none), [.t 83], none⟩,
  ⟨some 85, .op (.faddr 1), [.t 10], none⟩,
  ⟨some 86, .op (.load (some 5)), [.t 85], none⟩,
  ⟨some 87, .op (.bsl 23 5 false), [.t 86], none⟩,
  ⟨some 88, .op (.app 23 5 72), [.t 84, .t 87], none⟩,
  ⟨some 89, .op (.faddr 3), [.t 3], none⟩,
  ⟨none, .op (.store 1), [.t 89, .t 88], none⟩]
abbrev r15_20 : List IOp := [⟨some 42, .op (.faddr 8), [.t 10], none⟩,
  ⟨some 43, .op (.load none), [.t 42], none⟩,
  ⟨some 44, .op (.bin .add .prim), [.t 43, .c (.int .i64 1)], none⟩,
  ⟨some 45, .op (.min), [.t 44, .c (.int .i64 4)], none⟩,
  ⟨some 46, .op (.faddr 6), [.t 10], none⟩,
  ⟨none, .op (.store 1), [.t 46, .c (.bool false)], none⟩,
  ⟨some 47, .op (.faddr 7), [.t 10], none⟩,
  ⟨none, .op (.store 1), [.t 47, .c (.bool false)], none⟩,
  ⟨some 48, .op (.faddr 8), [.t 10], none⟩,
  ⟨none, .op (.store 1), [.t 48, .t 45], none⟩]
abbrev r15_21 : List IOp := [⟨some 49, .op (.faddr 2), [.t 3], none⟩,
  ⟨some 50, .op (.load none), [.t 49], none⟩,
  ⟨some 51, .op (.faddr 8), [.t 10], none⟩,
  ⟨some 52, .op (.load none), [.t 51], none⟩,
  ⟨some 53, .call none, [.f 30, .t 52], none⟩,
  ⟨some 54, .op (.bin .add .prim), [.t 50, .t 53], none⟩,
  ⟨some 55, .op (.faddr 9), [.t 10], none⟩,
  ⟨none, .op (.store 1), [.t 55, .t 54], none⟩]
abbrev r15_22 : List IOp := [⟨some 56, .op (.faddr 0), [.t 3], none⟩,
  ⟨some 57, .op (.load none), [.t 56], none⟩,
  ⟨some 58, .op (.mov), [.t 9], none⟩,
  ⟨some 59, .op (.load (some 10)), [.t 10], none⟩,
  ⟨some 60, .op (.iaddr 10), [.t 57, .t 58], none⟩,
  ⟨none, .op (.store 10), [.t 60, .t 59], none⟩]
abbrev r15_23 : List IOp := [⟨some 61, .op (.load (some 6)), [.t 3], none⟩,
  ⟨some 62, .op (.mov), [.t 11], none⟩,
  ⟨none, .op (.store 6), [.t 6, .t 61], none⟩,
  ⟨some 7, .op (.mov), [.t 62], none⟩,
  ⟨some 8, .op (.mov), [.c (.int .i64 0)], none⟩]
abbrev r15_24 : List IOp := [⟨some 90, .op (.faddr 0), [.t 3], none⟩,
  ⟨some 91, .op (.load none), [.t 90], none⟩,
  ⟨some 92, .op (.mov), [.t 9], none⟩,
  ⟨some 93, .op (.mov), [.t 9], none⟩,
  ⟨some 94, .op (.bin .add .prim), [.t 93, .c (.int .i64 1)], none⟩,
  ⟨some 95, .call none, [.f 65, .t 91, .t 92, .t 94], none⟩,
  ⟨some 96, .op (.faddr 0), [.t 3], none⟩,
  ⟨none, .op (.store 1), [.t 96, .t 95], none⟩]
abbrev r15_25 : List IOp := [⟨some 97, .op (.load (some 6)), [.t 3], none⟩,
  ⟨some 98, .op (.mov), [.t 11], none⟩,
  ⟨none, .op (.store 6), [.t 6, .t 97], none⟩,
  ⟨some 7, .op (.mov), [.t 98], none⟩,
  ⟨some 8, .op (.mov), [.c (.int .i64 0)], none⟩]
abbrev c15 : IC := (IC.seq (IC.reg r15_0) (IC.seq (IC.reg r15_1) (IC.seq (IC.reg r15_2) (IC.seq (IC.seq (IC.reg r15_3) (IC.cond (.t 18) (IC.seq (IC.reg r15_4) IC.ret) IC.skip)) (IC.seq (IC.reg r15_5) (IC.seq (IC.reg r15_6) (IC.seq IC.skip (IC.seq (IC.block 0 (IC.seq (IC.reg r15_7) (IC.cond (.t 25) (IC.seq (IC.reg r15_8) IC.ret) (IC.seq (IC.reg r15_9) (IC.cond (.t 29) (IC.reg r15_10) (IC.seq (IC.reg r15_11) (IC.cond (.t 31) (IC.exit 0) (IC.seq (IC.reg r15_12) (IC.cond (.t 36) (IC.reg r15_13) IC.skip))))))))) (IC.seq (IC.seq (IC.reg r15_14) (IC.block 1 (IC.seq (IC.reg r15_15) (IC.cond (.t 63) (IC.seq (IC.reg r15_16) (IC.reg r15_17)) (IC.seq (IC.reg r15_18) (IC.cond (.t 81) (IC.reg r15_19) (IC.seq (IC.reg r15_20) (IC.seq (IC.regD .alloc r15_21 (.take 0 (.take 1 (.take 2 (.take 3 (.take 4 (.take 5 (.take 6 (.take 7 (.done)))))))))) (IC.seq (IC.reg r15_22) (IC.seq (IC.reg r15_23) IC.ret)))))))))) (IC.seq (IC.reg r15_24) (IC.seq (IC.reg r15_25) IC.ret)))))))))))
abbrev g15 : FC := ⟨c15, 99, [.cell 6 (some 6), .t 7, .t 8]⟩
theorem comp15 : compF Go.Proofs.Try.prog (hintL [(16, 7)]) 15 = some g15 := by kernel_rfl

-- outlaw/queue.Clear
abbrev r16_0 : List IOp := [⟨some 1, .op (.box 29), [.t 0], none⟩,
  ⟨some 2, .op (.alloc 29 [.nils, .int .i64 0, .int .i64 0, .nils, .nils, .bool false]), [], none⟩]
abbrev r16_1 : List IOp := [⟨some 3, .op (.load (some 6)), [.t 1], none⟩,
  ⟨some 4, .call none, [.f 56, .t 3], none⟩,
  ⟨none, .op (.store 6), [.t 1, .t 4], none⟩]
abbrev r16_2 : List IOp := [⟨some 5, .op (.faddr 3), [.t 1], none⟩,
  ⟨none, .op (.store 1), [.t 5, .c (.nils)], none⟩,
  ⟨some 6, .op (.faddr 4), [.t 1], none⟩,
  ⟨none, .op (.store 1), [.t 6, .c (.nils)], none⟩]
abbrev r16_3 : List IOp := [⟨some 7, .op (.load (some 6)), [.t 1], none⟩,
  ⟨none, .op (.store 6), [.t 2, .t 7], none⟩]
abbrev c16 : IC := (IC.seq (IC.reg r16_0) (IC.seq (IC.reg r16_1) (IC.seq (IC.reg r16_2) (IC.seq (IC.reg r16_3) IC.ret))))
abbrev g16 : FC := ⟨c16, 8, [.cell 2 (some 6)]⟩
theorem comp16 : compF Go.Proofs.Try.prog (fun _ => 0) 16 = some g16 := by kernel_rfl

-- outlaw/outlawkit.Same[outlaw/api.Action]
abbrev r17_0 : List IOp := [⟨some 4, .op (.mov), [.c (.bool false)], none⟩]
abbrev r17_1 : List IOp := [⟨some 6, .op (.mov), [.t 0], none⟩,
  ⟨some 7, .op (.len .slice), [.t 6], none⟩,
  ⟨some 8, .op (.mov), [.t 1], none⟩,
  ⟨some 9, .op (.len .slice), [.t 8], none⟩,
  ⟨some 10, .op (.bin .neq .prim), [.t 7, .t 9], none⟩]
abbrev r17_2 : List IOp := [⟨some 4, .op (.mov), [.c (.bool false)], none⟩]
abbrev r17_3 : List IOp := [⟨some 5, .op (.mov), [.c (.int .i64 0)], none⟩]
abbrev r17_4 : List IOp := [⟨some 11, .op (.mov), [.t 5], none⟩,
  ⟨some 12, .op (.mov), [.t 0], none⟩,
  ⟨some 13, .op (.len .slice), [.t 12], none⟩,
  ⟨some 14, .op (.bin .lss .prim), [.t 11, .t 13], none⟩]
abbrev r17_5 : List IOp := [⟨some 17, .op (.mov), [.t 0], none⟩,
  ⟨some 18, .op (.mov), [.t 5], none⟩,
  ⟨some 19, .op (.iaddr 5), [.t 17, .t 18], none⟩,
  ⟨some 20, .op (.load (some 5)), [.t 19], none⟩,
  ⟨some 21, .op (.mov), [.t 1], none⟩,
  ⟨some 22, .op (.mov), [.t 5], none⟩,
  ⟨some 23, .op (.iaddr 5), [.t 21, .t 22], none⟩,
  ⟨some 24, .op (.load (some 5)), [.t 23], none⟩,
  ⟨some 25, .op (.bin .neq (.st [.int, .str, .str, .str, .str])), [.t 20, .t 24], none⟩]
abbrev r17_6 : List IOp := [⟨some 4, .op (.mov), [.c (.bool false)], none⟩]
abbrev r17_7 : List IOp := [⟨some 15, .op (.mov), [.t 5], none⟩,
  ⟨some 16, .op (.bin .add .prim), [.t 15, .c (.int .i64 1)], none⟩,
  ⟨some 5, .op (.mov), [.t 16], none⟩]
abbrev b17_0 : IC := (IC.seq (IC.seq (IC.reg r17_4) (IC.cond (.t 14) IC.skip (IC.exit 0))) (IC.seq (IC.block 1 (IC.seq (IC.regD .wild r17_5 (.take 0 (.take 1 (.take 2 (.take 3 (.take 4 (.take 5 (.take 6 (.take 7 (.take 8 (.done))))))))))) (IC.cond (.t 25) (IC.seq (IC.reg r17_6) IC.ret) IC.skip))) (IC.reg r17_7)))
abbrev r17_8 : List IOp := [⟨some 4, .op (.mov), [.c (.bool true)], none⟩]
abbrev c17 : IC := (IC.seq (IC.reg r17_0) (IC.seq (IC.seq (IC.reg r17_1) (IC.cond (.t 10) (IC.seq (IC.reg r17_2) IC.ret) IC.skip)) (IC.seq (IC.seq (IC.reg r17_3) (IC.block 0 (IC.loop b17_0))) (IC.seq (IC.reg r17_8) IC.ret))))
abbrev g17 : FC := ⟨c17, 26, [.t 4]⟩
theorem comp17 : compF Go.Proofs.Try.prog (hintL [(6, 6)]) 17 = some g17 := by kernel_rfl

-- outlaw/outlawkit.Pick
abbrev r18_0 : List IOp := [⟨some 4, .op (.mov), [.c (.int .i64 0)], none⟩]
abbrev r18_1 : List IOp := [⟨some 6, .op (.mov), [.t 1], none⟩,
  ⟨some 7, .op (.bin .lss .prim), [.t 6, .c (.int .i64 1)], none⟩]
abbrev r18_2 : List IOp := [⟨some 4, .op (.mov), [.c (.int .i64 0)], none⟩]
abbrev r18_3 : List IOp := [⟨some 8, .op (.mov), [.t 0], none⟩,
  ⟨some 9, .op (.mov), [.t 1], none⟩,
  ⟨some 10, .op (.bin .rem .prim), [.t 8, .t 9], none⟩,
  ⟨some 5, .op (.mov), [.t 10], none⟩]
abbrev r18_4 : List IOp := [⟨some 11, .op (.mov), [.t 5], none⟩,
  ⟨some 12, .op (.bin .lss .prim), [.t 11, .c (.int .i64 0)], none⟩]
abbrev r18_5 : List IOp := [⟨some 13, .op (.mov), [.t 5], none⟩,
  ⟨some 14, .op (.mov), [.t 1], none⟩,
  ⟨some 15, .op (.bin .add .prim), [.t 13, .t 14], none⟩,
  ⟨some 5, .op (.mov), [.t 15], none⟩]
abbrev r18_6 : List IOp := [⟨some 16, .op (.mov), [.t 5], none⟩,
  ⟨some 4, .op (.mov), [.t 16], none⟩]
abbrev c18 : IC := (IC.seq (IC.reg r18_0) (IC.seq (IC.seq (IC.reg r18_1) (IC.cond (.t 7) (IC.seq (IC.reg r18_2) IC.ret) IC.skip)) (IC.seq (IC.reg r18_3) (IC.seq (IC.seq (IC.reg r18_4) (IC.cond (.t 12) (IC.reg r18_5) IC.skip)) (IC.seq (IC.reg r18_6) IC.ret)))))
abbrev g18 : FC := ⟨c18, 17, [.t 4]⟩
theorem comp18 : compF Go.Proofs.Try.prog (fun _ => 0) 18 = some g18 := by kernel_rfl

-- outlaw/queue.Pass
abbrev r19_0 : List IOp := [⟨some 2, .op (.box 29), [.t 0], none⟩,
  ⟨some 4, .op (.alloc 29 [.nils, .int .i64 0, .int .i64 0, .nils, .nils, .bool false]), [], none⟩,
  ⟨some 5, .op (.mov), [.c (.int .i64 0)], none⟩]
abbrev r19_1 : List IOp := [⟨some 6, .op (.load (some 6)), [.t 2], none⟩,
  ⟨some 7, .call none, [.f 56, .t 6], none⟩,
  ⟨none, .op (.store 6), [.t 2, .t 7], none⟩]
abbrev r19_2 : List IOp := [⟨some 9, .op (.mov), [.t 1], none⟩,
  ⟨some 10, .op (.bin .lss .prim), [.t 9, .c (.int .i64 0)], none⟩,
  ⟨some 11, .op (.mov), [.t 10], none⟩,
  ⟨some 12, .op (.mov), [.t 1], some (11, false)⟩,
  ⟨some 13, .op (.bin .gtr .prim), [.t 12, .c (.int .i64 1000000)], some (11, false)⟩,
  ⟨some 14, .op (.pick), [.t 11, .c (.bool true), .t 13], none⟩,
  ⟨some 8, .op (.mov), [.t 14], none⟩]
abbrev r19_3 : List IOp := [⟨some 15, .op (.load (some 6)), [.t 2], none⟩,
  ⟨none, .op (.store 6), [.t 4, .t 15], none⟩,
  ⟨some 5, .op (.mov), [.c (.int .i64 2)], none⟩]
abbrev r19_4 : List IOp := [⟨some 17, .op (.faddr 2), [.t 2], none⟩,
  ⟨some 18, .op (.load none), [.t 17], none⟩,
  ⟨some 19, .op (.mov), [.t 1], none⟩,
  ⟨some 20, .op (.bin .sub .prim), [.c (.int .i64 1152921504606846976), .t 19], none⟩,
  ⟨some 21, .op (.bin .gtr .prim), [.t 18, .t 20], none⟩,
  ⟨some 16, .op (.mov), [.t 21], none⟩]
abbrev r19_5 : List IOp := [⟨some 22, .op (.load (some 6)), [.t 2], none⟩,
  ⟨none, .op (.store 6), [.t 4, .t 22], none⟩,
  ⟨some 5, .op (.mov), [.c (.int .i64 13)], none⟩]
abbrev r19_6 : List IOp := [⟨some 23, .op (.faddr 2), [.t 2], none⟩,
  ⟨some 24, .op (.load none), [.t 23], none⟩,
  ⟨some 25, .op (.mov), [.t 1], none⟩,
  ⟨some 26, .op (.bin .add .prim), [.t 24, .t 25], none⟩,
  ⟨some 27, .op (.faddr 2), [.t 2], none⟩,
  ⟨none, .op (.store 1), [.t 27, .t 26], none⟩]
abbrev r19_7 : List IOp := [⟨some 28, .op (.load (some 6)), [.t 2], none⟩,
  ⟨none, .op (.store 6), [.t 4, .t 28], none⟩,
  ⟨some 5, .op (.mov), [.c (.int .i64 0)], none⟩]
abbrev c19 : IC := (IC.seq (IC.reg r19_0) (IC.seq (IC.reg r19_1) (IC.seq (IC.block 0 (IC.seq (IC.reg r19_2) (IC.cond (.t 8) (IC.seq (IC.reg r19_3) IC.ret) (IC.seq (IC.reg r19_4) (IC.cond (.t 16) (IC.seq (IC.reg r19_5) IC.ret) IC.skip))))) (IC.seq (IC.reg r19_6) (IC.seq (IC.reg r19_7) IC.ret)))))
abbrev g19 : FC := ⟨c19, 29, [.cell 4 (some 6), .t 5]⟩
theorem comp19 : compF Go.Proofs.Try.prog (fun _ => 0) 19 = some g19 := by kernel_rfl

-- outlaw/queue.Next
abbrev r20_0 : List IOp := [⟨some 2, .op (.box 29), [.t 0], none⟩,
  ⟨some 4, .op (.alloc 42 [.int .i64 0, .int .i64 0, .str [], .str [], .str [], .str [], .bool false, .bool false, .int .i64 0, .int .i64 0]), [], none⟩,
  ⟨some 5, .op (.mov), [.c (.bool false)], none⟩]
abbrev r20_1 : List IOp := [⟨some 10, .op (.load (some 6)), [.t 2], none⟩,
  ⟨some 11, .call none, [.f 63, .t 10], none⟩,
  ⟨some 12, .op (.bin .geq .prim), [.t 11, .c (.int .i64 4)], none⟩]
abbrev r20_2 : List IOp := [⟨some 13, .op (.bst [.int .i64 0, .int .i64 0, .str [], .str [], .str [], .str [], .bool false, .bool false, .int .i64 0, .int .i64 0] [(0, 1), (1, 5), (6, 1), (7, 1), (8, 1), (9, 1)] []), [], none⟩,
  ⟨none, .op (.store 10), [.t 4, .t 13], none⟩,
  ⟨some 5, .op (.mov), [.c (.bool false)], none⟩]
abbrev r20_3 : List IOp := [⟨some 14, .op (.mkfn 67), [.t 2], none⟩,
  ⟨some 15, .op (.bst [.nilf, .nilf] [(0, 1), (1, 1)] [0, 1]), [.f 66, .t 14], none⟩,
  ⟨some 16, .op (.mov), [.c (.int .i64 0)], none⟩]
abbrev r20_4 : List IOp := [⟨some 17, .op (.bin .lss .prim), [.t 16, .c (.int .i64 2)], none⟩]
abbrev r20_5 : List IOp := [⟨some 18, .op (.idxa 2 1 none), [.t 15, .t 16], none⟩,
  ⟨some 7, .op (.mov), [.t 18], none⟩]
abbrev r20_6 : List IOp := [⟨some 19, .op (.faddr 0), [.t 2], none⟩,
  ⟨some 20, .op (.load none), [.t 19], none⟩,
  ⟨some 21, .op (.len .slice), [.t 20], none⟩,
  ⟨some 22, .op (.mov), [.c (.int .i64 0)], none⟩]
abbrev r20_7 : List IOp := [⟨some 23, .op (.bin .lss .prim), [.t 22, .t 21], none⟩]
abbrev r20_8 : List IOp := [⟨some 24, .op (.iaddr 10), [.t 20, .t 22], none⟩,
  ⟨some 25, .op (.load (some 10)), [.t 24], none⟩,
  ⟨some 9, .op (.alloc 42 [.int .i64 0, .int .i64 0, .str [], .str [], .str [], .str [], .bool false, .bool false, .int .i64 0, .int .i64 0]), [], none⟩,
  ⟨none, .op (.store 10), [.t 9, .t 25], none⟩]
abbrev r20_9 : List IOp := [⟨some 26, .op (.mov), [.t 7], none⟩,
  ⟨some 27, .op (.load (some 10)), [.t 9], none⟩,
  ⟨some 28, .call none, [.t 26, .t 27], none⟩,
  ⟨some 29, .op (.mov), [.t 28], none⟩,
  ⟨some 30, .op (.mov), [.t 1], some (29, true)⟩,
  ⟨some 31, .op (.faddr 0), [.t 9], some (29, true)⟩,
  ⟨some 32, .op (.load none), [.t 31], some (29, true)⟩,
  ⟨some 33, .call none, [.f 68, .t 30, .t 32], some (29, true)⟩,
  ⟨some 34, .op (.un .not), [.t 33], some (29, true)⟩,
  ⟨some 35, .op (.pick), [.t 29, .t 34, .c (.bool false)], none⟩]
abbrev r20_10 : List IOp := [⟨some 36, .op (.load (some 10)), [.t 9], none⟩,
  ⟨none, .op (.store 10), [.t 4, .t 36], none⟩,
  ⟨some 5, .op (.mov), [.c (.bool true)], none⟩]
abbrev r20_11 : List IOp := [⟨some 37, .op (.bin .add .prim), [.t 22, .c (.int .i64 1)], none⟩,
  ⟨some 22, .op (.mov), [.t 37], none⟩]
abbrev b20_0 : IC := (IC.seq (IC.reg r20_7) (IC.seq (IC.cond (.t 23) IC.skip (IC.exit 2)) (IC.seq (IC.block 3 (IC.seq (IC.reg r20_8) (IC.seq (IC.reg r20_9) (IC.cond (.t 35) (IC.seq (IC.reg r20_10) IC.ret) IC.skip)))) (IC.reg r20_11))))
abbrev r20_12 : List IOp := [⟨some 38, .op (.bin .add .prim), [.t 16, .c (.int .i64 1)], none⟩,
  ⟨some 16, .op (.mov), [.t 38], none⟩]
abbrev b20_1 : IC := (IC.seq (IC.reg r20_4) (IC.seq (IC.cond (.t 17) IC.skip (IC.exit 0)) (IC.seq (IC.block 1 (IC.seq (IC.reg r20_5) (IC.seq (IC.reg r20_6) (IC.block 2 (IC.loop b20_0))))) (IC.reg r20_12))))
abbrev r20_13 : List IOp := [⟨some 39, .op (.bst [.int .i64 0, .int .i64 0, .str [], .str [], .str [], .str [], .bool false, .bool false, .int .i64 0, .int .i64 0] [(0, 1), (1, 5), (6, 1), (7, 1), (8, 1), (9, 1)] []), [], none⟩,
  ⟨none, .op (.store 10), [.t 4, .t 39], none⟩,
  ⟨some 5, .op (.mov), [.c (.bool false)], none⟩]
abbrev c20 : IC := (IC.seq (IC.reg r20_0) (IC.seq (IC.seq (IC.reg r20_1) (IC.cond (.t 12) (IC.seq (IC.reg r20_2) IC.ret) IC.skip)) (IC.seq (IC.seq (IC.reg r20_3) (IC.block 0 (IC.loop b20_1))) (IC.seq (IC.reg r20_13) IC.ret))))
abbrev g20 : FC := ⟨c20, 40, [.cell 4 (some 10), .t 5]⟩
theorem comp20 : compF Go.Proofs.Try.prog (fun _ => 0) 20 = some g20 := by kernel_rfl

-- outlaw/outlawlaw22.light
abbrev r21_0 : List IOp := [⟨some 2, .op (.mov), [.c (.bool false)], none⟩]
abbrev r21_1 : List IOp := [⟨some 3, .op (.mov), [.c (.int .i64 0)], none⟩]
abbrev r21_2 : List IOp := [⟨some 5, .op (.mov), [.t 3], none⟩,
  ⟨some 6, .op (.mov), [.t 0], none⟩,
  ⟨some 7, .op (.len .slice), [.t 6], none⟩,
  ⟨some 8, .op (.bin .lss .prim), [.t 5, .t 7], none⟩]
abbrev r21_3 : List IOp := [⟨some 11, .op (.mov), [.t 0], none⟩,
  ⟨some 12, .op (.mov), [.t 3], none⟩,
  ⟨some 13, .op (.iaddr 10), [.t 11, .t 12], none⟩,
  ⟨some 14, .op (.faddr 1), [.t 13], none⟩,
  ⟨some 15, .op (.load (some 5)), [.t 14], none⟩,
  ⟨some 16, .call none, [.f 11, .t 15], none⟩,
  ⟨some 17, .op (.un .not), [.t 16], none⟩,
  ⟨some 18, .op (.mov), [.t 17], none⟩,
  ⟨some 19, .op (.mov), [.t 0], some (18, false)⟩,
  ⟨some 20, .op (.mov), [.t 3], some (18, false)⟩,
  ⟨some 21, .op (.iaddr 10), [.t 19, .t 20], some (18, false)⟩,
  ⟨some 22, .op (.faddr 9), [.t 21], some (18, false)⟩,
  ⟨some 23, .op (.load none), [.t 22], some (18, false)⟩,
  ⟨some 24, .op (.len .slice), [.t 23], some (18, false)⟩,
  ⟨some 25, .op (.bin .gtr .prim), [.t 24, .c (.int .i64 40)], some (18, false)⟩,
  ⟨some 26, .op (.pick), [.t 18, .c (.bool true), .t 25], none⟩]
abbrev r21_4 : List IOp := [⟨some 2, .op (.mov), [.c (.bool false)], none⟩]
abbrev r21_5 : List IOp := [⟨some 4, .op (.mov), [.c (.int .i64 0)], none⟩]
abbrev r21_6 : List IOp := [⟨some 27, .op (.mov), [.t 4], none⟩,
  ⟨some 28, .op (.mov), [.t 0], none⟩,
  ⟨some 29, .op (.mov), [.t 3], none⟩,
  ⟨some 30, .op (.iaddr 10), [.t 28, .t 29], none⟩,
  ⟨some 31, .op (.faddr 9), [.t 30], none⟩,
  ⟨some 32, .op (.load none), [.t 31], none⟩,
  ⟨some 33, .op (.len .slice), [.t 32], none⟩,
  ⟨some 34, .op (.bin .lss .prim), [.t 27, .t 33], none⟩]
abbrev r21_7 : List IOp := [⟨some 37, .op (.mov), [.t 0], none⟩,
  ⟨some 38, .op (.mov), [.t 3], none⟩,
  ⟨some 39, .op (.iaddr 10), [.t 37, .t 38], none⟩,
  ⟨some 40, .op (.faddr 9), [.t 39], none⟩,
  ⟨some 41, .op (.load none), [.t 40], none⟩,
  ⟨some 42, .op (.mov), [.t 4], none⟩,
  ⟨some 43, .op (.iaddr 5), [.t 41, .t 42], none⟩,
  ⟨some 44, .op (.load (some 5)), [.t 43], none⟩,
  ⟨some 45, .call none, [.f 11, .t 44], none⟩,
  ⟨some 46, .op (.un .not), [.t 45], none⟩]
abbrev r21_8 : List IOp := [⟨some 2, .op (.mov), [.c (.bool false)], none⟩]
abbrev r21_9 : List IOp := [⟨some 35, .op (.mov), [.t 4], none⟩,
  ⟨some 36, .op (.bin .add .prim), [.t 35, .c (.int .i64 1)], none⟩,
  ⟨some 4, .op (.mov), [.t 36], none⟩]
abbrev b21_0 : IC := (IC.seq (IC.seq (IC.reg r21_6) (IC.cond (.t 34) IC.skip (IC.exit 2))) (IC.seq (IC.block 3 (IC.seq (IC.reg r21_7) (IC.cond (.t 46) (IC.seq (IC.reg r21_8) IC.ret) IC.skip))) (IC.reg r21_9)))
abbrev r21_10 : List IOp := [⟨some 9, .op (.mov), [.t 3], none⟩,
  ⟨some 10, .op (.bin .add .prim), [.t 9, .c (.int .i64 1)], none⟩,
  ⟨some 3, .op (.mov), [.t 10], none⟩]
abbrev b21_1 : IC := (IC.seq (IC.seq (IC.reg r21_2) (IC.cond (.t 8) IC.skip (IC.exit 0))) (IC.seq (IC.block 1 (IC.seq (IC.seq (IC.reg r21_3) (IC.cond (.t 26) (IC.seq (IC.reg r21_4) IC.ret) IC.skip)) (IC.seq (IC.reg r21_5) (IC.block 2 (IC.loop b21_0))))) (IC.reg r21_10)))
abbrev r21_11 : List IOp := [⟨some 47, .op (.mov), [.t 0], none⟩,
  ⟨some 48, .op (.len .slice), [.t 47], none⟩,
  ⟨some 49, .op (.bin .leq .prim), [.t 48, .c (.int .i64 60)], none⟩,
  ⟨some 2, .op (.mov), [.t 49], none⟩]
abbrev c21 : IC := (IC.seq (IC.reg r21_0) (IC.seq (IC.seq (IC.reg r21_1) (IC.block 0 (IC.loop b21_1))) (IC.seq (IC.reg r21_11) IC.ret)))
abbrev g21 : FC := ⟨c21, 50, [.t 2]⟩
theorem comp21 : compF Go.Proofs.Try.prog (fun _ => 0) 21 = some g21 := by kernel_rfl

-- outlaw/outlawlaw22.do
abbrev r22_0 : List IOp := [⟨some 2, .op (.box 29), [.t 0], none⟩,
  ⟨some 3, .op (.box 50), [.t 1], none⟩,
  ⟨some 4, .op (.alloc 29 [.nils, .int .i64 0, .int .i64 0, .nils, .nils, .bool false]), [], none⟩,
  ⟨some 5, .op (.mov), [.c (.int .i64 0)], none⟩,
  ⟨some 6, .op (.mov), [.c (.int .i64 0)], none⟩,
  ⟨some 7, .op (.mov), [.c (.int .i64 0)], none⟩,
  ⟨some 8, .op (.mov), [.c (.nils)], none⟩]
abbrev r22_1 : List IOp := [⟨some 25, .op (.faddr 0), [.t 3], none⟩,
  ⟨some 26, .op (.load none), [.t 25], none⟩,
  ⟨some 27, .call none, [.f 18, .t 26, .c (.int .i64 9)], none⟩]
abbrev r22_2 : List IOp := [⟨some 29, .op (.bin .eql .prim), [.t 27, .c (.int .i64 0)], none⟩,
  ⟨some 28, .op (.mov), [.t 29], none⟩]
abbrev r22_3 : List IOp := [⟨some 30, .op (.bin .eql .prim), [.t 27, .c (.int .i64 1)], none⟩,
  ⟨some 28, .op (.mov), [.t 30], none⟩]
abbrev r22_4 : List IOp := [⟨some 32, .op (.load (some 6)), [.t 2], none⟩,
  ⟨some 33, .op (.faddr 1), [.t 3], none⟩,
  ⟨some 34, .op (.load (some 5)), [.t 33], none⟩,
  ⟨some 35, .call none, [.f 12, .t 32, .t 34], none⟩,
  ⟨some 31, .op (.mov), [.t 35], none⟩,
  ⟨some 36, .op (.extract 0), [.t 31], none⟩,
  ⟨some 37, .op (.extract 1), [.t 31], none⟩,
  ⟨some 38, .op (.extract 2), [.t 31], none⟩,
  ⟨some 9, .op (.alloc 29 [.nils, .int .i64 0, .int .i64 0, .nils, .nils, .bool false]), [], none⟩,
  ⟨none, .op (.store 6), [.t 9, .t 36], none⟩,
  ⟨some 10, .op (.mov), [.t 37], none⟩,
  ⟨some 11, .op (.mov), [.t 38], none⟩]
abbrev r22_5 : List IOp := [⟨some 39, .op (.load (some 6)), [.t 9], none⟩,
  ⟨some 40, .op (.mov), [.t 11], none⟩,
  ⟨some 41, .op (.mov), [.t 10], none⟩,
  ⟨none, .op (.store 6), [.t 4, .t 39], none⟩,
  ⟨some 5, .op (.mov), [.t 40], none⟩,
  ⟨some 6, .op (.mov), [.c (.int .i64 0)], none⟩,
  ⟨some 7, .op (.mov), [.t 41], none⟩,
  ⟨some 8, .op (.mov), [.c (.nils)], none⟩]
abbrev r22_6 : List IOp := [⟨some 43, .op (.bin .eql .prim), [.t 27, .c (.int .i64 2)], none⟩,
  ⟨some 42, .op (.mov), [.t 43], none⟩]
abbrev r22_7 : List IOp := [⟨some 45, .op (.load (some 6)), [.t 2], none⟩,
  ⟨some 46, .call none, [.f 20, .t 45, .c (.nils)], none⟩,
  ⟨some 44, .op (.mov), [.t 46], none⟩,
  ⟨some 47, .op (.extract 0), [.t 44], none⟩,
  ⟨some 48, .op (.extract 1), [.t 44], none⟩,
  ⟨some 12, .op (.alloc 42 [.int .i64 0, .int .i64 0, .str [], .str [], .str [], .str [], .bool false, .bool false, .int .i64 0, .int .i64 0]), [], none⟩,
  ⟨none, .op (.store 10), [.t 12, .t 47], none⟩,
  ⟨some 13, .op (.mov), [.t 48], none⟩]
abbrev r22_8 : List IOp := [⟨some 50, .op (.load (some 6)), [.t 2], none⟩,
  ⟨some 51, .op (.faddr 0), [.t 12], none⟩,
  ⟨some 52, .op (.load none), [.t 51], none⟩,
  ⟨some 53, .call none, [.f 14, .t 50, .t 52], none⟩,
  ⟨some 49, .op (.mov), [.t 53], none⟩,
  ⟨some 54, .op (.extract 0), [.t 49], none⟩,
  ⟨some 55, .op (.extract 1), [.t 49], none⟩,
  ⟨some 14, .op (.alloc 29 [.nils, .int .i64 0, .int .i64 0, .nils, .nils, .bool false]), [], none⟩,
  ⟨none, .op (.store 6), [.t 14, .t 54], none⟩,
  ⟨some 15, .op (.mov), [.t 55], none⟩]
abbrev r22_9 : List IOp := [⟨some 56, .op (.load (some 6)), [.t 14], none⟩,
  ⟨some 57, .op (.mov), [.t 15], none⟩,
  ⟨some 58, .op (.faddr 0), [.t 12], none⟩,
  ⟨some 59, .op (.load none), [.t 58], none⟩,
  ⟨none, .op (.store 6), [.t 4, .t 56], none⟩,
  ⟨some 5, .op (.mov), [.t 57], none⟩,
  ⟨some 6, .op (.mov), [.c (.int .i64 0)], none⟩,
  ⟨some 7, .op (.mov), [.t 59], none⟩,
  ⟨some 8, .op (.mov), [.c (.nils)], none⟩]
abbrev r22_10 : List IOp := [⟨some 61, .op (.bin .eql .prim), [.t 27, .c (.int .i64 3)], none⟩,
  ⟨some 60, .op (.mov), [.t 61], none⟩]
abbrev r22_11 : List IOp := [⟨some 63, .op (.load (some 6)), [.t 2], none⟩,
  ⟨some 64, .op (.faddr 6), [.t 3], none⟩,
  ⟨some 65, .op (.load none), [.t 64], none⟩,
  ⟨some 66, .call none, [.f 14, .t 63, .t 65], none⟩,
  ⟨some 62, .op (.mov), [.t 66], none⟩,
  ⟨some 67, .op (.extract 0), [.t 62], none⟩,
  ⟨some 68, .op (.extract 1), [.t 62], none⟩,
  ⟨some 16, .op (.alloc 29 [.nils, .int .i64 0, .int .i64 0, .nils, .nils, .bool false]), [], none⟩,
  ⟨none, .op (.store 6), [.t 16, .t 67], none⟩,
  ⟨some 17, .op (.mov), [.t 68], none⟩]
abbrev r22_12 : List IOp := [⟨some 69, .op (.load (some 6)), [.t 16], none⟩,
  ⟨some 70, .op (.mov), [.t 17], none⟩,
  ⟨none, .op (.store 6), [.t 4, .t 69], none⟩,
  ⟨some 5, .op (.mov), [.t 70], none⟩,
  ⟨some 6, .op (.mov), [.c (.int .i64 0)], none⟩,
  ⟨some 7, .op (.mov), [.c (.int .i64 0)], none⟩,
  ⟨some 8, .op (.mov), [.c (.nils)], none⟩]
abbrev r22_13 : List IOp := [⟨some 72, .op (.bin .eql .prim), [.t 27, .c (.int .i64 4)], none⟩,
  ⟨some 71, .op (.mov), [.t 72], none⟩]
abbrev r22_14 : List IOp := [⟨some 74, .op (.load (some 6)), [.t 2], none⟩,
  ⟨some 75, .op (.faddr 6), [.t 3], none⟩,
  ⟨some 76, .op (.load none), [.t 75], none⟩,
  ⟨some 77, .op (.faddr 8), [.t 3], none⟩,
  ⟨some 78, .op (.load none), [.t 77], none⟩,
  ⟨some 79, .call none, [.f 15, .t 74, .t 76, .t 78], none⟩,
  ⟨some 73, .op (.mov), [.t 79], none⟩,
  ⟨some 80, .op (.extract 0), [.t 73], none⟩,
  ⟨some 81, .op (.extract 1), [.t 73], none⟩,
  ⟨some 82, .op (.extract 2), [.t 73], none⟩,
  ⟨some 18, .op (.alloc 29 [.nils, .int .i64 0, .int .i64 0, .nils, .nils, .bool false]), [], none⟩,
  ⟨none, .op (.store 6), [.t 18, .t 80], none⟩,
  ⟨some 19, .op (.mov), [.t 81], none⟩,
  ⟨some 20, .op (.mov), [.t 82], none⟩]
abbrev r22_15 : List IOp := [⟨some 83, .op (.load (some 6)), [.t 18], none⟩,
  ⟨some 84, .op (.mov), [.t 20], none⟩,
  ⟨some 85, .op (.mov), [.t 19], none⟩,
  ⟨none, .op (.store 6), [.t 4, .t 83], none⟩,
  ⟨some 5, .op (.mov), [.t 84], none⟩,
  ⟨some 6, .op (.mov), [.t 85], none⟩,
  ⟨some 7, .op (.mov), [.c (.int .i64 0)], none⟩,
  ⟨some 8, .op (.mov), [.c (.nils)], none⟩]
abbrev r22_16 : List IOp := [⟨some 87, .op (.bin .eql .prim), [.t 27, .c (.int .i64 5)], none⟩,
  ⟨some 86, .op (.mov), [.t 87], none⟩]
abbrev r22_17 : List IOp := [⟨some 89, .op (.load (some 6)), [.t 2], none⟩,
  ⟨some 90, .op (.faddr 7), [.t 3], none⟩,
  ⟨some 91, .op (.load none), [.t 90], none⟩,
  ⟨some 92, .call none, [.f 19, .t 89, .t 91], none⟩,
  ⟨some 88, .op (.mov), [.t 92], none⟩,
  ⟨some 93, .op (.extract 0), [.t 88], none⟩,
  ⟨some 94, .op (.extract 1), [.t 88], none⟩,
  ⟨some 21, .op (.alloc 29 [.nils, .int .i64 0, .int .i64 0, .nils, .nils, .bool false]), [], none⟩,
  ⟨none, .op (.store 6), [.t 21, .t 93], none⟩,
  ⟨some 22, .op (.mov), [.t 94], none⟩]
abbrev r22_18 : List IOp := [⟨some 95, .op (.load (some 6)), [.t 21], none⟩,
  ⟨some 96, .op (.mov), [.t 22], none⟩,
  ⟨none, .op (.store 6), [.t 4, .t 95], none⟩,
  ⟨some 5, .op (.mov), [.t 96], none⟩,
  ⟨some 6, .op (.mov), [.c (.int .i64 0)], none⟩,
  ⟨some 7, .op (.mov), [.c (.int .i64 0)], none⟩,
  ⟨some 8, .op (.mov), [.c (.nils)], none⟩]
abbrev r22_19 : List IOp := [⟨some 98, .op (.bin .eql .prim), [.t 27, .c (.int .i64 6)], none⟩,
  ⟨some 97, .op (.mov), [.t 98], none⟩]
abbrev r22_20 : List IOp := [⟨some 100, .op (.load (some 6)), [.t 2], none⟩,
  ⟨some 101, .op (.faddr 9), [.t 3], none⟩,
  ⟨some 102, .op (.load none), [.t 101], none⟩,
  ⟨some 103, .call none, [.f 24, .t 102], none⟩,
  ⟨some 104, .call none, [.f 69, .t 100, .t 103], none⟩,
  ⟨some 99, .op (.mov), [.t 104], none⟩,
  ⟨some 105, .op (.extract 0), [.t 99], none⟩,
  ⟨some 106, .op (.extract 1), [.t 99], none⟩,
  ⟨some 23, .op (.alloc 29 [.nils, .int .i64 0, .int .i64 0, .nils, .nils, .bool false]), [], none⟩,
  ⟨none, .op (.store 6), [.t 23, .t 105], none⟩,
  ⟨some 24, .op (.mov), [.t 106], none⟩]
abbrev r22_21 : List IOp := [⟨some 107, .op (.load (some 6)), [.t 23], none⟩,
  ⟨some 108, .op (.mov), [.t 24], none⟩,
  ⟨none, .op (.store 6), [.t 4, .t 107], none⟩,
  ⟨some 5, .op (.mov), [.c (.int .i64 0)], none⟩,
  ⟨some 6, .op (.mov), [.c (.int .i64 0)], none⟩,
  ⟨some 7, .op (.mov), [.c (.int .i64 0)], none⟩,
  ⟨some 8, .op (.mov), [.t 108], none⟩]
abbrev r22_22 : List IOp := [⟨some 110, .op (.bin .eql .prim), [.t 27, .c (.int .i64 7)], none⟩,
  ⟨some 109, .op (.mov), [.t 110], none⟩]
abbrev r22_23 : List IOp := [⟨some 111, .op (.load (some 6)), [.t 2], none⟩,
  ⟨some 112, .call none, [.f 55, .t 111], none⟩,
  ⟨none, .op (.store 6), [.t 4, .t 112], none⟩,
  ⟨some 5, .op (.mov), [.c (.int .i64 0)], none⟩,
  ⟨some 6, .op (.mov), [.c (.int .i64 0)], none⟩,
  ⟨some 7, .op (.mov), [.c (.int .i64 0)], none⟩,
  ⟨some 8, .op (.mov), [.c (.nils)], none⟩]
abbrev r22_24 : List IOp := [⟨some 113, .op (.load (some 6)), [.t 2], none⟩,
  ⟨some 114, .call none, [.f 16, .t 113], none⟩,
  ⟨none, .op (.store 6), [.t 4, .t 114], none⟩,
  ⟨some 5, .op (.mov), [.c (.int .i64 0)], none⟩,
  ⟨some 6, .op (.mov), [.c (.int .i64 0)], none⟩,
  ⟨some 7, .op (.mov), [.c (.int .i64 0)], none⟩,
  ⟨some 8, .op (.mov), [.c (.nils)], none⟩]
abbrev c22 : IC := (IC.seq (IC.reg r22_0) (IC.seq (IC.seq (IC.reg r22_1) (IC.block 0 (IC.seq (IC.seq (IC.reg r22_2) (IC.cond (.t 28) IC.skip (IC.reg r22_3))) (IC.cond (.t 28) (IC.seq (IC.reg r22_4) (IC.seq (IC.reg r22_5) IC.ret)) (IC.seq (IC.reg r22_6) (IC.cond (.t 42) (IC.seq (IC.reg r22_7) (IC.seq (IC.reg r22_8) (IC.seq (IC.regD .wild r22_9 (.take 0 (.take 1 (.take 2 (.fork [(3, .take 4 (.take 5 (.take 6 (.take 7 (.take 8 (.done)))))), (4, .take 3 (.take 5 (.take 6 (.take 7 (.take 8 (.done))))))]))))) IC.ret))) (IC.seq (IC.reg r22_10) (IC.cond (.t 60) (IC.seq (IC.reg r22_11) (IC.seq (IC.reg r22_12) IC.ret)) (IC.seq (IC.reg r22_13) (IC.cond (.t 71) (IC.seq (IC.reg r22_14) (IC.seq (IC.reg r22_15) IC.ret)) (IC.seq (IC.reg r22_16) (IC.cond (.t 86) (IC.seq (IC.reg r22_17) (IC.seq (IC.reg r22_18) IC.ret)) (IC.seq (IC.reg r22_19) (IC.cond (.t 97) (IC.seq (IC.regD .wild r22_20 (.take 1 (.take 2 (.fork [(0, .fork [(3, .fork [(4, .take 5 (.take 6 (.take 7 (.take 8 (.take 9 (.take 10 (.done))))))), (8, .take 4 (.take 5 (.take 6 (.take 7 (.take 9 (.take 10 (.done)))))))]), (8, .take 3 (.take 4 (.take 5 (.take 6 (.take 7 (.take 9 (.take 10 (.done))))))))]), (3, .take 0 (.fork [(4, .take 5 (.take 6 (.take 7 (.take 8 (.take 9 (.take 10 (.done))))))), (8, .take 4 (.take 5 (.take 6 (.take 7 (.take 9 (.take 10 (.done)))))))])), (8, .fork [(0, .take 3 (.take 4 (.take 5 (.take 6 (.take 7 (.take 9 (.take 10 (.done)))))))), (3, .take 0 (.take 4 (.take 5 (.take 6 (.take 7 (.take 9 (.take 10 (.done))))))))])])))) (IC.seq (IC.reg r22_21) IC.ret)) (IC.seq (IC.reg r22_22) (IC.cond (.t 109) (IC.seq (IC.reg r22_23) IC.ret) IC.skip)))))))))))))))) (IC.seq (IC.reg r22_24) IC.ret)))
abbrev g22 : FC := ⟨c22, 115, [.cell 4 (some 6), .t 5, .t 6, .t 7, .t 8]⟩
theorem comp22 : compF Go.Proofs.Try.prog (hintL [(9, 6), (20, 6)]) 22 = some g22 := by kernel_rfl

-- outlaw/outlawlaw22.own
abbrev r23_0 : List IOp := [⟨some 1, .op (.box 29), [.t 0], none⟩,
  ⟨some 2, .op (.alloc 29 [.nils, .int .i64 0, .int .i64 0, .nils, .nils, .bool false]), [], none⟩]
abbrev r23_1 : List IOp := [⟨some 3, .op (.faddr 0), [.t 1], none⟩,
  ⟨some 4, .op (.load none), [.t 3], none⟩,
  ⟨some 5, .call none, [.f 70, .t 4], none⟩,
  ⟨some 6, .op (.faddr 3), [.t 1], none⟩,
  ⟨some 7, .op (.load none), [.t 6], none⟩,
  ⟨some 8, .call none, [.f 24, .t 7], none⟩,
  ⟨some 9, .op (.faddr 4), [.t 1], none⟩,
  ⟨some 10, .op (.load none), [.t 9], none⟩,
  ⟨some 11, .call none, [.f 24, .t 10], none⟩,
  ⟨some 12, .op (.faddr 0), [.t 1], none⟩,
  ⟨none, .op (.store 1), [.t 12, .t 5], none⟩,
  ⟨some 13, .op (.faddr 3), [.t 1], none⟩,
  ⟨none, .op (.store 1), [.t 13, .t 8], none⟩,
  ⟨some 14, .op (.faddr 4), [.t 1], none⟩,
  ⟨none, .op (.store 1), [.t 14, .t 11], none⟩]
abbrev r23_2 : List IOp := [⟨some 15, .op (.load (some 6)), [.t 1], none⟩,
  ⟨none, .op (.store 6), [.t 2, .t 15], none⟩]
abbrev c23 : IC := (IC.seq (IC.reg r23_0) (IC.seq (IC.regD .alloc r23_1 (.take 0 (.take 1 (.take 3 (.take 4 (.take 6 (.take 7 (.take 2 (.take 5 (.take 8 (.take 9 (.take 10 (.take 11 (.take 12 (.take 13 (.take 14 (.done))))))))))))))))) (IC.seq (IC.reg r23_2) IC.ret)))
abbrev g23 : FC := ⟨c23, 16, [.cell 2 (some 6)]⟩
theorem comp23 : compF Go.Proofs.Try.prog (hintL [(1, 7)]) 23 = some g23 := by kernel_rfl

-- outlaw/outlawkit.Own[outlaw/api.Action]
abbrev r24_0 : List IOp := [⟨some 2, .op (.mov), [.c (.nils)], none⟩]
abbrev r24_1 : List IOp := [⟨some 3, .op (.bsl 23 5 false), [], none⟩,
  ⟨some 4, .op (.mov), [.t 0], none⟩,
  ⟨some 5, .op (.app 23 5 72), [.t 3, .t 4], none⟩,
  ⟨some 2, .op (.mov), [.t 5], none⟩]
abbrev c24 : IC := (IC.seq (IC.reg r24_0) (IC.seq (IC.reg r24_1) IC.ret))
abbrev g24 : FC := ⟨c24, 6, [.t 2]⟩
theorem comp24 : compF Go.Proofs.Try.prog (fun _ => 0) 24 = some g24 := by kernel_rfl

-- outlaw/queue.Alike
abbrev r25_0 : List IOp := [⟨some 2, .op (.box 23), [.t 0], none⟩,
  ⟨some 3, .op (.box 23), [.t 1], none⟩,
  ⟨some 4, .op (.mov), [.c (.bool false)], none⟩]
abbrev r25_1 : List IOp := [⟨some 5, .op (.faddr 1), [.t 2], none⟩,
  ⟨some 6, .op (.load none), [.t 5], none⟩,
  ⟨some 7, .op (.faddr 1), [.t 3], none⟩,
  ⟨some 8, .op (.load none), [.t 7], none⟩,
  ⟨some 9, .op (.bin .eql .prim), [.t 6, .t 8], none⟩,
  ⟨some 10, .op (.mov), [.t 9], none⟩,
  ⟨some 11, .op (.faddr 0), [.t 2], some (10, true)⟩,
  ⟨some 12, .op (.load none), [.t 11], some (10, true)⟩,
  ⟨some 13, .op (.faddr 0), [.t 3], some (10, true)⟩,
  ⟨some 14, .op (.load none), [.t 13], some (10, true)⟩,
  ⟨some 15, .op (.bin .eql .prim), [.t 12, .t 14], some (10, true)⟩,
  ⟨some 16, .op (.pick), [.t 10, .t 15, .c (.bool false)], none⟩,
  ⟨some 17, .op (.mov), [.t 16], none⟩,
  ⟨some 18, .op (.faddr 2), [.t 2], some (17, true)⟩,
  ⟨some 19, .op (.load none), [.t 18], some (17, true)⟩,
  ⟨some 20, .op (.faddr 2), [.t 3], some (17, true)⟩,
  ⟨some 21, .op (.load none), [.t 20], some (17, true)⟩,
  ⟨some 22, .op (.bin .eql .prim), [.t 19, .t 21], some (17, true)⟩,
  ⟨some 23, .op (.pick), [.t 17, .t 22, .c (.bool false)], none⟩,
  ⟨some 4, .op (.mov), [.t 23], none⟩]
abbrev c25 : IC := (IC.seq (IC.reg r25_0) (IC.seq (IC.reg r25_1) IC.ret))
abbrev g25 : FC := ⟨c25, 24, [.t 4]⟩
theorem comp25 : compF Go.Proofs.Try.prog (fun _ => 0) 25 = some g25 := by kernel_rfl

-- outlaw/outlawkit.LightQueue
abbrev r26_0 : List IOp := [⟨some 1, .op (.box 29), [.t 0], none⟩,
  ⟨some 2, .op (.mov), [.c (.bool false)], none⟩]
abbrev r26_1 : List IOp := [⟨some 3, .op (.mov), [.c (.int .i64 0)], none⟩]
abbrev r26_2 : List IOp := [⟨some 6, .op (.mov), [.t 3], none⟩,
  ⟨some 7, .op (.faddr 0), [.t 1], none⟩,
  ⟨some 8, .op (.load none), [.t 7], none⟩,
  ⟨some 9, .op (.len .slice), [.t 8], none⟩,
  ⟨some 10, .op (.bin .lss .prim), [.t 6, .t 9], none⟩]
abbrev r26_3 : List IOp := [⟨some 13, .op (.faddr 0), [.t 1], none⟩,
  ⟨some 14, .op (.load none), [.t 13], none⟩,
  ⟨some 15, .op (.mov), [.t 3], none⟩,
  ⟨some 16, .op (.iaddr 10), [.t 14, .t 15], none⟩,
  ⟨some 17, .op (.faddr 1), [.t 16], none⟩,
  ⟨some 18, .op (.load (some 5)), [.t 17], none⟩,
  ⟨some 19, .call none, [.f 11, .t 18], none⟩,
  ⟨some 20, .op (.un .not), [.t 19], none⟩]
abbrev r26_4 : List IOp := [⟨some 2, .op (.mov), [.c (.bool false)], none⟩]
abbrev r26_5 : List IOp := [⟨some 11, .op (.mov), [.t 3], none⟩,
  ⟨some 12, .op (.bin .add .prim), [.t 11, .c (.int .i64 1)], none⟩,
  ⟨some 3, .op (.mov), [.t 12], none⟩]
abbrev b26_0 : IC := (IC.seq (IC.seq (IC.reg r26_2) (IC.cond (.t 10) IC.skip (IC.exit 0))) (IC.seq (IC.block 1 (IC.seq (IC.reg r26_3) (IC.cond (.t 20) (IC.seq (IC.reg r26_4) IC.ret) IC.skip))) (IC.reg r26_5)))
abbrev r26_6 : List IOp := [⟨some 21, .op (.faddr 3), [.t 1], none⟩,
  ⟨some 22, .op (.load none), [.t 21], none⟩,
  ⟨some 23, .call none, [.f 24, .t 22], none⟩,
  ⟨some 24, .op (.faddr 4), [.t 1], none⟩,
  ⟨some 25, .op (.load none), [.t 24], none⟩,
  ⟨some 26, .op (.app 23 5 72), [.t 23, .t 25], none⟩,
  ⟨some 4, .op (.mov), [.t 26], none⟩]
abbrev r26_7 : List IOp := [⟨some 5, .op (.mov), [.c (.int .i64 0)], none⟩]
abbrev r26_8 : List IOp := [⟨some 27, .op (.mov), [.t 5], none⟩,
  ⟨some 28, .op (.mov), [.t 4], none⟩,
  ⟨some 29, .op (.len .slice), [.t 28], none⟩,
  ⟨some 30, .op (.bin .lss .prim), [.t 27, .t 29], none⟩]
abbrev r26_9 : List IOp := [⟨some 33, .op (.mov), [.t 4], none⟩,
  ⟨some 34, .op (.mov), [.t 5], none⟩,
  ⟨some 35, .op (.iaddr 5), [.t 33, .t 34], none⟩,
  ⟨some 36, .op (.load (some 5)), [.t 35], none⟩,
  ⟨some 37, .call none, [.f 11, .t 36], none⟩,
  ⟨some 38, .op (.un .not), [.t 37], none⟩]
abbrev r26_10 : List IOp := [⟨some 2, .op (.mov), [.c (.bool false)], none⟩]
abbrev r26_11 : List IOp := [⟨some 31, .op (.mov), [.t 5], none⟩,
  ⟨some 32, .op (.bin .add .prim), [.t 31, .c (.int .i64 1)], none⟩,
  ⟨some 5, .op (.mov), [.t 32], none⟩]
abbrev b26_1 : IC := (IC.seq (IC.seq (IC.reg r26_8) (IC.cond (.t 30) IC.skip (IC.exit 2))) (IC.seq (IC.block 3 (IC.seq (IC.reg r26_9) (IC.cond (.t 38) (IC.seq (IC.reg r26_10) IC.ret) IC.skip))) (IC.reg r26_11)))
abbrev r26_12 : List IOp := [⟨some 39, .op (.faddr 0), [.t 1], none⟩,
  ⟨some 40, .op (.load none), [.t 39], none⟩,
  ⟨some 41, .op (.len .slice), [.t 40], none⟩,
  ⟨some 42, .op (.bin .leq .prim), [.t 41, .c (.int .i64 40)], none⟩,
  ⟨some 43, .op (.mov), [.t 42], none⟩,
  ⟨some 44, .op (.faddr 3), [.t 1], some (43, true)⟩,
  ⟨some 45, .op (.load none), [.t 44], some (43, true)⟩,
  ⟨some 46, .op (.len .slice), [.t 45], some (43, true)⟩,
  ⟨some 47, .op (.bin .leq .prim), [.t 46, .c (.int .i64 70)], some (43, true)⟩,
  ⟨some 48, .op (.pick), [.t 43, .t 47, .c (.bool false)], none⟩,
  ⟨some 49, .op (.mov), [.t 48], none⟩,
  ⟨some 50, .op (.faddr 4), [.t 1], some (49, true)⟩,
  ⟨some 51, .op (.load none), [.t 50], some (49, true)⟩,
  ⟨some 52, .op (.len .slice), [.t 51], some (49, true)⟩,
  ⟨some 53, .op (.bin .leq .prim), [.t 52, .c (.int .i64 70)], some (49, true)⟩,
  ⟨some 54, .op (.pick), [.t 49, .t 53, .c (.bool false)], none⟩,
  ⟨some 2, .op (.mov), [.t 54], none⟩]
abbrev c26 : IC := (IC.seq (IC.reg r26_0) (IC.seq (IC.seq (IC.reg r26_1) (IC.block 0 (IC.loop b26_0))) (IC.seq (IC.regD .alloc r26_6 (.take 0 (.take 1 (.take 3 (.take 4 (.take 2 (.take 5 (.take 6 (.done))))))))) (IC.seq (IC.seq (IC.reg r26_7) (IC.block 2 (IC.loop b26_1))) (IC.seq (IC.reg r26_12) IC.ret)))))
abbrev g26 : FC := ⟨c26, 55, [.t 2]⟩
theorem comp26 : compF Go.Proofs.Try.prog (hintL [(6, 7)]) 26 = some g26 := by kernel_rfl

-- outlaw/queue.Check
abbrev r27_0 : List IOp := [⟨some 1, .op (.box 29), [.t 0], none⟩,
  ⟨some 2, .op (.mov), [.c (.int .i64 0)], none⟩]
abbrev r27_1 : List IOp := [⟨some 10, .op (.faddr 0), [.t 1], none⟩,
  ⟨some 11, .op (.load none), [.t 10], none⟩,
  ⟨some 12, .op (.len .slice), [.t 11], none⟩,
  ⟨some 13, .op (.bin .leq .prim), [.t 12, .c (.int .i64 32)], none⟩,
  ⟨some 14, .op (.mov), [.t 13], none⟩,
  ⟨some 15, .op (.faddr 1), [.t 1], some (14, true)⟩,
  ⟨some 16, .op (.load none), [.t 15], some (14, true)⟩,
  ⟨some 17, .op (.bin .geq .prim), [.t 16, .c (.int .i64 1)], some (14, true)⟩,
  ⟨some 18, .op (.pick), [.t 14, .t 17, .c (.bool false)], none⟩,
  ⟨some 19, .op (.mov), [.t 18], none⟩,
  ⟨some 20, .op (.faddr 1), [.t 1], some (19, true)⟩,
  ⟨some 21, .op (.load none), [.t 20], some (19, true)⟩,
  ⟨some 22, .op (.bin .leq .prim), [.t 21, .c (.int .i64 1152921504606846976)], some (19, true)⟩,
  ⟨some 23, .op (.pick), [.t 19, .t 22, .c (.bool false)], none⟩,
  ⟨some 24, .op (.mov), [.t 23], none⟩,
  ⟨some 25, .op (.faddr 2), [.t 1], some (24, true)⟩,
  ⟨some 26, .op (.load none), [.t 25], some (24, true)⟩,
  ⟨some 27, .op (.bin .geq .prim), [.t 26, .c (.int .i64 0)], some (24, true)⟩,
  ⟨some 28, .op (.pick), [.t 24, .t 27, .c (.bool false)], none⟩,
  ⟨some 29, .op (.mov), [.t 28], none⟩,
  ⟨some 30, .op (.faddr 2), [.t 1], some (29, true)⟩,
  ⟨some 31, .op (.load none), [.t 30], some (29, true)⟩,
  ⟨some 32, .op (.bin .leq .prim), [.t 31, .c (.int .i64 1152921504606846976)], some (29, true)⟩,
  ⟨some 33, .op (.pick), [.t 29, .t 32, .c (.bool false)], none⟩,
  ⟨some 34, .op (.mov), [.t 33], none⟩,
  ⟨some 35, .op (.faddr 3), [.t 1], some (34, true)⟩,
  ⟨some 36, .op (.load none), [.t 35], some (34, true)⟩,
  ⟨some 37, .op (.len .slice), [.t 36], some (34, true)⟩,
  ⟨some 38, .op (.bin .leq .prim), [.t 37, .c (.int .i64 64)], some (34, true)⟩,
  ⟨some 39, .op (.pick), [.t 34, .t 38, .c (.bool false)], none⟩,
  ⟨some 40, .op (.mov), [.t 39], none⟩,
  ⟨some 41, .op (.faddr 4), [.t 1], some (40, true)⟩,
  ⟨some 42, .op (.load none), [.t 41], some (40, true)⟩,
  ⟨some 43, .op (.len .slice), [.t 42], some (40, true)⟩,
  ⟨some 44, .op (.bin .leq .prim), [.t 43, .c (.int .i64 64)], some (40, true)⟩,
  ⟨some 45, .op (.pick), [.t 40, .t 44, .c (.bool false)], none⟩,
  ⟨some 46, .op (.mov), [.t 45], none⟩,
  ⟨some 47, .op (.load (some 6)), [.t 1], some (46, true)⟩,
  ⟨some 48, .call none, [.f 63, .t 47], some (46, true)⟩,
  ⟨some 49, .op (.bin .leq .prim), [.t 48, .c (.int .i64 4)], some (46, true)⟩,
  ⟨some 50, .op (.pick), [.t 46, .t 49, .c (.bool false)], none⟩,
  ⟨some 3, .op (.mov), [.t 50], none⟩]
abbrev r27_2 : List IOp := [⟨some 51, .op (.mov), [.t 3], none⟩,
  ⟨some 52, .op (.un .not), [.t 51], none⟩]
abbrev r27_3 : List IOp := [⟨some 2, .op (.mov), [.c (.int .i64 2)], none⟩]
abbrev r27_4 : List IOp := [⟨some 4, .op (.mov), [.c (.int .i64 0)], none⟩]
abbrev r27_5 : List IOp := [⟨some 53, .op (.faddr 0), [.t 1], none⟩,
  ⟨some 54, .op (.load none), [.t 53], none⟩,
  ⟨some 55, .op (.len .slice), [.t 54], none⟩,
  ⟨some 56, .op (.mov), [.c (.int .i64 0)], none⟩]
abbrev r27_6 : List IOp := [⟨some 57, .op (.bin .lss .prim), [.t 56, .t 55], none⟩]
abbrev r27_7 : List IOp := [⟨some 58, .op (.iaddr 10), [.t 54, .t 56], none⟩,
  ⟨some 59, .op (.load (some 10)), [.t 58], none⟩,
  ⟨some 6, .op (.alloc 42 [.int .i64 0, .int .i64 0, .str [], .str [], .str [], .str [], .bool false, .bool false, .int .i64 0, .int .i64 0]), [], none⟩,
  ⟨none, .op (.store 10), [.t 6, .t 59], none⟩]
abbrev r27_8 : List IOp := [⟨some 60, .op (.faddr 0), [.t 6], none⟩,
  ⟨some 61, .op (.load none), [.t 60], none⟩,
  ⟨some 62, .op (.mov), [.t 4], none⟩,
  ⟨some 63, .op (.bin .leq .prim), [.t 61, .t 62], none⟩,
  ⟨some 64, .op (.mov), [.t 63], none⟩,
  ⟨some 65, .op (.faddr 0), [.t 6], some (64, false)⟩,
  ⟨some 66, .op (.load none), [.t 65], some (64, false)⟩,
  ⟨some 67, .op (.faddr 1), [.t 1], some (64, false)⟩,
  ⟨some 68, .op (.load none), [.t 67], some (64, false)⟩,
  ⟨some 69, .op (.bin .geq .prim), [.t 66, .t 68], some (64, false)⟩,
  ⟨some 70, .op (.pick), [.t 64, .c (.bool true), .t 69], none⟩,
  ⟨some 71, .op (.mov), [.t 70], none⟩,
  ⟨some 72, .op (.faddr 8), [.t 6], some (71, false)⟩,
  ⟨some 73, .op (.load none), [.t 72], some (71, false)⟩,
  ⟨some 74, .op (.bin .lss .prim), [.t 73, .c (.int .i64 0)], some (71, false)⟩,
  ⟨some 75, .op (.pick), [.t 71, .c (.bool true), .t 74], none⟩,
  ⟨some 76, .op (.mov), [.t 75], none⟩,
  ⟨some 77, .op (.faddr 8), [.t 6], some (76, false)⟩,
  ⟨some 78, .op (.load none), [.t 77], some (76, false)⟩,
  ⟨some 79, .op (.bin .geq .prim), [.t 78, .c (.int .i64 5)], some (76, false)⟩,
  ⟨some 80, .op (.pick), [.t 76, .c (.bool true), .t 79], none⟩,
  ⟨some 81, .op (.mov), [.t 80], none⟩,
  ⟨some 82, .op (.faddr 9), [.t 6], some (81, false)⟩,
  ⟨some 83, .op (.load none), [.t 82], some (81, false)⟩,
  ⟨some 84, .op (.bin .lss .prim), [.t 83, .c (.int .i64 0)], some (81, false)⟩,
  ⟨some 85, .op (.pick), [.t 81, .c (.bool true), .t 84], none⟩,
  ⟨some 86, .op (.mov), [.t 85], none⟩,
  ⟨some 87, .op (.faddr 9), [.t 6], some (86, false)⟩,
  ⟨some 88, .op (.load none), [.t 87], some (86, false)⟩,
  ⟨some 89, .op (.bin .gtr .prim), [.t 88, .c (.int .i64 1152921504606847040)], some (86, false)⟩,
  ⟨some 90, .op (.pick), [.t 86, .c (.bool true), .t 89], none⟩]
abbrev r27_9 : List IOp := [⟨some 2, .op (.mov), [.c (.int .i64 2)], none⟩]
abbrev r27_10 : List IOp := [⟨some 91, .op (.faddr 0), [.t 6], none⟩,
  ⟨some 92, .op (.load none), [.t 91], none⟩,
  ⟨some 4, .op (.mov), [.t 92], none⟩]
abbrev r27_11 : List IOp := [⟨some 93, .op (.bin .add .prim), [.t 56, .c (.int .i64 1)], none⟩,
  ⟨some 56, .op (.mov), [.t 93], none⟩]
abbrev b27_0 : IC := (IC.seq (IC.reg r27_6) (IC.seq (IC.cond (.t 57) IC.skip (IC.exit 0)) (IC.seq (IC.block 1 (IC.seq (IC.reg r27_7) (IC.seq (IC.seq (IC.reg r27_8) (IC.cond (.t 90) (IC.seq (IC.reg r27_9) IC.ret) IC.skip)) (IC.reg r27_10)))) (IC.reg r27_11))))
abbrev r27_12 : List IOp := [⟨some 94, .op (.load (some 6)), [.t 1], none⟩,
  ⟨some 95, .call none, [.f 59, .t 94], none⟩,
  ⟨some 7, .op (.mov), [.t 95], none⟩]
abbrev r27_13 : List IOp := [⟨some 96, .op (.mov), [.t 7], none⟩,
  ⟨some 97, .op (.len .slice), [.t 96], none⟩,
  ⟨some 98, .op (.mov), [.c (.int .i64 0)], none⟩]
abbrev r27_14 : List IOp := [⟨some 99, .op (.bin .lss .prim), [.t 98, .t 97], none⟩]
abbrev r27_15 : List IOp := [⟨some 100, .op (.mov), [.t 98], none⟩,
  ⟨some 101, .op (.iaddr 5), [.t 96, .t 98], none⟩,
  ⟨some 102, .op (.load (some 5)), [.t 101], none⟩,
  ⟨some 9, .op (.alloc 23 [.int .i64 0, .str [], .str [], .str [], .str []]), [], none⟩,
  ⟨some 8, .op (.mov), [.t 100], none⟩,
  ⟨none, .op (.store 5), [.t 9, .t 102], none⟩]
abbrev r27_16 : List IOp := [⟨some 103, .op (.load (some 5)), [.t 9], none⟩,
  ⟨some 104, .call none, [.f 57, .t 103], none⟩,
  ⟨some 105, .op (.un .not), [.t 104], none⟩,
  ⟨some 106, .op (.mov), [.t 105], none⟩,
  ⟨some 107, .op (.mov), [.t 7], some (106, false)⟩,
  ⟨some 108, .op (.mov), [.t 8], some (106, false)⟩,
  ⟨some 109, .op (.slice 5 false true false), [.t 107, .t 108], some (106, false)⟩,
  ⟨some 110, .op (.mkfn 71), [.t 9], some (106, false)⟩,
  ⟨some 111, .call none, [.f 58, .t 109, .t 110], some (106, false)⟩,
  ⟨some 112, .op (.pick), [.t 106, .c (.bool true), .t 111], none⟩]
abbrev r27_17 : List IOp := [⟨some 2, .op (.mov), [.c (.int .i64 2)], none⟩]
abbrev r27_18 : List IOp := [⟨some 113, .op (.bin .add .prim), [.t 98, .c (.int .i64 1)], none⟩,
  ⟨some 98, .op (.mov), [.t 113], none⟩]
abbrev b27_1 : IC := (IC.seq (IC.reg r27_14) (IC.seq (IC.cond (.t 99) IC.skip (IC.exit 2)) (IC.seq (IC.block 3 (IC.seq (IC.reg r27_15) (IC.seq (IC.reg r27_16) (IC.cond (.t 112) (IC.seq (IC.reg r27_17) IC.ret) IC.skip)))) (IC.reg r27_18))))
abbrev r27_19 : List IOp := [⟨some 2, .op (.mov), [.c (.int .i64 0)], none⟩]
abbrev c27 : IC := (IC.seq (IC.reg r27_0) (IC.seq (IC.reg r27_1) (IC.seq (IC.seq (IC.reg r27_2) (IC.cond (.t 52) (IC.seq (IC.reg r27_3) IC.ret) IC.skip)) (IC.seq (IC.reg r27_4) (IC.seq (IC.seq (IC.reg r27_5) (IC.block 0 (IC.loop b27_0))) (IC.seq (IC.reg r27_12) (IC.seq (IC.seq (IC.reg r27_13) (IC.block 2 (IC.loop b27_1))) (IC.seq (IC.reg r27_19) IC.ret))))))))
abbrev g27 : FC := ⟨c27, 114, [.t 2]⟩
theorem comp27 : compF Go.Proofs.Try.prog (fun _ => 0) 27 = some g27 := by kernel_rfl

-- outlaw/queue.Same
abbrev r28_0 : List IOp := [⟨some 2, .op (.box 29), [.t 0], none⟩,
  ⟨some 3, .op (.box 29), [.t 1], none⟩,
  ⟨some 4, .op (.mov), [.c (.bool false)], none⟩]
abbrev r28_1 : List IOp := [⟨some 5, .op (.faddr 1), [.t 2], none⟩,
  ⟨some 6, .op (.load none), [.t 5], none⟩,
  ⟨some 7, .op (.faddr 1), [.t 3], none⟩,
  ⟨some 8, .op (.load none), [.t 7], none⟩,
  ⟨some 9, .op (.bin .eql .prim), [.t 6, .t 8], none⟩,
  ⟨some 10, .op (.mov), [.t 9], none⟩,
  ⟨some 11, .op (.faddr 2), [.t 2], some (10, true)⟩,
  ⟨some 12, .op (.load none), [.t 11], some (10, true)⟩,
  ⟨some 13, .op (.faddr 2), [.t 3], some (10, true)⟩,
  ⟨some 14, .op (.load none), [.t 13], some (10, true)⟩,
  ⟨some 15, .op (.bin .eql .prim), [.t 12, .t 14], some (10, true)⟩,
  ⟨some 16, .op (.pick), [.t 10, .t 15, .c (.bool false)], none⟩,
  ⟨some 17, .op (.mov), [.t 16], none⟩,
  ⟨some 18, .op (.faddr 5), [.t 2], some (17, true)⟩,
  ⟨some 19, .op (.load none), [.t 18], some (17, true)⟩,
  ⟨some 20, .op (.faddr 5), [.t 3], some (17, true)⟩,
  ⟨some 21, .op (.load none), [.t 20], some (17, true)⟩,
  ⟨some 22, .op (.bin .eql .bool), [.t 19, .t 21], some (17, true)⟩,
  ⟨some 23, .op (.pick), [.t 17, .t 22, .c (.bool false)], none⟩,
  ⟨some 24, .op (.mov), [.t 23], none⟩,
  ⟨some 25, .op (.faddr 0), [.t 2], some (24, true)⟩,
  ⟨some 26, .op (.load none), [.t 25], some (24, true)⟩,
  ⟨some 27, .op (.faddr 0), [.t 3], some (24, true)⟩,
  ⟨some 28, .op (.load none), [.t 27], some (24, true)⟩,
  ⟨some 29, .call none, [.f 72, .t 26, .t 28], some (24, true)⟩,
  ⟨some 30, .op (.pick), [.t 24, .t 29, .c (.bool false)], none⟩,
  ⟨some 31, .op (.mov), [.t 30], none⟩,
  ⟨some 32, .op (.faddr 3), [.t 2], some (31, true)⟩,
  ⟨some 33, .op (.load none), [.t 32], some (31, true)⟩,
  ⟨some 34, .op (.faddr 3), [.t 3], some (31, true)⟩,
  ⟨some 35, .op (.load none), [.t 34], some (31, true)⟩,
  ⟨some 36, .call none, [.f 73, .t 33, .t 35], some (31, true)⟩,
  ⟨some 37, .op (.pick), [.t 31, .t 36, .c (.bool false)], none⟩,
  ⟨some 38, .op (.mov), [.t 37], none⟩,
  ⟨some 39, .op (.faddr 4), [.t 2], some (38, true)⟩,
  ⟨some 40, .op (.load none), [.t 39], some (38, true)⟩,
  ⟨some 41, .op (.faddr 4), [.t 3], some (38, true)⟩,
  ⟨some 42, .op (.load none), [.t 41], some (38, true)⟩,
  ⟨some 43, .call none, [.f 73, .t 40, .t 42], some (38, true)⟩,
  ⟨some 44, .op (.pick), [.t 38, .t 43, .c (.bool false)], none⟩,
  ⟨some 4, .op (.mov), [.t 44], none⟩]
abbrev c28 : IC := (IC.seq (IC.reg r28_0) (IC.seq (IC.reg r28_1) IC.ret))
abbrev g28 : FC := ⟨c28, 45, [.t 4]⟩
theorem comp28 : compF Go.Proofs.Try.prog (fun _ => 0) 28 = some g28 := by kernel_rfl

-- outlaw/queue.Backoff
abbrev r30_0 : List IOp := [⟨some 2, .op (.mov), [.c (.int .i64 0)], none⟩]
abbrev r30_1 : List IOp := [⟨some 3, .op (.mov), [.t 0], none⟩,
  ⟨some 4, .op (.bin .lss .prim), [.t 3, .c (.int .i64 1)], none⟩]
abbrev r30_2 : List IOp := [⟨some 2, .op (.mov), [.c (.int .i64 0)], none⟩]
abbrev r30_3 : List IOp := [⟨some 5, .op (.mov), [.t 0], none⟩,
  ⟨some 6, .op (.min), [.t 5, .c (.int .i64 20)], none⟩,
  ⟨some 7, .op (.bin .shl .prim), [.c (.int .i64 1), .t 6], none⟩,
  ⟨some 8, .op (.min), [.c (.int .i64 64), .t 7], none⟩,
  ⟨some 2, .op (.mov), [.t 8], none⟩]
abbrev c30 : IC := (IC.seq (IC.reg r30_0) (IC.seq (IC.seq (IC.reg r30_1) (IC.cond (.t 4) (IC.seq (IC.reg r30_2) IC.ret) IC.skip)) (IC.seq (IC.reg r30_3) IC.ret)))
abbrev g30 : FC := ⟨c30, 9, [.t 2]⟩
theorem comp30 : compF Go.Proofs.Try.prog (fun _ => 0) 30 = some g30 := by kernel_rfl

-- outlaw/queue.Find
abbrev r35_0 : List IOp := [⟨some 2, .op (.box 29), [.t 0], none⟩,
  ⟨some 4, .op (.alloc 42 [.int .i64 0, .int .i64 0, .str [], .str [], .str [], .str [], .bool false, .bool false, .int .i64 0, .int .i64 0]), [], none⟩,
  ⟨some 5, .op (.mov), [.c (.bool false)], none⟩]
abbrev r35_1 : List IOp := [⟨some 7, .op (.load (some 6)), [.t 2], none⟩,
  ⟨some 8, .op (.mov), [.t 1], none⟩,
  ⟨some 9, .call none, [.f 61, .t 7, .t 8], none⟩,
  ⟨some 6, .op (.mov), [.t 9], none⟩]
abbrev r35_2 : List IOp := [⟨some 10, .op (.mov), [.t 6], none⟩,
  ⟨some 11, .op (.bin .geq .prim), [.t 10, .c (.int .i64 0)], none⟩]
abbrev r35_3 : List IOp := [⟨some 12, .op (.faddr 0), [.t 2], none⟩,
  ⟨some 13, .op (.load none), [.t 12], none⟩,
  ⟨some 14, .op (.mov), [.t 6], none⟩,
  ⟨some 15, .op (.iaddr 10), [.t 13, .t 14], none⟩,
  ⟨some 16, .op (.load (some 10)), [.t 15], none⟩,
  ⟨none, .op (.store 10), [.t 4, .t 16], none⟩,
  ⟨some 5, .op (.mov), [.c (.bool true)], none⟩]
abbrev r35_4 : List IOp := [⟨some 17, .op (.bst [.int .i64 0, .int .i64 0, .str [], .str [], .str [], .str [], .bool false, .bool false, .int .i64 0, .int .i64 0] [(0, 1), (1, 5), (6, 1), (7, 1), (8, 1), (9, 1)] []), [], none⟩,
  ⟨none, .op (.store 10), [.t 4, .t 17], none⟩,
  ⟨some 5, .op (.mov), [.c (.bool false)], none⟩]
abbrev c35 : IC := (IC.seq (IC.reg r35_0) (IC.seq (IC.seq (IC.reg r35_1) (IC.seq (IC.reg r35_2) (IC.cond (.t 11) (IC.seq (IC.reg r35_3) IC.ret) IC.skip))) (IC.seq (IC.reg r35_4) IC.ret)))
abbrev g35 : FC := ⟨c35, 18, [.cell 4 (some 10), .t 5]⟩
theorem comp35 : compF Go.Proofs.Try.prog (fun _ => 0) 35 = some g35 := by kernel_rfl

-- outlaw/outlawlaw22.ban
abbrev r54_0 : List IOp := [⟨some 2, .op (.alloc 23 [.int .i64 0, .str [], .str [], .str [], .str []]), [], none⟩]
abbrev r54_1 : List IOp := [⟨some 3, .op (.mov), [.t 0], none⟩,
  ⟨some 4, .op (.bst [.int .i64 0, .str [], .str [], .str [], .str []] [(0, 1), (1, 1), (2, 1), (3, 1), (4, 1)] [0, 1, 2]), [.c (.int .i64 1), .c (.str [33, 114, 58, 120]), .t 3], none⟩,
  ⟨none, .op (.store 5), [.t 2, .t 4], none⟩]
abbrev c54 : IC := (IC.seq (IC.reg r54_0) (IC.seq (IC.reg r54_1) IC.ret))
abbrev g54 : FC := ⟨c54, 5, [.cell 2 (some 5)]⟩
theorem comp54 : compF Go.Proofs.Try.prog (fun _ => 0) 54 = some g54 := by kernel_rfl

-- outlaw/queue.Land
abbrev r55_0 : List IOp := [⟨some 1, .op (.box 29), [.t 0], none⟩,
  ⟨some 2, .op (.alloc 29 [.nils, .int .i64 0, .int .i64 0, .nils, .nils, .bool false]), [], none⟩]
abbrev r55_1 : List IOp := [⟨some 5, .op (.load (some 6)), [.t 1], none⟩,
  ⟨some 6, .call none, [.f 56, .t 5], none⟩,
  ⟨none, .op (.store 6), [.t 1, .t 6], none⟩]
abbrev r55_2 : List IOp := [⟨some 7, .op (.faddr 0), [.t 1], none⟩,
  ⟨some 8, .op (.load none), [.t 7], none⟩,
  ⟨some 9, .op (.len .slice), [.t 8], none⟩,
  ⟨some 10, .op (.mov), [.c (.int .i64 0)], none⟩]
abbrev r55_3 : List IOp := [⟨some 11, .op (.bin .lss .prim), [.t 10, .t 9], none⟩]
abbrev r55_4 : List IOp := [⟨some 12, .op (.mov), [.t 10], none⟩,
  ⟨some 3, .op (.mov), [.t 12], none⟩]
abbrev r55_5 : List IOp := [⟨some 13, .op (.faddr 0), [.t 1], none⟩,
  ⟨some 14, .op (.load none), [.t 13], none⟩,
  ⟨some 15, .op (.mov), [.t 3], none⟩,
  ⟨some 16, .op (.iaddr 10), [.t 14, .t 15], none⟩,
  ⟨some 4, .op (.mov), [.t 16], none⟩]
abbrev r55_6 : List IOp := [⟨some 17, .op (.mov), [.t 4], none⟩,
  ⟨some 18, .op (.mov), [.t 4], none⟩,
  ⟨some 19, .op (.mov), [.t 4], none⟩,
  ⟨some 20, .op (.nilchk), [.t 19], none⟩,
  ⟨some 21, .op (.faddr 7), [.t 20], none⟩,
  ⟨some 22, .op (.load none), [.t 21], none⟩,
  ⟨some 23, .op (.mov), [.t 22], none⟩,
  ⟨some 24, .op (.mov), [.t 4], some (23, false)⟩,
  ⟨some 25, .op (.nilchk), [.t 24], some (23, false)⟩,
  ⟨some 26, .op (.faddr 6), [.t 25], some (23, false)⟩,
  ⟨some 27, .op (.load none), [.t 26], some (23, false)⟩,
  ⟨some 28, .op (.pick), [.t 23, .c (.bool true), .t 27], none⟩,
  ⟨some 29, .op (.nilchk), [.t 17], none⟩,
  ⟨some 30, .op (.faddr 6), [.t 29], none⟩,
  ⟨none, .op (.store 1), [.t 30, .c (.bool false)], none⟩,
  ⟨some 31, .op (.nilchk), [.t 18], none⟩,
  ⟨some 32, .op (.faddr 7), [.t 31], none⟩,
  ⟨none, .op (.store 1), [.t 32, .t 28], none⟩]
abbrev r55_7 : List IOp := [⟨some 33, .op (.bin .add .prim), [.t 10, .c (.int .i64 1)], none⟩,
  ⟨some 10, .op (.mov), [.t 33], none⟩]
abbrev b55_0 : IC := (IC.seq (IC.reg r55_3) (IC.seq (IC.cond (.t 11) IC.skip (IC.exit 0)) (IC.seq (IC.block 1 (IC.seq (IC.reg r55_4) (IC.seq (IC.reg r55_5) (IC.reg r55_6)))) (IC.reg r55_7))))
abbrev r55_8 : List IOp := [⟨some 34, .op (.load (some 6)), [.t 1], none⟩,
  ⟨none, .op (.store 6), [.t 2, .t 34], none⟩]
abbrev c55 : IC := (IC.seq (IC.reg r55_0) (IC.seq (IC.reg r55_1) (IC.seq (IC.seq (IC.reg r55_2) (IC.block 0 (IC.loop b55_0))) (IC.seq (IC.reg r55_8) IC.ret))))
abbrev g55 : FC := ⟨c55, 35, [.cell 2 (some 6)]⟩
theorem comp55 : compF Go.Proofs.Try.prog (fun _ => 0) 55 = some g55 := by kernel_rfl

-- outlaw/queue.clone
abbrev r56_0 : List IOp := [⟨some 1, .op (.box 29), [.t 0], none⟩,
  ⟨some 2, .op (.alloc 29 [.nils, .int .i64 0, .int .i64 0, .nils, .nils, .bool false]), [], none⟩]
abbrev r56_1 : List IOp := [⟨some 3, .op (.faddr 0), [.t 1], none⟩,
  ⟨some 4, .op (.load none), [.t 3], none⟩,
  ⟨some 5, .call none, [.f 104, .t 4], none⟩,
  ⟨some 6, .op (.faddr 3), [.t 1], none⟩,
  ⟨some 7, .op (.load none), [.t 6], none⟩,
  ⟨some 8, .call none, [.f 105, .t 7], none⟩,
  ⟨some 9, .op (.faddr 4), [.t 1], none⟩,
  ⟨some 10, .op (.load none), [.t 9], none⟩,
  ⟨some 11, .call none, [.f 105, .t 10], none⟩,
  ⟨some 12, .op (.faddr 0), [.t 1], none⟩,
  ⟨none, .op (.store 1), [.t 12, .t 5], none⟩,
  ⟨some 13, .op (.faddr 3), [.t 1], none⟩,
  ⟨none, .op (.store 1), [.t 13, .t 8], none⟩,
  ⟨some 14, .op (.faddr 4), [.t 1], none⟩,
  ⟨none, .op (.store 1), [.t 14, .t 11], none⟩]
abbrev r56_2 : List IOp := [⟨some 15, .op (.load (some 6)), [.t 1], none⟩,
  ⟨none, .op (.store 6), [.t 2, .t 15], none⟩]
abbrev c56 : IC := (IC.seq (IC.reg r56_0) (IC.seq (IC.regD .alloc r56_1 (.take 0 (.take 1 (.take 3 (.take 4 (.take 6 (.take 7 (.take 2 (.take 5 (.take 8 (.take 9 (.take 10 (.take 11 (.take 12 (.take 13 (.take 14 (.done))))))))))))))))) (IC.seq (IC.reg r56_2) IC.ret)))
abbrev g56 : FC := ⟨c56, 16, [.cell 2 (some 6)]⟩
theorem comp56 : compF Go.Proofs.Try.prog (hintL [(1, 7)]) 56 = some g56 := by kernel_rfl

-- outlaw/queue.known
abbrev r57_0 : List IOp := [⟨some 1, .op (.box 23), [.t 0], none⟩,
  ⟨some 2, .op (.mov), [.c (.bool false)], none⟩]
abbrev r57_1 : List IOp := [⟨some 3, .op (.faddr 0), [.t 1], none⟩,
  ⟨some 4, .op (.load none), [.t 3], none⟩,
  ⟨some 5, .op (.bin .geq .prim), [.t 4, .c (.int .i64 1)], none⟩,
  ⟨some 6, .op (.mov), [.t 5], none⟩,
  ⟨some 7, .op (.faddr 0), [.t 1], some (6, true)⟩,
  ⟨some 8, .op (.load none), [.t 7], some (6, true)⟩,
  ⟨some 9, .op (.bin .leq .prim), [.t 8, .c (.int .i64 4)], some (6, true)⟩,
  ⟨some 10, .op (.pick), [.t 6, .t 9, .c (.bool false)], none⟩,
  ⟨some 2, .op (.mov), [.t 10], none⟩]
abbrev c57 : IC := (IC.seq (IC.reg r57_0) (IC.seq (IC.reg r57_1) IC.ret))
abbrev g57 : FC := ⟨c57, 11, [.t 2]⟩
theorem comp57 : compF Go.Proofs.Try.prog (fun _ => 0) 57 = some g57 := by kernel_rfl

-- slices.ContainsFunc[[]outlaw/api.Action,outlaw/api.Action]
abbrev r58_0 : List IOp := [⟨some 4, .op (.mov), [.c (.bool false)], none⟩]
abbrev r58_1 : List IOp := [⟨some 5, .op (.mov), [.t 0], none⟩,
  ⟨some 6, .op (.mov), [.t 1], none⟩,
  ⟨some 7, .call none, [.f 106, .t 5, .t 6], none⟩,
  ⟨some 8, .op (.bin .geq .prim), [.t 7, .c (.int .i64 0)], none⟩,
  ⟨some 4, .op (.mov), [.t 8], none⟩]
abbrev c58 : IC := (IC.seq (IC.reg r58_0) (IC.seq (IC.reg r58_1) IC.ret))
abbrev g58 : FC := ⟨c58, 9, [.t 4]⟩
theorem comp58 : compF Go.Proofs.Try.prog (fun _ => 0) 58 = some g58 := by kernel_rfl

-- outlaw/queue.actions
abbrev r59_0 : List IOp := [⟨some 1, .op (.box 29), [.t 0], none⟩,
  ⟨some 2, .op (.mov), [.c (.nils)], none⟩]
abbrev r59_1 : List IOp := [⟨some 3, .op (.mov), [.c (.nils)], none⟩]
abbrev r59_2 : List IOp := [⟨some 6, .op (.faddr 0), [.t 1], none⟩,
  ⟨some 7, .op (.load none), [.t 6], none⟩,
  ⟨some 8, .op (.len .slice), [.t 7], none⟩,
  ⟨some 9, .op (.mov), [.c (.int .i64 0)], none⟩]
abbrev r59_3 : List IOp := [⟨some 10, .op (.bin .lss .prim), [.t 9, .t 8], none⟩]
abbrev r59_4 : List IOp := [⟨some 11, .op (.iaddr 10), [.t 7, .t 9], none⟩,
  ⟨some 12, .op (.load (some 10)), [.t 11], none⟩,
  ⟨some 5, .op (.alloc 42 [.int .i64 0, .int .i64 0, .str [], .str [], .str [], .str [], .bool false, .bool false, .int .i64 0, .int .i64 0]), [], none⟩,
  ⟨none, .op (.store 10), [.t 5, .t 12], none⟩]
abbrev r59_5 : List IOp := [⟨some 13, .op (.mov), [.t 3], none⟩,
  ⟨some 14, .op (.faddr 1), [.t 5], none⟩,
  ⟨some 15, .op (.load (some 5)), [.t 14], none⟩,
  ⟨some 16, .op (.bsl 23 5 false), [.t 15], none⟩,
  ⟨some 17, .op (.app 23 5 72), [.t 13, .t 16], none⟩,
  ⟨some 3, .op (.mov), [.t 17], none⟩]
abbrev r59_6 : List IOp := [⟨some 18, .op (.bin .add .prim), [.t 9, .c (.int .i64 1)], none⟩,
  ⟨some 9, .op (.mov), [.t 18], none⟩]
abbrev b59_0 : IC := (IC.seq (IC.reg r59_3) (IC.seq (IC.cond (.t 10) IC.skip (IC.exit 0)) (IC.seq (IC.block 1 (IC.seq (IC.reg r59_4) (IC.reg r59_5))) (IC.reg r59_6))))
abbrev r59_7 : List IOp := [⟨some 19, .op (.mov), [.t 3], none⟩,
  ⟨some 20, .op (.faddr 3), [.t 1], none⟩,
  ⟨some 21, .op (.load none), [.t 20], none⟩,
  ⟨some 22, .op (.faddr 4), [.t 1], none⟩,
  ⟨some 23, .op (.load none), [.t 22], none⟩,
  ⟨some 24, .op (.bsl 27 1 false), [.t 19, .t 21, .t 23], none⟩,
  ⟨some 25, .call none, [.f 107, .t 24], none⟩,
  ⟨some 2, .op (.mov), [.t 25], none⟩]
abbrev c59 : IC := (IC.seq (IC.reg r59_0) (IC.seq (IC.reg r59_1) (IC.seq (IC.seq (IC.reg r59_2) (IC.block 0 (IC.loop b59_0))) (IC.seq (IC.reg r59_7) IC.ret))))
abbrev g59 : FC := ⟨c59, 26, [.t 2]⟩
theorem comp59 : compF Go.Proofs.Try.prog (fun _ => 0) 59 = some g59 := by kernel_rfl

-- outlaw/queue.Put$1
abbrev r60_0 : List IOp := [⟨some 2, .op (.box 23), [.t 0], none⟩,
  ⟨some 3, .op (.mov), [.c (.bool false)], none⟩]
abbrev r60_1 : List IOp := [⟨some 4, .op (.load (some 5)), [.t 1], none⟩,
  ⟨some 5, .op (.load (some 5)), [.t 2], none⟩,
  ⟨some 6, .call none, [.f 25, .t 4, .t 5], none⟩,
  ⟨some 3, .op (.mov), [.t 6], none⟩]
abbrev c60 : IC := (IC.seq (IC.reg r60_0) (IC.seq (IC.reg r60_1) IC.ret))
abbrev g60 : FC := ⟨c60, 7, [.t 3]⟩
theorem comp60 : compF Go.Proofs.Try.prog (fun _ => 0) 60 = some g60 := by kernel_rfl

-- outlaw/queue.at
abbrev r61_0 : List IOp := [⟨some 2, .op (.box 29), [.t 0], none⟩,
  ⟨some 3, .op (.box 2), [.t 1], none⟩,
  ⟨some 4, .op (.mov), [.c (.int .i64 0)], none⟩]
abbrev r61_1 : List IOp := [⟨some 5, .op (.faddr 0), [.t 2], none⟩,
  ⟨some 6, .op (.load none), [.t 5], none⟩,
  ⟨some 7, .op (.mkfn 109), [.t 3], none⟩,
  ⟨some 8, .call none, [.f 108, .t 6, .t 7], none⟩,
  ⟨some 4, .op (.mov), [.t 8], none⟩]
abbrev c61 : IC := (IC.seq (IC.reg r61_0) (IC.seq (IC.reg r61_1) IC.ret))
abbrev g61 : FC := ⟨c61, 9, [.t 4]⟩
theorem comp61 : compF Go.Proofs.Try.prog (fun _ => 0) 61 = some g61 := by kernel_rfl

-- outlaw/queue.waits
abbrev r62_0 : List IOp := [⟨some 1, .op (.box 42), [.t 0], none⟩,
  ⟨some 2, .op (.mov), [.c (.bool false)], none⟩]
abbrev r62_1 : List IOp := [⟨some 3, .op (.faddr 6), [.t 1], none⟩,
  ⟨some 4, .op (.load none), [.t 3], none⟩,
  ⟨some 5, .op (.un .not), [.t 4], none⟩,
  ⟨some 6, .op (.mov), [.t 5], none⟩,
  ⟨some 7, .op (.faddr 7), [.t 1], some (6, true)⟩,
  ⟨some 8, .op (.load none), [.t 7], some (6, true)⟩,
  ⟨some 9, .op (.un .not), [.t 8], some (6, true)⟩,
  ⟨some 10, .op (.pick), [.t 6, .t 9, .c (.bool false)], none⟩,
  ⟨some 2, .op (.mov), [.t 10], none⟩]
abbrev c62 : IC := (IC.seq (IC.reg r62_0) (IC.seq (IC.reg r62_1) IC.ret))
abbrev g62 : FC := ⟨c62, 11, [.t 2]⟩
theorem comp62 : compF Go.Proofs.Try.prog (fun _ => 0) 62 = some g62 := by kernel_rfl

-- outlaw/queue.flying
abbrev r63_0 : List IOp := [⟨some 1, .op (.box 29), [.t 0], none⟩,
  ⟨some 2, .op (.mov), [.c (.int .i64 0)], none⟩]
abbrev r63_1 : List IOp := [⟨some 3, .op (.mov), [.c (.int .i64 0)], none⟩]
abbrev r63_2 : List IOp := [⟨some 6, .op (.faddr 0), [.t 1], none⟩,
  ⟨some 7, .op (.load none), [.t 6], none⟩,
  ⟨some 8, .op (.len .slice), [.t 7], none⟩,
  ⟨some 9, .op (.mov), [.c (.int .i64 0)], none⟩]
abbrev r63_3 : List IOp := [⟨some 10, .op (.bin .lss .prim), [.t 9, .t 8], none⟩]
abbrev r63_4 : List IOp := [⟨some 11, .op (.iaddr 10), [.t 7, .t 9], none⟩,
  ⟨some 12, .op (.load (some 10)), [.t 11], none⟩,
  ⟨some 5, .op (.alloc 42 [.int .i64 0, .int .i64 0, .str [], .str [], .str [], .str [], .bool false, .bool false, .int .i64 0, .int .i64 0]), [], none⟩,
  ⟨none, .op (.store 10), [.t 5, .t 12], none⟩]
abbrev r63_5 : List IOp := [⟨some 13, .op (.faddr 6), [.t 5], none⟩,
  ⟨some 14, .op (.load none), [.t 13], none⟩]
abbrev r63_6 : List IOp := [⟨some 15, .op (.mov), [.t 3], none⟩,
  ⟨some 16, .op (.bin .add .prim), [.t 15, .c (.int .i64 1)], none⟩,
  ⟨some 3, .op (.mov), [.t 16], none⟩]
abbrev r63_7 : List IOp := [⟨some 17, .op (.bin .add .prim), [.t 9, .c (.int .i64 1)], none⟩,
  ⟨some 9, .op (.mov), [.t 17], none⟩]
abbrev b63_0 : IC := (IC.seq (IC.reg r63_3) (IC.seq (IC.cond (.t 10) IC.skip (IC.exit 0)) (IC.seq (IC.block 1 (IC.seq (IC.reg r63_4) (IC.seq (IC.reg r63_5) (IC.cond (.t 14) (IC.reg r63_6) IC.skip)))) (IC.reg r63_7))))
abbrev r63_8 : List IOp := [⟨some 18, .op (.mov), [.t 3], none⟩,
  ⟨some 2, .op (.mov), [.t 18], none⟩]
abbrev c63 : IC := (IC.seq (IC.reg r63_0) (IC.seq (IC.reg r63_1) (IC.seq (IC.seq (IC.reg r63_2) (IC.block 0 (IC.loop b63_0))) (IC.seq (IC.reg r63_8) IC.ret))))
abbrev g63 : FC := ⟨c63, 19, [.t 2]⟩
theorem comp63 : compF Go.Proofs.Try.prog (fun _ => 0) 63 = some g63 := by kernel_rfl

-- slices.Delete[[]outlaw/api.Action,outlaw/api.Action]
abbrev r64_0 : List IOp := [⟨some 6, .op (.mov), [.c (.nils)], none⟩]
abbrev r64_1 : List IOp := [⟨some 8, .op (.mov), [.t 0], none⟩,
  ⟨some 9, .op (.mov), [.t 1], none⟩,
  ⟨some 10, .op (.mov), [.t 2], none⟩,
  ⟨some 11, .op (.mov), [.t 0], none⟩,
  ⟨some 12, .op (.len .slice), [.t 11], none⟩,
  ⟨some 13, .op (.slice 5 true true true), [.t 8, .t 9, .t 10, .t 12], none⟩]
abbrev r64_2 : List IOp := [⟨some 14, .op (.mov), [.t 1], none⟩,
  ⟨some 15, .op (.mov), [.t 2], none⟩,
  ⟨some 16, .op (.bin .eql .prim), [.t 14, .t 15], none⟩]
abbrev r64_3 : List IOp := [⟨some 17, .op (.mov), [.t 0], none⟩,
  ⟨some 6, .op (.mov), [.t 17], none⟩]
abbrev r64_4 : List IOp := [⟨some 18, .op (.mov), [.t 0], none⟩,
  ⟨some 19, .op (.len .slice), [.t 18], none⟩,
  ⟨some 7, .op (.mov), [.t 19], none⟩]
abbrev r64_5 : List IOp := [⟨some 20, .op (.mov), [.t 0], none⟩,
  ⟨some 21, .op (.mov), [.t 1], none⟩,
  ⟨some 22, .op (.slice 5 false true false), [.t 20, .t 21], none⟩,
  ⟨some 23, .op (.mov), [.t 0], none⟩,
  ⟨some 24, .op (.mov), [.t 2], none⟩,
  ⟨some 25, .op (.slice 5 true false false), [.t 23, .t 24], none⟩,
  ⟨some 26, .op (.app 23 5 72), [.t 22, .t 25], none⟩,
  ⟨some 0, .op (.mov), [.t 26], none⟩]
abbrev r64_6 : List IOp := [⟨some 27, .op (.mov), [.t 0], none⟩,
  ⟨some 28, .op (.mov), [.t 0], none⟩,
  ⟨some 29, .op (.len .slice), [.t 28], none⟩,
  ⟨some 30, .op (.mov), [.t 7], none⟩,
  ⟨some 31, .op (.slice 5 true true false), [.t 27, .t 29, .t 30], none⟩,
  ⟨none, .op (.clear [.int .i64 0, .str [], .str [], .str [], .str []]), [.t 31], none⟩]
abbrev r64_7 : List IOp := [⟨some 32, .op (.mov), [.t 0], none⟩,
  ⟨some 6, .op (.mov), [.t 32], none⟩]
abbrev c64 : IC := (IC.seq (IC.reg r64_0) (IC.seq (IC.reg r64_1) (IC.seq (IC.seq (IC.reg r64_2) (IC.cond (.t 16) (IC.seq (IC.reg r64_3) IC.ret) IC.skip)) (IC.seq (IC.reg r64_4) (IC.seq (IC.regD .wild r64_5 (.take 0 (.take 1 (.take 2 (.take 3 (.take 4 (.take 5 (.take 6 (.take 7 (.done)))))))))) (IC.seq (IC.reg r64_6) (IC.seq (IC.reg r64_7) IC.ret)))))))
abbrev g64 : FC := ⟨c64, 33, [.t 6]⟩
theorem comp64 : compF Go.Proofs.Try.prog (hintL [(5, 6)]) 64 = some g64 := by kernel_rfl

-- slices.Delete[[]outlaw/api.Job,outlaw/api.Job]
abbrev r65_0 : List IOp := [⟨some 6, .op (.mov), [.c (.nils)], none⟩]
abbrev r65_1 : List IOp := [⟨some 8, .op (.mov), [.t 0], none⟩,
  ⟨some 9, .op (.mov), [.t 1], none⟩,
  ⟨some 10, .op (.mov), [.t 2], none⟩,
  ⟨some 11, .op (.mov), [.t 0], none⟩,
  ⟨some 12, .op (.len .slice), [.t 11], none⟩,
  ⟨some 13, .op (.slice 10 true true true), [.t 8, .t 9, .t 10, .t 12], none⟩]
abbrev r65_2 : List IOp := [⟨some 14, .op (.mov), [.t 1], none⟩,
  ⟨some 15, .op (.mov), [.t 2], none⟩,
  ⟨some 16, .op (.bin .eql .prim), [.t 14, .t 15], none⟩]
abbrev r65_3 : List IOp := [⟨some 17, .op (.mov), [.t 0], none⟩,
  ⟨some 6, .op (.mov), [.t 17], none⟩]
abbrev r65_4 : List IOp := [⟨some 18, .op (.mov), [.t 0], none⟩,
  ⟨some 19, .op (.len .slice), [.t 18], none⟩,
  ⟨some 7, .op (.mov), [.t 19], none⟩]
abbrev r65_5 : List IOp := [⟨some 20, .op (.mov), [.t 0], none⟩,
  ⟨some 21, .op (.mov), [.t 1], none⟩,
  ⟨some 22, .op (.slice 10 false true false), [.t 20, .t 21], none⟩,
  ⟨some 23, .op (.mov), [.t 0], none⟩,
  ⟨some 24, .op (.mov), [.t 2], none⟩,
  ⟨some 25, .op (.slice 10 true false false), [.t 23, .t 24], none⟩,
  ⟨some 26, .op (.app 42 10 104), [.t 22, .t 25], none⟩,
  ⟨some 0, .op (.mov), [.t 26], none⟩]
abbrev r65_6 : List IOp := [⟨some 27, .op (.mov), [.t 0], none⟩,
  ⟨some 28, .op (.mov), [.t 0], none⟩,
  ⟨some 29, .op (.len .slice), [.t 28], none⟩,
  ⟨some 30, .op (.mov), [.t 7], none⟩,
  ⟨some 31, .op (.slice 10 true true false), [.t 27, .t 29, .t 30], none⟩,
  ⟨none, .op (.clear [.int .i64 0, .int .i64 0, .str [], .str [], .str [], .str [], .bool false, .bool false, .int .i64 0, .int .i64 0]), [.t 31], none⟩]
abbrev r65_7 : List IOp := [⟨some 32, .op (.mov), [.t 0], none⟩,
  ⟨some 6, .op (.mov), [.t 32], none⟩]
abbrev c65 : IC := (IC.seq (IC.reg r65_0) (IC.seq (IC.reg r65_1) (IC.seq (IC.seq (IC.reg r65_2) (IC.cond (.t 16) (IC.seq (IC.reg r65_3) IC.ret) IC.skip)) (IC.seq (IC.reg r65_4) (IC.seq (IC.regD .wild r65_5 (.take 0 (.take 1 (.take 2 (.take 3 (.take 4 (.take 5 (.take 6 (.take 7 (.done)))))))))) (IC.seq (IC.reg r65_6) (IC.seq (IC.reg r65_7) IC.ret)))))))
abbrev g65 : FC := ⟨c65, 33, [.t 6]⟩
theorem comp65 : compF Go.Proofs.Try.prog (hintL [(5, 6)]) 65 = some g65 := by kernel_rfl

-- outlaw/queue.Next$1
abbrev r66_0 : List IOp := [⟨some 1, .op (.box 42), [.t 0], none⟩,
  ⟨some 2, .op (.mov), [.c (.bool false)], none⟩]
abbrev r66_1 : List IOp := [⟨some 3, .op (.faddr 7), [.t 1], none⟩,
  ⟨some 4, .op (.load none), [.t 3], none⟩,
  ⟨some 5, .op (.mov), [.t 4], none⟩,
  ⟨some 6, .op (.faddr 6), [.t 1], some (5, true)⟩,
  ⟨some 7, .op (.load none), [.t 6], some (5, true)⟩,
  ⟨some 8, .op (.un .not), [.t 7], some (5, true)⟩,
  ⟨some 9, .op (.pick), [.t 5, .t 8, .c (.bool false)], none⟩,
  ⟨some 2, .op (.mov), [.t 9], none⟩]
abbrev c66 : IC := (IC.seq (IC.reg r66_0) (IC.seq (IC.reg r66_1) IC.ret))
abbrev g66 : FC := ⟨c66, 10, [.t 2]⟩
theorem comp66 : compF Go.Proofs.Try.prog (fun _ => 0) 66 = some g66 := by kernel_rfl

-- outlaw/queue.Next$2
abbrev r67_0 : List IOp := [⟨some 2, .op (.box 42), [.t 0], none⟩,
  ⟨some 3, .op (.mov), [.c (.bool false)], none⟩]
abbrev r67_1 : List IOp := [⟨some 4, .op (.load (some 10)), [.t 2], none⟩,
  ⟨some 5, .call none, [.f 62, .t 4], none⟩,
  ⟨some 6, .op (.mov), [.t 5], none⟩,
  ⟨some 7, .op (.faddr 9), [.t 2], some (6, true)⟩,
  ⟨some 8, .op (.load none), [.t 7], some (6, true)⟩,
  ⟨some 9, .op (.faddr 2), [.t 1], some (6, true)⟩,
  ⟨some 10, .op (.load none), [.t 9], some (6, true)⟩,
  ⟨some 11, .op (.bin .leq .prim), [.t 8, .t 10], some (6, true)⟩,
  ⟨some 12, .op (.pick), [.t 6, .t 11, .c (.bool false)], none⟩,
  ⟨some 3, .op (.mov), [.t 12], none⟩]
abbrev c67 : IC := (IC.seq (IC.reg r67_0) (IC.seq (IC.reg r67_1) IC.ret))
abbrev g67 : FC := ⟨c67, 13, [.t 3]⟩
theorem comp67 : compF Go.Proofs.Try.prog (fun _ => 0) 67 = some g67 := by kernel_rfl

-- slices.Contains[[]int64,int64]
abbrev r68_0 : List IOp := [⟨some 4, .op (.mov), [.c (.bool false)], none⟩]
abbrev r68_1 : List IOp := [⟨some 5, .op (.mov), [.t 0], none⟩,
  ⟨some 6, .op (.mov), [.t 1], none⟩,
  ⟨some 7, .call none, [.f 110, .t 5, .t 6], none⟩,
  ⟨some 8, .op (.bin .geq .prim), [.t 7, .c (.int .i64 0)], none⟩,
  ⟨some 4, .op (.mov), [.t 8], none⟩]
abbrev c68 : IC := (IC.seq (IC.reg r68_0) (IC.seq (IC.reg r68_1) IC.ret))
abbrev g68 : FC := ⟨c68, 9, [.t 4]⟩
theorem comp68 : compF Go.Proofs.Try.prog (fun _ => 0) 68 = some g68 := by kernel_rfl

-- outlaw/queue.Withdraw
abbrev r69_0 : List IOp := [⟨some 2, .op (.box 29), [.t 0], none⟩,
  ⟨some 3, .op (.box 27), [.t 1], none⟩,
  ⟨some 4, .op (.alloc 29 [.nils, .int .i64 0, .int .i64 0, .nils, .nils, .bool false]), [], none⟩,
  ⟨some 5, .op (.mov), [.c (.nils)], none⟩]
abbrev r69_1 : List IOp := [⟨some 7, .op (.load (some 6)), [.t 2], none⟩,
  ⟨some 8, .call none, [.f 56, .t 7], none⟩,
  ⟨none, .op (.store 6), [.t 2, .t 8], none⟩]
abbrev r69_2 : List IOp := [⟨some 6, .op (.alloc 26 [.nils]), [], none⟩]
abbrev r69_3 : List IOp := [⟨some 9, .op (.faddr 0), [.t 2], none⟩,
  ⟨some 10, .op (.load none), [.t 9], none⟩,
  ⟨some 11, .op (.mkfn 112), [.t 3, .t 6], none⟩,
  ⟨some 12, .call none, [.f 111, .t 10, .t 11], none⟩,
  ⟨some 13, .op (.faddr 0), [.t 2], none⟩,
  ⟨none, .op (.store 1), [.t 13, .t 12], none⟩]
abbrev r69_4 : List IOp := [⟨some 14, .op (.faddr 4), [.t 2], none⟩,
  ⟨some 15, .op (.load none), [.t 14], none⟩,
  ⟨some 16, .op (.mkfn 115), [.t 3], none⟩,
  ⟨some 17, .call none, [.f 114, .t 15, .t 16], none⟩,
  ⟨some 18, .op (.faddr 4), [.t 2], none⟩,
  ⟨none, .op (.store 1), [.t 18, .t 17], none⟩]
abbrev r69_5 : List IOp := [⟨some 19, .op (.load (some 6)), [.t 2], none⟩,
  ⟨some 20, .op (.load none), [.t 6], none⟩,
  ⟨none, .op (.store 6), [.t 4, .t 19], none⟩,
  ⟨some 5, .op (.mov), [.t 20], none⟩]
abbrev c69 : IC := (IC.seq (IC.reg r69_0) (IC.seq (IC.reg r69_1) (IC.seq (IC.reg r69_2) (IC.seq (IC.reg r69_3) (IC.seq (IC.reg r69_4) (IC.seq (IC.regD .wild r69_5 (.take 0 (.fork [(1, .take 2 (.take 3 (.done))), (2, .take 1 (.take 3 (.done)))]))) IC.ret))))))
abbrev g69 : FC := ⟨c69, 21, [.cell 4 (some 6), .t 5]⟩
theorem comp69 : compF Go.Proofs.Try.prog (hintL [(5, 6)]) 69 = some g69 := by kernel_rfl

-- outlaw/outlawkit.Own[outlaw/api.Job]
abbrev r70_0 : List IOp := [⟨some 2, .op (.mov), [.c (.nils)], none⟩]
abbrev r70_1 : List IOp := [⟨some 3, .op (.bsl 42 10 false), [], none⟩,
  ⟨some 4, .op (.mov), [.t 0], none⟩,
  ⟨some 5, .op (.app 42 10 104), [.t 3, .t 4], none⟩,
  ⟨some 2, .op (.mov), [.t 5], none⟩]
abbrev c70 : IC := (IC.seq (IC.reg r70_0) (IC.seq (IC.reg r70_1) IC.ret))
abbrev g70 : FC := ⟨c70, 6, [.t 2]⟩
theorem comp70 : compF Go.Proofs.Try.prog (fun _ => 0) 70 = some g70 := by kernel_rfl

-- outlaw/queue.Check$1
abbrev r71_0 : List IOp := [⟨some 2, .op (.box 23), [.t 0], none⟩,
  ⟨some 3, .op (.mov), [.c (.bool false)], none⟩]
abbrev r71_1 : List IOp := [⟨some 4, .op (.load (some 5)), [.t 1], none⟩,
  ⟨some 5, .op (.load (some 5)), [.t 2], none⟩,
  ⟨some 6, .call none, [.f 25, .t 4, .t 5], none⟩,
  ⟨some 3, .op (.mov), [.t 6], none⟩]
abbrev c71 : IC := (IC.seq (IC.reg r71_0) (IC.seq (IC.reg r71_1) IC.ret))
abbrev g71 : FC := ⟨c71, 7, [.t 3]⟩
theorem comp71 : compF Go.Proofs.Try.prog (fun _ => 0) 71 = some g71 := by kernel_rfl

-- slices.Equal[[]outlaw/api.Job,outlaw/api.Job]
abbrev r72_0 : List IOp := [⟨some 4, .op (.mov), [.c (.bool false)], none⟩]
abbrev r72_1 : List IOp := [⟨some 6, .op (.mov), [.t 0], none⟩,
  ⟨some 7, .op (.len .slice), [.t 6], none⟩,
  ⟨some 8, .op (.mov), [.t 1], none⟩,
  ⟨some 9, .op (.len .slice), [.t 8], none⟩,
  ⟨some 10, .op (.bin .neq .prim), [.t 7, .t 9], none⟩]
abbrev r72_2 : List IOp := [⟨some 4, .op (.mov), [.c (.bool false)], none⟩]
abbrev r72_3 : List IOp := [⟨some 11, .op (.mov), [.t 0], none⟩,
  ⟨some 12, .op (.len .slice), [.t 11], none⟩,
  ⟨some 13, .op (.mov), [.c (.int .i64 0)], none⟩]
abbrev r72_4 : List IOp := [⟨some 14, .op (.bin .lss .prim), [.t 13, .t 12], none⟩]
abbrev r72_5 : List IOp := [⟨some 15, .op (.mov), [.t 13], none⟩,
  ⟨some 5, .op (.mov), [.t 15], none⟩]
abbrev r72_6 : List IOp := [⟨some 16, .op (.mov), [.t 0], none⟩,
  ⟨some 17, .op (.mov), [.t 5], none⟩,
  ⟨some 18, .op (.iaddr 10), [.t 16, .t 17], none⟩,
  ⟨some 19, .op (.load (some 10)), [.t 18], none⟩,
  ⟨some 20, .op (.mov), [.t 1], none⟩,
  ⟨some 21, .op (.mov), [.t 5], none⟩,
  ⟨some 22, .op (.iaddr 10), [.t 20, .t 21], none⟩,
  ⟨some 23, .op (.load (some 10)), [.t 22], none⟩,
  ⟨some 24, .op (.bin .neq (.st [.int, .int, .str, .str, .str, .str, .bool, .bool, .int, .int])), [.t 19, .t 23], none⟩]
abbrev r72_7 : List IOp := [⟨some 4, .op (.mov), [.c (.bool false)], none⟩]
abbrev r72_8 : List IOp := [⟨some 25, .op (.bin .add .prim), [.t 13, .c (.int .i64 1)], none⟩,
  ⟨some 13, .op (.mov), [.t 25], none⟩]
abbrev b72_0 : IC := (IC.seq (IC.reg r72_4) (IC.seq (IC.cond (.t 14) IC.skip (IC.exit 0)) (IC.seq (IC.block 1 (IC.seq (IC.reg r72_5) (IC.seq (IC.regD .wild r72_6 (.take 0 (.take 1 (.take 2 (.take 3 (.take 4 (.take 5 (.take 6 (.take 7 (.take 8 (.done))))))))))) (IC.cond (.t 24) (IC.seq (IC.reg r72_7) IC.ret) IC.skip)))) (IC.reg r72_8))))
abbrev r72_9 : List IOp := [⟨some 4, .op (.mov), [.c (.bool true)], none⟩]
abbrev c72 : IC := (IC.seq (IC.reg r72_0) (IC.seq (IC.seq (IC.reg r72_1) (IC.cond (.t 10) (IC.seq (IC.reg r72_2) IC.ret) IC.skip)) (IC.seq (IC.seq (IC.reg r72_3) (IC.block 0 (IC.loop b72_0))) (IC.seq (IC.reg r72_9) IC.ret))))
abbrev g72 : FC := ⟨c72, 26, [.t 4]⟩
theorem comp72 : compF Go.Proofs.Try.prog (hintL [(6, 6)]) 72 = some g72 := by kernel_rfl

-- slices.Equal[[]outlaw/api.Action,outlaw/api.Action]
abbrev r73_0 : List IOp := [⟨some 4, .op (.mov), [.c (.bool false)], none⟩]
abbrev r73_1 : List IOp := [⟨some 6, .op (.mov), [.t 0], none⟩,
  ⟨some 7, .op (.len .slice), [.t 6], none⟩,
  ⟨some 8, .op (.mov), [.t 1], none⟩,
  ⟨some 9, .op (.len .slice), [.t 8], none⟩,
  ⟨some 10, .op (.bin .neq .prim), [.t 7, .t 9], none⟩]
abbrev r73_2 : List IOp := [⟨some 4, .op (.mov), [.c (.bool false)], none⟩]
abbrev r73_3 : List IOp := [⟨some 11, .op (.mov), [.t 0], none⟩,
  ⟨some 12, .op (.len .slice), [.t 11], none⟩,
  ⟨some 13, .op (.mov), [.c (.int .i64 0)], none⟩]
abbrev r73_4 : List IOp := [⟨some 14, .op (.bin .lss .prim), [.t 13, .t 12], none⟩]
abbrev r73_5 : List IOp := [⟨some 15, .op (.mov), [.t 13], none⟩,
  ⟨some 5, .op (.mov), [.t 15], none⟩]
abbrev r73_6 : List IOp := [⟨some 16, .op (.mov), [.t 0], none⟩,
  ⟨some 17, .op (.mov), [.t 5], none⟩,
  ⟨some 18, .op (.iaddr 5), [.t 16, .t 17], none⟩,
  ⟨some 19, .op (.load (some 5)), [.t 18], none⟩,
  ⟨some 20, .op (.mov), [.t 1], none⟩,
  ⟨some 21, .op (.mov), [.t 5], none⟩,
  ⟨some 22, .op (.iaddr 5), [.t 20, .t 21], none⟩,
  ⟨some 23, .op (.load (some 5)), [.t 22], none⟩,
  ⟨some 24, .op (.bin .neq (.st [.int, .str, .str, .str, .str])), [.t 19, .t 23], none⟩]
abbrev r73_7 : List IOp := [⟨some 4, .op (.mov), [.c (.bool false)], none⟩]
abbrev r73_8 : List IOp := [⟨some 25, .op (.bin .add .prim), [.t 13, .c (.int .i64 1)], none⟩,
  ⟨some 13, .op (.mov), [.t 25], none⟩]
abbrev b73_0 : IC := (IC.seq (IC.reg r73_4) (IC.seq (IC.cond (.t 14) IC.skip (IC.exit 0)) (IC.seq (IC.block 1 (IC.seq (IC.reg r73_5) (IC.seq (IC.regD .wild r73_6 (.take 0 (.take 1 (.take 2 (.take 3 (.take 4 (.take 5 (.take 6 (.take 7 (.take 8 (.done))))))))))) (IC.cond (.t 24) (IC.seq (IC.reg r73_7) IC.ret) IC.skip)))) (IC.reg r73_8))))
abbrev r73_9 : List IOp := [⟨some 4, .op (.mov), [.c (.bool true)], none⟩]
abbrev c73 : IC := (IC.seq (IC.reg r73_0) (IC.seq (IC.seq (IC.reg r73_1) (IC.cond (.t 10) (IC.seq (IC.reg r73_2) IC.ret) IC.skip)) (IC.seq (IC.seq (IC.reg r73_3) (IC.block 0 (IC.loop b73_0))) (IC.seq (IC.reg r73_9) IC.ret))))
abbrev g73 : FC := ⟨c73, 26, [.t 4]⟩
theorem comp73 : compF Go.Proofs.Try.prog (hintL [(6, 6)]) 73 = some g73 := by kernel_rfl

-- slices.Clone[[]outlaw/api.Job,outlaw/api.Job]
abbrev r104_0 : List IOp := [⟨some 2, .op (.mov), [.c (.nils)], none⟩]
abbrev r104_1 : List IOp := [⟨some 3, .op (.mov), [.t 0], none⟩,
  ⟨some 4, .op (.bin .eql .slice), [.t 3, .c (.nils)], none⟩]
abbrev r104_2 : List IOp := [⟨some 2, .op (.mov), [.c (.nils)], none⟩]
abbrev r104_3 : List IOp := [⟨some 5, .op (.bsl 42 10 false), [], none⟩,
  ⟨some 6, .op (.mov), [.t 0], none⟩,
  ⟨some 7, .op (.app 42 10 104), [.t 5, .t 6], none⟩,
  ⟨some 2, .op (.mov), [.t 7], none⟩]
abbrev c104 : IC := (IC.seq (IC.reg r104_0) (IC.seq (IC.seq (IC.reg r104_1) (IC.cond (.t 4) (IC.seq (IC.reg r104_2) IC.ret) IC.skip)) (IC.seq (IC.reg r104_3) IC.ret)))
abbrev g104 : FC := ⟨c104, 8, [.t 2]⟩
theorem comp104 : compF Go.Proofs.Try.prog (fun _ => 0) 104 = some g104 := by kernel_rfl

-- slices.Clone[[]outlaw/api.Action,outlaw/api.Action]
abbrev r105_0 : List IOp := [⟨some 2, .op (.mov), [.c (.nils)], none⟩]
abbrev r105_1 : List IOp := [⟨some 3, .op (.mov), [.t 0], none⟩,
  ⟨some 4, .op (.bin .eql .slice), [.t 3, .c (.nils)], none⟩]
abbrev r105_2 : List IOp := [⟨some 2, .op (.mov), [.c (.nils)], none⟩]
abbrev r105_3 : List IOp := [⟨some 5, .op (.bsl 23 5 false), [], none⟩,
  ⟨some 6, .op (.mov), [.t 0], none⟩,
  ⟨some 7, .op (.app 23 5 72), [.t 5, .t 6], none⟩,
  ⟨some 2, .op (.mov), [.t 7], none⟩]
abbrev c105 : IC := (IC.seq (IC.reg r105_0) (IC.seq (IC.seq (IC.reg r105_1) (IC.cond (.t 4) (IC.seq (IC.reg r105_2) IC.ret) IC.skip)) (IC.seq (IC.reg r105_3) IC.ret)))
abbrev g105 : FC := ⟨c105, 8, [.t 2]⟩
theorem comp105 : compF Go.Proofs.Try.prog (fun _ => 0) 105 = some g105 := by kernel_rfl

-- slices.IndexFunc[[]outlaw/api.Action,outlaw/api.Action]
abbrev r106_0 : List IOp := [⟨some 4, .op (.mov), [.c (.int .i64 0)], none⟩]
abbrev r106_1 : List IOp := [⟨some 6, .op (.mov), [.t 0], none⟩,
  ⟨some 7, .op (.len .slice), [.t 6], none⟩,
  ⟨some 8, .op (.mov), [.c (.int .i64 0)], none⟩]
abbrev r106_2 : List IOp := [⟨some 9, .op (.bin .lss .prim), [.t 8, .t 7], none⟩]
abbrev r106_3 : List IOp := [⟨some 10, .op (.mov), [.t 8], none⟩,
  ⟨some 5, .op (.mov), [.t 10], none⟩]
abbrev r106_4 : List IOp := [⟨some 11, .op (.mov), [.t 1], none⟩,
  ⟨some 12, .op (.mov), [.t 0], none⟩,
  ⟨some 13, .op (.mov), [.t 5], none⟩,
  ⟨some 14, .op (.iaddr 5), [.t 12, .t 13], none⟩,
  ⟨some 15, .op (.load (some 5)), [.t 14], none⟩,
  ⟨some 16, .call none, [.t 11, .t 15], none⟩]
abbrev r106_5 : List IOp := [⟨some 17, .op (.mov), [.t 5], none⟩,
  ⟨some 4, .op (.mov), [.t 17], none⟩]
abbrev r106_6 : List IOp := [⟨some 18, .op (.bin .add .prim), [.t 8, .c (.int .i64 1)], none⟩,
  ⟨some 8, .op (.mov), [.t 18], none⟩]
abbrev b106_0 : IC := (IC.seq (IC.reg r106_2) (IC.seq (IC.cond (.t 9) IC.skip (IC.exit 0)) (IC.seq (IC.block 1 (IC.seq (IC.reg r106_3) (IC.seq (IC.reg r106_4) (IC.cond (.t 16) (IC.seq (IC.reg r106_5) IC.ret) IC.skip)))) (IC.reg r106_6))))
abbrev r106_7 : List IOp := [⟨some 4, .op (.mov), [.c (.int .i64 (-1))], none⟩]
abbrev c106 : IC := (IC.seq (IC.reg r106_0) (IC.seq (IC.seq (IC.reg r106_1) (IC.block 0 (IC.loop b106_0))) (IC.seq (IC.reg r106_7) IC.ret)))
abbrev g106 : FC := ⟨c106, 19, [.t 4]⟩
theorem comp106 : compF Go.Proofs.Try.prog (fun _ => 0) 106 = some g106 := by kernel_rfl

-- slices.Concat[[]outlaw/api.Action,outlaw/api.Action]
abbrev r107_0 : List IOp := [⟨some 2, .op (.mov), [.c (.nils)], none⟩]
abbrev r107_1 : List IOp := [⟨some 3, .op (.mov), [.c (.int .i64 0)], none⟩]
abbrev r107_2 : List IOp := [⟨some 9, .op (.mov), [.t 0], none⟩,
  ⟨some 10, .op (.len .slice), [.t 9], none⟩,
  ⟨some 11, .op (.mov), [.c (.int .i64 0)], none⟩]
abbrev r107_3 : List IOp := [⟨some 12, .op (.bin .lss .prim), [.t 11, .t 10], none⟩]
abbrev r107_4 : List IOp := [⟨some 13, .op (.iaddr 1), [.t 9, .t 11], none⟩,
  ⟨some 14, .op (.load none), [.t 13], none⟩,
  ⟨some 5, .op (.mov), [.t 14], none⟩]
abbrev r107_5 : List IOp := [⟨some 15, .op (.mov), [.t 3], none⟩,
  ⟨some 16, .op (.mov), [.t 5], none⟩,
  ⟨some 17, .op (.len .slice), [.t 16], none⟩,
  ⟨some 18, .op (.bin .add .prim), [.t 15, .t 17], none⟩,
  ⟨some 3, .op (.mov), [.t 18], none⟩]
abbrev r107_6 : List IOp := [⟨some 19, .op (.mov), [.t 3], none⟩,
  ⟨some 20, .op (.bin .lss .prim), [.t 19, .c (.int .i64 0)], none⟩]
abbrev r107_7 : List IOp := [⟨some 21, .op (.mkif 9), [.c (.str [108, 101, 110, 32, 111, 117, 116, 32, 111, 102, 32, 114, 97, 110, 103, 101])], none⟩,
  ⟨none, .op (.never), [], none⟩]
abbrev r107_8 : List IOp := [⟨some 22, .op (.bin .add .prim), [.t 11, .c (.int .i64 1)], none⟩,
  ⟨some 11, .op (.mov), [.t 22], none⟩]
abbrev b107_0 : IC := (IC.seq (IC.reg r107_3) (IC.seq (IC.cond (.t 12) IC.skip (IC.exit 0)) (IC.seq (IC.block 1 (IC.seq (IC.reg r107_4) (IC.seq (IC.reg r107_5) (IC.seq (IC.reg r107_6) (IC.cond (.t 20) (IC.reg r107_7) IC.skip))))) (IC.reg r107_8))))
abbrev r107_9 : List IOp := [⟨some 23, .op (.mov), [.t 3], none⟩,
  ⟨some 24, .call none, [.f 129, .c (.nils), .t 23], none⟩,
  ⟨some 6, .op (.mov), [.t 24], none⟩]
abbrev r107_10 : List IOp := [⟨some 25, .op (.mov), [.t 0], none⟩,
  ⟨some 26, .op (.len .slice), [.t 25], none⟩,
  ⟨some 27, .op (.mov), [.c (.int .i64 0)], none⟩]
abbrev r107_11 : List IOp := [⟨some 28, .op (.bin .lss .prim), [.t 27, .t 26], none⟩]
abbrev r107_12 : List IOp := [⟨some 29, .op (.iaddr 1), [.t 25, .t 27], none⟩,
  ⟨some 30, .op (.load none), [.t 29], none⟩,
  ⟨some 8, .op (.mov), [.t 30], none⟩]
abbrev r107_13 : List IOp := [⟨some 31, .op (.mov), [.t 6], none⟩,
  ⟨some 32, .op (.mov), [.t 8], none⟩,
  ⟨some 33, .op (.app 23 5 72), [.t 31, .t 32], none⟩,
  ⟨some 6, .op (.mov), [.t 33], none⟩]
abbrev r107_14 : List IOp := [⟨some 34, .op (.bin .add .prim), [.t 27, .c (.int .i64 1)], none⟩,
  ⟨some 27, .op (.mov), [.t 34], none⟩]
abbrev b107_1 : IC := (IC.seq (IC.reg r107_11) (IC.seq (IC.cond (.t 28) IC.skip (IC.exit 2)) (IC.seq (IC.block 3 (IC.seq (IC.reg r107_12) (IC.reg r107_13))) (IC.reg r107_14))))
abbrev r107_15 : List IOp := [⟨some 35, .op (.mov), [.t 6], none⟩,
  ⟨some 2, .op (.mov), [.t 35], none⟩]
abbrev c107 : IC := (IC.seq (IC.reg r107_0) (IC.seq (IC.reg r107_1) (IC.seq (IC.seq (IC.reg r107_2) (IC.block 0 (IC.loop b107_0))) (IC.seq (IC.reg r107_9) (IC.seq (IC.seq (IC.reg r107_10) (IC.block 2 (IC.loop b107_1))) (IC.seq (IC.reg r107_15) IC.ret))))))
abbrev g107 : FC := ⟨c107, 36, [.t 2]⟩
theorem comp107 : compF Go.Proofs.Try.prog (fun _ => 0) 107 = some g107 := by kernel_rfl

-- slices.IndexFunc[[]outlaw/api.Job,outlaw/api.Job]
abbrev r108_0 : List IOp := [⟨some 4, .op (.mov), [.c (.int .i64 0)], none⟩]
abbrev r108_1 : List IOp := [⟨some 6, .op (.mov), [.t 0], none⟩,
  ⟨some 7, .op (.len .slice), [.t 6], none⟩,
  ⟨some 8, .op (.mov), [.c (.int .i64 0)], none⟩]
abbrev r108_2 : List IOp := [⟨some 9, .op (.bin .lss .prim), [.t 8, .t 7], none⟩]
abbrev r108_3 : List IOp := [⟨some 10, .op (.mov), [.t 8], none⟩,
  ⟨some 5, .op (.mov), [.t 10], none⟩]
abbrev r108_4 : List IOp := [⟨some 11, .op (.mov), [.t 1], none⟩,
  ⟨some 12, .op (.mov), [.t 0], none⟩,
  ⟨some 13, .op (.mov), [.t 5], none⟩,
  ⟨some 14, .op (.iaddr 10), [.t 12, .t 13], none⟩,
  ⟨some 15, .op (.load (some 10)), [.t 14], none⟩,
  ⟨some 16, .call none, [.t 11, .t 15], none⟩]
abbrev r108_5 : List IOp := [⟨some 17, .op (.mov), [.t 5], none⟩,
  ⟨some 4, .op (.mov), [.t 17], none⟩]
abbrev r108_6 : List IOp := [⟨some 18, .op (.bin .add .prim), [.t 8, .c (.int .i64 1)], none⟩,
  ⟨some 8, .op (.mov), [.t 18], none⟩]
abbrev b108_0 : IC := (IC.seq (IC.reg r108_2) (IC.seq (IC.cond (.t 9) IC.skip (IC.exit 0)) (IC.seq (IC.block 1 (IC.seq (IC.reg r108_3) (IC.seq (IC.reg r108_4) (IC.cond (.t 16) (IC.seq (IC.reg r108_5) IC.ret) IC.skip)))) (IC.reg r108_6))))
abbrev r108_7 : List IOp := [⟨some 4, .op (.mov), [.c (.int .i64 (-1))], none⟩]
abbrev c108 : IC := (IC.seq (IC.reg r108_0) (IC.seq (IC.seq (IC.reg r108_1) (IC.block 0 (IC.loop b108_0))) (IC.seq (IC.reg r108_7) IC.ret)))
abbrev g108 : FC := ⟨c108, 19, [.t 4]⟩
theorem comp108 : compF Go.Proofs.Try.prog (fun _ => 0) 108 = some g108 := by kernel_rfl

-- outlaw/queue.at$1
abbrev r109_0 : List IOp := [⟨some 2, .op (.box 42), [.t 0], none⟩,
  ⟨some 3, .op (.mov), [.c (.bool false)], none⟩]
abbrev r109_1 : List IOp := [⟨some 4, .op (.faddr 0), [.t 2], none⟩,
  ⟨some 5, .op (.load none), [.t 4], none⟩,
  ⟨some 6, .op (.load none), [.t 1], none⟩,
  ⟨some 7, .op (.bin .eql .prim), [.t 5, .t 6], none⟩,
  ⟨some 3, .op (.mov), [.t 7], none⟩]
abbrev c109 : IC := (IC.seq (IC.reg r109_0) (IC.seq (IC.reg r109_1) IC.ret))
abbrev g109 : FC := ⟨c109, 8, [.t 3]⟩
theorem comp109 : compF Go.Proofs.Try.prog (fun _ => 0) 109 = some g109 := by kernel_rfl

-- slices.Index[[]int64,int64]
abbrev r110_0 : List IOp := [⟨some 4, .op (.mov), [.c (.int .i64 0)], none⟩]
abbrev r110_1 : List IOp := [⟨some 6, .op (.mov), [.t 0], none⟩,
  ⟨some 7, .op (.len .slice), [.t 6], none⟩,
  ⟨some 8, .op (.mov), [.c (.int .i64 0)], none⟩]
abbrev r110_2 : List IOp := [⟨some 9, .op (.bin .lss .prim), [.t 8, .t 7], none⟩]
abbrev r110_3 : List IOp := [⟨some 10, .op (.mov), [.t 8], none⟩,
  ⟨some 5, .op (.mov), [.t 10], none⟩]
abbrev r110_4 : List IOp := [⟨some 11, .op (.mov), [.t 1], none⟩,
  ⟨some 12, .op (.mov), [.t 0], none⟩,
  ⟨some 13, .op (.mov), [.t 5], none⟩,
  ⟨some 14, .op (.iaddr 1), [.t 12, .t 13], none⟩,
  ⟨some 15, .op (.load none), [.t 14], none⟩,
  ⟨some 16, .op (.bin .eql .prim), [.t 11, .t 15], none⟩]
abbrev r110_5 : List IOp := [⟨some 17, .op (.mov), [.t 5], none⟩,
  ⟨some 4, .op (.mov), [.t 17], none⟩]
abbrev r110_6 : List IOp := [⟨some 18, .op (.bin .add .prim), [.t 8, .c (.int .i64 1)], none⟩,
  ⟨some 8, .op (.mov), [.t 18], none⟩]
abbrev b110_0 : IC := (IC.seq (IC.reg r110_2) (IC.seq (IC.cond (.t 9) IC.skip (IC.exit 0)) (IC.seq (IC.block 1 (IC.seq (IC.reg r110_3) (IC.seq (IC.reg r110_4) (IC.cond (.t 16) (IC.seq (IC.reg r110_5) IC.ret) IC.skip)))) (IC.reg r110_6))))
abbrev r110_7 : List IOp := [⟨some 4, .op (.mov), [.c (.int .i64 (-1))], none⟩]
abbrev c110 : IC := (IC.seq (IC.reg r110_0) (IC.seq (IC.seq (IC.reg r110_1) (IC.block 0 (IC.loop b110_0))) (IC.seq (IC.reg r110_7) IC.ret)))
abbrev g110 : FC := ⟨c110, 19, [.t 4]⟩
theorem comp110 : compF Go.Proofs.Try.prog (fun _ => 0) 110 = some g110 := by kernel_rfl

-- slices.DeleteFunc[[]outlaw/api.Job,outlaw/api.Job]
abbrev r111_0 : List IOp := [⟨some 4, .op (.mov), [.c (.nils)], none⟩]
abbrev r111_1 : List IOp := [⟨some 8, .op (.mov), [.t 0], none⟩,
  ⟨some 9, .op (.mov), [.t 1], none⟩,
  ⟨some 10, .call none, [.f 108, .t 8, .t 9], none⟩,
  ⟨some 5, .op (.mov), [.t 10], none⟩]
abbrev r111_2 : List IOp := [⟨some 11, .op (.mov), [.t 5], none⟩,
  ⟨some 12, .op (.bin .eql .prim), [.t 11, .c (.int .i64 (-1))], none⟩]
abbrev r111_3 : List IOp := [⟨some 13, .op (.mov), [.t 0], none⟩,
  ⟨some 4, .op (.mov), [.t 13], none⟩]
abbrev r111_4 : List IOp := [⟨some 14, .op (.mov), [.t 5], none⟩,
  ⟨some 15, .op (.bin .add .prim), [.t 14, .c (.int .i64 1)], none⟩,
  ⟨some 6, .op (.mov), [.t 15], none⟩]
abbrev r111_5 : List IOp := [⟨some 16, .op (.mov), [.t 6], none⟩,
  ⟨some 17, .op (.mov), [.t 0], none⟩,
  ⟨some 18, .op (.len .slice), [.t 17], none⟩,
  ⟨some 19, .op (.bin .lss .prim), [.t 16, .t 18], none⟩]
abbrev r111_6 : List IOp := [⟨some 22, .op (.mov), [.t 0], none⟩,
  ⟨some 23, .op (.mov), [.t 6], none⟩,
  ⟨some 24, .op (.iaddr 10), [.t 22, .t 23], none⟩,
  ⟨some 25, .op (.load (some 10)), [.t 24], none⟩,
  ⟨some 7, .op (.alloc 42 [.int .i64 0, .int .i64 0, .str [], .str [], .str [], .str [], .bool false, .bool false, .int .i64 0, .int .i64 0]), [], none⟩,
  ⟨none, .op (.store 10), [.t 7, .t 25], none⟩]
abbrev r111_7 : List IOp := [⟨some 26, .op (.mov), [.t 1], none⟩,
  ⟨some 27, .op (.load (some 10)), [.t 7], none⟩,
  ⟨some 28, .call none, [.t 26, .t 27], none⟩,
  ⟨some 29, .op (.un .not), [.t 28], none⟩]
abbrev r111_8 : List IOp := [⟨some 30, .op (.mov), [.t 0], none⟩,
  ⟨some 31, .op (.mov), [.t 5], none⟩,
  ⟨some 32, .op (.load (some 10)), [.t 7], none⟩,
  ⟨some 33, .op (.iaddr 10), [.t 30, .t 31], none⟩,
  ⟨none, .op (.store 10), [.t 33, .t 32], none⟩]
abbrev r111_9 : List IOp := [⟨some 34, .op (.mov), [.t 5], none⟩,
  ⟨some 35, .op (.bin .add .prim), [.t 34, .c (.int .i64 1)], none⟩,
  ⟨some 5, .op (.mov), [.t 35], none⟩]
abbrev r111_10 : List IOp := [⟨some 20, .op (.mov), [.t 6], none⟩,
  ⟨some 21, .op (.bin .add .prim), [.t 20, .c (.int .i64 1)], none⟩,
  ⟨some 6, .op (.mov), [.t 21], none⟩]
abbrev b111_0 : IC := (IC.seq (IC.seq (IC.reg r111_5) (IC.cond (.t 19) IC.skip (IC.exit 0))) (IC.seq (IC.block 1 (IC.seq (IC.reg r111_6) (IC.seq (IC.reg r111_7) (IC.cond (.t 29) (IC.seq (IC.reg r111_8) (IC.reg r111_9)) IC.skip)))) (IC.reg r111_10)))
abbrev r111_11 : List IOp := [⟨some 36, .op (.mov), [.t 0], none⟩,
  ⟨some 37, .op (.mov), [.t 5], none⟩,
  ⟨some 38, .op (.slice 10 true false false), [.t 36, .t 37], none⟩,
  ⟨none, .op (.clear [.int .i64 0, .int .i64 0, .str [], .str [], .str [], .str [], .bool false, .bool false, .int .i64 0, .int .i64 0]), [.t 38], none⟩]
abbrev r111_12 : List IOp := [⟨some 39, .op (.mov), [.t 0], none⟩,
  ⟨some 40, .op (.mov), [.t 5], none⟩,
  ⟨some 41, .op (.slice 10 false true false), [.t 39, .t 40], none⟩,
  ⟨some 4, .op (.mov), [.t 41], none⟩]
abbrev c111 : IC := (IC.seq (IC.reg r111_0) (IC.seq (IC.reg r111_1) (IC.seq (IC.seq (IC.reg r111_2) (IC.cond (.t 12) (IC.seq (IC.reg r111_3) IC.ret) IC.skip)) (IC.seq (IC.seq (IC.reg r111_4) (IC.block 0 (IC.loop b111_0))) (IC.seq (IC.reg r111_11) (IC.seq (IC.reg r111_12) IC.ret))))))
abbrev g111 : FC := ⟨c111, 42, [.t 4]⟩
theorem comp111 : compF Go.Proofs.Try.prog (fun _ => 0) 111 = some g111 := by kernel_rfl

-- outlaw/queue.Withdraw$1
abbrev r112_0 : List IOp := [⟨some 3, .op (.box 42), [.t 0], none⟩,
  ⟨some 4, .op (.mov), [.c (.bool false)], none⟩]
abbrev r112_1 : List IOp := [⟨some 6, .op (.load (some 10)), [.t 3], none⟩,
  ⟨some 7, .call none, [.f 62, .t 6], none⟩,
  ⟨some 8, .op (.mov), [.t 7], none⟩,
  ⟨some 9, .op (.load none), [.t 1], some (8, true)⟩,
  ⟨some 10, .op (.faddr 1), [.t 3], some (8, true)⟩,
  ⟨some 11, .op (.load (some 5)), [.t 10], some (8, true)⟩,
  ⟨some 12, .call none, [.f 113, .t 9, .t 11], some (8, true)⟩,
  ⟨some 13, .op (.un .not), [.t 12], some (8, true)⟩,
  ⟨some 14, .op (.pick), [.t 8, .t 13, .c (.bool false)], none⟩,
  ⟨some 5, .op (.mov), [.t 14], none⟩]
abbrev r112_2 : List IOp := [⟨some 15, .op (.mov), [.t 5], none⟩]
abbrev r112_3 : List IOp := [⟨some 16, .op (.load none), [.t 2], none⟩,
  ⟨some 17, .op (.load (some 10)), [.t 3], none⟩,
  ⟨some 18, .op (.bsl 42 10 false), [.t 17], none⟩,
  ⟨some 19, .op (.app 42 10 104), [.t 16, .t 18], none⟩,
  ⟨none, .op (.store 1), [.t 2, .t 19], none⟩]
abbrev r112_4 : List IOp := [⟨some 20, .op (.mov), [.t 5], none⟩,
  ⟨some 4, .op (.mov), [.t 20], none⟩]
abbrev c112 : IC := (IC.seq (IC.reg r112_0) (IC.seq (IC.reg r112_1) (IC.seq (IC.seq (IC.reg r112_2) (IC.cond (.t 15) (IC.reg r112_3) IC.skip)) (IC.seq (IC.reg r112_4) IC.ret))))
abbrev g112 : FC := ⟨c112, 21, [.t 4]⟩
theorem comp112 : compF Go.Proofs.Try.prog (fun _ => 0) 112 = some g112 := by kernel_rfl

-- slices.Contains[[]outlaw/api.Action,outlaw/api.Action]
abbrev r113_0 : List IOp := [⟨some 3, .op (.box 23), [.t 1], none⟩,
  ⟨some 4, .op (.mov), [.c (.bool false)], none⟩]
abbrev r113_1 : List IOp := [⟨some 5, .op (.mov), [.t 0], none⟩,
  ⟨some 6, .op (.load (some 5)), [.t 3], none⟩,
  ⟨some 7, .call none, [.f 130, .t 5, .t 6], none⟩,
  ⟨some 8, .op (.bin .geq .prim), [.t 7, .c (.int .i64 0)], none⟩,
  ⟨some 4, .op (.mov), [.t 8], none⟩]
abbrev c113 : IC := (IC.seq (IC.reg r113_0) (IC.seq (IC.reg r113_1) IC.ret))
abbrev g113 : FC := ⟨c113, 9, [.t 4]⟩
theorem comp113 : compF Go.Proofs.Try.prog (fun _ => 0) 113 = some g113 := by kernel_rfl

-- slices.DeleteFunc[[]outlaw/api.Action,outlaw/api.Action]
abbrev r114_0 : List IOp := [⟨some 4, .op (.mov), [.c (.nils)], none⟩]
abbrev r114_1 : List IOp := [⟨some 8, .op (.mov), [.t 0], none⟩,
  ⟨some 9, .op (.mov), [.t 1], none⟩,
  ⟨some 10, .call none, [.f 106, .t 8, .t 9], none⟩,
  ⟨some 5, .op (.mov), [.t 10], none⟩]
abbrev r114_2 : List IOp := [⟨some 11, .op (.mov), [.t 5], none⟩,
  ⟨some 12, .op (.bin .eql .prim), [.t 11, .c (.int .i64 (-1))], none⟩]
abbrev r114_3 : List IOp := [⟨some 13, .op (.mov), [.t 0], none⟩,
  ⟨some 4, .op (.mov), [.t 13], none⟩]
abbrev r114_4 : List IOp := [⟨some 14, .op (.mov), [.t 5], none⟩,
  ⟨some 15, .op (.bin .add .prim), [.t 14, .c (.int .i64 1)], none⟩,
  ⟨some 6, .op (.mov), [.t 15], none⟩]
abbrev r114_5 : List IOp := [⟨some 16, .op (.mov), [.t 6], none⟩,
  ⟨some 17, .op (.mov), [.t 0], none⟩,
  ⟨some 18, .op (.len .slice), [.t 17], none⟩,
  ⟨some 19, .op (.bin .lss .prim), [.t 16, .t 18], none⟩]
abbrev r114_6 : List IOp := [⟨some 22, .op (.mov), [.t 0], none⟩,
  ⟨some 23, .op (.mov), [.t 6], none⟩,
  ⟨some 24, .op (.iaddr 5), [.t 22, .t 23], none⟩,
  ⟨some 25, .op (.load (some 5)), [.t 24], none⟩,
  ⟨some 7, .op (.alloc 23 [.int .i64 0, .str [], .str [], .str [], .str []]), [], none⟩,
  ⟨none, .op (.store 5), [.t 7, .t 25], none⟩]
abbrev r114_7 : List IOp := [⟨some 26, .op (.mov), [.t 1], none⟩,
  ⟨some 27, .op (.load (some 5)), [.t 7], none⟩,
  ⟨some 28, .call none, [.t 26, .t 27], none⟩,
  ⟨some 29, .op (.un .not), [.t 28], none⟩]
abbrev r114_8 : List IOp := [⟨some 30, .op (.mov), [.t 0], none⟩,
  ⟨some 31, .op (.mov), [.t 5], none⟩,
  ⟨some 32, .op (.load (some 5)), [.t 7], none⟩,
  ⟨some 33, .op (.iaddr 5), [.t 30, .t 31], none⟩,
  ⟨none, .op (.store 5), [.t 33, .t 32], none⟩]
abbrev r114_9 : List IOp := [⟨some 34, .op (.mov), [.t 5], none⟩,
  ⟨some 35, .op (.bin .add .prim), [.t 34, .c (.int .i64 1)], none⟩,
  ⟨some 5, .op (.mov), [.t 35], none⟩]
abbrev r114_10 : List IOp := [⟨some 20, .op (.mov), [.t 6], none⟩,
  ⟨some 21, .op (.bin .add .prim), [.t 20, .c (.int .i64 1)], none⟩,
  ⟨some 6, .op (.mov), [.t 21], none⟩]
abbrev b114_0 : IC := (IC.seq (IC.seq (IC.reg r114_5) (IC.cond (.t 19) IC.skip (IC.exit 0))) (IC.seq (IC.block 1 (IC.seq (IC.reg r114_6) (IC.seq (IC.reg r114_7) (IC.cond (.t 29) (IC.seq (IC.reg r114_8) (IC.reg r114_9)) IC.skip)))) (IC.reg r114_10)))
abbrev r114_11 : List IOp := [⟨some 36, .op (.mov), [.t 0], none⟩,
  ⟨some 37, .op (.mov), [.t 5], none⟩,
  ⟨some 38, .op (.slice 5 true false false), [.t 36, .t 37], none⟩,
  ⟨none, .op (.clear [.int .i64 0, .str [], .str [], .str [], .str []]), [.t 38], none⟩]
abbrev r114_12 : List IOp := [⟨some 39, .op (.mov), [.t 0], none⟩,
  ⟨some 40, .op (.mov), [.t 5], none⟩,
  ⟨some 41, .op (.slice 5 false true false), [.t 39, .t 40], none⟩,
  ⟨some 4, .op (.mov), [.t 41], none⟩]
abbrev c114 : IC := (IC.seq (IC.reg r114_0) (IC.seq (IC.reg r114_1) (IC.seq (IC.seq (IC.reg r114_2) (IC.cond (.t 12) (IC.seq (IC.reg r114_3) IC.ret) IC.skip)) (IC.seq (IC.seq (IC.reg r114_4) (IC.block 0 (IC.loop b114_0))) (IC.seq (IC.reg r114_11) (IC.seq (IC.reg r114_12) IC.ret))))))
abbrev g114 : FC := ⟨c114, 42, [.t 4]⟩
theorem comp114 : compF Go.Proofs.Try.prog (fun _ => 0) 114 = some g114 := by kernel_rfl

-- outlaw/queue.Withdraw$2
abbrev r115_0 : List IOp := [⟨some 2, .op (.box 23), [.t 0], none⟩,
  ⟨some 3, .op (.mov), [.c (.bool false)], none⟩]
abbrev r115_1 : List IOp := [⟨some 4, .op (.load none), [.t 1], none⟩,
  ⟨some 5, .op (.load (some 5)), [.t 2], none⟩,
  ⟨some 6, .call none, [.f 113, .t 4, .t 5], none⟩,
  ⟨some 7, .op (.un .not), [.t 6], none⟩,
  ⟨some 3, .op (.mov), [.t 7], none⟩]
abbrev c115 : IC := (IC.seq (IC.reg r115_0) (IC.seq (IC.reg r115_1) IC.ret))
abbrev g115 : FC := ⟨c115, 8, [.t 3]⟩
theorem comp115 : compF Go.Proofs.Try.prog (fun _ => 0) 115 = some g115 := by kernel_rfl

-- slices.Grow[[]outlaw/api.Action,outlaw/api.Action]
abbrev r129_0 : List IOp := [⟨some 4, .op (.mov), [.c (.nils)], none⟩]
abbrev r129_1 : List IOp := [⟨some 5, .op (.mov), [.t 1], none⟩,
  ⟨some 6, .op (.bin .lss .prim), [.t 5, .c (.int .i64 0)], none⟩]
abbrev r129_2 : List IOp := [⟨some 7, .op (.mkif 9), [.c (.str [99, 97, 110, 110, 111, 116, 32, 98, 101, 32, 110, 101, 103, 97, 116, 105, 118, 101])], none⟩,
  ⟨none, .op (.never), [], none⟩]
abbrev r129_3 : List IOp := [⟨some 8, .op (.mov), [.t 1], none⟩,
  ⟨some 9, .op (.mov), [.t 0], none⟩,
  ⟨some 10, .op (.cap), [.t 9], none⟩,
  ⟨some 11, .op (.mov), [.t 0], none⟩,
  ⟨some 12, .op (.len .slice), [.t 11], none⟩,
  ⟨some 13, .op (.bin .sub .prim), [.t 10, .t 12], none⟩,
  ⟨some 14, .op (.bin .sub .prim), [.t 8, .t 13], none⟩,
  ⟨some 1, .op (.mov), [.t 14], none⟩]
abbrev r129_4 : List IOp := [⟨some 15, .op (.mov), [.t 1], none⟩,
  ⟨some 16, .op (.bin .gtr .prim), [.t 15, .c (.int .i64 0)], none⟩]
abbrev r129_5 : List IOp := [⟨some 17, .op (.mov), [.t 0], none⟩,
  ⟨some 18, .op (.mov), [.t 0], none⟩,
  ⟨some 19, .op (.cap), [.t 18], none⟩,
  ⟨some 20, .op (.slice 5 false true false), [.t 17, .t 19], none⟩,
  ⟨some 21, .op (.mov), [.t 1], none⟩,
  ⟨some 22, .op (.appz 23 [.int .i64 0, .str [], .str [], .str [], .str []] 72), [.t 20, .t 21], none⟩,
  ⟨some 23, .op (.mov), [.t 0], none⟩,
  ⟨some 24, .op (.len .slice), [.t 23], none⟩,
  ⟨some 25, .op (.slice 5 false true false), [.t 22, .t 24], none⟩,
  ⟨some 0, .op (.mov), [.t 25], none⟩]
abbrev r129_6 : List IOp := [⟨some 26, .op (.mov), [.t 0], none⟩,
  ⟨some 4, .op (.mov), [.t 26], none⟩]
abbrev c129 : IC := (IC.seq (IC.reg r129_0) (IC.seq (IC.seq (IC.reg r129_1) (IC.cond (.t 6) (IC.reg r129_2) IC.skip)) (IC.seq (IC.seq (IC.reg r129_3) (IC.seq (IC.reg r129_4) (IC.cond (.t 16) (IC.reg r129_5) IC.skip))) (IC.seq (IC.reg r129_6) IC.ret))))
abbrev g129 : FC := ⟨c129, 27, [.t 4]⟩
theorem comp129 : compF Go.Proofs.Try.prog (fun _ => 0) 129 = some g129 := by kernel_rfl

-- slices.Index[[]outlaw/api.Action,outlaw/api.Action]
abbrev r130_0 : List IOp := [⟨some 3, .op (.box 23), [.t 1], none⟩,
  ⟨some 4, .op (.mov), [.c (.int .i64 0)], none⟩]
abbrev r130_1 : List IOp := [⟨some 6, .op (.mov), [.t 0], none⟩,
  ⟨some 7, .op (.len .slice), [.t 6], none⟩,
  ⟨some 8, .op (.mov), [.c (.int .i64 0)], none⟩]
abbrev r130_2 : List IOp := [⟨some 9, .op (.bin .lss .prim), [.t 8, .t 7], none⟩]
abbrev r130_3 : List IOp := [⟨some 10, .op (.mov), [.t 8], none⟩,
  ⟨some 5, .op (.mov), [.t 10], none⟩]
abbrev r130_4 : List IOp := [⟨some 11, .op (.load (some 5)), [.t 3], none⟩,
  ⟨some 12, .op (.mov), [.t 0], none⟩,
  ⟨some 13, .op (.mov), [.t 5], none⟩,
  ⟨some 14, .op (.iaddr 5), [.t 12, .t 13], none⟩,
  ⟨some 15, .op (.load (some 5)), [.t 14], none⟩,
  ⟨some 16, .op (.bin .eql (.st [.int, .str, .str, .str, .str])), [.t 11, .t 15], none⟩]
abbrev r130_5 : List IOp := [⟨some 17, .op (.mov), [.t 5], none⟩,
  ⟨some 4, .op (.mov), [.t 17], none⟩]
abbrev r130_6 : List IOp := [⟨some 18, .op (.bin .add .prim), [.t 8, .c (.int .i64 1)], none⟩,
  ⟨some 8, .op (.mov), [.t 18], none⟩]
abbrev b130_0 : IC := (IC.seq (IC.reg r130_2) (IC.seq (IC.cond (.t 9) IC.skip (IC.exit 0)) (IC.seq (IC.block 1 (IC.seq (IC.reg r130_3) (IC.seq (IC.regD .wild r130_4 (.take 0 (.take 1 (.take 2 (.take 3 (.take 4 (.take 5 (.done)))))))) (IC.cond (.t 16) (IC.seq (IC.reg r130_5) IC.ret) IC.skip)))) (IC.reg r130_6))))
abbrev r130_7 : List IOp := [⟨some 4, .op (.mov), [.c (.int .i64 (-1))], none⟩]
abbrev c130 : IC := (IC.seq (IC.reg r130_0) (IC.seq (IC.seq (IC.reg r130_1) (IC.block 0 (IC.loop b130_0))) (IC.seq (IC.reg r130_7) IC.ret)))
abbrev g130 : FC := ⟨c130, 19, [.t 4]⟩
theorem comp130 : compF Go.Proofs.Try.prog (hintL [(4, 6)]) 130 = some g130 := by kernel_rfl

end Go.Gi
