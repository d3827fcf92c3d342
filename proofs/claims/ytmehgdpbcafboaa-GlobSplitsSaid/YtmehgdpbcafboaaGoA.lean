/- Functions of the program in the form of the abstract machine, printed by a program; each is checked against the translation. -/
import Derived.Test.YtmehgdpbcafboaaGiN
import Derived.Test.YtmehgdpbcafboaaProg
import Derived.KernelRfl
namespace Go.Gi
open Go
set_option linter.unusedVariables false

abbrev r70_0 : List IOp := [⟨some 2, .op .mov, [.c (.int .u8 (0))], none⟩]
abbrev r70_1 : List IOp := [⟨some 3, .op .mov, [.t 0], none⟩,
  ⟨some 4, .op (.bin .geq .prim), [.t 3, .c (.int .u8 (65))], none⟩,
  ⟨some 5, .op .mov, [.t 4], none⟩,
  ⟨some 6, .op .mov, [.t 0], some (5, true)⟩,
  ⟨some 7, .op (.bin .leq .prim), [.t 6, .c (.int .u8 (90))], some (5, true)⟩,
  ⟨some 8, .op .pick, [.t 5, .t 7, .c (.bool false)], none⟩]
abbrev r70_2 : List IOp := [⟨some 9, .op .mov, [.t 0], none⟩,
  ⟨some 10, .op (.bin .add .prim), [.t 9, .c (.int .u8 (32))], none⟩,
  ⟨some 2, .op .mov, [.t 10], none⟩]
abbrev r70_3 : List IOp := [⟨some 11, .op .mov, [.t 0], none⟩,
  ⟨some 2, .op .mov, [.t 11], none⟩]
abbrev c70 : IC := (IC.reg r70_0).seq (((IC.reg r70_1).seq (IC.cond (.t 8) ((IC.reg r70_2).seq IC.ret) IC.skip)).seq ((IC.reg r70_3).seq IC.ret))
abbrev g70 : FC := ⟨c70, 12, [.t 2]⟩
theorem comp70 : compF Go.Proofs.Try.prog (fun _ => 0) 70 = some g70 := by kernel_rfl

abbrev r68_0 : List IOp := [⟨some 4, .op .mov, [.c (.bool false)], none⟩]
abbrev r68_1 : List IOp := [⟨some 5, .op .mov, [.t 0], none⟩,
  ⟨some 6, .op .mov, [.t 1], none⟩,
  ⟨some 7, .op (.bin .eql .prim), [.t 5, .t 6], none⟩,
  ⟨some 4, .op .mov, [.t 7], none⟩]
abbrev c68 : IC := (IC.reg r68_0).seq ((IC.reg r68_1).seq IC.ret)
abbrev g68 : FC := ⟨c68, 8, [.t 4]⟩
theorem comp68 : compF Go.Proofs.Try.prog (fun _ => 0) 68 = some g68 := by kernel_rfl

abbrev r69_0 : List IOp := [⟨some 4, .op .mov, [.c (.bool false)], none⟩]
abbrev r69_1 : List IOp := [⟨some 5, .op .mov, [.t 0], none⟩,
  ⟨some 6, .call, [.f 70, .t 5], none⟩,
  ⟨some 7, .op .mov, [.t 1], none⟩,
  ⟨some 8, .call, [.f 70, .t 7], none⟩,
  ⟨some 9, .op (.bin .eql .prim), [.t 6, .t 8], none⟩,
  ⟨some 4, .op .mov, [.t 9], none⟩]
abbrev c69 : IC := (IC.reg r69_0).seq ((IC.reg r69_1).seq IC.ret)
abbrev g69 : FC := ⟨c69, 10, [.t 4]⟩
theorem comp69 : compF Go.Proofs.Try.prog (fun _ => 0) 69 = some g69 := by kernel_rfl

abbrev r17_0 : List IOp := [⟨some 6, .op .mov, [.c (.bool false)], none⟩]
abbrev r17_1 : List IOp := [⟨some 7, .op .mov, [.f 68], none⟩]
abbrev r17_2 : List IOp := [⟨some 12, .op .mov, [.t 2], none⟩]
abbrev r17_3 : List IOp := [⟨some 7, .op .mov, [.f 69], none⟩]
abbrev r17_4 : List IOp := [⟨some 8, .op .mov, [.c (.int .i64 (0))], none⟩,
  ⟨some 9, .op .mov, [.c (.int .i64 (0))], none⟩]
abbrev r17_5 : List IOp := [⟨some 10, .op .mov, [.c (.int .i64 (-1))], none⟩,
  ⟨some 11, .op .mov, [.c (.int .i64 (0))], none⟩]
abbrev r17_6 : List IOp := [⟨some 13, .op .mov, [.t 9], none⟩,
  ⟨some 14, .op .mov, [.t 1], none⟩,
  ⟨some 15, .op (.len .str), [.t 14], none⟩,
  ⟨some 16, .op (.bin .lss .prim), [.t 13, .t 15], none⟩]
abbrev r17_7 : List IOp := [⟨some 18, .op .mov, [.t 8], none⟩,
  ⟨some 19, .op .mov, [.t 0], none⟩,
  ⟨some 20, .op (.len .str), [.t 19], none⟩,
  ⟨some 21, .op (.bin .lss .prim), [.t 18, .t 20], none⟩,
  ⟨some 22, .op .mov, [.t 21], none⟩,
  ⟨some 23, .op .mov, [.t 0], some (22, true)⟩,
  ⟨some 24, .op .mov, [.t 8], some (22, true)⟩,
  ⟨some 25, .op .idxs, [.t 23, .t 24], some (22, true)⟩,
  ⟨some 26, .op (.bin .eql .prim), [.t 25, .c (.int .u8 (42))], some (22, true)⟩,
  ⟨some 27, .op .pick, [.t 22, .t 26, .c (.bool false)], none⟩,
  ⟨some 17, .op .mov, [.t 27], none⟩]
abbrev r17_8 : List IOp := [⟨some 28, .op .mov, [.t 8], none⟩,
  ⟨some 29, .op .mov, [.t 9], none⟩,
  ⟨some 10, .op .mov, [.t 28], none⟩,
  ⟨some 11, .op .mov, [.t 29], none⟩]
abbrev r17_9 : List IOp := [⟨some 30, .op .mov, [.t 8], none⟩,
  ⟨some 31, .op (.bin .add .prim), [.t 30, .c (.int .i64 (1))], none⟩,
  ⟨some 8, .op .mov, [.t 31], none⟩]
abbrev r17_10 : List IOp := [⟨some 33, .op .mov, [.t 8], none⟩,
  ⟨some 34, .op .mov, [.t 0], none⟩,
  ⟨some 35, .op (.len .str), [.t 34], none⟩,
  ⟨some 36, .op (.bin .lss .prim), [.t 33, .t 35], none⟩,
  ⟨some 37, .op .mov, [.t 36], none⟩,
  ⟨some 38, .op .mov, [.t 0], some (37, true)⟩,
  ⟨some 39, .op .mov, [.t 8], some (37, true)⟩,
  ⟨some 40, .op .idxs, [.t 38, .t 39], some (37, true)⟩,
  ⟨some 41, .op (.bin .eql .prim), [.t 40, .c (.int .u8 (63))], some (37, true)⟩,
  ⟨some 42, .op .mov, [.t 41], some (37, true)⟩,
  ⟨some 43, .op .mov, [.t 7], some (42, false)⟩,
  ⟨some 44, .op .mov, [.t 0], some (42, false)⟩,
  ⟨some 45, .op .mov, [.t 8], some (42, false)⟩,
  ⟨some 46, .op .idxs, [.t 44, .t 45], some (42, false)⟩,
  ⟨some 47, .op .mov, [.t 1], some (42, false)⟩,
  ⟨some 48, .op .mov, [.t 9], some (42, false)⟩,
  ⟨some 49, .op .idxs, [.t 47, .t 48], some (42, false)⟩,
  ⟨some 50, .call, [.t 43, .t 46, .t 49], some (42, false)⟩,
  ⟨some 51, .op .pick, [.t 42, .c (.bool true), .t 50], some (37, true)⟩,
  ⟨some 52, .op .pick, [.t 37, .t 51, .c (.bool false)], none⟩,
  ⟨some 32, .op .mov, [.t 52], none⟩]
abbrev r17_11 : List IOp := [⟨some 53, .op .mov, [.t 8], none⟩,
  ⟨some 54, .op (.bin .add .prim), [.t 53, .c (.int .i64 (1))], none⟩,
  ⟨some 8, .op .mov, [.t 54], none⟩]
abbrev r17_12 : List IOp := [⟨some 55, .op .mov, [.t 9], none⟩,
  ⟨some 56, .op (.bin .add .prim), [.t 55, .c (.int .i64 (1))], none⟩,
  ⟨some 9, .op .mov, [.t 56], none⟩]
abbrev r17_13 : List IOp := [⟨some 58, .op .mov, [.t 10], none⟩,
  ⟨some 59, .op (.bin .lss .prim), [.t 58, .c (.int .i64 (0))], none⟩,
  ⟨some 57, .op .mov, [.t 59], none⟩]
abbrev r17_14 : List IOp := [⟨some 6, .op .mov, [.c (.bool false)], none⟩]
abbrev r17_15 : List IOp := [⟨some 60, .op .mov, [.t 11], none⟩,
  ⟨some 61, .op (.bin .add .prim), [.t 60, .c (.int .i64 (1))], none⟩,
  ⟨some 11, .op .mov, [.t 61], none⟩]
abbrev r17_16 : List IOp := [⟨some 62, .op .mov, [.t 10], none⟩,
  ⟨some 63, .op (.bin .add .prim), [.t 62, .c (.int .i64 (1))], none⟩,
  ⟨some 64, .op .mov, [.t 11], none⟩,
  ⟨some 8, .op .mov, [.t 63], none⟩,
  ⟨some 9, .op .mov, [.t 64], none⟩]
abbrev r17_17 : List IOp := [⟨some 65, .op .mov, [.t 8], none⟩,
  ⟨some 66, .op .mov, [.t 0], none⟩,
  ⟨some 67, .op (.len .str), [.t 66], none⟩,
  ⟨some 68, .op (.bin .lss .prim), [.t 65, .t 67], none⟩,
  ⟨some 69, .op .mov, [.t 68], none⟩,
  ⟨some 70, .op .mov, [.t 0], some (69, true)⟩,
  ⟨some 71, .op .mov, [.t 8], some (69, true)⟩,
  ⟨some 72, .op .idxs, [.t 70, .t 71], some (69, true)⟩,
  ⟨some 73, .op (.bin .eql .prim), [.t 72, .c (.int .u8 (42))], some (69, true)⟩,
  ⟨some 74, .op .pick, [.t 69, .t 73, .c (.bool false)], none⟩]
abbrev r17_18 : List IOp := [⟨some 75, .op .mov, [.t 8], none⟩,
  ⟨some 76, .op (.bin .add .prim), [.t 75, .c (.int .i64 (1))], none⟩,
  ⟨some 8, .op .mov, [.t 76], none⟩]
abbrev r17_19 : List IOp := [⟨some 77, .op .mov, [.t 8], none⟩,
  ⟨some 78, .op .mov, [.t 0], none⟩,
  ⟨some 79, .op (.len .str), [.t 78], none⟩,
  ⟨some 80, .op (.bin .eql .prim), [.t 77, .t 79], none⟩,
  ⟨some 6, .op .mov, [.t 80], none⟩]
abbrev b17_0 : IC := ((IC.reg r17_6).seq (IC.cond (.t 16) IC.skip (IC.exit 0))).seq (IC.block 1 ((IC.block 2 ((IC.reg r17_7).seq (IC.cond (.t 17) ((IC.reg r17_8).seq ((IC.reg r17_9).seq (IC.exit 1))) ((IC.regD .free r17_10 (.take 0 (.take 1 (.take 2 (.take 3 (.take 4 (.take 5 (.take 6 (.take 7 (.take 8 (.take 9 (.take 10 (.take 11 (.take 12 (.take 13 (.take 14 (.take 15 (.take 16 (.take 17 (.take 18 (.take 19 (.take 20 .done)))))))))))))))))))))).seq (IC.cond (.t 32) ((IC.reg r17_11).seq ((IC.reg r17_12).seq (IC.exit 1))) ((IC.reg r17_13).seq (IC.cond (.t 57) ((IC.reg r17_14).seq IC.ret) IC.skip))))))).seq ((IC.reg r17_15).seq (IC.reg r17_16))))
abbrev b17_1 : IC := ((IC.reg r17_17).seq (IC.cond (.t 74) IC.skip (IC.exit 3))).seq (IC.block 4 (IC.reg r17_18))
abbrev c17 : IC := (IC.reg r17_0).seq ((IC.reg r17_1).seq (((IC.reg r17_2).seq (IC.cond (.t 12) (IC.reg r17_3) IC.skip)).seq ((IC.reg r17_4).seq ((IC.reg r17_5).seq (IC.skip.seq ((IC.block 0 (IC.loop b17_0)).seq ((IC.block 3 (IC.loop b17_1)).seq ((IC.reg r17_19).seq IC.ret))))))))
abbrev g17 : FC := ⟨c17, 81, [.t 6]⟩
theorem comp17 : compF Go.Proofs.Try.prog (fun _ => 0) 17 = some g17 := by kernel_rfl

abbrev r15_0 : List IOp := [⟨some 0, .op .mov, [.c (.bool false)], none⟩]
abbrev r15_1 : List IOp := [⟨some 1, .call, [.f 17, .c (.str [64, 42, 58, 120, 46, 111, 114, 103]), .c (.str [64, 97, 58, 120, 46, 111, 114, 103]), .c (.bool false)], none⟩,
  ⟨some 2, .op .mov, [.t 1], none⟩,
  ⟨some 3, .call, [.f 17, .c (.str [97, 63, 99]), .c (.str [97, 99]), .c (.bool false)], some (2, true)⟩,
  ⟨some 4, .op (.un .not), [.t 3], some (2, true)⟩,
  ⟨some 5, .op .pick, [.t 2, .t 4, .c (.bool false)], none⟩,
  ⟨some 6, .op .mov, [.t 5], none⟩,
  ⟨some 7, .call, [.f 17, .c (.str [63, 42, 63]), .c (.str [97, 98]), .c (.bool false)], some (6, true)⟩,
  ⟨some 8, .op .pick, [.t 6, .t 7, .c (.bool false)], none⟩,
  ⟨some 0, .op .mov, [.t 8], none⟩]
abbrev c15 : IC := (IC.reg r15_0).seq ((IC.reg r15_1).seq IC.ret)
abbrev g15 : FC := ⟨c15, 9, [.t 0]⟩
theorem comp15 : compF Go.Proofs.Try.prog (fun _ => 0) 15 = some g15 := by kernel_rfl

abbrev r16_0 : List IOp := [⟨some 2, .op .mov, [.c (.bool false)], none⟩]
abbrev r16_1 : List IOp := [⟨some 3, .op .mov, [.t 0], none⟩,
  ⟨some 4, .call, [.f 67, .t 3, .c (.int .i64 (4)), .c (.int .i64 (300))], none⟩,
  ⟨some 2, .op .mov, [.t 4], none⟩]
abbrev c16 : IC := (IC.reg r16_0).seq ((IC.reg r16_1).seq IC.ret)
abbrev g16 : FC := ⟨c16, 5, [.t 2]⟩
theorem comp16 : compF Go.Proofs.Try.prog (fun _ => 1) 16 = some g16 := by kernel_rfl

abbrev r67_0 : List IOp := [⟨some 6, .op .mov, [.c (.bool false)], none⟩]
abbrev r67_1 : List IOp := [⟨some 7, .op .mov, [.c (.int .i64 (0))], none⟩]
abbrev r67_2 : List IOp := [⟨some 8, .op .mov, [.t 7], none⟩,
  ⟨some 9, .op .mov, [.t 0], none⟩,
  ⟨some 10, .op (.len .slice), [.t 9], none⟩,
  ⟨some 11, .op (.bin .lss .prim), [.t 8, .t 10], none⟩]
abbrev r67_3 : List IOp := [⟨some 14, .op .mov, [.t 0], none⟩,
  ⟨some 15, .op .mov, [.t 7], none⟩,
  ⟨some 16, .op (.iaddr 1), [.t 14, .t 15], none⟩,
  ⟨some 17, .op (.load none), [.t 16], none⟩,
  ⟨some 18, .op (.len .str), [.t 17], none⟩,
  ⟨some 19, .op .mov, [.t 2], none⟩,
  ⟨some 20, .op (.bin .gtr .prim), [.t 18, .t 19], none⟩]
abbrev r67_4 : List IOp := [⟨some 6, .op .mov, [.c (.bool false)], none⟩]
abbrev r67_5 : List IOp := [⟨some 12, .op .mov, [.t 7], none⟩,
  ⟨some 13, .op (.bin .add .prim), [.t 12, .c (.int .i64 (1))], none⟩,
  ⟨some 7, .op .mov, [.t 13], none⟩]
abbrev r67_6 : List IOp := [⟨some 21, .op .mov, [.t 0], none⟩,
  ⟨some 22, .op (.len .slice), [.t 21], none⟩,
  ⟨some 23, .op .mov, [.t 1], none⟩,
  ⟨some 24, .op (.bin .leq .prim), [.t 22, .t 23], none⟩,
  ⟨some 6, .op .mov, [.t 24], none⟩]
abbrev b67_0 : IC := ((IC.reg r67_2).seq (IC.cond (.t 11) IC.skip (IC.exit 0))).seq ((IC.block 1 ((IC.reg r67_3).seq (IC.cond (.t 20) ((IC.reg r67_4).seq IC.ret) IC.skip))).seq (IC.reg r67_5))
abbrev c67 : IC := (IC.reg r67_0).seq (((IC.reg r67_1).seq (IC.block 0 (IC.loop b67_0))).seq ((IC.reg r67_6).seq IC.ret))
abbrev g67 : FC := ⟨c67, 25, [.t 6]⟩
theorem comp67 : compF Go.Proofs.Try.prog (fun _ => 0) 67 = some g67 := by kernel_rfl

abbrev r3_0 : List IOp := [⟨some 12, .op .mov, [.c (.bool false)], none⟩]
abbrev r3_1 : List IOp := [⟨some 13, .call, [.f 15], none⟩,
  ⟨some 14, .op (.un .not), [.t 13], none⟩]
abbrev r3_2 : List IOp := [⟨some 12, .op .mov, [.c (.bool false)], none⟩]
abbrev r3_3 : List IOp := [⟨some 15, .op .mov, [.t 0], none⟩,
  ⟨some 16, .op .mov, [.t 1], none⟩,
  ⟨some 17, .op .mov, [.t 2], none⟩,
  ⟨some 18, .op .mov, [.t 3], none⟩,
  ⟨some 19, .op (.bsl 9 1 true), [.t 15, .t 16, .t 17, .t 18], none⟩,
  ⟨some 20, .call, [.f 16, .t 19], none⟩,
  ⟨some 21, .op (.un .not), [.t 20], none⟩,
  ⟨some 22, .op .mov, [.t 21], none⟩,
  ⟨some 23, .op .mov, [.t 4], some (22, false)⟩,
  ⟨some 24, .op (.len .str), [.t 23], some (22, false)⟩,
  ⟨some 25, .op (.bin .gtr .prim), [.t 24, .c (.int .i64 (300))], some (22, false)⟩,
  ⟨some 26, .op .pick, [.t 22, .c (.bool true), .t 25], none⟩]
abbrev r3_4 : List IOp := [⟨some 12, .op .mov, [.c (.bool true)], none⟩]
abbrev r3_5 : List IOp := [⟨some 27, .op .mov, [.t 0], none⟩,
  ⟨some 28, .op .mov, [.t 2], none⟩,
  ⟨some 29, .op .mov, [.t 5], none⟩,
  ⟨some 30, .call, [.f 17, .t 27, .t 28, .t 29], none⟩,
  ⟨some 31, .op .mov, [.t 30], none⟩,
  ⟨some 32, .op .mov, [.t 1], some (31, true)⟩,
  ⟨some 33, .op .mov, [.t 3], some (31, true)⟩,
  ⟨some 34, .op .mov, [.t 5], some (31, true)⟩,
  ⟨some 35, .call, [.f 17, .t 32, .t 33, .t 34], some (31, true)⟩,
  ⟨some 36, .op .pick, [.t 31, .t 35, .c (.bool false)], none⟩,
  ⟨some 37, .op .mov, [.t 36], none⟩,
  ⟨some 38, .op .mov, [.t 0], some (37, true)⟩,
  ⟨some 39, .op .mov, [.t 1], some (37, true)⟩,
  ⟨some 40, .op (.bin .add .prim), [.t 38, .t 39], some (37, true)⟩,
  ⟨some 41, .op .mov, [.t 2], some (37, true)⟩,
  ⟨some 42, .op .mov, [.t 3], some (37, true)⟩,
  ⟨some 43, .op (.bin .add .prim), [.t 41, .t 42], some (37, true)⟩,
  ⟨some 44, .op .mov, [.t 5], some (37, true)⟩,
  ⟨some 45, .call, [.f 17, .t 40, .t 43, .t 44], some (37, true)⟩,
  ⟨some 46, .op (.un .not), [.t 45], some (37, true)⟩,
  ⟨some 47, .op .mov, [.t 46], some (37, true)⟩,
  ⟨some 48, .op .mov, [.t 0], some (47, false)⟩,
  ⟨some 49, .op (.bin .add .prim), [.t 48, .c (.str [42])], some (47, false)⟩,
  ⟨some 50, .op .mov, [.t 1], some (47, false)⟩,
  ⟨some 51, .op (.bin .add .prim), [.t 49, .t 50], some (47, false)⟩,
  ⟨some 52, .op .mov, [.t 2], some (47, false)⟩,
  ⟨some 53, .op .mov, [.t 4], some (47, false)⟩,
  ⟨some 54, .op (.bin .add .prim), [.t 52, .t 53], some (47, false)⟩,
  ⟨some 55, .op .mov, [.t 3], some (47, false)⟩,
  ⟨some 56, .op (.bin .add .prim), [.t 54, .t 55], some (47, false)⟩,
  ⟨some 57, .op .mov, [.t 5], some (47, false)⟩,
  ⟨some 58, .call, [.f 17, .t 51, .t 56, .t 57], some (47, false)⟩,
  ⟨some 59, .op (.un .not), [.t 58], some (47, false)⟩,
  ⟨some 60, .op .pick, [.t 47, .c (.bool true), .t 59], some (37, true)⟩,
  ⟨some 61, .op .pick, [.t 37, .t 60, .c (.bool false)], none⟩]
abbrev r3_6 : List IOp := [⟨some 12, .op .mov, [.c (.bool false)], none⟩]
abbrev r3_7 : List IOp := [⟨some 62, .op .mov, [.t 0], none⟩,
  ⟨some 63, .op .mov, [.t 2], none⟩,
  ⟨some 64, .op .mov, [.t 5], none⟩,
  ⟨some 65, .call, [.f 17, .t 62, .t 63, .t 64], none⟩,
  ⟨some 66, .op (.un .not), [.t 65], none⟩,
  ⟨some 67, .op .mov, [.t 66], none⟩,
  ⟨some 68, .op .mov, [.t 0], some (67, false)⟩,
  ⟨some 69, .op (.bin .add .prim), [.c (.str [42]), .t 68], some (67, false)⟩,
  ⟨some 70, .op (.bin .add .prim), [.t 69, .c (.str [42])], some (67, false)⟩,
  ⟨some 71, .op .mov, [.t 4], some (67, false)⟩,
  ⟨some 72, .op .mov, [.t 2], some (67, false)⟩,
  ⟨some 73, .op (.bin .add .prim), [.t 71, .t 72], some (67, false)⟩,
  ⟨some 74, .op .mov, [.t 3], some (67, false)⟩,
  ⟨some 75, .op (.bin .add .prim), [.t 73, .t 74], some (67, false)⟩,
  ⟨some 76, .op .mov, [.t 5], some (67, false)⟩,
  ⟨some 77, .call, [.f 17, .t 70, .t 75, .t 76], some (67, false)⟩,
  ⟨some 78, .op .pick, [.t 67, .c (.bool true), .t 77], none⟩,
  ⟨some 12, .op .mov, [.t 78], none⟩]
abbrev c3 : IC := (IC.reg r3_0).seq (((IC.reg r3_1).seq (IC.cond (.t 14) ((IC.reg r3_2).seq IC.ret) IC.skip)).seq (((IC.reg r3_3).seq (IC.cond (.t 26) ((IC.reg r3_4).seq IC.ret) IC.skip)).seq (((IC.reg r3_5).seq (IC.cond (.t 61) ((IC.reg r3_6).seq IC.ret) IC.skip)).seq ((IC.reg r3_7).seq IC.ret))))
abbrev g3 : FC := ⟨c3, 79, [.t 12]⟩
theorem comp3 : compF Go.Proofs.Try.prog (fun _ => 1) 3 = some g3 := by kernel_rfl

abbrev r4_0 : List IOp := [⟨some 8, .op .mov, [.c (.bool false)], none⟩]
abbrev r4_1 : List IOp := [⟨some 11, .call, [.f 15], none⟩,
  ⟨some 12, .op (.un .not), [.t 11], none⟩]
abbrev r4_2 : List IOp := [⟨some 8, .op .mov, [.c (.bool false)], none⟩]
abbrev r4_3 : List IOp := [⟨some 13, .op .mov, [.t 0], none⟩,
  ⟨some 14, .op (.len .str), [.t 13], none⟩,
  ⟨some 15, .op (.bin .gtr .prim), [.t 14, .c (.int .i64 (60))], none⟩,
  ⟨some 16, .op .mov, [.t 15], none⟩,
  ⟨some 17, .op .mov, [.t 1], some (16, false)⟩,
  ⟨some 18, .op (.len .str), [.t 17], some (16, false)⟩,
  ⟨some 19, .op (.bin .gtr .prim), [.t 18, .c (.int .i64 (60))], some (16, false)⟩,
  ⟨some 20, .op .pick, [.t 16, .c (.bool true), .t 19], none⟩,
  ⟨some 21, .op .mov, [.t 20], none⟩,
  ⟨some 22, .op .mov, [.t 2], some (21, false)⟩,
  ⟨some 23, .op (.len .str), [.t 22], some (21, false)⟩,
  ⟨some 24, .op (.bin .gtr .prim), [.t 23, .c (.int .i64 (60))], some (21, false)⟩,
  ⟨some 25, .op .pick, [.t 21, .c (.bool true), .t 24], none⟩]
abbrev r4_4 : List IOp := [⟨some 8, .op .mov, [.c (.bool true)], none⟩]
abbrev r4_5 : List IOp := [⟨some 9, .op .mov, [.c (.bool false)], none⟩]
abbrev r4_6 : List IOp := [⟨some 10, .op .mov, [.c (.int .i64 (0))], none⟩]
abbrev r4_7 : List IOp := [⟨some 26, .op .mov, [.t 10], none⟩,
  ⟨some 27, .op .mov, [.t 2], none⟩,
  ⟨some 28, .op (.len .str), [.t 27], none⟩,
  ⟨some 29, .op (.bin .leq .prim), [.t 26, .t 28], none⟩]
abbrev r4_8 : List IOp := [⟨some 32, .op .mov, [.t 9], none⟩,
  ⟨some 33, .op .mov, [.t 32], none⟩,
  ⟨some 34, .op .mov, [.t 0], some (33, false)⟩,
  ⟨some 35, .op .mov, [.t 2], some (33, false)⟩,
  ⟨some 36, .op .mov, [.t 10], some (33, false)⟩,
  ⟨some 37, .op (.sslice false true false), [.t 35, .t 36], some (33, false)⟩,
  ⟨some 38, .op .mov, [.t 3], some (33, false)⟩,
  ⟨some 39, .call, [.f 17, .t 34, .t 37, .t 38], some (33, false)⟩,
  ⟨some 40, .op .mov, [.t 39], some (33, false)⟩,
  ⟨some 41, .op .mov, [.t 1], some (40, true)⟩,
  ⟨some 42, .op .mov, [.t 2], some (40, true)⟩,
  ⟨some 43, .op .mov, [.t 10], some (40, true)⟩,
  ⟨some 44, .op (.sslice true false false), [.t 42, .t 43], some (40, true)⟩,
  ⟨some 45, .op .mov, [.t 3], some (40, true)⟩,
  ⟨some 46, .call, [.f 17, .t 41, .t 44, .t 45], some (40, true)⟩,
  ⟨some 47, .op .pick, [.t 40, .t 46, .c (.bool false)], some (33, false)⟩,
  ⟨some 48, .op .pick, [.t 33, .c (.bool true), .t 47], none⟩,
  ⟨some 9, .op .mov, [.t 48], none⟩]
abbrev r4_9 : List IOp := [⟨some 30, .op .mov, [.t 10], none⟩,
  ⟨some 31, .op (.bin .add .prim), [.t 30, .c (.int .i64 (1))], none⟩,
  ⟨some 10, .op .mov, [.t 31], none⟩]
abbrev r4_10 : List IOp := [⟨some 49, .op .mov, [.t 0], none⟩,
  ⟨some 50, .op .mov, [.t 1], none⟩,
  ⟨some 51, .op (.bin .add .prim), [.t 49, .t 50], none⟩,
  ⟨some 52, .op .mov, [.t 2], none⟩,
  ⟨some 53, .op .mov, [.t 3], none⟩,
  ⟨some 54, .call, [.f 17, .t 51, .t 52, .t 53], none⟩,
  ⟨some 55, .op .mov, [.t 9], none⟩,
  ⟨some 56, .op (.bin .eql .bool), [.t 54, .t 55], none⟩,
  ⟨some 8, .op .mov, [.t 56], none⟩]
abbrev b4_0 : IC := ((IC.reg r4_7).seq (IC.cond (.t 29) IC.skip (IC.exit 0))).seq ((IC.block 1 (IC.reg r4_8)).seq (IC.reg r4_9))
abbrev c4 : IC := (IC.reg r4_0).seq (((IC.reg r4_1).seq (IC.cond (.t 12) ((IC.reg r4_2).seq IC.ret) IC.skip)).seq (((IC.reg r4_3).seq (IC.cond (.t 25) ((IC.reg r4_4).seq IC.ret) IC.skip)).seq ((IC.reg r4_5).seq (((IC.reg r4_6).seq (IC.block 0 (IC.loop b4_0))).seq ((IC.reg r4_10).seq IC.ret)))))
abbrev g4 : FC := ⟨c4, 57, [.t 8]⟩
theorem comp4 : compF Go.Proofs.Try.prog (fun _ => 1) 4 = some g4 := by kernel_rfl
end Go.Gi
