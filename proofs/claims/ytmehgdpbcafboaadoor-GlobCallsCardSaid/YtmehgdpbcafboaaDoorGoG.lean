/- Functions of the program in the form of the abstract machine, printed by a program; each is checked against the translation. -/
import Derived.Test.YtmehgdpbcafboaaDoorGiXE
import Derived.Test.YtmehgdpbcafboaaDoorProg
import Derived.KernelRfl
set_option linter.unusedVariables false
namespace Go.Gi
set_option linter.unusedSectionVars false
variable [Mx]
open Go
-- outlaw/outlawlaw07.GlobNorm
abbrev r3_0 : List IOp := [⟨some 6, .op (.mov), [.c (.bool false)], none⟩]
abbrev r3_1 : List IOp := [⟨some 12, .call none, [.f 6], none⟩,
  ⟨some 13, .op (.un .not), [.t 12], none⟩]
abbrev r3_2 : List IOp := [⟨some 6, .op (.mov), [.c (.bool false)], none⟩]
abbrev r3_3 : List IOp := [⟨some 14, .op (.mov), [.t 0], none⟩,
  ⟨some 15, .op (.mov), [.t 1], none⟩,
  ⟨some 16, .op (.bsl 9 1 false), [.t 14, .t 15], none⟩,
  ⟨some 17, .call none, [.f 7, .t 16], none⟩,
  ⟨some 18, .op (.un .not), [.t 17], none⟩]
abbrev r3_4 : List IOp := [⟨some 6, .op (.mov), [.c (.bool true)], none⟩]
abbrev r3_5 : List IOp := [⟨some 19, .op (.mov), [.t 0], none⟩,
  ⟨some 20, .call none, [.f 8, .t 19], none⟩,
  ⟨some 7, .op (.mov), [.t 20], none⟩]
abbrev r3_6 : List IOp := [⟨some 21, .op (.mov), [.t 0], none⟩,
  ⟨some 22, .op (.mov), [.t 1], none⟩,
  ⟨some 23, .op (.mov), [.t 2], none⟩,
  ⟨some 24, .call none, [.f 9, .t 21, .t 22, .t 23], none⟩,
  ⟨some 8, .op (.mov), [.t 24], none⟩]
abbrev r3_7 : List IOp := [⟨some 25, .op (.mov), [.t 7], none⟩,
  ⟨some 26, .call none, [.f 8, .t 25], none⟩,
  ⟨some 27, .op (.mov), [.t 7], none⟩,
  ⟨some 28, .op (.bin .neq .prim), [.t 26, .t 27], none⟩,
  ⟨some 29, .op (.mov), [.t 28], none⟩,
  ⟨some 30, .op (.mov), [.t 7], some (29, false)⟩,
  ⟨some 31, .op (.len .str), [.t 30], some (29, false)⟩,
  ⟨some 32, .op (.mov), [.t 0], some (29, false)⟩,
  ⟨some 33, .op (.len .str), [.t 32], some (29, false)⟩,
  ⟨some 34, .op (.bin .gtr .prim), [.t 31, .t 33], some (29, false)⟩,
  ⟨some 35, .op (.pick), [.t 29, .c (.bool true), .t 34], none⟩,
  ⟨some 36, .op (.mov), [.t 35], none⟩,
  ⟨some 37, .op (.mov), [.t 7], some (36, false)⟩,
  ⟨some 38, .call none, [.f 10, .t 37], some (36, false)⟩,
  ⟨some 39, .op (.mov), [.t 0], some (36, false)⟩,
  ⟨some 40, .call none, [.f 10, .t 39], some (36, false)⟩,
  ⟨some 41, .op (.bin .neq .prim), [.t 38, .t 40], some (36, false)⟩,
  ⟨some 42, .op (.pick), [.t 36, .c (.bool true), .t 41], none⟩,
  ⟨some 43, .op (.mov), [.t 42], none⟩,
  ⟨some 44, .op (.mov), [.t 7], some (43, false)⟩,
  ⟨some 45, .op (.mov), [.t 1], some (43, false)⟩,
  ⟨some 46, .op (.mov), [.t 2], some (43, false)⟩,
  ⟨some 47, .call none, [.f 9, .t 44, .t 45, .t 46], some (43, false)⟩,
  ⟨some 48, .op (.mov), [.t 8], some (43, false)⟩,
  ⟨some 49, .op (.bin .neq .bool), [.t 47, .t 48], some (43, false)⟩,
  ⟨some 50, .op (.pick), [.t 43, .c (.bool true), .t 49], none⟩,
  ⟨some 51, .op (.mov), [.t 50], none⟩,
  ⟨some 52, .op (.mov), [.t 8], some (51, false)⟩,
  ⟨some 53, .op (.mov), [.t 52], some (51, false)⟩,
  ⟨some 54, .op (.mov), [.t 1], some (53, true)⟩,
  ⟨some 55, .op (.len .str), [.t 54], some (53, true)⟩,
  ⟨some 56, .op (.mov), [.t 0], some (53, true)⟩,
  ⟨some 57, .call none, [.f 10, .t 56], some (53, true)⟩,
  ⟨some 58, .op (.bin .lss .prim), [.t 55, .t 57], some (53, true)⟩,
  ⟨some 59, .op (.pick), [.t 53, .t 58, .c (.bool false)], some (51, false)⟩,
  ⟨some 60, .op (.pick), [.t 51, .c (.bool true), .t 59], none⟩]
abbrev r3_8 : List IOp := [⟨some 6, .op (.mov), [.c (.bool false)], none⟩]
abbrev r3_9 : List IOp := [⟨some 62, .op (.mov), [.t 0], none⟩,
  ⟨some 63, .call none, [.f 11, .t 62], none⟩,
  ⟨some 61, .op (.mov), [.t 63], none⟩,
  ⟨some 64, .op (.extract 0), [.t 61], none⟩,
  ⟨some 65, .op (.extract 1), [.t 61], none⟩,
  ⟨some 9, .op (.mov), [.t 64], none⟩,
  ⟨some 10, .op (.mov), [.t 65], none⟩]
abbrev r3_10 : List IOp := [⟨some 66, .op (.mov), [.t 0], none⟩,
  ⟨some 67, .op (.mov), [.t 1], none⟩,
  ⟨some 68, .op (.bin .eql .prim), [.t 66, .t 67], none⟩,
  ⟨some 69, .op (.mov), [.t 68], none⟩,
  ⟨some 70, .op (.mov), [.t 2], some (69, false)⟩,
  ⟨some 71, .op (.mov), [.t 70], some (69, false)⟩,
  ⟨some 72, .op (.mov), [.t 0], some (71, true)⟩,
  ⟨some 73, .call none, [.f 12, .t 72], some (71, true)⟩,
  ⟨some 74, .op (.mov), [.t 1], some (71, true)⟩,
  ⟨some 75, .call none, [.f 12, .t 74], some (71, true)⟩,
  ⟨some 76, .op (.bin .eql .prim), [.t 73, .t 75], some (71, true)⟩,
  ⟨some 77, .op (.pick), [.t 71, .t 76, .c (.bool false)], some (69, false)⟩,
  ⟨some 78, .op (.pick), [.t 69, .c (.bool true), .t 77], none⟩,
  ⟨some 11, .op (.mov), [.t 78], none⟩]
abbrev r3_11 : List IOp := [⟨some 79, .op (.mov), [.t 10], none⟩,
  ⟨some 80, .op (.un .not), [.t 79], none⟩,
  ⟨some 81, .op (.mov), [.t 80], none⟩,
  ⟨some 82, .op (.mov), [.t 9], some (81, true)⟩,
  ⟨some 83, .op (.bin .eql .prim), [.t 82, .c (.str [])], some (81, true)⟩,
  ⟨some 84, .op (.pick), [.t 81, .t 83, .c (.bool false)], none⟩,
  ⟨some 85, .op (.mov), [.t 84], none⟩,
  ⟨some 86, .op (.mov), [.t 10], some (85, false)⟩,
  ⟨some 87, .op (.mov), [.t 86], some (85, false)⟩,
  ⟨some 88, .op (.mov), [.t 9], some (87, true)⟩,
  ⟨some 89, .op (.mov), [.t 0], some (87, true)⟩,
  ⟨some 90, .op (.bin .eql .prim), [.t 88, .t 89], some (87, true)⟩,
  ⟨some 91, .op (.pick), [.t 87, .t 90, .c (.bool false)], some (85, false)⟩,
  ⟨some 92, .op (.mov), [.t 91], some (85, false)⟩,
  ⟨some 93, .op (.mov), [.t 8], some (92, true)⟩,
  ⟨some 94, .op (.mov), [.t 11], some (92, true)⟩,
  ⟨some 95, .op (.bin .eql .bool), [.t 93, .t 94], some (92, true)⟩,
  ⟨some 96, .op (.pick), [.t 92, .t 95, .c (.bool false)], some (85, false)⟩,
  ⟨some 97, .op (.pick), [.t 85, .c (.bool true), .t 96], none⟩,
  ⟨some 6, .op (.mov), [.t 97], none⟩]
abbrev c3 : IC := (IC.seq (IC.reg r3_0) (IC.seq (IC.seq (IC.reg r3_1) (IC.cond (.t 13) (IC.seq (IC.reg r3_2) IC.ret) IC.skip)) (IC.seq (IC.seq (IC.reg r3_3) (IC.cond (.t 18) (IC.seq (IC.reg r3_4) IC.ret) IC.skip)) (IC.seq (IC.reg r3_5) (IC.seq (IC.reg r3_6) (IC.seq (IC.seq (IC.reg r3_7) (IC.cond (.t 60) (IC.seq (IC.reg r3_8) IC.ret) IC.skip)) (IC.seq (IC.reg r3_9) (IC.seq (IC.reg r3_10) (IC.seq (IC.reg r3_11) IC.ret)))))))))
abbrev g3 : FC := ⟨c3, 98, [.t 6]⟩
theorem comp3 : compF Go.Proofs.Tryd.prog (fun _ => 0) 3 = some g3 := by kernel_rfl

-- outlaw/outlawlaw07.GlobCalls
abbrev r5_0 : List IOp := [⟨some 6, .op (.mov), [.c (.bool false)], none⟩]
abbrev r5_1 : List IOp := [⟨some 11, .call none, [.f 6], none⟩,
  ⟨some 12, .op (.un .not), [.t 11], none⟩]
abbrev r5_2 : List IOp := [⟨some 6, .op (.mov), [.c (.bool false)], none⟩]
abbrev r5_3 : List IOp := [⟨some 13, .op (.mov), [.t 0], none⟩,
  ⟨some 14, .op (.mov), [.t 1], none⟩,
  ⟨some 15, .op (.bsl 9 1 false), [.t 13, .t 14], none⟩,
  ⟨some 16, .call none, [.f 7, .t 15], none⟩,
  ⟨some 17, .op (.un .not), [.t 16], none⟩]
abbrev r5_4 : List IOp := [⟨some 6, .op (.mov), [.c (.bool true)], none⟩]
abbrev r5_5 : List IOp := [⟨some 19, .op (.mov), [.t 0], none⟩,
  ⟨some 20, .call none, [.f 11, .t 19], none⟩,
  ⟨some 18, .op (.mov), [.t 20], none⟩,
  ⟨some 21, .op (.extract 0), [.t 18], none⟩,
  ⟨some 22, .op (.extract 1), [.t 18], none⟩,
  ⟨some 7, .op (.mov), [.t 21], none⟩,
  ⟨some 8, .op (.mov), [.t 22], none⟩]
abbrev r5_6 : List IOp := [⟨some 24, .op (.mov), [.t 0], none⟩,
  ⟨some 25, .call none, [.f 14, .t 24], none⟩,
  ⟨some 23, .op (.mov), [.t 25], none⟩,
  ⟨some 26, .op (.extract 0), [.t 23], none⟩,
  ⟨some 27, .op (.extract 1), [.t 23], none⟩,
  ⟨some 9, .op (.mov), [.t 26], none⟩,
  ⟨some 10, .op (.mov), [.t 27], none⟩]
abbrev r5_7 : List IOp := [⟨some 28, .op (.mov), [.t 0], none⟩,
  ⟨some 29, .call none, [.f 13, .t 28], none⟩,
  ⟨some 30, .op (.mov), [.t 0], none⟩,
  ⟨some 31, .call none, [.f 15, .t 30], none⟩,
  ⟨some 32, .op (.bin .eql .prim), [.t 29, .t 31], none⟩,
  ⟨some 33, .op (.mov), [.t 32], none⟩,
  ⟨some 34, .op (.mov), [.t 0], some (33, true)⟩,
  ⟨some 35, .op (.mov), [.t 1], some (33, true)⟩,
  ⟨some 36, .op (.mov), [.t 2], some (33, true)⟩,
  ⟨some 37, .call none, [.f 9, .t 34, .t 35, .t 36], some (33, true)⟩,
  ⟨some 38, .op (.mov), [.t 0], some (33, true)⟩,
  ⟨some 39, .op (.mov), [.t 1], some (33, true)⟩,
  ⟨some 40, .op (.mov), [.t 2], some (33, true)⟩,
  ⟨some 41, .call none, [.f 16, .t 38, .t 39, .t 40], some (33, true)⟩,
  ⟨some 42, .op (.bin .eql .bool), [.t 37, .t 41], some (33, true)⟩,
  ⟨some 43, .op (.pick), [.t 33, .t 42, .c (.bool false)], none⟩,
  ⟨some 44, .op (.mov), [.t 43], none⟩,
  ⟨some 45, .op (.mov), [.t 0], some (44, true)⟩,
  ⟨some 46, .call none, [.f 8, .t 45], some (44, true)⟩,
  ⟨some 47, .op (.mov), [.t 0], some (44, true)⟩,
  ⟨some 48, .call none, [.f 17, .t 47], some (44, true)⟩,
  ⟨some 49, .op (.bin .eql .prim), [.t 46, .t 48], some (44, true)⟩,
  ⟨some 50, .op (.pick), [.t 44, .t 49, .c (.bool false)], none⟩,
  ⟨some 51, .op (.mov), [.t 50], none⟩,
  ⟨some 52, .op (.mov), [.t 7], some (51, true)⟩,
  ⟨some 53, .op (.mov), [.t 9], some (51, true)⟩,
  ⟨some 54, .op (.bin .eql .prim), [.t 52, .t 53], some (51, true)⟩,
  ⟨some 55, .op (.pick), [.t 51, .t 54, .c (.bool false)], none⟩,
  ⟨some 56, .op (.mov), [.t 55], none⟩,
  ⟨some 57, .op (.mov), [.t 8], some (56, true)⟩,
  ⟨some 58, .op (.mov), [.t 10], some (56, true)⟩,
  ⟨some 59, .op (.bin .eql .bool), [.t 57, .t 58], some (56, true)⟩,
  ⟨some 60, .op (.pick), [.t 56, .t 59, .c (.bool false)], none⟩,
  ⟨some 61, .op (.mov), [.t 60], none⟩,
  ⟨some 62, .op (.mov), [.t 0], some (61, true)⟩,
  ⟨some 63, .call none, [.f 10, .t 62], some (61, true)⟩,
  ⟨some 64, .op (.mov), [.t 0], some (61, true)⟩,
  ⟨some 65, .call none, [.f 18, .t 64], some (61, true)⟩,
  ⟨some 66, .op (.bin .eql .prim), [.t 63, .t 65], some (61, true)⟩,
  ⟨some 67, .op (.pick), [.t 61, .t 66, .c (.bool false)], none⟩,
  ⟨some 68, .op (.mov), [.t 67], none⟩,
  ⟨some 69, .op (.mov), [.t 1], some (68, true)⟩,
  ⟨some 70, .call none, [.f 12, .t 69], some (68, true)⟩,
  ⟨some 71, .op (.mov), [.t 1], some (68, true)⟩,
  ⟨some 72, .call none, [.f 19, .t 71], some (68, true)⟩,
  ⟨some 73, .op (.bin .eql .prim), [.t 70, .t 72], some (68, true)⟩,
  ⟨some 74, .op (.pick), [.t 68, .t 73, .c (.bool false)], none⟩,
  ⟨some 6, .op (.mov), [.t 74], none⟩]
abbrev c5 : IC := (IC.seq (IC.reg r5_0) (IC.seq (IC.seq (IC.reg r5_1) (IC.cond (.t 12) (IC.seq (IC.reg r5_2) IC.ret) IC.skip)) (IC.seq (IC.seq (IC.reg r5_3) (IC.cond (.t 17) (IC.seq (IC.reg r5_4) IC.ret) IC.skip)) (IC.seq (IC.reg r5_5) (IC.seq (IC.reg r5_6) (IC.seq (IC.reg r5_7) IC.ret))))))
abbrev g5 : FC := ⟨c5, 75, [.t 6]⟩
theorem comp5 : compF Go.Proofs.Tryd.prog (fun _ => 0) 5 = some g5 := by kernel_rfl

-- outlaw/outlawlaw07.lives
abbrev r6_0 : List IOp := [⟨some 0, .op (.mov), [.c (.bool false)], none⟩]
abbrev r6_1 : List IOp := [⟨some 1, .call none, [.f 9, .c (.str [64, 42, 58, 120, 46, 111, 114, 103]), .c (.str [64, 97, 58, 120, 46, 111, 114, 103]), .c (.bool false)], none⟩,
  ⟨some 2, .op (.mov), [.t 1], none⟩,
  ⟨some 3, .call none, [.f 9, .c (.str [97, 63, 99]), .c (.str [97, 99]), .c (.bool false)], some (2, true)⟩,
  ⟨some 4, .op (.un .not), [.t 3], some (2, true)⟩,
  ⟨some 5, .op (.pick), [.t 2, .t 4, .c (.bool false)], none⟩,
  ⟨some 6, .op (.mov), [.t 5], none⟩,
  ⟨some 7, .call none, [.f 9, .c (.str [63, 42, 63]), .c (.str [97, 98]), .c (.bool false)], some (6, true)⟩,
  ⟨some 8, .op (.pick), [.t 6, .t 7, .c (.bool false)], none⟩,
  ⟨some 0, .op (.mov), [.t 8], none⟩]
abbrev c6 : IC := (IC.seq (IC.reg r6_0) (IC.seq (IC.reg r6_1) IC.ret))
abbrev g6 : FC := ⟨c6, 9, [.t 0]⟩
theorem comp6 : compF Go.Proofs.Tryd.prog (fun _ => 0) 6 = some g6 := by kernel_rfl

-- outlaw/outlawlaw07.light
abbrev r7_0 : List IOp := [⟨some 2, .op (.mov), [.c (.bool false)], none⟩]
abbrev r7_1 : List IOp := [⟨some 3, .op (.mov), [.t 0], none⟩,
  ⟨some 4, .call none, [.f 20, .t 3, .c (.int .i64 4), .c (.int .i64 300)], none⟩,
  ⟨some 2, .op (.mov), [.t 4], none⟩]
abbrev c7 : IC := (IC.seq (IC.reg r7_0) (IC.seq (IC.reg r7_1) IC.ret))
abbrev g7 : FC := ⟨c7, 5, [.t 2]⟩
theorem comp7 : compF Go.Proofs.Tryd.prog (fun _ => 0) 7 = some g7 := by kernel_rfl

-- outlaw/glob.Norm
abbrev r8_0 : List IOp := [⟨some 2, .op (.mov), [.c (.str [])], none⟩]
abbrev r8_1 : List IOp := [⟨some 3, .op (.mov), [.c (.nils)], none⟩]
abbrev r8_2 : List IOp := [⟨some 4, .op (.mov), [.c (.int .i64 0)], none⟩]
abbrev r8_3 : List IOp := [⟨some 7, .op (.mov), [.t 4], none⟩,
  ⟨some 8, .op (.mov), [.t 0], none⟩,
  ⟨some 9, .op (.len .str), [.t 8], none⟩,
  ⟨some 10, .op (.bin .lss .prim), [.t 7, .t 9], none⟩]
abbrev r8_4 : List IOp := [⟨some 11, .op (.mov), [.t 4], none⟩,
  ⟨some 5, .op (.mov), [.t 11], none⟩]
abbrev r8_5 : List IOp := [⟨some 12, .op (.mov), [.t 5], none⟩,
  ⟨some 13, .op (.mov), [.t 0], none⟩,
  ⟨some 14, .op (.len .str), [.t 13], none⟩,
  ⟨some 15, .op (.bin .lss .prim), [.t 12, .t 14], none⟩,
  ⟨some 16, .op (.mov), [.t 15], none⟩,
  ⟨some 17, .op (.mov), [.t 0], some (16, true)⟩,
  ⟨some 18, .op (.mov), [.t 5], some (16, true)⟩,
  ⟨some 19, .op (.idxs), [.t 17, .t 18], some (16, true)⟩,
  ⟨some 20, .op (.bin .eql .prim), [.t 19, .c (.int .u8 42)], some (16, true)⟩,
  ⟨some 21, .op (.mov), [.t 20], some (16, true)⟩,
  ⟨some 22, .op (.mov), [.t 0], some (21, false)⟩,
  ⟨some 23, .op (.mov), [.t 5], some (21, false)⟩,
  ⟨some 24, .op (.idxs), [.t 22, .t 23], some (21, false)⟩,
  ⟨some 25, .op (.bin .eql .prim), [.t 24, .c (.int .u8 63)], some (21, false)⟩,
  ⟨some 26, .op (.pick), [.t 21, .c (.bool true), .t 25], some (16, true)⟩,
  ⟨some 27, .op (.pick), [.t 16, .t 26, .c (.bool false)], none⟩]
abbrev r8_6 : List IOp := [⟨some 28, .op (.mov), [.t 5], none⟩,
  ⟨some 29, .op (.bin .add .prim), [.t 28, .c (.int .i64 1)], none⟩,
  ⟨some 5, .op (.mov), [.t 29], none⟩]
abbrev b8_0 : IC := (IC.seq (IC.seq (IC.reg r8_5) (IC.cond (.t 27) IC.skip (IC.exit 2))) (IC.block 3 (IC.reg r8_6)))
abbrev r8_7 : List IOp := [⟨some 30, .op (.mov), [.t 5], none⟩,
  ⟨some 31, .op (.mov), [.t 4], none⟩,
  ⟨some 32, .op (.bin .eql .prim), [.t 30, .t 31], none⟩]
abbrev r8_8 : List IOp := [⟨some 33, .op (.mov), [.t 3], none⟩,
  ⟨some 34, .op (.mov), [.t 0], none⟩,
  ⟨some 35, .op (.mov), [.t 4], none⟩,
  ⟨some 36, .op (.idxs), [.t 34, .t 35], none⟩,
  ⟨some 37, .op (.bsl 5 1 false), [.t 36], none⟩,
  ⟨some 38, .op (.app 5 1 1), [.t 33, .t 37], none⟩,
  ⟨some 3, .op (.mov), [.t 38], none⟩]
abbrev r8_9 : List IOp := [⟨some 39, .op (.mov), [.t 4], none⟩,
  ⟨some 40, .op (.bin .add .prim), [.t 39, .c (.int .i64 1)], none⟩,
  ⟨some 4, .op (.mov), [.t 40], none⟩]
abbrev r8_10 : List IOp := [⟨some 41, .op (.mov), [.t 0], none⟩,
  ⟨some 42, .op (.mov), [.t 4], none⟩,
  ⟨some 43, .op (.mov), [.t 5], none⟩,
  ⟨some 44, .op (.sslice true true false), [.t 41, .t 42, .t 43], none⟩,
  ⟨some 45, .op (.s2b 5), [.t 44], none⟩,
  ⟨some 46, .op (.bsl 5 1 false), [.c (.int .u8 63)], none⟩,
  ⟨some 47, .op (.cvs), [.t 46], none⟩,
  ⟨some 48, .call none, [.f 21, .t 45, .t 47], none⟩,
  ⟨some 6, .op (.mov), [.t 48], none⟩]
abbrev r8_11 : List IOp := [⟨some 49, .op (.mov), [.t 3], none⟩,
  ⟨some 50, .op (.bsl 5 1 false), [.c (.int .u8 63)], none⟩,
  ⟨some 51, .op (.cvs), [.t 50], none⟩,
  ⟨some 52, .op (.mov), [.t 6], none⟩,
  ⟨some 53, .call none, [.f 22, .t 51, .t 52], none⟩,
  ⟨some 54, .op (.app 5 1 1), [.t 49, .t 53], none⟩,
  ⟨some 3, .op (.mov), [.t 54], none⟩]
abbrev r8_12 : List IOp := [⟨some 55, .op (.mov), [.t 6], none⟩,
  ⟨some 56, .op (.mov), [.t 5], none⟩,
  ⟨some 57, .op (.mov), [.t 4], none⟩,
  ⟨some 58, .op (.bin .sub .prim), [.t 56, .t 57], none⟩,
  ⟨some 59, .op (.bin .lss .prim), [.t 55, .t 58], none⟩]
abbrev r8_13 : List IOp := [⟨some 60, .op (.mov), [.t 3], none⟩,
  ⟨some 61, .op (.bsl 5 1 false), [.c (.int .u8 42)], none⟩,
  ⟨some 62, .op (.app 5 1 1), [.t 60, .t 61], none⟩,
  ⟨some 3, .op (.mov), [.t 62], none⟩]
abbrev r8_14 : List IOp := [⟨some 63, .op (.mov), [.t 5], none⟩,
  ⟨some 4, .op (.mov), [.t 63], none⟩]
abbrev b8_1 : IC := (IC.seq (IC.seq (IC.reg r8_3) (IC.cond (.t 10) IC.skip (IC.exit 0))) (IC.block 1 (IC.seq (IC.reg r8_4) (IC.seq (IC.block 2 (IC.loop b8_0)) (IC.seq (IC.seq (IC.reg r8_7) (IC.cond (.t 32) (IC.seq (IC.reg r8_8) (IC.seq (IC.reg r8_9) (IC.exit 1))) IC.skip)) (IC.seq (IC.reg r8_10) (IC.seq (IC.reg r8_11) (IC.seq (IC.seq (IC.reg r8_12) (IC.cond (.t 59) (IC.reg r8_13) IC.skip)) (IC.reg r8_14)))))))))
abbrev r8_15 : List IOp := [⟨some 64, .op (.mov), [.t 3], none⟩,
  ⟨some 65, .op (.b2s), [.t 64], none⟩,
  ⟨some 2, .op (.mov), [.t 65], none⟩]
abbrev c8 : IC := (IC.seq (IC.reg r8_0) (IC.seq (IC.reg r8_1) (IC.seq (IC.seq (IC.reg r8_2) (IC.block 0 (IC.loop b8_1))) (IC.seq (IC.reg r8_15) IC.ret))))
abbrev g8 : FC := ⟨c8, 66, [.t 2]⟩
theorem comp8 : compF Go.Proofs.Tryd.prog (fun _ => 0) 8 = some g8 := by kernel_rfl

-- outlaw/glob.Match
abbrev r9_0 : List IOp := [⟨some 6, .op (.mov), [.c (.bool false)], none⟩]
abbrev r9_1 : List IOp := [⟨some 7, .op (.mov), [.f 23], none⟩]
abbrev r9_2 : List IOp := [⟨some 12, .op (.mov), [.t 2], none⟩]
abbrev r9_3 : List IOp := [⟨some 7, .op (.mov), [.f 24], none⟩]
abbrev r9_4 : List IOp := [⟨some 8, .op (.mov), [.c (.int .i64 0)], none⟩,
  ⟨some 9, .op (.mov), [.c (.int .i64 0)], none⟩]
abbrev r9_5 : List IOp := [⟨some 10, .op (.mov), [.c (.int .i64 (-1))], none⟩,
  ⟨some 11, .op (.mov), [.c (.int .i64 0)], none⟩]
abbrev r9_6 : List IOp := [⟨some 13, .op (.mov), [.t 9], none⟩,
  ⟨some 14, .op (.mov), [.t 1], none⟩,
  ⟨some 15, .op (.len .str), [.t 14], none⟩,
  ⟨some 16, .op (.bin .lss .prim), [.t 13, .t 15], none⟩]
abbrev r9_7 : List IOp := [⟨some 18, .op (.mov), [.t 8], none⟩,
  ⟨some 19, .op (.mov), [.t 0], none⟩,
  ⟨some 20, .op (.len .str), [.t 19], none⟩,
  ⟨some 21, .op (.bin .lss .prim), [.t 18, .t 20], none⟩,
  ⟨some 22, .op (.mov), [.t 21], none⟩,
  ⟨some 23, .op (.mov), [.t 0], some (22, true)⟩,
  ⟨some 24, .op (.mov), [.t 8], some (22, true)⟩,
  ⟨some 25, .op (.idxs), [.t 23, .t 24], some (22, true)⟩,
  ⟨some 26, .op (.bin .eql .prim), [.t 25, .c (.int .u8 42)], some (22, true)⟩,
  ⟨some 27, .op (.pick), [.t 22, .t 26, .c (.bool false)], none⟩,
  ⟨some 17, .op (.mov), [.t 27], none⟩]
abbrev r9_8 : List IOp := [⟨some 28, .op (.mov), [.t 8], none⟩,
  ⟨some 29, .op (.mov), [.t 9], none⟩,
  ⟨some 10, .op (.mov), [.t 28], none⟩,
  ⟨some 11, .op (.mov), [.t 29], none⟩]
abbrev r9_9 : List IOp := [⟨some 30, .op (.mov), [.t 8], none⟩,
  ⟨some 31, .op (.bin .add .prim), [.t 30, .c (.int .i64 1)], none⟩,
  ⟨some 8, .op (.mov), [.t 31], none⟩]
abbrev r9_10 : List IOp := [⟨some 33, .op (.mov), [.t 8], none⟩,
  ⟨some 34, .op (.mov), [.t 0], none⟩,
  ⟨some 35, .op (.len .str), [.t 34], none⟩,
  ⟨some 36, .op (.bin .lss .prim), [.t 33, .t 35], none⟩,
  ⟨some 37, .op (.mov), [.t 36], none⟩,
  ⟨some 38, .op (.mov), [.t 0], some (37, true)⟩,
  ⟨some 39, .op (.mov), [.t 8], some (37, true)⟩,
  ⟨some 40, .op (.idxs), [.t 38, .t 39], some (37, true)⟩,
  ⟨some 41, .op (.bin .eql .prim), [.t 40, .c (.int .u8 63)], some (37, true)⟩,
  ⟨some 42, .op (.mov), [.t 41], some (37, true)⟩,
  ⟨some 43, .op (.mov), [.t 7], some (42, false)⟩,
  ⟨some 44, .op (.mov), [.t 0], some (42, false)⟩,
  ⟨some 45, .op (.mov), [.t 8], some (42, false)⟩,
  ⟨some 46, .op (.idxs), [.t 44, .t 45], some (42, false)⟩,
  ⟨some 47, .op (.mov), [.t 1], some (42, false)⟩,
  ⟨some 48, .op (.mov), [.t 9], some (42, false)⟩,
  ⟨some 49, .op (.idxs), [.t 47, .t 48], some (42, false)⟩,
  ⟨some 50, .call none, [.t 43, .t 46, .t 49], some (42, false)⟩,
  ⟨some 51, .op (.pick), [.t 42, .c (.bool true), .t 50], some (37, true)⟩,
  ⟨some 52, .op (.pick), [.t 37, .t 51, .c (.bool false)], none⟩,
  ⟨some 32, .op (.mov), [.t 52], none⟩]
abbrev r9_11 : List IOp := [⟨some 53, .op (.mov), [.t 8], none⟩,
  ⟨some 54, .op (.bin .add .prim), [.t 53, .c (.int .i64 1)], none⟩,
  ⟨some 8, .op (.mov), [.t 54], none⟩]
abbrev r9_12 : List IOp := [⟨some 55, .op (.mov), [.t 9], none⟩,
  ⟨some 56, .op (.bin .add .prim), [.t 55, .c (.int .i64 1)], none⟩,
  ⟨some 9, .op (.mov), [.t 56], none⟩]
abbrev r9_13 : List IOp := [⟨some 58, .op (.mov), [.t 10], none⟩,
  ⟨some 59, .op (.bin .lss .prim), [.t 58, .c (.int .i64 0)], none⟩,
  ⟨some 57, .op (.mov), [.t 59], none⟩]
abbrev r9_14 : List IOp := [⟨some 6, .op (.mov), [.c (.bool false)], none⟩]
abbrev r9_15 : List IOp := [⟨some 60, .op (.mov), [.t 11], none⟩,
  ⟨some 61, .op (.bin .add .prim), [.t 60, .c (.int .i64 1)], none⟩,
  ⟨some 11, .op (.mov), [.t 61], none⟩]
abbrev r9_16 : List IOp := [⟨some 62, .op (.mov), [.t 10], none⟩,
  ⟨some 63, .op (.bin .add .prim), [.t 62, .c (.int .i64 1)], none⟩,
  ⟨some 64, .op (.mov), [.t 11], none⟩,
  ⟨some 8, .op (.mov), [.t 63], none⟩,
  ⟨some 9, .op (.mov), [.t 64], none⟩]
abbrev b9_0 : IC := (IC.seq (IC.seq (IC.reg r9_6) (IC.cond (.t 16) IC.skip (IC.exit 0))) (IC.block 1 (IC.seq (IC.block 2 (IC.seq (IC.reg r9_7) (IC.cond (.t 17) (IC.seq (IC.reg r9_8) (IC.seq (IC.reg r9_9) (IC.exit 1))) (IC.seq (IC.regD .wild r9_10 (.take 0 (.take 1 (.take 2 (.take 3 (.take 4 (.take 5 (.take 6 (.take 7 (.take 8 (.take 9 (.take 10 (.take 11 (.take 12 (.take 13 (.take 14 (.take 15 (.take 16 (.take 17 (.take 18 (.take 19 (.take 20 (.done))))))))))))))))))))))) (IC.cond (.t 32) (IC.seq (IC.reg r9_11) (IC.seq (IC.reg r9_12) (IC.exit 1))) (IC.seq (IC.reg r9_13) (IC.cond (.t 57) (IC.seq (IC.reg r9_14) IC.ret) IC.skip))))))) (IC.seq (IC.reg r9_15) (IC.reg r9_16)))))
abbrev r9_17 : List IOp := [⟨some 65, .op (.mov), [.t 8], none⟩,
  ⟨some 66, .op (.mov), [.t 0], none⟩,
  ⟨some 67, .op (.len .str), [.t 66], none⟩,
  ⟨some 68, .op (.bin .lss .prim), [.t 65, .t 67], none⟩,
  ⟨some 69, .op (.mov), [.t 68], none⟩,
  ⟨some 70, .op (.mov), [.t 0], some (69, true)⟩,
  ⟨some 71, .op (.mov), [.t 8], some (69, true)⟩,
  ⟨some 72, .op (.idxs), [.t 70, .t 71], some (69, true)⟩,
  ⟨some 73, .op (.bin .eql .prim), [.t 72, .c (.int .u8 42)], some (69, true)⟩,
  ⟨some 74, .op (.pick), [.t 69, .t 73, .c (.bool false)], none⟩]
abbrev r9_18 : List IOp := [⟨some 75, .op (.mov), [.t 8], none⟩,
  ⟨some 76, .op (.bin .add .prim), [.t 75, .c (.int .i64 1)], none⟩,
  ⟨some 8, .op (.mov), [.t 76], none⟩]
abbrev b9_1 : IC := (IC.seq (IC.seq (IC.reg r9_17) (IC.cond (.t 74) IC.skip (IC.exit 3))) (IC.block 4 (IC.reg r9_18)))
abbrev r9_19 : List IOp := [⟨some 77, .op (.mov), [.t 8], none⟩,
  ⟨some 78, .op (.mov), [.t 0], none⟩,
  ⟨some 79, .op (.len .str), [.t 78], none⟩,
  ⟨some 80, .op (.bin .eql .prim), [.t 77, .t 79], none⟩,
  ⟨some 6, .op (.mov), [.t 80], none⟩]
abbrev c9 : IC := (IC.seq (IC.reg r9_0) (IC.seq (IC.reg r9_1) (IC.seq (IC.seq (IC.reg r9_2) (IC.cond (.t 12) (IC.reg r9_3) IC.skip)) (IC.seq (IC.reg r9_4) (IC.seq (IC.reg r9_5) (IC.seq IC.skip (IC.seq (IC.block 0 (IC.loop b9_0)) (IC.seq (IC.block 3 (IC.loop b9_1)) (IC.seq (IC.reg r9_19) IC.ret)))))))))
abbrev g9 : FC := ⟨c9, 81, [.t 6]⟩
theorem comp9 : compF Go.Proofs.Tryd.prog (hintL [(10, 6)]) 9 = some g9 := by kernel_rfl

-- outlaw/glob.Least
abbrev r10_0 : List IOp := [⟨some 2, .op (.mov), [.c (.int .i64 0)], none⟩]
abbrev r10_1 : List IOp := [⟨some 3, .op (.mov), [.t 0], none⟩,
  ⟨some 4, .op (.len .str), [.t 3], none⟩,
  ⟨some 5, .op (.mov), [.t 0], none⟩,
  ⟨some 6, .op (.s2b 5), [.t 5], none⟩,
  ⟨some 7, .op (.bsl 5 1 false), [.c (.int .u8 42)], none⟩,
  ⟨some 8, .op (.cvs), [.t 7], none⟩,
  ⟨some 9, .call none, [.f 21, .t 6, .t 8], none⟩,
  ⟨some 10, .op (.bin .sub .prim), [.t 4, .t 9], none⟩,
  ⟨some 2, .op (.mov), [.t 10], none⟩]
abbrev c10 : IC := (IC.seq (IC.reg r10_0) (IC.seq (IC.reg r10_1) IC.ret))
abbrev g10 : FC := ⟨c10, 11, [.t 2]⟩
theorem comp10 : compF Go.Proofs.Tryd.prog (fun _ => 0) 10 = some g10 := by kernel_rfl

-- outlaw/glob.Literal
abbrev r11_0 : List IOp := [⟨some 2, .op (.mov), [.c (.str [])], none⟩,
  ⟨some 3, .op (.mov), [.c (.bool false)], none⟩]
abbrev r11_1 : List IOp := [⟨some 4, .op (.mov), [.t 0], none⟩,
  ⟨some 5, .op (.s2b 5), [.t 4], none⟩,
  ⟨some 6, .call none, [.f 26, .t 5, .c (.str [42, 63])], none⟩]
abbrev r11_2 : List IOp := [⟨some 2, .op (.mov), [.c (.str [])], none⟩,
  ⟨some 3, .op (.mov), [.c (.bool false)], none⟩]
abbrev r11_3 : List IOp := [⟨some 7, .op (.mov), [.t 0], none⟩,
  ⟨some 2, .op (.mov), [.t 7], none⟩,
  ⟨some 3, .op (.mov), [.c (.bool true)], none⟩]
abbrev c11 : IC := (IC.seq (IC.reg r11_0) (IC.seq (IC.seq (IC.reg r11_1) (IC.cond (.t 6) (IC.seq (IC.reg r11_2) IC.ret) IC.skip)) (IC.seq (IC.reg r11_3) IC.ret)))
abbrev g11 : FC := ⟨c11, 8, [.t 2, .t 3]⟩
theorem comp11 : compF Go.Proofs.Tryd.prog (fun _ => 0) 11 = some g11 := by kernel_rfl

-- outlaw/glob.Fold
abbrev r12_0 : List IOp := [⟨some 2, .op (.mov), [.c (.str [])], none⟩]
abbrev r12_1 : List IOp := [⟨some 5, .op (.mov), [.t 0], none⟩,
  ⟨some 6, .op (.s2b 5), [.t 5], none⟩,
  ⟨some 3, .op (.mov), [.t 6], none⟩]
abbrev r12_2 : List IOp := [⟨some 7, .op (.mov), [.t 3], none⟩,
  ⟨some 8, .op (.len .slice), [.t 7], none⟩,
  ⟨some 9, .op (.mov), [.c (.int .i64 0)], none⟩]
abbrev r12_3 : List IOp := [⟨some 10, .op (.bin .lss .prim), [.t 9, .t 8], none⟩]
abbrev r12_4 : List IOp := [⟨some 11, .op (.mov), [.t 9], none⟩,
  ⟨some 4, .op (.mov), [.t 11], none⟩]
abbrev r12_5 : List IOp := [⟨some 12, .op (.mov), [.t 3], none⟩,
  ⟨some 13, .op (.mov), [.t 4], none⟩,
  ⟨some 14, .op (.mov), [.t 3], none⟩,
  ⟨some 15, .op (.mov), [.t 4], none⟩,
  ⟨some 16, .op (.iaddr 1), [.t 14, .t 15], none⟩,
  ⟨some 17, .op (.load none), [.t 16], none⟩,
  ⟨some 18, .call none, [.f 25, .t 17], none⟩,
  ⟨some 19, .op (.iaddr 1), [.t 12, .t 13], none⟩,
  ⟨none, .op (.store 1), [.t 19, .t 18], none⟩]
abbrev r12_6 : List IOp := [⟨some 20, .op (.bin .add .prim), [.t 9, .c (.int .i64 1)], none⟩,
  ⟨some 9, .op (.mov), [.t 20], none⟩]
abbrev b12_0 : IC := (IC.seq (IC.reg r12_3) (IC.seq (IC.cond (.t 10) IC.skip (IC.exit 0)) (IC.seq (IC.block 1 (IC.seq (IC.reg r12_4) (IC.reg r12_5))) (IC.reg r12_6))))
abbrev r12_7 : List IOp := [⟨some 21, .op (.mov), [.t 3], none⟩,
  ⟨some 22, .op (.b2s), [.t 21], none⟩,
  ⟨some 2, .op (.mov), [.t 22], none⟩]
abbrev c12 : IC := (IC.seq (IC.reg r12_0) (IC.seq (IC.reg r12_1) (IC.seq (IC.seq (IC.reg r12_2) (IC.block 0 (IC.loop b12_0))) (IC.seq (IC.reg r12_7) IC.ret))))
abbrev g12 : FC := ⟨c12, 23, [.t 2]⟩
theorem comp12 : compF Go.Proofs.Tryd.prog (fun _ => 0) 12 = some g12 := by kernel_rfl

-- outlaw/outlawref07.Literal
abbrev r14_0 : List IOp := [⟨some 2, .op (.mov), [.c (.str [])], none⟩,
  ⟨some 3, .op (.mov), [.c (.bool false)], none⟩]
abbrev r14_1 : List IOp := [⟨some 4, .op (.mov), [.c (.int .i64 0)], none⟩]
abbrev r14_2 : List IOp := [⟨some 5, .op (.mov), [.t 4], none⟩,
  ⟨some 6, .op (.mov), [.t 0], none⟩,
  ⟨some 7, .op (.len .str), [.t 6], none⟩,
  ⟨some 8, .op (.bin .lss .prim), [.t 5, .t 7], none⟩]
abbrev r14_3 : List IOp := [⟨some 11, .op (.mov), [.t 0], none⟩,
  ⟨some 12, .op (.mov), [.t 4], none⟩,
  ⟨some 13, .op (.idxs), [.t 11, .t 12], none⟩,
  ⟨some 14, .call none, [.f 27, .t 13], none⟩]
abbrev r14_4 : List IOp := [⟨some 2, .op (.mov), [.c (.str [])], none⟩,
  ⟨some 3, .op (.mov), [.c (.bool false)], none⟩]
abbrev r14_5 : List IOp := [⟨some 9, .op (.mov), [.t 4], none⟩,
  ⟨some 10, .op (.bin .add .prim), [.t 9, .c (.int .i64 1)], none⟩,
  ⟨some 4, .op (.mov), [.t 10], none⟩]
abbrev b14_0 : IC := (IC.seq (IC.seq (IC.reg r14_2) (IC.cond (.t 8) IC.skip (IC.exit 0))) (IC.seq (IC.block 1 (IC.seq (IC.reg r14_3) (IC.cond (.t 14) (IC.seq (IC.reg r14_4) IC.ret) IC.skip))) (IC.reg r14_5)))
abbrev r14_6 : List IOp := [⟨some 15, .op (.mov), [.t 0], none⟩,
  ⟨some 2, .op (.mov), [.t 15], none⟩,
  ⟨some 3, .op (.mov), [.c (.bool true)], none⟩]
abbrev c14 : IC := (IC.seq (IC.reg r14_0) (IC.seq (IC.seq (IC.reg r14_1) (IC.block 0 (IC.loop b14_0))) (IC.seq (IC.reg r14_6) IC.ret)))
abbrev g14 : FC := ⟨c14, 16, [.t 2, .t 3]⟩
theorem comp14 : compF Go.Proofs.Tryd.prog (fun _ => 0) 14 = some g14 := by kernel_rfl

-- outlaw/glob.Check
abbrev r13_0 : List IOp := [⟨some 2, .op (.mov), [.c (.int .i64 0)], none⟩]
abbrev r13_1 : List IOp := [⟨some 4, .op (.mov), [.t 0], none⟩,
  ⟨some 5, .op (.bin .eql .prim), [.t 4, .c (.str [])], none⟩,
  ⟨some 3, .op (.mov), [.t 5], none⟩]
abbrev r13_2 : List IOp := [⟨some 2, .op (.mov), [.c (.int .i64 2)], none⟩]
abbrev r13_3 : List IOp := [⟨some 7, .op (.mov), [.t 0], none⟩,
  ⟨some 8, .op (.len .str), [.t 7], none⟩,
  ⟨some 9, .op (.bin .gtr .prim), [.t 8, .c (.int .i64 255)], none⟩,
  ⟨some 6, .op (.mov), [.t 9], none⟩]
abbrev r13_4 : List IOp := [⟨some 2, .op (.mov), [.c (.int .i64 4)], none⟩]
abbrev r13_5 : List IOp := [⟨some 2, .op (.mov), [.c (.int .i64 0)], none⟩]
abbrev c13 : IC := (IC.seq (IC.reg r13_0) (IC.seq (IC.block 0 (IC.seq (IC.reg r13_1) (IC.cond (.t 3) (IC.seq (IC.reg r13_2) IC.ret) (IC.seq (IC.reg r13_3) (IC.cond (.t 6) (IC.seq (IC.reg r13_4) IC.ret) IC.skip))))) (IC.seq (IC.reg r13_5) IC.ret)))
abbrev g13 : FC := ⟨c13, 10, [.t 2]⟩
theorem comp13 : compF Go.Proofs.Tryd.prog (fun _ => 0) 13 = some g13 := by kernel_rfl

-- outlaw/outlawref07.Check
abbrev r15_0 : List IOp := [⟨some 2, .op (.mov), [.c (.int .i64 0)], none⟩]
abbrev r15_1 : List IOp := [⟨some 4, .op (.mov), [.t 0], none⟩,
  ⟨some 5, .op (.bin .eql .prim), [.t 4, .c (.str [])], none⟩,
  ⟨some 3, .op (.mov), [.t 5], none⟩]
abbrev r15_2 : List IOp := [⟨some 2, .op (.mov), [.c (.int .i64 2)], none⟩]
abbrev r15_3 : List IOp := [⟨some 7, .op (.mov), [.t 0], none⟩,
  ⟨some 8, .op (.len .str), [.t 7], none⟩,
  ⟨some 9, .op (.bin .gtr .prim), [.t 8, .c (.int .i64 255)], none⟩,
  ⟨some 6, .op (.mov), [.t 9], none⟩]
abbrev r15_4 : List IOp := [⟨some 2, .op (.mov), [.c (.int .i64 4)], none⟩]
abbrev r15_5 : List IOp := [⟨some 2, .op (.mov), [.c (.int .i64 0)], none⟩]
abbrev c15 : IC := (IC.seq (IC.reg r15_0) (IC.seq (IC.block 0 (IC.seq (IC.reg r15_1) (IC.cond (.t 3) (IC.seq (IC.reg r15_2) IC.ret) (IC.seq (IC.reg r15_3) (IC.cond (.t 6) (IC.seq (IC.reg r15_4) IC.ret) IC.skip))))) (IC.seq (IC.reg r15_5) IC.ret)))
abbrev g15 : FC := ⟨c15, 10, [.t 2]⟩
theorem comp15 : compF Go.Proofs.Tryd.prog (fun _ => 0) 15 = some g15 := by kernel_rfl

-- outlaw/outlawref07.Match
abbrev r16_0 : List IOp := [⟨some 6, .op (.mov), [.c (.bool false)], none⟩]
abbrev r16_1 : List IOp := [⟨some 11, .op (.mov), [.t 2], none⟩]
abbrev r16_2 : List IOp := [⟨some 12, .op (.mov), [.t 0], none⟩,
  ⟨some 13, .call none, [.f 19, .t 12], none⟩,
  ⟨some 14, .op (.mov), [.t 1], none⟩,
  ⟨some 15, .call none, [.f 19, .t 14], none⟩,
  ⟨some 0, .op (.mov), [.t 13], none⟩,
  ⟨some 1, .op (.mov), [.t 15], none⟩]
abbrev r16_3 : List IOp := [⟨some 16, .op (.mov), [.t 1], none⟩,
  ⟨some 17, .op (.len .str), [.t 16], none⟩,
  ⟨some 18, .op (.bin .add .prim), [.t 17, .c (.int .i64 1)], none⟩,
  ⟨some 19, .op (.make 4 [.bool false] 1), [.t 18, .t 18], none⟩,
  ⟨some 7, .op (.mov), [.t 19], none⟩]
abbrev r16_4 : List IOp := [⟨some 20, .op (.mov), [.t 7], none⟩,
  ⟨some 21, .op (.iaddr 1), [.t 20, .c (.int .i64 0)], none⟩,
  ⟨none, .op (.store 1), [.t 21, .c (.bool true)], none⟩]
abbrev r16_5 : List IOp := [⟨some 8, .op (.mov), [.c (.int .i64 0)], none⟩]
abbrev r16_6 : List IOp := [⟨some 22, .op (.mov), [.t 8], none⟩,
  ⟨some 23, .op (.mov), [.t 0], none⟩,
  ⟨some 24, .op (.len .str), [.t 23], none⟩,
  ⟨some 25, .op (.bin .lss .prim), [.t 22, .t 24], none⟩]
abbrev r16_7 : List IOp := [⟨some 28, .op (.mov), [.t 1], none⟩,
  ⟨some 29, .op (.len .str), [.t 28], none⟩,
  ⟨some 30, .op (.bin .add .prim), [.t 29, .c (.int .i64 1)], none⟩,
  ⟨some 31, .op (.make 4 [.bool false] 1), [.t 30, .t 30], none⟩,
  ⟨some 9, .op (.mov), [.t 31], none⟩]
abbrev r16_8 : List IOp := [⟨some 10, .op (.mov), [.c (.int .i64 0)], none⟩]
abbrev r16_9 : List IOp := [⟨some 32, .op (.mov), [.t 10], none⟩,
  ⟨some 33, .op (.mov), [.t 1], none⟩,
  ⟨some 34, .op (.len .str), [.t 33], none⟩,
  ⟨some 35, .op (.bin .leq .prim), [.t 32, .t 34], none⟩]
abbrev r16_10 : List IOp := [⟨some 39, .op (.mov), [.t 0], none⟩,
  ⟨some 40, .op (.mov), [.t 8], none⟩,
  ⟨some 41, .op (.idxs), [.t 39, .t 40], none⟩,
  ⟨some 42, .op (.bin .eql .prim), [.t 41, .c (.int .u8 42)], none⟩,
  ⟨some 38, .op (.mov), [.t 42], none⟩]
abbrev r16_11 : List IOp := [⟨some 43, .op (.mov), [.t 9], none⟩,
  ⟨some 44, .op (.mov), [.t 10], none⟩,
  ⟨some 45, .op (.mov), [.t 7], none⟩,
  ⟨some 46, .op (.mov), [.t 10], none⟩,
  ⟨some 47, .op (.iaddr 1), [.t 45, .t 46], none⟩,
  ⟨some 48, .op (.load none), [.t 47], none⟩,
  ⟨some 49, .op (.mov), [.t 48], none⟩,
  ⟨some 50, .op (.mov), [.t 10], some (49, false)⟩,
  ⟨some 51, .op (.bin .gtr .prim), [.t 50, .c (.int .i64 0)], some (49, false)⟩,
  ⟨some 52, .op (.mov), [.t 51], some (49, false)⟩,
  ⟨some 53, .op (.mov), [.t 9], some (52, true)⟩,
  ⟨some 54, .op (.mov), [.t 10], some (52, true)⟩,
  ⟨some 55, .op (.bin .sub .prim), [.t 54, .c (.int .i64 1)], some (52, true)⟩,
  ⟨some 56, .op (.iaddr 1), [.t 53, .t 55], some (52, true)⟩,
  ⟨some 57, .op (.load none), [.t 56], some (52, true)⟩,
  ⟨some 58, .op (.pick), [.t 52, .t 57, .c (.bool false)], some (49, false)⟩,
  ⟨some 59, .op (.pick), [.t 49, .c (.bool true), .t 58], none⟩,
  ⟨some 60, .op (.iaddr 1), [.t 43, .t 44], none⟩,
  ⟨none, .op (.store 1), [.t 60, .t 59], none⟩]
abbrev r16_12 : List IOp := [⟨some 62, .op (.mov), [.t 10], none⟩,
  ⟨some 63, .op (.bin .gtr .prim), [.t 62, .c (.int .i64 0)], none⟩,
  ⟨some 61, .op (.mov), [.t 63], none⟩]
abbrev r16_13 : List IOp := [⟨some 64, .op (.mov), [.t 9], none⟩,
  ⟨some 65, .op (.mov), [.t 10], none⟩,
  ⟨some 66, .op (.mov), [.t 7], none⟩,
  ⟨some 67, .op (.mov), [.t 10], none⟩,
  ⟨some 68, .op (.bin .sub .prim), [.t 67, .c (.int .i64 1)], none⟩,
  ⟨some 69, .op (.iaddr 1), [.t 66, .t 68], none⟩,
  ⟨some 70, .op (.load none), [.t 69], none⟩,
  ⟨some 71, .op (.mov), [.t 70], none⟩,
  ⟨some 72, .op (.mov), [.t 0], some (71, true)⟩,
  ⟨some 73, .op (.mov), [.t 8], some (71, true)⟩,
  ⟨some 74, .op (.idxs), [.t 72, .t 73], some (71, true)⟩,
  ⟨some 75, .op (.bin .eql .prim), [.t 74, .c (.int .u8 63)], some (71, true)⟩,
  ⟨some 76, .op (.mov), [.t 75], some (71, true)⟩,
  ⟨some 77, .op (.mov), [.t 0], some (76, false)⟩,
  ⟨some 78, .op (.mov), [.t 8], some (76, false)⟩,
  ⟨some 79, .op (.idxs), [.t 77, .t 78], some (76, false)⟩,
  ⟨some 80, .op (.mov), [.t 1], some (76, false)⟩,
  ⟨some 81, .op (.mov), [.t 10], some (76, false)⟩,
  ⟨some 82, .op (.bin .sub .prim), [.t 81, .c (.int .i64 1)], some (76, false)⟩,
  ⟨some 83, .op (.idxs), [.t 80, .t 82], some (76, false)⟩,
  ⟨some 84, .op (.bin .eql .prim), [.t 79, .t 83], some (76, false)⟩,
  ⟨some 85, .op (.pick), [.t 76, .c (.bool true), .t 84], some (71, true)⟩,
  ⟨some 86, .op (.pick), [.t 71, .t 85, .c (.bool false)], none⟩,
  ⟨some 87, .op (.iaddr 1), [.t 64, .t 65], none⟩,
  ⟨none, .op (.store 1), [.t 87, .t 86], none⟩]
abbrev r16_14 : List IOp := [⟨some 36, .op (.mov), [.t 10], none⟩,
  ⟨some 37, .op (.bin .add .prim), [.t 36, .c (.int .i64 1)], none⟩,
  ⟨some 10, .op (.mov), [.t 37], none⟩]
abbrev b16_0 : IC := (IC.seq (IC.seq (IC.reg r16_9) (IC.cond (.t 35) IC.skip (IC.exit 2))) (IC.seq (IC.block 3 (IC.block 4 (IC.seq (IC.reg r16_10) (IC.cond (.t 38) (IC.reg r16_11) (IC.seq (IC.reg r16_12) (IC.cond (.t 61) (IC.regD .wild r16_13 (.take 0 (.take 1 (.take 2 (.take 3 (.take 4 (.take 5 (.take 6 (.take 7 (.take 8 (.take 9 (.take 10 (.take 11 (.take 12 (.take 13 (.take 14 (.take 15 (.take 16 (.take 17 (.take 18 (.take 19 (.take 20 (.take 21 (.take 22 (.take 23 (.take 24 (.done))))))))))))))))))))))))))) IC.skip)))))) (IC.reg r16_14)))
abbrev r16_15 : List IOp := [⟨some 88, .op (.mov), [.t 9], none⟩,
  ⟨some 7, .op (.mov), [.t 88], none⟩]
abbrev r16_16 : List IOp := [⟨some 26, .op (.mov), [.t 8], none⟩,
  ⟨some 27, .op (.bin .add .prim), [.t 26, .c (.int .i64 1)], none⟩,
  ⟨some 8, .op (.mov), [.t 27], none⟩]
abbrev b16_1 : IC := (IC.seq (IC.seq (IC.reg r16_6) (IC.cond (.t 25) IC.skip (IC.exit 0))) (IC.seq (IC.block 1 (IC.seq (IC.reg r16_7) (IC.seq (IC.seq (IC.reg r16_8) (IC.block 2 (IC.loop b16_0))) (IC.reg r16_15)))) (IC.reg r16_16)))
abbrev r16_17 : List IOp := [⟨some 89, .op (.mov), [.t 7], none⟩,
  ⟨some 90, .op (.mov), [.t 1], none⟩,
  ⟨some 91, .op (.len .str), [.t 90], none⟩,
  ⟨some 92, .op (.iaddr 1), [.t 89, .t 91], none⟩,
  ⟨some 93, .op (.load none), [.t 92], none⟩,
  ⟨some 6, .op (.mov), [.t 93], none⟩]
abbrev c16 : IC := (IC.seq (IC.reg r16_0) (IC.seq (IC.seq (IC.reg r16_1) (IC.cond (.t 11) (IC.reg r16_2) IC.skip)) (IC.seq (IC.reg r16_3) (IC.seq (IC.reg r16_4) (IC.seq (IC.seq (IC.reg r16_5) (IC.block 0 (IC.loop b16_1))) (IC.seq (IC.reg r16_17) IC.ret))))))
abbrev g16 : FC := ⟨c16, 94, [.t 6]⟩
theorem comp16 : compF Go.Proofs.Tryd.prog (hintL [(15, 6)]) 16 = some g16 := by kernel_rfl

-- outlaw/outlawref07.Norm
abbrev r17_0 : List IOp := [⟨some 2, .op (.mov), [.c (.str [])], none⟩]
abbrev r17_1 : List IOp := [⟨some 3, .op (.mov), [.c (.nils)], none⟩]
abbrev r17_2 : List IOp := [⟨some 4, .op (.mov), [.c (.bool false)], none⟩]
abbrev r17_3 : List IOp := [⟨some 5, .op (.mov), [.c (.int .i64 0)], none⟩]
abbrev r17_4 : List IOp := [⟨some 6, .op (.mov), [.t 5], none⟩,
  ⟨some 7, .op (.mov), [.t 0], none⟩,
  ⟨some 8, .op (.len .str), [.t 7], none⟩,
  ⟨some 9, .op (.bin .leq .prim), [.t 6, .t 8], none⟩]
abbrev r17_5 : List IOp := [⟨some 12, .op (.mov), [.t 4], none⟩,
  ⟨some 13, .op (.mov), [.t 12], none⟩,
  ⟨some 14, .op (.mov), [.t 5], some (13, true)⟩,
  ⟨some 15, .op (.mov), [.t 0], some (13, true)⟩,
  ⟨some 16, .op (.len .str), [.t 15], some (13, true)⟩,
  ⟨some 17, .op (.bin .eql .prim), [.t 14, .t 16], some (13, true)⟩,
  ⟨some 18, .op (.mov), [.t 17], some (13, true)⟩,
  ⟨some 19, .op (.mov), [.t 0], some (18, false)⟩,
  ⟨some 20, .op (.mov), [.t 5], some (18, false)⟩,
  ⟨some 21, .op (.idxs), [.t 19, .t 20], some (18, false)⟩,
  ⟨some 22, .call none, [.f 27, .t 21], some (18, false)⟩,
  ⟨some 23, .op (.un .not), [.t 22], some (18, false)⟩,
  ⟨some 24, .op (.pick), [.t 18, .c (.bool true), .t 23], some (13, true)⟩,
  ⟨some 25, .op (.pick), [.t 13, .t 24, .c (.bool false)], none⟩]
abbrev r17_6 : List IOp := [⟨some 26, .op (.mov), [.t 3], none⟩,
  ⟨some 27, .op (.bsl 5 1 false), [.c (.int .u8 42)], none⟩,
  ⟨some 28, .op (.app 5 1 1), [.t 26, .t 27], none⟩,
  ⟨some 3, .op (.mov), [.t 28], none⟩,
  ⟨some 4, .op (.mov), [.c (.bool false)], none⟩]
abbrev r17_7 : List IOp := [⟨some 29, .op (.mov), [.t 5], none⟩,
  ⟨some 30, .op (.mov), [.t 0], none⟩,
  ⟨some 31, .op (.len .str), [.t 30], none⟩,
  ⟨some 32, .op (.bin .lss .prim), [.t 29, .t 31], none⟩,
  ⟨some 33, .op (.mov), [.t 32], none⟩,
  ⟨some 34, .op (.mov), [.t 0], some (33, true)⟩,
  ⟨some 35, .op (.mov), [.t 5], some (33, true)⟩,
  ⟨some 36, .op (.idxs), [.t 34, .t 35], some (33, true)⟩,
  ⟨some 37, .op (.bin .eql .prim), [.t 36, .c (.int .u8 42)], some (33, true)⟩,
  ⟨some 38, .op (.pick), [.t 33, .t 37, .c (.bool false)], none⟩]
abbrev r17_8 : List IOp := [⟨some 4, .op (.mov), [.c (.bool true)], none⟩]
abbrev r17_9 : List IOp := [⟨some 39, .op (.mov), [.t 5], none⟩,
  ⟨some 40, .op (.mov), [.t 0], none⟩,
  ⟨some 41, .op (.len .str), [.t 40], none⟩,
  ⟨some 42, .op (.bin .lss .prim), [.t 39, .t 41], none⟩]
abbrev r17_10 : List IOp := [⟨some 43, .op (.mov), [.t 3], none⟩,
  ⟨some 44, .op (.mov), [.t 0], none⟩,
  ⟨some 45, .op (.mov), [.t 5], none⟩,
  ⟨some 46, .op (.idxs), [.t 44, .t 45], none⟩,
  ⟨some 47, .op (.bsl 5 1 false), [.t 46], none⟩,
  ⟨some 48, .op (.app 5 1 1), [.t 43, .t 47], none⟩,
  ⟨some 3, .op (.mov), [.t 48], none⟩]
abbrev r17_11 : List IOp := [⟨some 10, .op (.mov), [.t 5], none⟩,
  ⟨some 11, .op (.bin .add .prim), [.t 10, .c (.int .i64 1)], none⟩,
  ⟨some 5, .op (.mov), [.t 11], none⟩]
abbrev b17_0 : IC := (IC.seq (IC.seq (IC.reg r17_4) (IC.cond (.t 9) IC.skip (IC.exit 0))) (IC.seq (IC.block 1 (IC.seq (IC.seq (IC.reg r17_5) (IC.cond (.t 25) (IC.reg r17_6) IC.skip)) (IC.seq (IC.reg r17_7) (IC.cond (.t 38) (IC.reg r17_8) (IC.seq (IC.reg r17_9) (IC.cond (.t 42) (IC.reg r17_10) IC.skip)))))) (IC.reg r17_11)))
abbrev r17_12 : List IOp := [⟨some 49, .op (.mov), [.t 3], none⟩,
  ⟨some 50, .op (.b2s), [.t 49], none⟩,
  ⟨some 2, .op (.mov), [.t 50], none⟩]
abbrev c17 : IC := (IC.seq (IC.reg r17_0) (IC.seq (IC.reg r17_1) (IC.seq (IC.reg r17_2) (IC.seq (IC.seq (IC.reg r17_3) (IC.block 0 (IC.loop b17_0))) (IC.seq (IC.reg r17_12) IC.ret)))))
abbrev g17 : FC := ⟨c17, 51, [.t 2]⟩
theorem comp17 : compF Go.Proofs.Tryd.prog (fun _ => 0) 17 = some g17 := by kernel_rfl

-- outlaw/outlawref07.Least
abbrev r18_0 : List IOp := [⟨some 2, .op (.mov), [.c (.int .i64 0)], none⟩]
abbrev r18_1 : List IOp := [⟨some 3, .op (.mov), [.c (.int .i64 0)], none⟩]
abbrev r18_2 : List IOp := [⟨some 4, .op (.mov), [.c (.int .i64 0)], none⟩]
abbrev r18_3 : List IOp := [⟨some 5, .op (.mov), [.t 4], none⟩,
  ⟨some 6, .op (.mov), [.t 0], none⟩,
  ⟨some 7, .op (.len .str), [.t 6], none⟩,
  ⟨some 8, .op (.bin .lss .prim), [.t 5, .t 7], none⟩]
abbrev r18_4 : List IOp := [⟨some 11, .op (.mov), [.t 0], none⟩,
  ⟨some 12, .op (.mov), [.t 4], none⟩,
  ⟨some 13, .op (.idxs), [.t 11, .t 12], none⟩,
  ⟨some 14, .op (.bin .neq .prim), [.t 13, .c (.int .u8 42)], none⟩]
abbrev r18_5 : List IOp := [⟨some 15, .op (.mov), [.t 3], none⟩,
  ⟨some 16, .op (.bin .add .prim), [.t 15, .c (.int .i64 1)], none⟩,
  ⟨some 3, .op (.mov), [.t 16], none⟩]
abbrev r18_6 : List IOp := [⟨some 9, .op (.mov), [.t 4], none⟩,
  ⟨some 10, .op (.bin .add .prim), [.t 9, .c (.int .i64 1)], none⟩,
  ⟨some 4, .op (.mov), [.t 10], none⟩]
abbrev b18_0 : IC := (IC.seq (IC.seq (IC.reg r18_3) (IC.cond (.t 8) IC.skip (IC.exit 0))) (IC.seq (IC.block 1 (IC.seq (IC.reg r18_4) (IC.cond (.t 14) (IC.reg r18_5) IC.skip))) (IC.reg r18_6)))
abbrev r18_7 : List IOp := [⟨some 17, .op (.mov), [.t 3], none⟩,
  ⟨some 2, .op (.mov), [.t 17], none⟩]
abbrev c18 : IC := (IC.seq (IC.reg r18_0) (IC.seq (IC.reg r18_1) (IC.seq (IC.seq (IC.reg r18_2) (IC.block 0 (IC.loop b18_0))) (IC.seq (IC.reg r18_7) IC.ret))))
abbrev g18 : FC := ⟨c18, 18, [.t 2]⟩
theorem comp18 : compF Go.Proofs.Tryd.prog (fun _ => 0) 18 = some g18 := by kernel_rfl

-- outlaw/outlawref07.Fold
abbrev r19_0 : List IOp := [⟨some 2, .op (.mov), [.c (.str [])], none⟩]
abbrev r19_1 : List IOp := [⟨some 5, .op (.mov), [.t 0], none⟩,
  ⟨some 6, .op (.s2b 5), [.t 5], none⟩,
  ⟨some 3, .op (.mov), [.t 6], none⟩]
abbrev r19_2 : List IOp := [⟨some 4, .op (.mov), [.c (.int .i64 0)], none⟩]
abbrev r19_3 : List IOp := [⟨some 7, .op (.mov), [.t 4], none⟩,
  ⟨some 8, .op (.mov), [.t 3], none⟩,
  ⟨some 9, .op (.len .slice), [.t 8], none⟩,
  ⟨some 10, .op (.bin .lss .prim), [.t 7, .t 9], none⟩]
abbrev r19_4 : List IOp := [⟨some 13, .op (.mov), [.t 3], none⟩,
  ⟨some 14, .op (.mov), [.t 4], none⟩,
  ⟨some 15, .op (.iaddr 1), [.t 13, .t 14], none⟩,
  ⟨some 16, .op (.load none), [.t 15], none⟩,
  ⟨some 17, .op (.bin .geq .prim), [.t 16, .c (.int .u8 65)], none⟩,
  ⟨some 18, .op (.mov), [.t 17], none⟩,
  ⟨some 19, .op (.mov), [.t 3], some (18, true)⟩,
  ⟨some 20, .op (.mov), [.t 4], some (18, true)⟩,
  ⟨some 21, .op (.iaddr 1), [.t 19, .t 20], some (18, true)⟩,
  ⟨some 22, .op (.load none), [.t 21], some (18, true)⟩,
  ⟨some 23, .op (.bin .leq .prim), [.t 22, .c (.int .u8 90)], some (18, true)⟩,
  ⟨some 24, .op (.pick), [.t 18, .t 23, .c (.bool false)], none⟩]
abbrev r19_5 : List IOp := [⟨some 25, .op (.mov), [.t 3], none⟩,
  ⟨some 26, .op (.mov), [.t 4], none⟩,
  ⟨some 27, .op (.mov), [.t 3], none⟩,
  ⟨some 28, .op (.mov), [.t 4], none⟩,
  ⟨some 29, .op (.iaddr 1), [.t 27, .t 28], none⟩,
  ⟨some 30, .op (.load none), [.t 29], none⟩,
  ⟨some 31, .op (.bin .add .prim), [.t 30, .c (.int .u8 32)], none⟩,
  ⟨some 32, .op (.iaddr 1), [.t 25, .t 26], none⟩,
  ⟨none, .op (.store 1), [.t 32, .t 31], none⟩]
abbrev r19_6 : List IOp := [⟨some 11, .op (.mov), [.t 4], none⟩,
  ⟨some 12, .op (.bin .add .prim), [.t 11, .c (.int .i64 1)], none⟩,
  ⟨some 4, .op (.mov), [.t 12], none⟩]
abbrev b19_0 : IC := (IC.seq (IC.seq (IC.reg r19_3) (IC.cond (.t 10) IC.skip (IC.exit 0))) (IC.seq (IC.block 1 (IC.seq (IC.reg r19_4) (IC.cond (.t 24) (IC.reg r19_5) IC.skip))) (IC.reg r19_6)))
abbrev r19_7 : List IOp := [⟨some 33, .op (.mov), [.t 3], none⟩,
  ⟨some 34, .op (.b2s), [.t 33], none⟩,
  ⟨some 2, .op (.mov), [.t 34], none⟩]
abbrev c19 : IC := (IC.seq (IC.reg r19_0) (IC.seq (IC.reg r19_1) (IC.seq (IC.seq (IC.reg r19_2) (IC.block 0 (IC.loop b19_0))) (IC.seq (IC.reg r19_7) IC.ret))))
abbrev g19 : FC := ⟨c19, 35, [.t 2]⟩
theorem comp19 : compF Go.Proofs.Tryd.prog (fun _ => 0) 19 = some g19 := by kernel_rfl

-- outlaw/outlawkit.LightTexts
abbrev r20_0 : List IOp := [⟨some 6, .op (.mov), [.c (.bool false)], none⟩]
abbrev r20_1 : List IOp := [⟨some 7, .op (.mov), [.c (.int .i64 0)], none⟩]
abbrev r20_2 : List IOp := [⟨some 8, .op (.mov), [.t 7], none⟩,
  ⟨some 9, .op (.mov), [.t 0], none⟩,
  ⟨some 10, .op (.len .slice), [.t 9], none⟩,
  ⟨some 11, .op (.bin .lss .prim), [.t 8, .t 10], none⟩]
abbrev r20_3 : List IOp := [⟨some 14, .op (.mov), [.t 0], none⟩,
  ⟨some 15, .op (.mov), [.t 7], none⟩,
  ⟨some 16, .op (.iaddr 1), [.t 14, .t 15], none⟩,
  ⟨some 17, .op (.load none), [.t 16], none⟩,
  ⟨some 18, .op (.len .str), [.t 17], none⟩,
  ⟨some 19, .op (.mov), [.t 2], none⟩,
  ⟨some 20, .op (.bin .gtr .prim), [.t 18, .t 19], none⟩]
abbrev r20_4 : List IOp := [⟨some 6, .op (.mov), [.c (.bool false)], none⟩]
abbrev r20_5 : List IOp := [⟨some 12, .op (.mov), [.t 7], none⟩,
  ⟨some 13, .op (.bin .add .prim), [.t 12, .c (.int .i64 1)], none⟩,
  ⟨some 7, .op (.mov), [.t 13], none⟩]
abbrev b20_0 : IC := (IC.seq (IC.seq (IC.reg r20_2) (IC.cond (.t 11) IC.skip (IC.exit 0))) (IC.seq (IC.block 1 (IC.seq (IC.reg r20_3) (IC.cond (.t 20) (IC.seq (IC.reg r20_4) IC.ret) IC.skip))) (IC.reg r20_5)))
abbrev r20_6 : List IOp := [⟨some 21, .op (.mov), [.t 0], none⟩,
  ⟨some 22, .op (.len .slice), [.t 21], none⟩,
  ⟨some 23, .op (.mov), [.t 1], none⟩,
  ⟨some 24, .op (.bin .leq .prim), [.t 22, .t 23], none⟩,
  ⟨some 6, .op (.mov), [.t 24], none⟩]
abbrev c20 : IC := (IC.seq (IC.reg r20_0) (IC.seq (IC.seq (IC.reg r20_1) (IC.block 0 (IC.loop b20_0))) (IC.seq (IC.reg r20_6) IC.ret)))
abbrev g20 : FC := ⟨c20, 25, [.t 6]⟩
theorem comp20 : compF Go.Proofs.Tryd.prog (fun _ => 0) 20 = some g20 := by kernel_rfl

-- bytes.Count
abbrev r21_0 : List IOp := [⟨some 4, .op (.mov), [.c (.int .i64 0)], none⟩]
abbrev r21_1 : List IOp := [⟨some 7, .op (.mov), [.t 1], none⟩,
  ⟨some 8, .op (.len .slice), [.t 7], none⟩,
  ⟨some 9, .op (.bin .eql .prim), [.t 8, .c (.int .i64 0)], none⟩]
abbrev r21_2 : List IOp := [⟨some 10, .op (.mov), [.t 0], none⟩,
  ⟨some 11, .call none, [.f 28, .t 10], none⟩,
  ⟨some 12, .op (.bin .add .prim), [.t 11, .c (.int .i64 1)], none⟩,
  ⟨some 4, .op (.mov), [.t 12], none⟩]
abbrev r21_3 : List IOp := [⟨some 13, .op (.mov), [.t 1], none⟩,
  ⟨some 14, .op (.len .slice), [.t 13], none⟩,
  ⟨some 15, .op (.bin .eql .prim), [.t 14, .c (.int .i64 1)], none⟩]
abbrev r21_4 : List IOp := [⟨some 16, .op (.mov), [.t 0], none⟩,
  ⟨some 17, .op (.mov), [.t 1], none⟩,
  ⟨some 18, .op (.iaddr 1), [.t 17, .c (.int .i64 0)], none⟩,
  ⟨some 19, .op (.load none), [.t 18], none⟩,
  ⟨some 20, .call none, [.f 29, .t 16, .t 19], none⟩,
  ⟨some 4, .op (.mov), [.t 20], none⟩]
abbrev r21_5 : List IOp := [⟨some 5, .op (.mov), [.c (.int .i64 0)], none⟩]
abbrev r21_6 : List IOp := [⟨some 21, .op (.mov), [.t 0], none⟩,
  ⟨some 22, .op (.mov), [.t 1], none⟩,
  ⟨some 23, .call none, [.f 30, .t 21, .t 22], none⟩,
  ⟨some 6, .op (.mov), [.t 23], none⟩]
abbrev r21_7 : List IOp := [⟨some 24, .op (.mov), [.t 6], none⟩,
  ⟨some 25, .op (.bin .eql .prim), [.t 24, .c (.int .i64 (-1))], none⟩]
abbrev r21_8 : List IOp := [⟨some 26, .op (.mov), [.t 5], none⟩,
  ⟨some 4, .op (.mov), [.t 26], none⟩]
abbrev r21_9 : List IOp := [⟨some 27, .op (.mov), [.t 5], none⟩,
  ⟨some 28, .op (.bin .add .prim), [.t 27, .c (.int .i64 1)], none⟩,
  ⟨some 5, .op (.mov), [.t 28], none⟩]
abbrev r21_10 : List IOp := [⟨some 29, .op (.mov), [.t 0], none⟩,
  ⟨some 30, .op (.mov), [.t 6], none⟩,
  ⟨some 31, .op (.mov), [.t 1], none⟩,
  ⟨some 32, .op (.len .slice), [.t 31], none⟩,
  ⟨some 33, .op (.bin .add .prim), [.t 30, .t 32], none⟩,
  ⟨some 34, .op (.slice 1 true false false), [.t 29, .t 33], none⟩,
  ⟨some 0, .op (.mov), [.t 34], none⟩]
abbrev b21_0 : IC := (IC.block 1 (IC.seq (IC.reg r21_6) (IC.seq (IC.seq (IC.reg r21_7) (IC.cond (.t 25) (IC.seq (IC.reg r21_8) IC.ret) IC.skip)) (IC.seq (IC.reg r21_9) (IC.reg r21_10)))))
abbrev c21 : IC := (IC.seq (IC.reg r21_0) (IC.seq (IC.seq (IC.reg r21_1) (IC.cond (.t 9) (IC.seq (IC.reg r21_2) IC.ret) IC.skip)) (IC.seq (IC.seq (IC.reg r21_3) (IC.cond (.t 15) (IC.seq (IC.reg r21_4) IC.ret) IC.skip)) (IC.seq (IC.reg r21_5) (IC.block 0 (IC.loop b21_0))))))
abbrev g21 : FC := ⟨c21, 35, [.t 4]⟩
theorem comp21 : compF Go.Proofs.Tryd.prog (fun _ => 0) 21 = some g21 := by kernel_rfl

-- bytes.Repeat
abbrev r22_0 : List IOp := [⟨some 4, .op (.mov), [.c (.nils)], none⟩]
abbrev r22_1 : List IOp := [⟨some 12, .op (.mov), [.t 1], none⟩,
  ⟨some 13, .op (.bin .eql .prim), [.t 12, .c (.int .i64 0)], none⟩]
abbrev r22_2 : List IOp := [⟨some 14, .op (.bsl 5 1 false), [], none⟩,
  ⟨some 4, .op (.mov), [.t 14], none⟩]
abbrev r22_3 : List IOp := [⟨some 15, .op (.mov), [.t 1], none⟩,
  ⟨some 16, .op (.bin .lss .prim), [.t 15, .c (.int .i64 0)], none⟩]
abbrev r22_4 : List IOp := [⟨some 17, .op (.mkif 9), [.c (.str [98, 121, 116, 101, 115, 58, 32, 110, 101, 103, 97, 116, 105, 118, 101, 32, 82, 101, 112, 101, 97, 116, 32, 99, 111, 117, 110, 116])], none⟩,
  ⟨none, .op (.never), [], none⟩]
abbrev r22_5 : List IOp := [⟨some 19, .op (.mov), [.t 0], none⟩,
  ⟨some 20, .op (.len .slice), [.t 19], none⟩,
  ⟨some 21, .op (.toInt .u64), [.t 20], none⟩,
  ⟨some 22, .op (.mov), [.t 1], none⟩,
  ⟨some 23, .op (.toInt .u64), [.t 22], none⟩,
  ⟨some 24, .call none, [.f 31, .t 21, .t 23], none⟩,
  ⟨some 18, .op (.mov), [.t 24], none⟩,
  ⟨some 25, .op (.extract 0), [.t 18], none⟩,
  ⟨some 26, .op (.extract 1), [.t 18], none⟩,
  ⟨some 5, .op (.mov), [.t 25], none⟩,
  ⟨some 6, .op (.mov), [.t 26], none⟩]
abbrev r22_6 : List IOp := [⟨some 27, .op (.mov), [.t 5], none⟩,
  ⟨some 28, .op (.bin .gtr .prim), [.t 27, .c (.int .u64 0)], none⟩,
  ⟨some 29, .op (.mov), [.t 28], none⟩,
  ⟨some 30, .op (.mov), [.t 6], some (29, false)⟩,
  ⟨some 31, .op (.bin .gtr .prim), [.t 30, .c (.int .u64 9223372036854775807)], some (29, false)⟩,
  ⟨some 32, .op (.pick), [.t 29, .c (.bool true), .t 31], none⟩]
abbrev r22_7 : List IOp := [⟨some 33, .op (.mkif 9), [.c (.str [98, 121, 116, 101, 115, 58, 32, 82, 101, 112, 101, 97, 116, 32, 111, 117, 116, 112, 117, 116, 32, 108, 101, 110, 103, 116, 104, 32, 111, 118, 101, 114, 102, 108, 111, 119])], none⟩,
  ⟨none, .op (.never), [], none⟩]
abbrev r22_8 : List IOp := [⟨some 34, .op (.mov), [.t 6], none⟩,
  ⟨some 35, .op (.toInt .i64), [.t 34], none⟩,
  ⟨some 7, .op (.mov), [.t 35], none⟩]
abbrev r22_9 : List IOp := [⟨some 36, .op (.mov), [.t 0], none⟩,
  ⟨some 37, .op (.len .slice), [.t 36], none⟩,
  ⟨some 38, .op (.bin .eql .prim), [.t 37, .c (.int .i64 0)], none⟩]
abbrev r22_10 : List IOp := [⟨some 39, .op (.bsl 5 1 false), [], none⟩,
  ⟨some 4, .op (.mov), [.t 39], none⟩]
abbrev r22_11 : List IOp := [⟨some 40, .op (.mov), [.t 7], none⟩,
  ⟨some 8, .op (.mov), [.t 40], none⟩]
abbrev r22_12 : List IOp := [⟨some 41, .op (.mov), [.t 8], none⟩,
  ⟨some 42, .op (.bin .gtr .prim), [.t 41, .c (.int .i64 8192)], none⟩]
abbrev r22_13 : List IOp := [⟨some 43, .op (.mov), [.t 0], none⟩,
  ⟨some 44, .op (.len .slice), [.t 43], none⟩,
  ⟨some 45, .op (.bin .quo .prim), [.c (.int .i64 8192), .t 44], none⟩,
  ⟨some 46, .op (.mov), [.t 0], none⟩,
  ⟨some 47, .op (.len .slice), [.t 46], none⟩,
  ⟨some 48, .op (.bin .mul .prim), [.t 45, .t 47], none⟩,
  ⟨some 8, .op (.mov), [.t 48], none⟩]
abbrev r22_14 : List IOp := [⟨some 49, .op (.mov), [.t 8], none⟩,
  ⟨some 50, .op (.bin .eql .prim), [.t 49, .c (.int .i64 0)], none⟩]
abbrev r22_15 : List IOp := [⟨some 51, .op (.mov), [.t 0], none⟩,
  ⟨some 52, .op (.len .slice), [.t 51], none⟩,
  ⟨some 8, .op (.mov), [.t 52], none⟩]
abbrev r22_16 : List IOp := [⟨some 53, .op (.mov), [.t 7], none⟩,
  ⟨some 54, .call none, [.f 32, .t 53], none⟩,
  ⟨some 55, .op (.mov), [.t 7], none⟩,
  ⟨some 56, .op (.mov), [.t 7], none⟩,
  ⟨some 57, .op (.slice 1 false true true), [.t 54, .t 55, .t 56], none⟩,
  ⟨some 9, .op (.mov), [.t 57], none⟩]
abbrev r22_17 : List IOp := [⟨some 58, .op (.mov), [.t 9], none⟩,
  ⟨some 59, .op (.mov), [.t 0], none⟩,
  ⟨some 60, .op (.cpy 1), [.t 58, .t 59], none⟩,
  ⟨some 10, .op (.mov), [.t 60], none⟩]
abbrev r22_18 : List IOp := [⟨some 61, .op (.mov), [.t 10], none⟩,
  ⟨some 62, .op (.mov), [.t 7], none⟩,
  ⟨some 63, .op (.bin .lss .prim), [.t 61, .t 62], none⟩]
abbrev r22_19 : List IOp := [⟨some 64, .op (.mov), [.t 10], none⟩,
  ⟨some 65, .op (.mov), [.t 8], none⟩,
  ⟨some 66, .op (.min), [.t 64, .t 65], none⟩,
  ⟨some 11, .op (.mov), [.t 66], none⟩]
abbrev r22_20 : List IOp := [⟨some 67, .op (.mov), [.t 10], none⟩,
  ⟨some 68, .op (.mov), [.t 9], none⟩,
  ⟨some 69, .op (.mov), [.t 10], none⟩,
  ⟨some 70, .op (.slice 1 true false false), [.t 68, .t 69], none⟩,
  ⟨some 71, .op (.mov), [.t 9], none⟩,
  ⟨some 72, .op (.mov), [.t 11], none⟩,
  ⟨some 73, .op (.slice 1 false true false), [.t 71, .t 72], none⟩,
  ⟨some 74, .op (.cpy 1), [.t 70, .t 73], none⟩,
  ⟨some 75, .op (.bin .add .prim), [.t 67, .t 74], none⟩,
  ⟨some 10, .op (.mov), [.t 75], none⟩]
abbrev b22_0 : IC := (IC.seq (IC.seq (IC.reg r22_18) (IC.cond (.t 63) IC.skip (IC.exit 0))) (IC.block 1 (IC.seq (IC.reg r22_19) (IC.regD .wild r22_20 (.take 0 (.take 1 (.take 2 (.take 3 (.take 4 (.take 5 (.take 6 (.take 7 (.take 8 (.take 9 (.done)))))))))))))))
abbrev r22_21 : List IOp := [⟨some 76, .op (.mov), [.t 9], none⟩,
  ⟨some 4, .op (.mov), [.t 76], none⟩]
abbrev c22 : IC := (IC.seq (IC.reg r22_0) (IC.seq (IC.seq (IC.reg r22_1) (IC.cond (.t 13) (IC.seq (IC.reg r22_2) IC.ret) IC.skip)) (IC.seq (IC.seq (IC.reg r22_3) (IC.cond (.t 16) (IC.reg r22_4) IC.skip)) (IC.seq (IC.reg r22_5) (IC.seq (IC.seq (IC.reg r22_6) (IC.cond (.t 32) (IC.reg r22_7) IC.skip)) (IC.seq (IC.reg r22_8) (IC.seq (IC.seq (IC.reg r22_9) (IC.cond (.t 38) (IC.seq (IC.reg r22_10) IC.ret) IC.skip)) (IC.seq (IC.reg r22_11) (IC.seq (IC.seq (IC.reg r22_12) (IC.cond (.t 42) (IC.seq (IC.reg r22_13) (IC.seq (IC.reg r22_14) (IC.cond (.t 50) (IC.reg r22_15) IC.skip))) IC.skip)) (IC.seq (IC.reg r22_16) (IC.seq (IC.reg r22_17) (IC.seq (IC.block 0 (IC.loop b22_0)) (IC.seq (IC.reg r22_21) IC.ret)))))))))))))
abbrev g22 : FC := ⟨c22, 77, [.t 4]⟩
theorem comp22 : compF Go.Proofs.Tryd.prog (hintL [(20, 6)]) 22 = some g22 := by kernel_rfl

-- outlaw/glob.Match$1
abbrev r23_0 : List IOp := [⟨some 4, .op (.mov), [.c (.bool false)], none⟩]
abbrev r23_1 : List IOp := [⟨some 5, .op (.mov), [.t 0], none⟩,
  ⟨some 6, .op (.mov), [.t 1], none⟩,
  ⟨some 7, .op (.bin .eql .prim), [.t 5, .t 6], none⟩,
  ⟨some 4, .op (.mov), [.t 7], none⟩]
abbrev c23 : IC := (IC.seq (IC.reg r23_0) (IC.seq (IC.reg r23_1) IC.ret))
abbrev g23 : FC := ⟨c23, 8, [.t 4]⟩
theorem comp23 : compF Go.Proofs.Tryd.prog (fun _ => 0) 23 = some g23 := by kernel_rfl

-- outlaw/glob.Match$2
abbrev r24_0 : List IOp := [⟨some 4, .op (.mov), [.c (.bool false)], none⟩]
abbrev r24_1 : List IOp := [⟨some 5, .op (.mov), [.t 0], none⟩,
  ⟨some 6, .call none, [.f 25, .t 5], none⟩,
  ⟨some 7, .op (.mov), [.t 1], none⟩,
  ⟨some 8, .call none, [.f 25, .t 7], none⟩,
  ⟨some 9, .op (.bin .eql .prim), [.t 6, .t 8], none⟩,
  ⟨some 4, .op (.mov), [.t 9], none⟩]
abbrev c24 : IC := (IC.seq (IC.reg r24_0) (IC.seq (IC.reg r24_1) IC.ret))
abbrev g24 : FC := ⟨c24, 10, [.t 4]⟩
theorem comp24 : compF Go.Proofs.Tryd.prog (fun _ => 0) 24 = some g24 := by kernel_rfl

-- bytes.ContainsAny
abbrev r26_0 : List IOp := [⟨some 4, .op (.mov), [.c (.bool false)], none⟩]
abbrev r26_1 : List IOp := [⟨some 5, .op (.mov), [.t 0], none⟩,
  ⟨some 6, .op (.mov), [.t 1], none⟩,
  ⟨some 7, .call none, [.f 33, .t 5, .t 6], none⟩,
  ⟨some 8, .op (.bin .geq .prim), [.t 7, .c (.int .i64 0)], none⟩,
  ⟨some 4, .op (.mov), [.t 8], none⟩]
abbrev c26 : IC := (IC.seq (IC.reg r26_0) (IC.seq (IC.reg r26_1) IC.ret))
abbrev g26 : FC := ⟨c26, 9, [.t 4]⟩
theorem comp26 : compF Go.Proofs.Tryd.prog (fun _ => 0) 26 = some g26 := by kernel_rfl

-- outlaw/glob.fold
abbrev r25_0 : List IOp := [⟨some 2, .op (.mov), [.c (.int .u8 0)], none⟩]
abbrev r25_1 : List IOp := [⟨some 3, .op (.mov), [.t 0], none⟩,
  ⟨some 4, .op (.bin .geq .prim), [.t 3, .c (.int .u8 65)], none⟩,
  ⟨some 5, .op (.mov), [.t 4], none⟩,
  ⟨some 6, .op (.mov), [.t 0], some (5, true)⟩,
  ⟨some 7, .op (.bin .leq .prim), [.t 6, .c (.int .u8 90)], some (5, true)⟩,
  ⟨some 8, .op (.pick), [.t 5, .t 7, .c (.bool false)], none⟩]
abbrev r25_2 : List IOp := [⟨some 9, .op (.mov), [.t 0], none⟩,
  ⟨some 10, .op (.bin .add .prim), [.t 9, .c (.int .u8 32)], none⟩,
  ⟨some 2, .op (.mov), [.t 10], none⟩]
abbrev r25_3 : List IOp := [⟨some 11, .op (.mov), [.t 0], none⟩,
  ⟨some 2, .op (.mov), [.t 11], none⟩]
abbrev c25 : IC := (IC.seq (IC.reg r25_0) (IC.seq (IC.seq (IC.reg r25_1) (IC.cond (.t 8) (IC.seq (IC.reg r25_2) IC.ret) IC.skip)) (IC.seq (IC.reg r25_3) IC.ret)))
abbrev g25 : FC := ⟨c25, 12, [.t 2]⟩
theorem comp25 : compF Go.Proofs.Tryd.prog (fun _ => 0) 25 = some g25 := by kernel_rfl

-- outlaw/outlawref07.Wild
abbrev r27_0 : List IOp := [⟨some 2, .op (.mov), [.c (.bool false)], none⟩]
abbrev r27_1 : List IOp := [⟨some 3, .op (.mov), [.t 0], none⟩,
  ⟨some 4, .op (.bin .eql .prim), [.t 3, .c (.int .u8 42)], none⟩,
  ⟨some 5, .op (.mov), [.t 4], none⟩,
  ⟨some 6, .op (.mov), [.t 0], some (5, false)⟩,
  ⟨some 7, .op (.bin .eql .prim), [.t 6, .c (.int .u8 63)], some (5, false)⟩,
  ⟨some 8, .op (.pick), [.t 5, .c (.bool true), .t 7], none⟩,
  ⟨some 2, .op (.mov), [.t 8], none⟩]
abbrev c27 : IC := (IC.seq (IC.reg r27_0) (IC.seq (IC.reg r27_1) IC.ret))
abbrev g27 : FC := ⟨c27, 9, [.t 2]⟩
theorem comp27 : compF Go.Proofs.Tryd.prog (fun _ => 0) 27 = some g27 := by kernel_rfl

-- unicode/utf8.RuneCount
abbrev r28_0 : List IOp := [⟨some 2, .op (.mov), [.c (.int .i64 0)], none⟩]
abbrev r28_1 : List IOp := [⟨some 6, .op (.mov), [.t 0], none⟩,
  ⟨some 7, .op (.len .slice), [.t 6], none⟩,
  ⟨some 3, .op (.mov), [.t 7], none⟩]
abbrev r28_2 : List IOp := [⟨some 4, .op (.mov), [.c (.int .i64 0)], none⟩]
abbrev r28_3 : List IOp := [⟨some 8, .op (.mov), [.t 4], none⟩,
  ⟨some 9, .op (.mov), [.t 3], none⟩,
  ⟨some 10, .op (.bin .lss .prim), [.t 8, .t 9], none⟩]
abbrev r28_4 : List IOp := [⟨some 13, .op (.mov), [.t 0], none⟩,
  ⟨some 14, .op (.mov), [.t 4], none⟩,
  ⟨some 15, .op (.iaddr 1), [.t 13, .t 14], none⟩,
  ⟨some 16, .op (.load none), [.t 15], none⟩,
  ⟨some 5, .op (.mov), [.t 16], none⟩]
abbrev r28_5 : List IOp := [⟨some 17, .op (.mov), [.t 5], none⟩,
  ⟨some 18, .op (.bin .geq .prim), [.t 17, .c (.int .u8 128)], none⟩]
abbrev r28_6 : List IOp := [⟨some 19, .op (.mov), [.t 4], none⟩,
  ⟨some 20, .op (.mov), [.t 0], none⟩,
  ⟨some 21, .op (.mov), [.t 4], none⟩,
  ⟨some 22, .op (.slice 1 true false false), [.t 20, .t 21], none⟩,
  ⟨some 23, .op (.b2s), [.t 22], none⟩,
  ⟨some 24, .call none, [.f 34, .t 23], none⟩,
  ⟨some 25, .op (.bin .add .prim), [.t 19, .t 24], none⟩,
  ⟨some 2, .op (.mov), [.t 25], none⟩]
abbrev r28_7 : List IOp := [⟨some 11, .op (.mov), [.t 4], none⟩,
  ⟨some 12, .op (.bin .add .prim), [.t 11, .c (.int .i64 1)], none⟩,
  ⟨some 4, .op (.mov), [.t 12], none⟩]
abbrev b28_0 : IC := (IC.seq (IC.seq (IC.reg r28_3) (IC.cond (.t 10) IC.skip (IC.exit 0))) (IC.seq (IC.block 1 (IC.seq (IC.reg r28_4) (IC.seq (IC.reg r28_5) (IC.cond (.t 18) (IC.seq (IC.reg r28_6) IC.ret) IC.skip)))) (IC.reg r28_7)))
abbrev r28_8 : List IOp := [⟨some 26, .op (.mov), [.t 4], none⟩,
  ⟨some 2, .op (.mov), [.t 26], none⟩]
abbrev c28 : IC := (IC.seq (IC.reg r28_0) (IC.seq (IC.reg r28_1) (IC.seq (IC.reg r28_2) (IC.seq (IC.block 0 (IC.loop b28_0)) (IC.seq (IC.reg r28_8) IC.ret)))))
abbrev g28 : FC := ⟨c28, 27, [.t 2]⟩
theorem comp28 : compF Go.Proofs.Tryd.prog (fun _ => 0) 28 = some g28 := by kernel_rfl


-- bytes.Index
abbrev r30_0 : List IOp := [⟨some 4, .op (.mov), [.c (.int .i64 0)], none⟩]
abbrev r30_1 : List IOp := [⟨some 20, .op (.mov), [.t 1], none⟩,
  ⟨some 21, .op (.len .slice), [.t 20], none⟩,
  ⟨some 5, .op (.mov), [.t 21], none⟩]
abbrev r30_2 : List IOp := [⟨some 23, .op (.mov), [.t 5], none⟩,
  ⟨some 24, .op (.bin .eql .prim), [.t 23, .c (.int .i64 0)], none⟩,
  ⟨some 22, .op (.mov), [.t 24], none⟩]
abbrev r30_3 : List IOp := [⟨some 4, .op (.mov), [.c (.int .i64 0)], none⟩]
abbrev r30_4 : List IOp := [⟨some 26, .op (.mov), [.t 5], none⟩,
  ⟨some 27, .op (.bin .eql .prim), [.t 26, .c (.int .i64 1)], none⟩,
  ⟨some 25, .op (.mov), [.t 27], none⟩]
abbrev r30_5 : List IOp := [⟨some 28, .op (.mov), [.t 0], none⟩,
  ⟨some 29, .op (.mov), [.t 1], none⟩,
  ⟨some 30, .op (.iaddr 1), [.t 29, .c (.int .i64 0)], none⟩,
  ⟨some 31, .op (.load none), [.t 30], none⟩,
  ⟨some 32, .call none, [.f 35, .t 28, .t 31], none⟩,
  ⟨some 4, .op (.mov), [.t 32], none⟩]
abbrev r30_6 : List IOp := [⟨some 34, .op (.mov), [.t 5], none⟩,
  ⟨some 35, .op (.mov), [.t 0], none⟩,
  ⟨some 36, .op (.len .slice), [.t 35], none⟩,
  ⟨some 37, .op (.bin .eql .prim), [.t 34, .t 36], none⟩,
  ⟨some 33, .op (.mov), [.t 37], none⟩]
abbrev r30_7 : List IOp := [⟨some 38, .op (.mov), [.t 1], none⟩,
  ⟨some 39, .op (.mov), [.t 0], none⟩,
  ⟨some 40, .call none, [.f 36, .t 38, .t 39], none⟩]
abbrev r30_8 : List IOp := [⟨some 4, .op (.mov), [.c (.int .i64 0)], none⟩]
abbrev r30_9 : List IOp := [⟨some 4, .op (.mov), [.c (.int .i64 (-1))], none⟩]
abbrev r30_10 : List IOp := [⟨some 42, .op (.mov), [.t 5], none⟩,
  ⟨some 43, .op (.mov), [.t 0], none⟩,
  ⟨some 44, .op (.len .slice), [.t 43], none⟩,
  ⟨some 45, .op (.bin .gtr .prim), [.t 42, .t 44], none⟩,
  ⟨some 41, .op (.mov), [.t 45], none⟩]
abbrev r30_11 : List IOp := [⟨some 4, .op (.mov), [.c (.int .i64 (-1))], none⟩]
abbrev r30_12 : List IOp := [⟨some 47, .op (.mov), [.t 5], none⟩,
  ⟨some 48, .op (.load none), [.c (.fptr (gv 0) 0)], none⟩,
  ⟨some 49, .op (.bin .leq .prim), [.t 47, .t 48], none⟩,
  ⟨some 46, .op (.mov), [.t 49], none⟩]
abbrev r30_13 : List IOp := [⟨some 50, .op (.mov), [.t 0], none⟩,
  ⟨some 51, .op (.len .slice), [.t 50], none⟩,
  ⟨some 52, .op (.bin .leq .prim), [.t 51, .c (.int .i64 64)], none⟩]
abbrev r30_14 : List IOp := [⟨some 53, .op (.mov), [.t 0], none⟩,
  ⟨some 54, .op (.mov), [.t 1], none⟩,
  ⟨some 55, .call none, [.f 37, .t 53, .t 54], none⟩,
  ⟨some 4, .op (.mov), [.t 55], none⟩]
abbrev r30_15 : List IOp := [⟨some 56, .op (.mov), [.t 1], none⟩,
  ⟨some 57, .op (.iaddr 1), [.t 56, .c (.int .i64 0)], none⟩,
  ⟨some 58, .op (.load none), [.t 57], none⟩,
  ⟨some 6, .op (.mov), [.t 58], none⟩]
abbrev r30_16 : List IOp := [⟨some 59, .op (.mov), [.t 1], none⟩,
  ⟨some 60, .op (.iaddr 1), [.t 59, .c (.int .i64 1)], none⟩,
  ⟨some 61, .op (.load none), [.t 60], none⟩,
  ⟨some 7, .op (.mov), [.t 61], none⟩]
abbrev r30_17 : List IOp := [⟨some 8, .op (.mov), [.c (.int .i64 0)], none⟩]
abbrev r30_18 : List IOp := [⟨some 62, .op (.mov), [.t 0], none⟩,
  ⟨some 63, .op (.len .slice), [.t 62], none⟩,
  ⟨some 64, .op (.mov), [.t 5], none⟩,
  ⟨some 65, .op (.bin .sub .prim), [.t 63, .t 64], none⟩,
  ⟨some 66, .op (.bin .add .prim), [.t 65, .c (.int .i64 1)], none⟩,
  ⟨some 9, .op (.mov), [.t 66], none⟩]
abbrev r30_19 : List IOp := [⟨some 10, .op (.mov), [.c (.int .i64 0)], none⟩]
abbrev r30_20 : List IOp := [⟨some 67, .op (.mov), [.t 8], none⟩,
  ⟨some 68, .op (.mov), [.t 9], none⟩,
  ⟨some 69, .op (.bin .lss .prim), [.t 67, .t 68], none⟩]
abbrev r30_21 : List IOp := [⟨some 70, .op (.mov), [.t 0], none⟩,
  ⟨some 71, .op (.mov), [.t 8], none⟩,
  ⟨some 72, .op (.iaddr 1), [.t 70, .t 71], none⟩,
  ⟨some 73, .op (.load none), [.t 72], none⟩,
  ⟨some 74, .op (.mov), [.t 6], none⟩,
  ⟨some 75, .op (.bin .neq .prim), [.t 73, .t 74], none⟩]
abbrev r30_22 : List IOp := [⟨some 76, .op (.mov), [.t 0], none⟩,
  ⟨some 77, .op (.mov), [.t 8], none⟩,
  ⟨some 78, .op (.bin .add .prim), [.t 77, .c (.int .i64 1)], none⟩,
  ⟨some 79, .op (.mov), [.t 9], none⟩,
  ⟨some 80, .op (.slice 1 true true false), [.t 76, .t 78, .t 79], none⟩,
  ⟨some 81, .op (.mov), [.t 6], none⟩,
  ⟨some 82, .call none, [.f 35, .t 80, .t 81], none⟩,
  ⟨some 11, .op (.mov), [.t 82], none⟩]
abbrev r30_23 : List IOp := [⟨some 83, .op (.mov), [.t 11], none⟩,
  ⟨some 84, .op (.bin .lss .prim), [.t 83, .c (.int .i64 0)], none⟩]
abbrev r30_24 : List IOp := [⟨some 4, .op (.mov), [.c (.int .i64 (-1))], none⟩]
abbrev r30_25 : List IOp := [⟨some 85, .op (.mov), [.t 8], none⟩,
  ⟨some 86, .op (.mov), [.t 11], none⟩,
  ⟨some 87, .op (.bin .add .prim), [.t 86, .c (.int .i64 1)], none⟩,
  ⟨some 88, .op (.bin .add .prim), [.t 85, .t 87], none⟩,
  ⟨some 8, .op (.mov), [.t 88], none⟩]
abbrev r30_26 : List IOp := [⟨some 89, .op (.mov), [.t 0], none⟩,
  ⟨some 90, .op (.mov), [.t 8], none⟩,
  ⟨some 91, .op (.bin .add .prim), [.t 90, .c (.int .i64 1)], none⟩,
  ⟨some 92, .op (.iaddr 1), [.t 89, .t 91], none⟩,
  ⟨some 93, .op (.load none), [.t 92], none⟩,
  ⟨some 94, .op (.mov), [.t 7], none⟩,
  ⟨some 95, .op (.bin .eql .prim), [.t 93, .t 94], none⟩,
  ⟨some 96, .op (.mov), [.t 95], none⟩,
  ⟨some 97, .op (.mov), [.t 0], some (96, true)⟩,
  ⟨some 98, .op (.mov), [.t 8], some (96, true)⟩,
  ⟨some 99, .op (.mov), [.t 8], some (96, true)⟩,
  ⟨some 100, .op (.mov), [.t 5], some (96, true)⟩,
  ⟨some 101, .op (.bin .add .prim), [.t 99, .t 100], some (96, true)⟩,
  ⟨some 102, .op (.slice 1 true true false), [.t 97, .t 98, .t 101], some (96, true)⟩,
  ⟨some 103, .op (.mov), [.t 1], some (96, true)⟩,
  ⟨some 104, .call none, [.f 36, .t 102, .t 103], some (96, true)⟩,
  ⟨some 105, .op (.pick), [.t 96, .t 104, .c (.bool false)], none⟩]
abbrev r30_27 : List IOp := [⟨some 106, .op (.mov), [.t 8], none⟩,
  ⟨some 4, .op (.mov), [.t 106], none⟩]
abbrev r30_28 : List IOp := [⟨some 107, .op (.mov), [.t 10], none⟩,
  ⟨some 108, .op (.bin .add .prim), [.t 107, .c (.int .i64 1)], none⟩,
  ⟨some 10, .op (.mov), [.t 108], none⟩]
abbrev r30_29 : List IOp := [⟨some 109, .op (.mov), [.t 8], none⟩,
  ⟨some 110, .op (.bin .add .prim), [.t 109, .c (.int .i64 1)], none⟩,
  ⟨some 8, .op (.mov), [.t 110], none⟩]
abbrev r30_30 : List IOp := [⟨some 111, .op (.mov), [.t 10], none⟩,
  ⟨some 112, .op (.mov), [.t 8], none⟩,
  ⟨some 113, .call none, [.f 38, .t 112], none⟩,
  ⟨some 114, .op (.bin .gtr .prim), [.t 111, .t 113], none⟩]
abbrev r30_31 : List IOp := [⟨some 115, .op (.mov), [.t 0], none⟩,
  ⟨some 116, .op (.mov), [.t 8], none⟩,
  ⟨some 117, .op (.slice 1 true false false), [.t 115, .t 116], none⟩,
  ⟨some 118, .op (.mov), [.t 1], none⟩,
  ⟨some 119, .call none, [.f 37, .t 117, .t 118], none⟩,
  ⟨some 12, .op (.mov), [.t 119], none⟩]
abbrev r30_32 : List IOp := [⟨some 120, .op (.mov), [.t 12], none⟩,
  ⟨some 121, .op (.bin .geq .prim), [.t 120, .c (.int .i64 0)], none⟩]
abbrev r30_33 : List IOp := [⟨some 122, .op (.mov), [.t 12], none⟩,
  ⟨some 123, .op (.mov), [.t 8], none⟩,
  ⟨some 124, .op (.bin .add .prim), [.t 122, .t 123], none⟩,
  ⟨some 4, .op (.mov), [.t 124], none⟩]
abbrev r30_34 : List IOp := [⟨some 4, .op (.mov), [.c (.int .i64 (-1))], none⟩]
abbrev b30_0 : IC := (IC.seq (IC.seq (IC.reg r30_20) (IC.cond (.t 69) IC.skip (IC.exit 1))) (IC.block 2 (IC.seq (IC.seq (IC.reg r30_21) (IC.cond (.t 75) (IC.seq (IC.reg r30_22) (IC.seq (IC.seq (IC.reg r30_23) (IC.cond (.t 84) (IC.seq (IC.reg r30_24) IC.ret) IC.skip)) (IC.reg r30_25))) IC.skip)) (IC.seq (IC.seq (IC.reg r30_26) (IC.cond (.t 105) (IC.seq (IC.reg r30_27) IC.ret) IC.skip)) (IC.seq (IC.reg r30_28) (IC.seq (IC.reg r30_29) (IC.seq (IC.reg r30_30) (IC.cond (.t 114) (IC.seq (IC.reg r30_31) (IC.seq (IC.seq (IC.reg r30_32) (IC.cond (.t 121) (IC.seq (IC.reg r30_33) IC.ret) IC.skip)) (IC.seq (IC.reg r30_34) IC.ret))) IC.skip))))))))
abbrev r30_35 : List IOp := [⟨some 4, .op (.mov), [.c (.int .i64 (-1))], none⟩]
abbrev r30_36 : List IOp := [⟨some 125, .op (.mov), [.t 1], none⟩,
  ⟨some 126, .op (.iaddr 1), [.t 125, .c (.int .i64 0)], none⟩,
  ⟨some 127, .op (.load none), [.t 126], none⟩,
  ⟨some 13, .op (.mov), [.t 127], none⟩]
abbrev r30_37 : List IOp := [⟨some 128, .op (.mov), [.t 1], none⟩,
  ⟨some 129, .op (.iaddr 1), [.t 128, .c (.int .i64 1)], none⟩,
  ⟨some 130, .op (.load none), [.t 129], none⟩,
  ⟨some 14, .op (.mov), [.t 130], none⟩]
abbrev r30_38 : List IOp := [⟨some 15, .op (.mov), [.c (.int .i64 0)], none⟩]
abbrev r30_39 : List IOp := [⟨some 16, .op (.mov), [.c (.int .i64 0)], none⟩]
abbrev r30_40 : List IOp := [⟨some 131, .op (.mov), [.t 0], none⟩,
  ⟨some 132, .op (.len .slice), [.t 131], none⟩,
  ⟨some 133, .op (.mov), [.t 5], none⟩,
  ⟨some 134, .op (.bin .sub .prim), [.t 132, .t 133], none⟩,
  ⟨some 135, .op (.bin .add .prim), [.t 134, .c (.int .i64 1)], none⟩,
  ⟨some 17, .op (.mov), [.t 135], none⟩]
abbrev r30_41 : List IOp := [⟨some 136, .op (.mov), [.t 15], none⟩,
  ⟨some 137, .op (.mov), [.t 17], none⟩,
  ⟨some 138, .op (.bin .lss .prim), [.t 136, .t 137], none⟩]
abbrev r30_42 : List IOp := [⟨some 139, .op (.mov), [.t 0], none⟩,
  ⟨some 140, .op (.mov), [.t 15], none⟩,
  ⟨some 141, .op (.iaddr 1), [.t 139, .t 140], none⟩,
  ⟨some 142, .op (.load none), [.t 141], none⟩,
  ⟨some 143, .op (.mov), [.t 13], none⟩,
  ⟨some 144, .op (.bin .neq .prim), [.t 142, .t 143], none⟩]
abbrev r30_43 : List IOp := [⟨some 145, .op (.mov), [.t 0], none⟩,
  ⟨some 146, .op (.mov), [.t 15], none⟩,
  ⟨some 147, .op (.bin .add .prim), [.t 146, .c (.int .i64 1)], none⟩,
  ⟨some 148, .op (.mov), [.t 17], none⟩,
  ⟨some 149, .op (.slice 1 true true false), [.t 145, .t 147, .t 148], none⟩,
  ⟨some 150, .op (.mov), [.t 13], none⟩,
  ⟨some 151, .call none, [.f 35, .t 149, .t 150], none⟩,
  ⟨some 18, .op (.mov), [.t 151], none⟩]
abbrev r30_44 : List IOp := [⟨some 152, .op (.mov), [.t 18], none⟩,
  ⟨some 153, .op (.bin .lss .prim), [.t 152, .c (.int .i64 0)], none⟩]
abbrev r30_45 : List IOp := [⟨some 154, .op (.mov), [.t 15], none⟩,
  ⟨some 155, .op (.mov), [.t 18], none⟩,
  ⟨some 156, .op (.bin .add .prim), [.t 155, .c (.int .i64 1)], none⟩,
  ⟨some 157, .op (.bin .add .prim), [.t 154, .t 156], none⟩,
  ⟨some 15, .op (.mov), [.t 157], none⟩]
abbrev r30_46 : List IOp := [⟨some 158, .op (.mov), [.t 0], none⟩,
  ⟨some 159, .op (.mov), [.t 15], none⟩,
  ⟨some 160, .op (.bin .add .prim), [.t 159, .c (.int .i64 1)], none⟩,
  ⟨some 161, .op (.iaddr 1), [.t 158, .t 160], none⟩,
  ⟨some 162, .op (.load none), [.t 161], none⟩,
  ⟨some 163, .op (.mov), [.t 14], none⟩,
  ⟨some 164, .op (.bin .eql .prim), [.t 162, .t 163], none⟩,
  ⟨some 165, .op (.mov), [.t 164], none⟩,
  ⟨some 166, .op (.mov), [.t 0], some (165, true)⟩,
  ⟨some 167, .op (.mov), [.t 15], some (165, true)⟩,
  ⟨some 168, .op (.mov), [.t 15], some (165, true)⟩,
  ⟨some 169, .op (.mov), [.t 5], some (165, true)⟩,
  ⟨some 170, .op (.bin .add .prim), [.t 168, .t 169], some (165, true)⟩,
  ⟨some 171, .op (.slice 1 true true false), [.t 166, .t 167, .t 170], some (165, true)⟩,
  ⟨some 172, .op (.mov), [.t 1], some (165, true)⟩,
  ⟨some 173, .call none, [.f 36, .t 171, .t 172], some (165, true)⟩,
  ⟨some 174, .op (.pick), [.t 165, .t 173, .c (.bool false)], none⟩]
abbrev r30_47 : List IOp := [⟨some 175, .op (.mov), [.t 15], none⟩,
  ⟨some 4, .op (.mov), [.t 175], none⟩]
abbrev r30_48 : List IOp := [⟨some 176, .op (.mov), [.t 15], none⟩,
  ⟨some 177, .op (.bin .add .prim), [.t 176, .c (.int .i64 1)], none⟩,
  ⟨some 15, .op (.mov), [.t 177], none⟩]
abbrev r30_49 : List IOp := [⟨some 178, .op (.mov), [.t 16], none⟩,
  ⟨some 179, .op (.bin .add .prim), [.t 178, .c (.int .i64 1)], none⟩,
  ⟨some 16, .op (.mov), [.t 179], none⟩]
abbrev r30_50 : List IOp := [⟨some 180, .op (.mov), [.t 16], none⟩,
  ⟨some 181, .op (.mov), [.t 15], none⟩,
  ⟨some 182, .op (.bin .shr .prim), [.t 181, .c (.int .u64 4)], none⟩,
  ⟨some 183, .op (.bin .add .prim), [.c (.int .i64 4), .t 182], none⟩,
  ⟨some 184, .op (.bin .geq .prim), [.t 180, .t 183], none⟩,
  ⟨some 185, .op (.mov), [.t 184], none⟩,
  ⟨some 186, .op (.mov), [.t 15], some (185, true)⟩,
  ⟨some 187, .op (.mov), [.t 17], some (185, true)⟩,
  ⟨some 188, .op (.bin .lss .prim), [.t 186, .t 187], some (185, true)⟩,
  ⟨some 189, .op (.pick), [.t 185, .t 188, .c (.bool false)], none⟩]
abbrev r30_51 : List IOp := [⟨some 190, .op (.mov), [.t 0], none⟩,
  ⟨some 191, .op (.mov), [.t 15], none⟩,
  ⟨some 192, .op (.slice 1 true false false), [.t 190, .t 191], none⟩,
  ⟨some 193, .op (.mov), [.t 1], none⟩,
  ⟨some 194, .call none, [.f 39, .t 192, .t 193], none⟩,
  ⟨some 19, .op (.mov), [.t 194], none⟩]
abbrev r30_52 : List IOp := [⟨some 195, .op (.mov), [.t 19], none⟩,
  ⟨some 196, .op (.bin .lss .prim), [.t 195, .c (.int .i64 0)], none⟩]
abbrev r30_53 : List IOp := [⟨some 4, .op (.mov), [.c (.int .i64 (-1))], none⟩]
abbrev r30_54 : List IOp := [⟨some 197, .op (.mov), [.t 15], none⟩,
  ⟨some 198, .op (.mov), [.t 19], none⟩,
  ⟨some 199, .op (.bin .add .prim), [.t 197, .t 198], none⟩,
  ⟨some 4, .op (.mov), [.t 199], none⟩]
abbrev b30_1 : IC := (IC.seq (IC.seq (IC.reg r30_41) (IC.cond (.t 138) IC.skip (IC.exit 3))) (IC.block 4 (IC.seq (IC.seq (IC.reg r30_42) (IC.cond (.t 144) (IC.seq (IC.reg r30_43) (IC.seq (IC.seq (IC.reg r30_44) (IC.cond (.t 153) (IC.exit 3) IC.skip)) (IC.reg r30_45))) IC.skip)) (IC.seq (IC.seq (IC.reg r30_46) (IC.cond (.t 174) (IC.seq (IC.reg r30_47) IC.ret) IC.skip)) (IC.seq (IC.reg r30_48) (IC.seq (IC.reg r30_49) (IC.seq (IC.reg r30_50) (IC.cond (.t 189) (IC.seq (IC.reg r30_51) (IC.seq (IC.seq (IC.reg r30_52) (IC.cond (.t 196) (IC.seq (IC.reg r30_53) IC.ret) IC.skip)) (IC.seq (IC.reg r30_54) IC.ret))) IC.skip))))))))
abbrev r30_55 : List IOp := [⟨some 4, .op (.mov), [.c (.int .i64 (-1))], none⟩]
abbrev c30 : IC := (IC.seq (IC.reg r30_0) (IC.seq (IC.reg r30_1) (IC.seq (IC.block 0 (IC.seq (IC.reg r30_2) (IC.cond (.t 22) (IC.seq (IC.reg r30_3) IC.ret) (IC.seq (IC.reg r30_4) (IC.cond (.t 25) (IC.seq (IC.reg r30_5) IC.ret) (IC.seq (IC.reg r30_6) (IC.cond (.t 33) (IC.seq (IC.seq (IC.reg r30_7) (IC.cond (.t 40) (IC.seq (IC.reg r30_8) IC.ret) IC.skip)) (IC.seq (IC.reg r30_9) IC.ret)) (IC.seq (IC.reg r30_10) (IC.cond (.t 41) (IC.seq (IC.reg r30_11) IC.ret) (IC.seq (IC.reg r30_12) (IC.cond (.t 46) (IC.seq (IC.seq (IC.reg r30_13) (IC.cond (.t 52) (IC.seq (IC.reg r30_14) IC.ret) IC.skip)) (IC.seq (IC.reg r30_15) (IC.seq (IC.reg r30_16) (IC.seq (IC.reg r30_17) (IC.seq (IC.reg r30_18) (IC.seq (IC.reg r30_19) (IC.seq (IC.block 1 (IC.loop b30_0)) (IC.seq (IC.reg r30_35) IC.ret)))))))) IC.skip))))))))))) (IC.seq (IC.reg r30_36) (IC.seq (IC.reg r30_37) (IC.seq (IC.reg r30_38) (IC.seq (IC.reg r30_39) (IC.seq (IC.reg r30_40) (IC.seq (IC.block 3 (IC.loop b30_1)) (IC.seq (IC.reg r30_55) IC.ret))))))))))
abbrev g30 : FC := ⟨c30, 200, [.t 4]⟩
theorem comp30 : compF Go.Proofs.Tryd.prog (fun _ => 0) 30 = some g30 := by kernel_rfl

-- math/bits.Mul
abbrev r31_0 : List IOp := [⟨some 4, .op (.mov), [.c (.int .u64 0)], none⟩,
  ⟨some 5, .op (.mov), [.c (.int .u64 0)], none⟩]
abbrev r31_1 : List IOp := [⟨some 11, .op (.mov), [.t 0], none⟩,
  ⟨some 12, .op (.toInt .u32), [.t 11], none⟩,
  ⟨some 13, .op (.mov), [.t 1], none⟩,
  ⟨some 14, .op (.toInt .u32), [.t 13], none⟩,
  ⟨some 15, .call none, [.f 40, .t 12, .t 14], none⟩,
  ⟨some 10, .op (.mov), [.t 15], none⟩,
  ⟨some 16, .op (.extract 0), [.t 10], none⟩,
  ⟨some 17, .op (.extract 1), [.t 10], none⟩,
  ⟨some 6, .op (.mov), [.t 16], none⟩,
  ⟨some 7, .op (.mov), [.t 17], none⟩]
abbrev r31_2 : List IOp := [⟨some 18, .op (.mov), [.t 6], none⟩,
  ⟨some 19, .op (.toInt .u64), [.t 18], none⟩,
  ⟨some 20, .op (.mov), [.t 7], none⟩,
  ⟨some 21, .op (.toInt .u64), [.t 20], none⟩,
  ⟨some 4, .op (.mov), [.t 19], none⟩,
  ⟨some 5, .op (.mov), [.t 21], none⟩]
abbrev r31_3 : List IOp := [⟨some 23, .op (.mov), [.t 0], none⟩,
  ⟨some 24, .op (.mov), [.t 1], none⟩,
  ⟨some 25, .call none, [.f 41, .t 23, .t 24], none⟩,
  ⟨some 22, .op (.mov), [.t 25], none⟩,
  ⟨some 26, .op (.extract 0), [.t 22], none⟩,
  ⟨some 27, .op (.extract 1), [.t 22], none⟩,
  ⟨some 8, .op (.mov), [.t 26], none⟩,
  ⟨some 9, .op (.mov), [.t 27], none⟩]
abbrev r31_4 : List IOp := [⟨some 28, .op (.mov), [.t 8], none⟩,
  ⟨some 29, .op (.mov), [.t 9], none⟩,
  ⟨some 4, .op (.mov), [.t 28], none⟩,
  ⟨some 5, .op (.mov), [.t 29], none⟩]
abbrev c31 : IC := (IC.seq (IC.reg r31_0) (IC.seq (IC.cond (.c (.bool false)) (IC.seq (IC.reg r31_1) (IC.seq (IC.reg r31_2) IC.ret)) IC.skip) (IC.seq (IC.reg r31_3) (IC.seq (IC.reg r31_4) IC.ret))))
abbrev g31 : FC := ⟨c31, 30, [.t 4, .t 5]⟩
theorem comp31 : compF Go.Proofs.Tryd.prog (fun _ => 0) 31 = some g31 := by kernel_rfl


-- bytes.IndexAny
abbrev r33_0 : List IOp := [⟨some 4, .op (.mov), [.c (.int .i64 0)], none⟩]
abbrev r33_1 : List IOp := [⟨some 16, .op (.mov), [.t 1], none⟩,
  ⟨some 17, .op (.bin .eql .prim), [.t 16, .c (.str [])], none⟩]
abbrev r33_2 : List IOp := [⟨some 4, .op (.mov), [.c (.int .i64 (-1))], none⟩]
abbrev r33_3 : List IOp := [⟨some 18, .op (.mov), [.t 0], none⟩,
  ⟨some 19, .op (.len .slice), [.t 18], none⟩,
  ⟨some 20, .op (.bin .eql .prim), [.t 19, .c (.int .i64 1)], none⟩]
abbrev r33_4 : List IOp := [⟨some 21, .op (.mov), [.t 0], none⟩,
  ⟨some 22, .op (.iaddr 1), [.t 21, .c (.int .i64 0)], none⟩,
  ⟨some 23, .op (.load none), [.t 22], none⟩,
  ⟨some 24, .op (.toInt .i32), [.t 23], none⟩,
  ⟨some 5, .op (.mov), [.t 24], none⟩]
abbrev r33_5 : List IOp := [⟨some 25, .op (.mov), [.t 5], none⟩,
  ⟨some 26, .op (.bin .geq .prim), [.t 25, .c (.int .i32 128)], none⟩]
abbrev r33_6 : List IOp := [⟨some 27, .op (.mov), [.t 1], none⟩,
  ⟨some 28, .op (.ranges), [.t 27], none⟩]
abbrev r33_7 : List IOp := [⟨some 29, .op (.nexts), [.t 28], none⟩,
  ⟨some 30, .op (.extract 0), [.t 29], none⟩]
abbrev r33_8 : List IOp := [⟨some 31, .op (.extract 2), [.t 29], none⟩,
  ⟨some 5, .op (.mov), [.t 31], none⟩]
abbrev r33_9 : List IOp := [⟨some 32, .op (.mov), [.t 5], none⟩,
  ⟨some 33, .op (.bin .eql .prim), [.t 32, .c (.int .i32 65533)], none⟩]
abbrev r33_10 : List IOp := [⟨some 4, .op (.mov), [.c (.int .i64 0)], none⟩]
abbrev b33_0 : IC := (IC.seq (IC.reg r33_7) (IC.seq (IC.cond (.t 30) IC.skip (IC.exit 0)) (IC.block 1 (IC.seq (IC.reg r33_8) (IC.seq (IC.reg r33_9) (IC.cond (.t 33) (IC.seq (IC.reg r33_10) IC.ret) IC.skip))))))
abbrev r33_11 : List IOp := [⟨some 4, .op (.mov), [.c (.int .i64 (-1))], none⟩]
abbrev r33_12 : List IOp := [⟨some 34, .op (.mov), [.t 1], none⟩,
  ⟨some 35, .op (.mov), [.t 0], none⟩,
  ⟨some 36, .op (.iaddr 1), [.t 35, .c (.int .i64 0)], none⟩,
  ⟨some 37, .op (.load none), [.t 36], none⟩,
  ⟨some 38, .call none, [.f 42, .t 34, .t 37], none⟩,
  ⟨some 39, .op (.bin .geq .prim), [.t 38, .c (.int .i64 0)], none⟩]
abbrev r33_13 : List IOp := [⟨some 4, .op (.mov), [.c (.int .i64 0)], none⟩]
abbrev r33_14 : List IOp := [⟨some 4, .op (.mov), [.c (.int .i64 (-1))], none⟩]
abbrev r33_15 : List IOp := [⟨some 40, .op (.mov), [.t 1], none⟩,
  ⟨some 41, .op (.len .str), [.t 40], none⟩,
  ⟨some 42, .op (.bin .eql .prim), [.t 41, .c (.int .i64 1)], none⟩]
abbrev r33_16 : List IOp := [⟨some 43, .op (.mov), [.t 1], none⟩,
  ⟨some 44, .op (.idxs), [.t 43, .c (.int .i64 0)], none⟩,
  ⟨some 45, .op (.toInt .i32), [.t 44], none⟩,
  ⟨some 6, .op (.mov), [.t 45], none⟩]
abbrev r33_17 : List IOp := [⟨some 46, .op (.mov), [.t 6], none⟩,
  ⟨some 47, .op (.bin .geq .prim), [.t 46, .c (.int .i32 128)], none⟩]
abbrev r33_18 : List IOp := [⟨some 6, .op (.mov), [.c (.int .i32 65533)], none⟩]
abbrev r33_19 : List IOp := [⟨some 48, .op (.mov), [.t 0], none⟩,
  ⟨some 49, .op (.mov), [.t 6], none⟩,
  ⟨some 50, .call none, [.f 43, .t 48, .t 49], none⟩,
  ⟨some 4, .op (.mov), [.t 50], none⟩]
abbrev r33_20 : List IOp := [⟨some 51, .op (.mov), [.t 0], none⟩,
  ⟨some 52, .op (.len .slice), [.t 51], none⟩,
  ⟨some 53, .call none, [.f 44, .t 52], none⟩]
abbrev r33_21 : List IOp := [⟨some 55, .op (.mov), [.t 1], none⟩,
  ⟨some 56, .call none, [.f 45, .t 55], none⟩,
  ⟨some 54, .op (.mov), [.t 56], none⟩,
  ⟨some 57, .op (.extract 0), [.t 54], none⟩,
  ⟨some 58, .op (.extract 1), [.t 54], none⟩,
  ⟨some 7, .op (.alloc 60 [.bool false, .bool false, .bool false, .bool false, .bool false, .bool false, .bool false, .bool false, .bool false, .bool false, .bool false, .bool false, .bool false, .bool false, .bool false, .bool false, .bool false, .bool false, .bool false, .bool false, .bool false, .bool false, .bool false, .bool false, .bool false, .bool false, .bool false, .bool false, .bool false, .bool false, .bool false, .bool false, .bool false, .bool false, .bool false, .bool false, .bool false, .bool false, .bool false, .bool false, .bool false, .bool false, .bool false, .bool false, .bool false, .bool false, .bool false, .bool false, .bool false, .bool false, .bool false, .bool false, .bool false, .bool false, .bool false, .bool false, .bool false, .bool false, .bool false, .bool false, .bool false, .bool false, .bool false, .bool false, .bool false, .bool false, .bool false, .bool false, .bool false, .bool false, .bool false, .bool false, .bool false, .bool false, .bool false, .bool false, .bool false, .bool false, .bool false, .bool false, .bool false, .bool false, .bool false, .bool false, .bool false, .bool false, .bool false, .bool false, .bool false, .bool false, .bool false, .bool false, .bool false, .bool false, .bool false, .bool false, .bool false, .bool false, .bool false, .bool false, .bool false, .bool false, .bool false, .bool false, .bool false, .bool false, .bool false, .bool false, .bool false, .bool false, .bool false, .bool false, .bool false, .bool false, .bool false, .bool false, .bool false, .bool false, .bool false, .bool false, .bool false, .bool false, .bool false, .bool false, .bool false, .bool false, .bool false, .bool false, .bool false, .bool false, .bool false, .bool false, .bool false, .bool false, .bool false, .bool false, .bool false, .bool false, .bool false, .bool false, .bool false, .bool false, .bool false, .bool false, .bool false, .bool false, .bool false, .bool false, .bool false, .bool false, .bool false, .bool false, .bool false, .bool false, .bool false, .bool false, .bool false, .bool false, .bool false, .bool false, .bool false, .bool false, .bool false, .bool false, .bool false, .bool false, .bool false, .bool false, .bool false, .bool false, .bool false, .bool false, .bool false, .bool false, .bool false, .bool false, .bool false, .bool false, .bool false, .bool false, .bool false, .bool false, .bool false, .bool false, .bool false, .bool false, .bool false, .bool false, .bool false, .bool false, .bool false, .bool false, .bool false, .bool false, .bool false, .bool false, .bool false, .bool false, .bool false, .bool false, .bool false, .bool false, .bool false, .bool false, .bool false, .bool false, .bool false, .bool false, .bool false, .bool false, .bool false, .bool false, .bool false, .bool false, .bool false, .bool false, .bool false, .bool false, .bool false, .bool false, .bool false, .bool false, .bool false, .bool false, .bool false, .bool false, .bool false, .bool false, .bool false, .bool false, .bool false, .bool false, .bool false, .bool false, .bool false, .bool false, .bool false, .bool false, .bool false, .bool false, .bool false, .bool false, .bool false, .bool false, .bool false, .bool false, .bool false, .bool false, .bool false, .bool false, .bool false, .bool false, .bool false, .bool false, .bool false, .bool false]), [], none⟩,
  ⟨none, .op (.store 256), [.t 7, .t 57], none⟩,
  ⟨some 8, .op (.mov), [.t 58], none⟩]
abbrev r33_22 : List IOp := [⟨some 59, .op (.mov), [.t 8], none⟩]
abbrev r33_23 : List IOp := [⟨some 60, .op (.mov), [.t 0], none⟩,
  ⟨some 61, .op (.len .slice), [.t 60], none⟩,
  ⟨some 62, .op (.mov), [.c (.int .i64 0)], none⟩]
abbrev r33_24 : List IOp := [⟨some 63, .op (.bin .lss .prim), [.t 62, .t 61], none⟩]
abbrev r33_25 : List IOp := [⟨some 64, .op (.mov), [.t 62], none⟩,
  ⟨some 65, .op (.iaddr 1), [.t 60, .t 62], none⟩,
  ⟨some 66, .op (.load none), [.t 65], none⟩,
  ⟨some 9, .op (.mov), [.t 64], none⟩,
  ⟨some 10, .op (.mov), [.t 66], none⟩]
abbrev r33_26 : List IOp := [⟨some 67, .op (.mov), [.t 10], none⟩,
  ⟨some 68, .call none, [.f 46, .t 7, .t 67], none⟩]
abbrev r33_27 : List IOp := [⟨some 69, .op (.mov), [.t 9], none⟩,
  ⟨some 4, .op (.mov), [.t 69], none⟩]
abbrev r33_28 : List IOp := [⟨some 70, .op (.bin .add .prim), [.t 62, .c (.int .i64 1)], none⟩,
  ⟨some 62, .op (.mov), [.t 70], none⟩]
abbrev b33_1 : IC := (IC.seq (IC.reg r33_24) (IC.seq (IC.cond (.t 63) IC.skip (IC.exit 2)) (IC.seq (IC.block 3 (IC.seq (IC.reg r33_25) (IC.seq (IC.reg r33_26) (IC.cond (.t 68) (IC.seq (IC.reg r33_27) IC.ret) IC.skip)))) (IC.reg r33_28))))
abbrev r33_29 : List IOp := [⟨some 4, .op (.mov), [.c (.int .i64 (-1))], none⟩]
abbrev r33_30 : List IOp := [⟨some 11, .op (.mov), [.c (.int .i64 0)], none⟩]
abbrev r33_31 : List IOp := [⟨some 12, .op (.mov), [.c (.int .i64 0)], none⟩]
abbrev r33_32 : List IOp := [⟨some 71, .op (.mov), [.t 12], none⟩,
  ⟨some 72, .op (.mov), [.t 0], none⟩,
  ⟨some 73, .op (.len .slice), [.t 72], none⟩,
  ⟨some 74, .op (.bin .lss .prim), [.t 71, .t 73], none⟩]
abbrev r33_33 : List IOp := [⟨some 78, .op (.mov), [.t 0], none⟩,
  ⟨some 79, .op (.mov), [.t 12], none⟩,
  ⟨some 80, .op (.iaddr 1), [.t 78, .t 79], none⟩,
  ⟨some 81, .op (.load none), [.t 80], none⟩,
  ⟨some 82, .op (.toInt .i32), [.t 81], none⟩,
  ⟨some 13, .op (.mov), [.t 82], none⟩]
abbrev r33_34 : List IOp := [⟨some 83, .op (.mov), [.t 13], none⟩,
  ⟨some 84, .op (.bin .lss .prim), [.t 83, .c (.int .i32 128)], none⟩]
abbrev r33_35 : List IOp := [⟨some 85, .op (.mov), [.t 1], none⟩,
  ⟨some 86, .op (.mov), [.t 0], none⟩,
  ⟨some 87, .op (.mov), [.t 12], none⟩,
  ⟨some 88, .op (.iaddr 1), [.t 86, .t 87], none⟩,
  ⟨some 89, .op (.load none), [.t 88], none⟩,
  ⟨some 90, .call none, [.f 42, .t 85, .t 89], none⟩,
  ⟨some 91, .op (.bin .geq .prim), [.t 90, .c (.int .i64 0)], none⟩]
abbrev r33_36 : List IOp := [⟨some 92, .op (.mov), [.t 12], none⟩,
  ⟨some 4, .op (.mov), [.t 92], none⟩]
abbrev r33_37 : List IOp := [⟨some 11, .op (.mov), [.c (.int .i64 1)], none⟩]
abbrev r33_38 : List IOp := [⟨some 94, .op (.mov), [.t 0], none⟩,
  ⟨some 95, .op (.mov), [.t 12], none⟩,
  ⟨some 96, .op (.slice 1 true false false), [.t 94, .t 95], none⟩,
  ⟨some 97, .call none, [.f 47, .t 96], none⟩,
  ⟨some 93, .op (.mov), [.t 97], none⟩,
  ⟨some 98, .op (.extract 0), [.t 93], none⟩,
  ⟨some 99, .op (.extract 1), [.t 93], none⟩,
  ⟨some 13, .op (.mov), [.t 98], none⟩,
  ⟨some 11, .op (.mov), [.t 99], none⟩]
abbrev r33_39 : List IOp := [⟨some 100, .op (.mov), [.t 13], none⟩,
  ⟨some 101, .op (.bin .neq .prim), [.t 100, .c (.int .i32 65533)], none⟩]
abbrev r33_40 : List IOp := [⟨some 102, .op (.mov), [.t 1], none⟩,
  ⟨some 103, .op (.len .str), [.t 102], none⟩,
  ⟨some 104, .op (.mov), [.t 11], none⟩,
  ⟨some 105, .op (.bin .eql .prim), [.t 103, .t 104], none⟩]
abbrev r33_41 : List IOp := [⟨some 106, .op (.mov), [.t 1], none⟩,
  ⟨some 107, .op (.mov), [.t 13], none⟩,
  ⟨some 108, .op (.r2s), [.t 107], none⟩,
  ⟨some 109, .op (.bin .eql .prim), [.t 106, .t 108], none⟩]
abbrev r33_42 : List IOp := [⟨some 110, .op (.mov), [.t 12], none⟩,
  ⟨some 4, .op (.mov), [.t 110], none⟩]
abbrev r33_43 : List IOp := [⟨some 111, .op (.load none), [.c (.fptr (gv 0) 0)], none⟩,
  ⟨some 112, .op (.mov), [.t 11], none⟩,
  ⟨some 113, .op (.bin .geq .prim), [.t 111, .t 112], none⟩]
abbrev r33_44 : List IOp := [⟨some 114, .op (.mov), [.t 1], none⟩,
  ⟨some 115, .op (.mov), [.t 13], none⟩,
  ⟨some 116, .op (.r2s), [.t 115], none⟩,
  ⟨some 117, .call none, [.f 48, .t 114, .t 116], none⟩,
  ⟨some 118, .op (.bin .geq .prim), [.t 117, .c (.int .i64 0)], none⟩]
abbrev r33_45 : List IOp := [⟨some 119, .op (.mov), [.t 12], none⟩,
  ⟨some 4, .op (.mov), [.t 119], none⟩]
abbrev r33_46 : List IOp := [⟨some 120, .op (.mov), [.t 1], none⟩,
  ⟨some 121, .op (.ranges), [.t 120], none⟩]
abbrev r33_47 : List IOp := [⟨some 122, .op (.nexts), [.t 121], none⟩,
  ⟨some 123, .op (.extract 0), [.t 122], none⟩]
abbrev r33_48 : List IOp := [⟨some 124, .op (.extract 2), [.t 122], none⟩,
  ⟨some 15, .op (.mov), [.t 124], none⟩]
abbrev r33_49 : List IOp := [⟨some 125, .op (.mov), [.t 13], none⟩,
  ⟨some 126, .op (.mov), [.t 15], none⟩,
  ⟨some 127, .op (.bin .eql .prim), [.t 125, .t 126], none⟩]
abbrev r33_50 : List IOp := [⟨some 128, .op (.mov), [.t 12], none⟩,
  ⟨some 4, .op (.mov), [.t 128], none⟩]
abbrev b33_2 : IC := (IC.seq (IC.reg r33_47) (IC.seq (IC.cond (.t 123) IC.skip (IC.exit 6)) (IC.block 7 (IC.seq (IC.reg r33_48) (IC.seq (IC.reg r33_49) (IC.cond (.t 127) (IC.seq (IC.reg r33_50) IC.ret) IC.skip))))))
abbrev r33_51 : List IOp := [⟨some 75, .op (.mov), [.t 12], none⟩,
  ⟨some 76, .op (.mov), [.t 11], none⟩,
  ⟨some 77, .op (.bin .add .prim), [.t 75, .t 76], none⟩,
  ⟨some 12, .op (.mov), [.t 77], none⟩]
abbrev b33_3 : IC := (IC.seq (IC.seq (IC.reg r33_32) (IC.cond (.t 74) IC.skip (IC.exit 4))) (IC.seq (IC.block 5 (IC.seq (IC.reg r33_33) (IC.seq (IC.seq (IC.reg r33_34) (IC.cond (.t 84) (IC.seq (IC.seq (IC.reg r33_35) (IC.cond (.t 91) (IC.seq (IC.reg r33_36) IC.ret) IC.skip)) (IC.seq (IC.reg r33_37) (IC.exit 5))) IC.skip)) (IC.seq (IC.reg r33_38) (IC.seq (IC.seq (IC.reg r33_39) (IC.cond (.t 101) (IC.seq (IC.seq (IC.reg r33_40) (IC.cond (.t 105) (IC.seq (IC.seq (IC.reg r33_41) (IC.cond (.t 109) (IC.seq (IC.reg r33_42) IC.ret) IC.skip)) (IC.exit 5)) IC.skip)) (IC.seq (IC.reg r33_43) (IC.cond (.t 113) (IC.seq (IC.seq (IC.reg r33_44) (IC.cond (.t 118) (IC.seq (IC.reg r33_45) IC.ret) IC.skip)) (IC.exit 5)) IC.skip))) IC.skip)) (IC.seq (IC.reg r33_46) (IC.block 6 (IC.loop b33_2)))))))) (IC.reg r33_51)))
abbrev r33_52 : List IOp := [⟨some 4, .op (.mov), [.c (.int .i64 (-1))], none⟩]
abbrev c33 : IC := (IC.seq (IC.reg r33_0) (IC.seq (IC.seq (IC.reg r33_1) (IC.cond (.t 17) (IC.seq (IC.reg r33_2) IC.ret) IC.skip)) (IC.seq (IC.seq (IC.reg r33_3) (IC.cond (.t 20) (IC.seq (IC.reg r33_4) (IC.seq (IC.seq (IC.reg r33_5) (IC.cond (.t 26) (IC.seq (IC.seq (IC.reg r33_6) (IC.block 0 (IC.loop b33_0))) (IC.seq (IC.reg r33_11) IC.ret)) IC.skip)) (IC.seq (IC.seq (IC.reg r33_12) (IC.cond (.t 39) (IC.seq (IC.reg r33_13) IC.ret) IC.skip)) (IC.seq (IC.reg r33_14) IC.ret)))) IC.skip)) (IC.seq (IC.seq (IC.reg r33_15) (IC.cond (.t 42) (IC.seq (IC.reg r33_16) (IC.seq (IC.seq (IC.reg r33_17) (IC.cond (.t 47) (IC.reg r33_18) IC.skip)) (IC.seq (IC.reg r33_19) IC.ret))) IC.skip)) (IC.seq (IC.seq (IC.reg r33_20) (IC.cond (.t 53) (IC.seq (IC.reg r33_21) (IC.seq (IC.reg r33_22) (IC.cond (.t 59) (IC.seq (IC.seq (IC.reg r33_23) (IC.block 2 (IC.loop b33_1))) (IC.seq (IC.reg r33_29) IC.ret)) IC.skip))) IC.skip)) (IC.seq (IC.reg r33_30) (IC.seq (IC.seq (IC.reg r33_31) (IC.block 4 (IC.loop b33_3))) (IC.seq (IC.reg r33_52) IC.ret))))))))
abbrev g33 : FC := ⟨c33, 129, [.t 4]⟩
theorem comp33 : compF Go.Proofs.Tryd.prog (fun _ => 0) 33 = some g33 := by kernel_rfl

-- unicode/utf8.RuneCountInString
abbrev r34_0 : List IOp := [⟨some 2, .op (.mov), [.c (.int .i64 0)], none⟩]
abbrev r34_1 : List IOp := [⟨some 3, .op (.mov), [.t 0], none⟩,
  ⟨some 4, .op (.ranges), [.t 3], none⟩]
abbrev r34_2 : List IOp := [⟨some 5, .op (.nexts), [.t 4], none⟩,
  ⟨some 6, .op (.extract 0), [.t 5], none⟩]
abbrev r34_3 : List IOp := [⟨some 7, .op (.mov), [.t 2], none⟩,
  ⟨some 8, .op (.bin .add .prim), [.t 7, .c (.int .i64 1)], none⟩,
  ⟨some 2, .op (.mov), [.t 8], none⟩]
abbrev b34_0 : IC := (IC.seq (IC.reg r34_2) (IC.seq (IC.cond (.t 6) IC.skip (IC.exit 0)) (IC.block 1 (IC.reg r34_3))))
abbrev r34_4 : List IOp := [⟨some 9, .op (.mov), [.t 2], none⟩,
  ⟨some 2, .op (.mov), [.t 9], none⟩]
abbrev c34 : IC := (IC.seq (IC.reg r34_0) (IC.seq (IC.seq (IC.reg r34_1) (IC.block 0 (IC.loop b34_0))) (IC.seq (IC.reg r34_4) IC.ret)))
abbrev g34 : FC := ⟨c34, 10, [.t 2]⟩
theorem comp34 : compF Go.Proofs.Tryd.prog (fun _ => 0) 34 = some g34 := by kernel_rfl

-- bytes.IndexByte
abbrev r35_0 : List IOp := [⟨some 4, .op (.mov), [.c (.int .i64 0)], none⟩]
abbrev r35_1 : List IOp := [⟨some 5, .op (.mov), [.t 0], none⟩,
  ⟨some 6, .op (.mov), [.t 1], none⟩,
  ⟨some 7, .call none, [.f 49, .t 5, .t 6], none⟩,
  ⟨some 4, .op (.mov), [.t 7], none⟩]
abbrev c35 : IC := (IC.seq (IC.reg r35_0) (IC.seq (IC.reg r35_1) IC.ret))
abbrev g35 : FC := ⟨c35, 8, [.t 4]⟩
theorem comp35 : compF Go.Proofs.Tryd.prog (fun _ => 0) 35 = some g35 := by kernel_rfl

-- bytes.Equal
abbrev r36_0 : List IOp := [⟨some 4, .op (.mov), [.c (.bool false)], none⟩]
abbrev r36_1 : List IOp := [⟨some 5, .op (.mov), [.t 0], none⟩,
  ⟨some 6, .op (.b2s), [.t 5], none⟩,
  ⟨some 7, .op (.mov), [.t 1], none⟩,
  ⟨some 8, .op (.b2s), [.t 7], none⟩,
  ⟨some 9, .op (.bin .eql .prim), [.t 6, .t 8], none⟩,
  ⟨some 4, .op (.mov), [.t 9], none⟩]
abbrev c36 : IC := (IC.seq (IC.reg r36_0) (IC.seq (IC.reg r36_1) IC.ret))
abbrev g36 : FC := ⟨c36, 10, [.t 4]⟩
theorem comp36 : compF Go.Proofs.Tryd.prog (fun _ => 0) 36 = some g36 := by kernel_rfl


-- internal/bytealg.Cutover
abbrev r38_0 : List IOp := [⟨some 2, .op (.mov), [.c (.int .i64 0)], none⟩]
abbrev r38_1 : List IOp := [⟨some 3, .op (.mov), [.t 0], none⟩,
  ⟨some 4, .op (.bin .add .prim), [.t 3, .c (.int .i64 16)], none⟩,
  ⟨some 5, .op (.bin .quo .prim), [.t 4, .c (.int .i64 8)], none⟩,
  ⟨some 2, .op (.mov), [.t 5], none⟩]
abbrev c38 : IC := (IC.seq (IC.reg r38_0) (IC.seq (IC.reg r38_1) IC.ret))
abbrev g38 : FC := ⟨c38, 6, [.t 2]⟩
theorem comp38 : compF Go.Proofs.Tryd.prog (fun _ => 0) 38 = some g38 := by kernel_rfl

-- internal/bytealg.IndexRabinKarp[[]byte]
abbrev r39_0 : List IOp := [⟨some 4, .op (.mov), [.c (.int .i64 0)], none⟩]
abbrev r39_1 : List IOp := [⟨some 12, .op (.mov), [.t 1], none⟩,
  ⟨some 13, .call none, [.f 50, .t 12], none⟩,
  ⟨some 11, .op (.mov), [.t 13], none⟩,
  ⟨some 14, .op (.extract 0), [.t 11], none⟩,
  ⟨some 15, .op (.extract 1), [.t 11], none⟩,
  ⟨some 5, .op (.mov), [.t 14], none⟩,
  ⟨some 6, .op (.mov), [.t 15], none⟩]
abbrev r39_2 : List IOp := [⟨some 16, .op (.mov), [.t 1], none⟩,
  ⟨some 17, .op (.len .slice), [.t 16], none⟩,
  ⟨some 7, .op (.mov), [.t 17], none⟩]
abbrev r39_3 : List IOp := [⟨some 8, .op (.mov), [.c (.int .u32 0)], none⟩]
abbrev r39_4 : List IOp := [⟨some 9, .op (.mov), [.c (.int .i64 0)], none⟩]
abbrev r39_5 : List IOp := [⟨some 18, .op (.mov), [.t 9], none⟩,
  ⟨some 19, .op (.mov), [.t 7], none⟩,
  ⟨some 20, .op (.bin .lss .prim), [.t 18, .t 19], none⟩]
abbrev r39_6 : List IOp := [⟨some 23, .op (.mov), [.t 8], none⟩,
  ⟨some 24, .op (.bin .mul .prim), [.t 23, .c (.int .u32 16777619)], none⟩,
  ⟨some 25, .op (.mov), [.t 0], none⟩,
  ⟨some 26, .op (.mov), [.t 9], none⟩,
  ⟨some 27, .op (.iaddr 1), [.t 25, .t 26], none⟩,
  ⟨some 28, .op (.load none), [.t 27], none⟩,
  ⟨some 29, .op (.toInt .u32), [.t 28], none⟩,
  ⟨some 30, .op (.bin .add .prim), [.t 24, .t 29], none⟩,
  ⟨some 8, .op (.mov), [.t 30], none⟩]
abbrev r39_7 : List IOp := [⟨some 21, .op (.mov), [.t 9], none⟩,
  ⟨some 22, .op (.bin .add .prim), [.t 21, .c (.int .i64 1)], none⟩,
  ⟨some 9, .op (.mov), [.t 22], none⟩]
abbrev b39_0 : IC := (IC.seq (IC.seq (IC.reg r39_5) (IC.cond (.t 20) IC.skip (IC.exit 0))) (IC.seq (IC.block 1 (IC.reg r39_6)) (IC.reg r39_7)))
abbrev r39_8 : List IOp := [⟨some 31, .op (.mov), [.t 8], none⟩,
  ⟨some 32, .op (.mov), [.t 5], none⟩,
  ⟨some 33, .op (.bin .eql .prim), [.t 31, .t 32], none⟩,
  ⟨some 34, .op (.mov), [.t 33], none⟩,
  ⟨some 35, .op (.mov), [.t 0], some (34, true)⟩,
  ⟨some 36, .op (.mov), [.t 7], some (34, true)⟩,
  ⟨some 37, .op (.slice 1 false true false), [.t 35, .t 36], some (34, true)⟩,
  ⟨some 38, .op (.b2s), [.t 37], some (34, true)⟩,
  ⟨some 39, .op (.mov), [.t 1], some (34, true)⟩,
  ⟨some 40, .op (.b2s), [.t 39], some (34, true)⟩,
  ⟨some 41, .op (.bin .eql .prim), [.t 38, .t 40], some (34, true)⟩,
  ⟨some 42, .op (.pick), [.t 34, .t 41, .c (.bool false)], none⟩]
abbrev r39_9 : List IOp := [⟨some 4, .op (.mov), [.c (.int .i64 0)], none⟩]
abbrev r39_10 : List IOp := [⟨some 43, .op (.mov), [.t 7], none⟩,
  ⟨some 10, .op (.mov), [.t 43], none⟩]
abbrev r39_11 : List IOp := [⟨some 44, .op (.mov), [.t 10], none⟩,
  ⟨some 45, .op (.mov), [.t 0], none⟩,
  ⟨some 46, .op (.len .slice), [.t 45], none⟩,
  ⟨some 47, .op (.bin .lss .prim), [.t 44, .t 46], none⟩]
abbrev r39_12 : List IOp := [⟨some 48, .op (.mov), [.t 8], none⟩,
  ⟨some 49, .op (.bin .mul .prim), [.t 48, .c (.int .u32 16777619)], none⟩,
  ⟨some 8, .op (.mov), [.t 49], none⟩]
abbrev r39_13 : List IOp := [⟨some 50, .op (.mov), [.t 8], none⟩,
  ⟨some 51, .op (.mov), [.t 0], none⟩,
  ⟨some 52, .op (.mov), [.t 10], none⟩,
  ⟨some 53, .op (.iaddr 1), [.t 51, .t 52], none⟩,
  ⟨some 54, .op (.load none), [.t 53], none⟩,
  ⟨some 55, .op (.toInt .u32), [.t 54], none⟩,
  ⟨some 56, .op (.bin .add .prim), [.t 50, .t 55], none⟩,
  ⟨some 8, .op (.mov), [.t 56], none⟩]
abbrev r39_14 : List IOp := [⟨some 57, .op (.mov), [.t 8], none⟩,
  ⟨some 58, .op (.mov), [.t 6], none⟩,
  ⟨some 59, .op (.mov), [.t 0], none⟩,
  ⟨some 60, .op (.mov), [.t 10], none⟩,
  ⟨some 61, .op (.mov), [.t 7], none⟩,
  ⟨some 62, .op (.bin .sub .prim), [.t 60, .t 61], none⟩,
  ⟨some 63, .op (.iaddr 1), [.t 59, .t 62], none⟩,
  ⟨some 64, .op (.load none), [.t 63], none⟩,
  ⟨some 65, .op (.toInt .u32), [.t 64], none⟩,
  ⟨some 66, .op (.bin .mul .prim), [.t 58, .t 65], none⟩,
  ⟨some 67, .op (.bin .sub .prim), [.t 57, .t 66], none⟩,
  ⟨some 8, .op (.mov), [.t 67], none⟩]
abbrev r39_15 : List IOp := [⟨some 68, .op (.mov), [.t 10], none⟩,
  ⟨some 69, .op (.bin .add .prim), [.t 68, .c (.int .i64 1)], none⟩,
  ⟨some 10, .op (.mov), [.t 69], none⟩]
abbrev r39_16 : List IOp := [⟨some 70, .op (.mov), [.t 8], none⟩,
  ⟨some 71, .op (.mov), [.t 5], none⟩,
  ⟨some 72, .op (.bin .eql .prim), [.t 70, .t 71], none⟩,
  ⟨some 73, .op (.mov), [.t 72], none⟩,
  ⟨some 74, .op (.mov), [.t 0], some (73, true)⟩,
  ⟨some 75, .op (.mov), [.t 10], some (73, true)⟩,
  ⟨some 76, .op (.mov), [.t 7], some (73, true)⟩,
  ⟨some 77, .op (.bin .sub .prim), [.t 75, .t 76], some (73, true)⟩,
  ⟨some 78, .op (.mov), [.t 10], some (73, true)⟩,
  ⟨some 79, .op (.slice 1 true true false), [.t 74, .t 77, .t 78], some (73, true)⟩,
  ⟨some 80, .op (.b2s), [.t 79], some (73, true)⟩,
  ⟨some 81, .op (.mov), [.t 1], some (73, true)⟩,
  ⟨some 82, .op (.b2s), [.t 81], some (73, true)⟩,
  ⟨some 83, .op (.bin .eql .prim), [.t 80, .t 82], some (73, true)⟩,
  ⟨some 84, .op (.pick), [.t 73, .t 83, .c (.bool false)], none⟩]
abbrev r39_17 : List IOp := [⟨some 85, .op (.mov), [.t 10], none⟩,
  ⟨some 86, .op (.mov), [.t 7], none⟩,
  ⟨some 87, .op (.bin .sub .prim), [.t 85, .t 86], none⟩,
  ⟨some 4, .op (.mov), [.t 87], none⟩]
abbrev b39_1 : IC := (IC.seq (IC.seq (IC.reg r39_11) (IC.cond (.t 47) IC.skip (IC.exit 2))) (IC.block 3 (IC.seq (IC.reg r39_12) (IC.seq (IC.reg r39_13) (IC.seq (IC.reg r39_14) (IC.seq (IC.reg r39_15) (IC.seq (IC.regD .wild r39_16 (.take 0 (.take 1 (.take 2 (.take 3 (.take 4 (.take 5 (.take 6 (.take 7 (.take 8 (.take 9 (.take 10 (.take 11 (.take 12 (.take 13 (.take 14 (.done))))))))))))))))) (IC.cond (.t 84) (IC.seq (IC.reg r39_17) IC.ret) IC.skip))))))))
abbrev r39_18 : List IOp := [⟨some 4, .op (.mov), [.c (.int .i64 (-1))], none⟩]
abbrev c39 : IC := (IC.seq (IC.reg r39_0) (IC.seq (IC.reg r39_1) (IC.seq (IC.reg r39_2) (IC.seq (IC.reg r39_3) (IC.seq (IC.seq (IC.reg r39_4) (IC.block 0 (IC.loop b39_0))) (IC.seq (IC.seq (IC.regD .wild r39_8 (.take 0 (.take 1 (.take 2 (.take 3 (.take 4 (.take 5 (.take 6 (.take 7 (.take 8 (.take 9 (.take 10 (.take 11 (.done)))))))))))))) (IC.cond (.t 42) (IC.seq (IC.reg r39_9) IC.ret) IC.skip)) (IC.seq (IC.seq (IC.reg r39_10) (IC.block 2 (IC.loop b39_1))) (IC.seq (IC.reg r39_18) IC.ret))))))))
abbrev g39 : FC := ⟨c39, 88, [.t 4]⟩
theorem comp39 : compF Go.Proofs.Tryd.prog (hintL [(8, 6), (16, 6)]) 39 = some g39 := by kernel_rfl

-- math/bits.Mul32
abbrev r40_0 : List IOp := [⟨some 4, .op (.mov), [.c (.int .u32 0)], none⟩,
  ⟨some 5, .op (.mov), [.c (.int .u32 0)], none⟩]
abbrev r40_1 : List IOp := [⟨some 7, .op (.mov), [.t 0], none⟩,
  ⟨some 8, .op (.toInt .u64), [.t 7], none⟩,
  ⟨some 9, .op (.mov), [.t 1], none⟩,
  ⟨some 10, .op (.toInt .u64), [.t 9], none⟩,
  ⟨some 11, .op (.bin .mul .prim), [.t 8, .t 10], none⟩,
  ⟨some 6, .op (.mov), [.t 11], none⟩]
abbrev r40_2 : List IOp := [⟨some 12, .op (.mov), [.t 6], none⟩,
  ⟨some 13, .op (.bin .shr .prim), [.t 12, .c (.int .u64 32)], none⟩,
  ⟨some 14, .op (.toInt .u32), [.t 13], none⟩,
  ⟨some 15, .op (.mov), [.t 6], none⟩,
  ⟨some 16, .op (.toInt .u32), [.t 15], none⟩,
  ⟨some 4, .op (.mov), [.t 14], none⟩,
  ⟨some 5, .op (.mov), [.t 16], none⟩]
abbrev c40 : IC := (IC.seq (IC.reg r40_0) (IC.seq (IC.reg r40_1) (IC.seq (IC.reg r40_2) IC.ret)))
abbrev g40 : FC := ⟨c40, 17, [.t 4, .t 5]⟩
theorem comp40 : compF Go.Proofs.Tryd.prog (fun _ => 0) 40 = some g40 := by kernel_rfl

-- math/bits.Mul64
abbrev r41_0 : List IOp := [⟨some 4, .op (.mov), [.c (.int .u64 0)], none⟩,
  ⟨some 5, .op (.mov), [.c (.int .u64 0)], none⟩]
abbrev r41_1 : List IOp := [⟨some 14, .op (.mov), [.t 0], none⟩,
  ⟨some 15, .op (.bin .and .prim), [.t 14, .c (.int .u64 4294967295)], none⟩,
  ⟨some 6, .op (.mov), [.t 15], none⟩]
abbrev r41_2 : List IOp := [⟨some 16, .op (.mov), [.t 0], none⟩,
  ⟨some 17, .op (.bin .shr .prim), [.t 16, .c (.int .u64 32)], none⟩,
  ⟨some 7, .op (.mov), [.t 17], none⟩]
abbrev r41_3 : List IOp := [⟨some 18, .op (.mov), [.t 1], none⟩,
  ⟨some 19, .op (.bin .and .prim), [.t 18, .c (.int .u64 4294967295)], none⟩,
  ⟨some 8, .op (.mov), [.t 19], none⟩]
abbrev r41_4 : List IOp := [⟨some 20, .op (.mov), [.t 1], none⟩,
  ⟨some 21, .op (.bin .shr .prim), [.t 20, .c (.int .u64 32)], none⟩,
  ⟨some 9, .op (.mov), [.t 21], none⟩]
abbrev r41_5 : List IOp := [⟨some 22, .op (.mov), [.t 6], none⟩,
  ⟨some 23, .op (.mov), [.t 8], none⟩,
  ⟨some 24, .op (.bin .mul .prim), [.t 22, .t 23], none⟩,
  ⟨some 10, .op (.mov), [.t 24], none⟩]
abbrev r41_6 : List IOp := [⟨some 25, .op (.mov), [.t 7], none⟩,
  ⟨some 26, .op (.mov), [.t 8], none⟩,
  ⟨some 27, .op (.bin .mul .prim), [.t 25, .t 26], none⟩,
  ⟨some 28, .op (.mov), [.t 10], none⟩,
  ⟨some 29, .op (.bin .shr .prim), [.t 28, .c (.int .u64 32)], none⟩,
  ⟨some 30, .op (.bin .add .prim), [.t 27, .t 29], none⟩,
  ⟨some 11, .op (.mov), [.t 30], none⟩]
abbrev r41_7 : List IOp := [⟨some 31, .op (.mov), [.t 11], none⟩,
  ⟨some 32, .op (.bin .and .prim), [.t 31, .c (.int .u64 4294967295)], none⟩,
  ⟨some 12, .op (.mov), [.t 32], none⟩]
abbrev r41_8 : List IOp := [⟨some 33, .op (.mov), [.t 11], none⟩,
  ⟨some 34, .op (.bin .shr .prim), [.t 33, .c (.int .u64 32)], none⟩,
  ⟨some 13, .op (.mov), [.t 34], none⟩]
abbrev r41_9 : List IOp := [⟨some 35, .op (.mov), [.t 12], none⟩,
  ⟨some 36, .op (.mov), [.t 6], none⟩,
  ⟨some 37, .op (.mov), [.t 9], none⟩,
  ⟨some 38, .op (.bin .mul .prim), [.t 36, .t 37], none⟩,
  ⟨some 39, .op (.bin .add .prim), [.t 35, .t 38], none⟩,
  ⟨some 12, .op (.mov), [.t 39], none⟩]
abbrev r41_10 : List IOp := [⟨some 40, .op (.mov), [.t 7], none⟩,
  ⟨some 41, .op (.mov), [.t 9], none⟩,
  ⟨some 42, .op (.bin .mul .prim), [.t 40, .t 41], none⟩,
  ⟨some 43, .op (.mov), [.t 13], none⟩,
  ⟨some 44, .op (.bin .add .prim), [.t 42, .t 43], none⟩,
  ⟨some 45, .op (.mov), [.t 12], none⟩,
  ⟨some 46, .op (.bin .shr .prim), [.t 45, .c (.int .u64 32)], none⟩,
  ⟨some 47, .op (.bin .add .prim), [.t 44, .t 46], none⟩,
  ⟨some 4, .op (.mov), [.t 47], none⟩]
abbrev r41_11 : List IOp := [⟨some 48, .op (.mov), [.t 0], none⟩,
  ⟨some 49, .op (.mov), [.t 1], none⟩,
  ⟨some 50, .op (.bin .mul .prim), [.t 48, .t 49], none⟩,
  ⟨some 5, .op (.mov), [.t 50], none⟩]
abbrev c41 : IC := (IC.seq (IC.reg r41_0) (IC.seq (IC.reg r41_1) (IC.seq (IC.reg r41_2) (IC.seq (IC.reg r41_3) (IC.seq (IC.reg r41_4) (IC.seq (IC.reg r41_5) (IC.seq (IC.reg r41_6) (IC.seq (IC.reg r41_7) (IC.seq (IC.reg r41_8) (IC.seq (IC.reg r41_9) (IC.seq (IC.reg r41_10) (IC.seq (IC.reg r41_11) IC.ret))))))))))))
abbrev g41 : FC := ⟨c41, 51, [.t 4, .t 5]⟩
theorem comp41 : compF Go.Proofs.Tryd.prog (fun _ => 0) 41 = some g41 := by kernel_rfl



-- bytes.shouldUseASCIISet
abbrev r44_0 : List IOp := [⟨some 2, .op (.mov), [.c (.bool false)], none⟩]
abbrev r44_1 : List IOp := [⟨some 3, .op (.mov), [.t 0], none⟩,
  ⟨some 4, .op (.bin .gtr .prim), [.t 3, .c (.int .i64 8)], none⟩,
  ⟨some 2, .op (.mov), [.t 4], none⟩]
abbrev c44 : IC := (IC.seq (IC.reg r44_0) (IC.seq (IC.reg r44_1) IC.ret))
abbrev g44 : FC := ⟨c44, 5, [.t 2]⟩
theorem comp44 : compF Go.Proofs.Tryd.prog (fun _ => 0) 44 = some g44 := by kernel_rfl

-- bytes.makeASCIISet
abbrev r45_0 : List IOp := [⟨some 2, .op (.alloc 60 [.bool false, .bool false, .bool false, .bool false, .bool false, .bool false, .bool false, .bool false, .bool false, .bool false, .bool false, .bool false, .bool false, .bool false, .bool false, .bool false, .bool false, .bool false, .bool false, .bool false, .bool false, .bool false, .bool false, .bool false, .bool false, .bool false, .bool false, .bool false, .bool false, .bool false, .bool false, .bool false, .bool false, .bool false, .bool false, .bool false, .bool false, .bool false, .bool false, .bool false, .bool false, .bool false, .bool false, .bool false, .bool false, .bool false, .bool false, .bool false, .bool false, .bool false, .bool false, .bool false, .bool false, .bool false, .bool false, .bool false, .bool false, .bool false, .bool false, .bool false, .bool false, .bool false, .bool false, .bool false, .bool false, .bool false, .bool false, .bool false, .bool false, .bool false, .bool false, .bool false, .bool false, .bool false, .bool false, .bool false, .bool false, .bool false, .bool false, .bool false, .bool false, .bool false, .bool false, .bool false, .bool false, .bool false, .bool false, .bool false, .bool false, .bool false, .bool false, .bool false, .bool false, .bool false, .bool false, .bool false, .bool false, .bool false, .bool false, .bool false, .bool false, .bool false, .bool false, .bool false, .bool false, .bool false, .bool false, .bool false, .bool false, .bool false, .bool false, .bool false, .bool false, .bool false, .bool false, .bool false, .bool false, .bool false, .bool false, .bool false, .bool false, .bool false, .bool false, .bool false, .bool false, .bool false, .bool false, .bool false, .bool false, .bool false, .bool false, .bool false, .bool false, .bool false, .bool false, .bool false, .bool false, .bool false, .bool false, .bool false, .bool false, .bool false, .bool false, .bool false, .bool false, .bool false, .bool false, .bool false, .bool false, .bool false, .bool false, .bool false, .bool false, .bool false, .bool false, .bool false, .bool false, .bool false, .bool false, .bool false, .bool false, .bool false, .bool false, .bool false, .bool false, .bool false, .bool false, .bool false, .bool false, .bool false, .bool false, .bool false, .bool false, .bool false, .bool false, .bool false, .bool false, .bool false, .bool false, .bool false, .bool false, .bool false, .bool false, .bool false, .bool false, .bool false, .bool false, .bool false, .bool false, .bool false, .bool false, .bool false, .bool false, .bool false, .bool false, .bool false, .bool false, .bool false, .bool false, .bool false, .bool false, .bool false, .bool false, .bool false, .bool false, .bool false, .bool false, .bool false, .bool false, .bool false, .bool false, .bool false, .bool false, .bool false, .bool false, .bool false, .bool false, .bool false, .bool false, .bool false, .bool false, .bool false, .bool false, .bool false, .bool false, .bool false, .bool false, .bool false, .bool false, .bool false, .bool false, .bool false, .bool false, .bool false, .bool false, .bool false, .bool false, .bool false, .bool false, .bool false, .bool false, .bool false, .bool false, .bool false, .bool false, .bool false, .bool false, .bool false, .bool false, .bool false, .bool false, .bool false, .bool false, .bool false, .bool false, .bool false]), [], none⟩,
  ⟨some 3, .op (.mov), [.c (.bool false)], none⟩]
abbrev r45_1 : List IOp := [⟨some 4, .op (.mov), [.c (.int .i64 0)], none⟩]
abbrev r45_2 : List IOp := [⟨some 6, .op (.mov), [.t 4], none⟩,
  ⟨some 7, .op (.mov), [.t 0], none⟩,
  ⟨some 8, .op (.len .str), [.t 7], none⟩,
  ⟨some 9, .op (.bin .lss .prim), [.t 6, .t 8], none⟩]
abbrev r45_3 : List IOp := [⟨some 12, .op (.mov), [.t 0], none⟩,
  ⟨some 13, .op (.mov), [.t 4], none⟩,
  ⟨some 14, .op (.idxs), [.t 12, .t 13], none⟩,
  ⟨some 5, .op (.mov), [.t 14], none⟩]
abbrev r45_4 : List IOp := [⟨some 15, .op (.mov), [.t 5], none⟩,
  ⟨some 16, .op (.bin .geq .prim), [.t 15, .c (.int .u8 128)], none⟩]
abbrev r45_5 : List IOp := [⟨some 17, .op (.load (some 256)), [.t 2], none⟩,
  ⟨none, .op (.store 256), [.t 2, .t 17], none⟩,
  ⟨some 3, .op (.mov), [.c (.bool false)], none⟩]
abbrev r45_6 : List IOp := [⟨some 18, .op (.mov), [.t 5], none⟩,
  ⟨some 19, .op (.aaddr 256 1), [.t 2, .t 18], none⟩,
  ⟨none, .op (.store 1), [.t 19, .c (.bool true)], none⟩]
abbrev r45_7 : List IOp := [⟨some 10, .op (.mov), [.t 4], none⟩,
  ⟨some 11, .op (.bin .add .prim), [.t 10, .c (.int .i64 1)], none⟩,
  ⟨some 4, .op (.mov), [.t 11], none⟩]
abbrev b45_0 : IC := (IC.seq (IC.seq (IC.reg r45_2) (IC.cond (.t 9) IC.skip (IC.exit 0))) (IC.seq (IC.block 1 (IC.seq (IC.reg r45_3) (IC.seq (IC.seq (IC.reg r45_4) (IC.cond (.t 16) (IC.seq (IC.reg r45_5) IC.ret) IC.skip)) (IC.reg r45_6)))) (IC.reg r45_7)))
abbrev r45_8 : List IOp := [⟨some 20, .op (.load (some 256)), [.t 2], none⟩,
  ⟨none, .op (.store 256), [.t 2, .t 20], none⟩,
  ⟨some 3, .op (.mov), [.c (.bool true)], none⟩]
abbrev c45 : IC := (IC.seq (IC.reg r45_0) (IC.seq (IC.seq (IC.reg r45_1) (IC.block 0 (IC.loop b45_0))) (IC.seq (IC.reg r45_8) IC.ret)))
abbrev g45 : FC := ⟨c45, 21, [.cell 2 (some 256), .t 3]⟩
theorem comp45 : compF Go.Proofs.Tryd.prog (fun _ => 0) 45 = some g45 := by kernel_rfl

-- (*bytes.asciiSet).contains
abbrev r46_0 : List IOp := [⟨some 4, .op (.mov), [.c (.bool false)], none⟩]
abbrev r46_1 : List IOp := [⟨some 5, .op (.mov), [.t 0], none⟩,
  ⟨some 6, .op (.mov), [.t 1], none⟩,
  ⟨some 7, .op (.nilchk), [.t 5], none⟩,
  ⟨some 8, .op (.aaddr 256 1), [.t 7, .t 6], none⟩,
  ⟨some 9, .op (.load none), [.t 8], none⟩,
  ⟨some 4, .op (.mov), [.t 9], none⟩]
abbrev c46 : IC := (IC.seq (IC.reg r46_0) (IC.seq (IC.reg r46_1) IC.ret))
abbrev g46 : FC := ⟨c46, 10, [.t 4]⟩
theorem comp46 : compF Go.Proofs.Tryd.prog (fun _ => 0) 46 = some g46 := by kernel_rfl

-- unicode/utf8.DecodeRune
abbrev r47_0 : List IOp := [⟨some 2, .op (.mov), [.c (.int .i32 0)], none⟩,
  ⟨some 3, .op (.mov), [.c (.int .i64 0)], none⟩]
abbrev r47_1 : List IOp := [⟨some 6, .op (.mov), [.t 0], none⟩,
  ⟨some 7, .op (.len .slice), [.t 6], none⟩,
  ⟨some 8, .op (.mov), [.c (.int .i64 0)], none⟩]
abbrev r47_2 : List IOp := [⟨some 9, .op (.bin .lss .prim), [.t 8, .t 7], none⟩]
abbrev r47_3 : List IOp := [⟨some 10, .op (.iaddr 1), [.t 6, .t 8], none⟩,
  ⟨some 11, .op (.load none), [.t 10], none⟩,
  ⟨some 5, .op (.mov), [.t 11], none⟩]
abbrev r47_4 : List IOp := [⟨some 12, .op (.mov), [.t 5], none⟩,
  ⟨some 13, .op (.bin .lss .prim), [.t 12, .c (.int .u8 128)], none⟩]
abbrev r47_5 : List IOp := [⟨some 14, .op (.mov), [.t 5], none⟩,
  ⟨some 15, .op (.toInt .i32), [.t 14], none⟩,
  ⟨some 2, .op (.mov), [.t 15], none⟩,
  ⟨some 3, .op (.mov), [.c (.int .i64 1)], none⟩]
abbrev r47_6 : List IOp := [⟨some 16, .op (.bin .add .prim), [.t 8, .c (.int .i64 1)], none⟩,
  ⟨some 8, .op (.mov), [.t 16], none⟩]
abbrev b47_0 : IC := (IC.seq (IC.reg r47_2) (IC.seq (IC.cond (.t 9) IC.skip (IC.exit 0)) (IC.seq (IC.block 1 (IC.seq (IC.reg r47_3) (IC.seq (IC.seq (IC.reg r47_4) (IC.cond (.t 13) (IC.seq (IC.reg r47_5) IC.ret) IC.skip)) (IC.exit 0)))) (IC.reg r47_6))))
abbrev r47_7 : List IOp := [⟨some 18, .op (.mov), [.t 0], none⟩,
  ⟨some 19, .call none, [.f 53, .t 18], none⟩,
  ⟨some 17, .op (.mov), [.t 19], none⟩,
  ⟨some 20, .op (.extract 0), [.t 17], none⟩,
  ⟨some 21, .op (.extract 1), [.t 17], none⟩,
  ⟨some 2, .op (.mov), [.t 20], none⟩,
  ⟨some 3, .op (.mov), [.t 21], none⟩]
abbrev c47 : IC := (IC.seq (IC.reg r47_0) (IC.seq (IC.seq (IC.reg r47_1) (IC.block 0 (IC.loop b47_0))) (IC.seq (IC.reg r47_7) IC.ret)))
abbrev g47 : FC := ⟨c47, 22, [.t 2, .t 3]⟩
theorem comp47 : compF Go.Proofs.Tryd.prog (fun _ => 0) 47 = some g47 := by kernel_rfl



-- internal/bytealg.hashStr[[]byte]
abbrev r50_0 : List IOp := [⟨some 2, .op (.mov), [.c (.int .u32 0)], none⟩,
  ⟨some 3, .op (.mov), [.c (.int .u32 0)], none⟩]
abbrev r50_1 : List IOp := [⟨some 4, .op (.mov), [.c (.int .u32 0)], none⟩]
abbrev r50_2 : List IOp := [⟨some 5, .op (.mov), [.c (.int .i64 0)], none⟩]
abbrev r50_3 : List IOp := [⟨some 9, .op (.mov), [.t 5], none⟩,
  ⟨some 10, .op (.mov), [.t 0], none⟩,
  ⟨some 11, .op (.len .slice), [.t 10], none⟩,
  ⟨some 12, .op (.bin .lss .prim), [.t 9, .t 11], none⟩]
abbrev r50_4 : List IOp := [⟨some 15, .op (.mov), [.t 4], none⟩,
  ⟨some 16, .op (.bin .mul .prim), [.t 15, .c (.int .u32 16777619)], none⟩,
  ⟨some 17, .op (.mov), [.t 0], none⟩,
  ⟨some 18, .op (.mov), [.t 5], none⟩,
  ⟨some 19, .op (.iaddr 1), [.t 17, .t 18], none⟩,
  ⟨some 20, .op (.load none), [.t 19], none⟩,
  ⟨some 21, .op (.toInt .u32), [.t 20], none⟩,
  ⟨some 22, .op (.bin .add .prim), [.t 16, .t 21], none⟩,
  ⟨some 4, .op (.mov), [.t 22], none⟩]
abbrev r50_5 : List IOp := [⟨some 13, .op (.mov), [.t 5], none⟩,
  ⟨some 14, .op (.bin .add .prim), [.t 13, .c (.int .i64 1)], none⟩,
  ⟨some 5, .op (.mov), [.t 14], none⟩]
abbrev b50_0 : IC := (IC.seq (IC.seq (IC.reg r50_3) (IC.cond (.t 12) IC.skip (IC.exit 0))) (IC.seq (IC.block 1 (IC.reg r50_4)) (IC.reg r50_5)))
abbrev r50_6 : List IOp := [⟨some 6, .op (.mov), [.c (.int .u32 1)], none⟩,
  ⟨some 7, .op (.mov), [.c (.int .u32 16777619)], none⟩]
abbrev r50_7 : List IOp := [⟨some 23, .op (.mov), [.t 0], none⟩,
  ⟨some 24, .op (.len .slice), [.t 23], none⟩,
  ⟨some 8, .op (.mov), [.t 24], none⟩]
abbrev r50_8 : List IOp := [⟨some 25, .op (.mov), [.t 8], none⟩,
  ⟨some 26, .op (.bin .gtr .prim), [.t 25, .c (.int .i64 0)], none⟩]
abbrev r50_9 : List IOp := [⟨some 29, .op (.mov), [.t 8], none⟩,
  ⟨some 30, .op (.bin .and .prim), [.t 29, .c (.int .i64 1)], none⟩,
  ⟨some 31, .op (.bin .neq .prim), [.t 30, .c (.int .i64 0)], none⟩]
abbrev r50_10 : List IOp := [⟨some 32, .op (.mov), [.t 6], none⟩,
  ⟨some 33, .op (.mov), [.t 7], none⟩,
  ⟨some 34, .op (.bin .mul .prim), [.t 32, .t 33], none⟩,
  ⟨some 6, .op (.mov), [.t 34], none⟩]
abbrev r50_11 : List IOp := [⟨some 35, .op (.mov), [.t 7], none⟩,
  ⟨some 36, .op (.mov), [.t 7], none⟩,
  ⟨some 37, .op (.bin .mul .prim), [.t 35, .t 36], none⟩,
  ⟨some 7, .op (.mov), [.t 37], none⟩]
abbrev r50_12 : List IOp := [⟨some 27, .op (.mov), [.t 8], none⟩,
  ⟨some 28, .op (.bin .shr .prim), [.t 27, .c (.int .u64 1)], none⟩,
  ⟨some 8, .op (.mov), [.t 28], none⟩]
abbrev b50_1 : IC := (IC.seq (IC.seq (IC.reg r50_8) (IC.cond (.t 26) IC.skip (IC.exit 2))) (IC.seq (IC.block 3 (IC.seq (IC.seq (IC.reg r50_9) (IC.cond (.t 31) (IC.reg r50_10) IC.skip)) (IC.reg r50_11))) (IC.reg r50_12)))
abbrev r50_13 : List IOp := [⟨some 38, .op (.mov), [.t 4], none⟩,
  ⟨some 39, .op (.mov), [.t 6], none⟩,
  ⟨some 2, .op (.mov), [.t 38], none⟩,
  ⟨some 3, .op (.mov), [.t 39], none⟩]
abbrev c50 : IC := (IC.seq (IC.reg r50_0) (IC.seq (IC.reg r50_1) (IC.seq (IC.seq (IC.reg r50_2) (IC.block 0 (IC.loop b50_0))) (IC.seq (IC.reg r50_6) (IC.seq (IC.seq (IC.reg r50_7) (IC.block 2 (IC.loop b50_1))) (IC.seq (IC.reg r50_13) IC.ret))))))
abbrev g50 : FC := ⟨c50, 40, [.t 2, .t 3]⟩
theorem comp50 : compF Go.Proofs.Tryd.prog (fun _ => 0) 50 = some g50 := by kernel_rfl

-- unicode/utf8.decodeRuneSlow
abbrev r53_0 : List IOp := [⟨some 2, .op (.mov), [.c (.int .i32 0)], none⟩,
  ⟨some 3, .op (.mov), [.c (.int .i64 0)], none⟩]
abbrev r53_1 : List IOp := [⟨some 13, .op (.mov), [.t 0], none⟩,
  ⟨some 14, .op (.len .slice), [.t 13], none⟩,
  ⟨some 4, .op (.mov), [.t 14], none⟩]
abbrev r53_2 : List IOp := [⟨some 15, .op (.mov), [.t 4], none⟩,
  ⟨some 16, .op (.bin .lss .prim), [.t 15, .c (.int .i64 1)], none⟩]
abbrev r53_3 : List IOp := [⟨some 2, .op (.mov), [.c (.int .i32 65533)], none⟩,
  ⟨some 3, .op (.mov), [.c (.int .i64 0)], none⟩]
abbrev r53_4 : List IOp := [⟨some 17, .op (.mov), [.t 0], none⟩,
  ⟨some 18, .op (.iaddr 1), [.t 17, .c (.int .i64 0)], none⟩,
  ⟨some 19, .op (.load none), [.t 18], none⟩,
  ⟨some 5, .op (.mov), [.t 19], none⟩]
abbrev r53_5 : List IOp := [⟨some 20, .op (.mov), [.t 5], none⟩,
  ⟨some 21, .op (.aaddr 256 1), [.c (.fptr (gv 1) 0), .t 20], none⟩,
  ⟨some 22, .op (.load none), [.t 21], none⟩,
  ⟨some 6, .op (.mov), [.t 22], none⟩]
abbrev r53_6 : List IOp := [⟨some 23, .op (.mov), [.t 6], none⟩,
  ⟨some 24, .op (.bin .geq .prim), [.t 23, .c (.int .u8 240)], none⟩]
abbrev r53_7 : List IOp := [⟨some 25, .op (.mov), [.t 6], none⟩,
  ⟨some 26, .op (.toInt .i32), [.t 25], none⟩,
  ⟨some 27, .op (.bin .shl .prim), [.t 26, .c (.int .u64 31)], none⟩,
  ⟨some 28, .op (.bin .shr .prim), [.t 27, .c (.int .u64 31)], none⟩,
  ⟨some 7, .op (.mov), [.t 28], none⟩]
abbrev r53_8 : List IOp := [⟨some 29, .op (.mov), [.t 0], none⟩,
  ⟨some 30, .op (.iaddr 1), [.t 29, .c (.int .i64 0)], none⟩,
  ⟨some 31, .op (.load none), [.t 30], none⟩,
  ⟨some 32, .op (.toInt .i32), [.t 31], none⟩,
  ⟨some 33, .op (.mov), [.t 7], none⟩,
  ⟨some 34, .op (.bin .andNot .prim), [.t 32, .t 33], none⟩,
  ⟨some 35, .op (.mov), [.t 7], none⟩,
  ⟨some 36, .op (.bin .and .prim), [.c (.int .i32 65533), .t 35], none⟩,
  ⟨some 37, .op (.bin .or .prim), [.t 34, .t 36], none⟩,
  ⟨some 2, .op (.mov), [.t 37], none⟩,
  ⟨some 3, .op (.mov), [.c (.int .i64 1)], none⟩]
abbrev r53_9 : List IOp := [⟨some 38, .op (.mov), [.t 6], none⟩,
  ⟨some 39, .op (.bin .and .prim), [.t 38, .c (.int .u8 7)], none⟩,
  ⟨some 40, .op (.toInt .i64), [.t 39], none⟩,
  ⟨some 8, .op (.mov), [.t 40], none⟩]
abbrev r53_10 : List IOp := [⟨some 41, .op (.mov), [.t 6], none⟩,
  ⟨some 42, .op (.bin .shr .prim), [.t 41, .c (.int .u64 4)], none⟩,
  ⟨some 43, .op (.aaddr 16 2), [.c (.fptr (gv 2) 0), .t 42], none⟩,
  ⟨some 44, .op (.load (some 2)), [.t 43], none⟩,
  ⟨some 9, .op (.alloc 72 [.int .u8 0, .int .u8 0]), [], none⟩,
  ⟨none, .op (.store 2), [.t 9, .t 44], none⟩]
abbrev r53_11 : List IOp := [⟨some 45, .op (.mov), [.t 4], none⟩,
  ⟨some 46, .op (.mov), [.t 8], none⟩,
  ⟨some 47, .op (.bin .lss .prim), [.t 45, .t 46], none⟩]
abbrev r53_12 : List IOp := [⟨some 2, .op (.mov), [.c (.int .i32 65533)], none⟩,
  ⟨some 3, .op (.mov), [.c (.int .i64 1)], none⟩]
abbrev r53_13 : List IOp := [⟨some 48, .op (.mov), [.t 0], none⟩,
  ⟨some 49, .op (.iaddr 1), [.t 48, .c (.int .i64 1)], none⟩,
  ⟨some 50, .op (.load none), [.t 49], none⟩,
  ⟨some 10, .op (.mov), [.t 50], none⟩]
abbrev r53_14 : List IOp := [⟨some 51, .op (.mov), [.t 10], none⟩,
  ⟨some 52, .op (.faddr 0), [.t 9], none⟩,
  ⟨some 53, .op (.load none), [.t 52], none⟩,
  ⟨some 54, .op (.bin .lss .prim), [.t 51, .t 53], none⟩,
  ⟨some 55, .op (.mov), [.t 54], none⟩,
  ⟨some 56, .op (.faddr 1), [.t 9], some (55, false)⟩,
  ⟨some 57, .op (.load none), [.t 56], some (55, false)⟩,
  ⟨some 58, .op (.mov), [.t 10], some (55, false)⟩,
  ⟨some 59, .op (.bin .lss .prim), [.t 57, .t 58], some (55, false)⟩,
  ⟨some 60, .op (.pick), [.t 55, .c (.bool true), .t 59], none⟩]
abbrev r53_15 : List IOp := [⟨some 2, .op (.mov), [.c (.int .i32 65533)], none⟩,
  ⟨some 3, .op (.mov), [.c (.int .i64 1)], none⟩]
abbrev r53_16 : List IOp := [⟨some 61, .op (.mov), [.t 8], none⟩,
  ⟨some 62, .op (.bin .leq .prim), [.t 61, .c (.int .i64 2)], none⟩]
abbrev r53_17 : List IOp := [⟨some 63, .op (.mov), [.t 5], none⟩,
  ⟨some 64, .op (.bin .and .prim), [.t 63, .c (.int .u8 31)], none⟩,
  ⟨some 65, .op (.toInt .i32), [.t 64], none⟩,
  ⟨some 66, .op (.bin .shl .prim), [.t 65, .c (.int .u64 6)], none⟩,
  ⟨some 67, .op (.mov), [.t 10], none⟩,
  ⟨some 68, .op (.bin .and .prim), [.t 67, .c (.int .u8 63)], none⟩,
  ⟨some 69, .op (.toInt .i32), [.t 68], none⟩,
  ⟨some 70, .op (.bin .or .prim), [.t 66, .t 69], none⟩,
  ⟨some 2, .op (.mov), [.t 70], none⟩,
  ⟨some 3, .op (.mov), [.c (.int .i64 2)], none⟩]
abbrev r53_18 : List IOp := [⟨some 71, .op (.mov), [.t 0], none⟩,
  ⟨some 72, .op (.iaddr 1), [.t 71, .c (.int .i64 2)], none⟩,
  ⟨some 73, .op (.load none), [.t 72], none⟩,
  ⟨some 11, .op (.mov), [.t 73], none⟩]
abbrev r53_19 : List IOp := [⟨some 74, .op (.mov), [.t 11], none⟩,
  ⟨some 75, .op (.bin .lss .prim), [.t 74, .c (.int .u8 128)], none⟩,
  ⟨some 76, .op (.mov), [.t 75], none⟩,
  ⟨some 77, .op (.mov), [.t 11], some (76, false)⟩,
  ⟨some 78, .op (.bin .lss .prim), [.c (.int .u8 191), .t 77], some (76, false)⟩,
  ⟨some 79, .op (.pick), [.t 76, .c (.bool true), .t 78], none⟩]
abbrev r53_20 : List IOp := [⟨some 2, .op (.mov), [.c (.int .i32 65533)], none⟩,
  ⟨some 3, .op (.mov), [.c (.int .i64 1)], none⟩]
abbrev r53_21 : List IOp := [⟨some 80, .op (.mov), [.t 8], none⟩,
  ⟨some 81, .op (.bin .leq .prim), [.t 80, .c (.int .i64 3)], none⟩]
abbrev r53_22 : List IOp := [⟨some 82, .op (.mov), [.t 5], none⟩,
  ⟨some 83, .op (.bin .and .prim), [.t 82, .c (.int .u8 15)], none⟩,
  ⟨some 84, .op (.toInt .i32), [.t 83], none⟩,
  ⟨some 85, .op (.bin .shl .prim), [.t 84, .c (.int .u64 12)], none⟩,
  ⟨some 86, .op (.mov), [.t 10], none⟩,
  ⟨some 87, .op (.bin .and .prim), [.t 86, .c (.int .u8 63)], none⟩,
  ⟨some 88, .op (.toInt .i32), [.t 87], none⟩,
  ⟨some 89, .op (.bin .shl .prim), [.t 88, .c (.int .u64 6)], none⟩,
  ⟨some 90, .op (.bin .or .prim), [.t 85, .t 89], none⟩,
  ⟨some 91, .op (.mov), [.t 11], none⟩,
  ⟨some 92, .op (.bin .and .prim), [.t 91, .c (.int .u8 63)], none⟩,
  ⟨some 93, .op (.toInt .i32), [.t 92], none⟩,
  ⟨some 94, .op (.bin .or .prim), [.t 90, .t 93], none⟩,
  ⟨some 2, .op (.mov), [.t 94], none⟩,
  ⟨some 3, .op (.mov), [.c (.int .i64 3)], none⟩]
abbrev r53_23 : List IOp := [⟨some 95, .op (.mov), [.t 0], none⟩,
  ⟨some 96, .op (.iaddr 1), [.t 95, .c (.int .i64 3)], none⟩,
  ⟨some 97, .op (.load none), [.t 96], none⟩,
  ⟨some 12, .op (.mov), [.t 97], none⟩]
abbrev r53_24 : List IOp := [⟨some 98, .op (.mov), [.t 12], none⟩,
  ⟨some 99, .op (.bin .lss .prim), [.t 98, .c (.int .u8 128)], none⟩,
  ⟨some 100, .op (.mov), [.t 99], none⟩,
  ⟨some 101, .op (.mov), [.t 12], some (100, false)⟩,
  ⟨some 102, .op (.bin .lss .prim), [.c (.int .u8 191), .t 101], some (100, false)⟩,
  ⟨some 103, .op (.pick), [.t 100, .c (.bool true), .t 102], none⟩]
abbrev r53_25 : List IOp := [⟨some 2, .op (.mov), [.c (.int .i32 65533)], none⟩,
  ⟨some 3, .op (.mov), [.c (.int .i64 1)], none⟩]
abbrev r53_26 : List IOp := [⟨some 104, .op (.mov), [.t 5], none⟩,
  ⟨some 105, .op (.bin .and .prim), [.t 104, .c (.int .u8 7)], none⟩,
  ⟨some 106, .op (.toInt .i32), [.t 105], none⟩,
  ⟨some 107, .op (.bin .shl .prim), [.t 106, .c (.int .u64 18)], none⟩,
  ⟨some 108, .op (.mov), [.t 10], none⟩,
  ⟨some 109, .op (.bin .and .prim), [.t 108, .c (.int .u8 63)], none⟩,
  ⟨some 110, .op (.toInt .i32), [.t 109], none⟩,
  ⟨some 111, .op (.bin .shl .prim), [.t 110, .c (.int .u64 12)], none⟩,
  ⟨some 112, .op (.bin .or .prim), [.t 107, .t 111], none⟩,
  ⟨some 113, .op (.mov), [.t 11], none⟩,
  ⟨some 114, .op (.bin .and .prim), [.t 113, .c (.int .u8 63)], none⟩,
  ⟨some 115, .op (.toInt .i32), [.t 114], none⟩,
  ⟨some 116, .op (.bin .shl .prim), [.t 115, .c (.int .u64 6)], none⟩,
  ⟨some 117, .op (.bin .or .prim), [.t 112, .t 116], none⟩,
  ⟨some 118, .op (.mov), [.t 12], none⟩,
  ⟨some 119, .op (.bin .and .prim), [.t 118, .c (.int .u8 63)], none⟩,
  ⟨some 120, .op (.toInt .i32), [.t 119], none⟩,
  ⟨some 121, .op (.bin .or .prim), [.t 117, .t 120], none⟩,
  ⟨some 2, .op (.mov), [.t 121], none⟩,
  ⟨some 3, .op (.mov), [.c (.int .i64 4)], none⟩]
abbrev c53 : IC := (IC.seq (IC.reg r53_0) (IC.seq (IC.reg r53_1) (IC.seq (IC.seq (IC.reg r53_2) (IC.cond (.t 16) (IC.seq (IC.reg r53_3) IC.ret) IC.skip)) (IC.seq (IC.reg r53_4) (IC.seq (IC.reg r53_5) (IC.seq (IC.seq (IC.reg r53_6) (IC.cond (.t 24) (IC.seq (IC.reg r53_7) (IC.seq (IC.reg r53_8) IC.ret)) IC.skip)) (IC.seq (IC.reg r53_9) (IC.seq (IC.reg r53_10) (IC.seq (IC.seq (IC.reg r53_11) (IC.cond (.t 47) (IC.seq (IC.reg r53_12) IC.ret) IC.skip)) (IC.seq (IC.reg r53_13) (IC.seq (IC.seq (IC.reg r53_14) (IC.cond (.t 60) (IC.seq (IC.reg r53_15) IC.ret) IC.skip)) (IC.seq (IC.seq (IC.reg r53_16) (IC.cond (.t 62) (IC.seq (IC.reg r53_17) IC.ret) IC.skip)) (IC.seq (IC.reg r53_18) (IC.seq (IC.seq (IC.reg r53_19) (IC.cond (.t 79) (IC.seq (IC.reg r53_20) IC.ret) IC.skip)) (IC.seq (IC.seq (IC.reg r53_21) (IC.cond (.t 81) (IC.seq (IC.reg r53_22) IC.ret) IC.skip)) (IC.seq (IC.reg r53_23) (IC.seq (IC.seq (IC.reg r53_24) (IC.cond (.t 103) (IC.seq (IC.reg r53_25) IC.ret) IC.skip)) (IC.seq (IC.reg r53_26) IC.ret))))))))))))))))))
abbrev g53 : FC := ⟨c53, 122, [.t 2, .t 3]⟩
theorem comp53 : compF Go.Proofs.Tryd.prog (fun _ => 0) 53 = some g53 := by kernel_rfl

set_option maxRecDepth 100000 in
abbrev FT : FTr := (.node 24 g24 (.node 14 g14 (.node 9 g9 (.node 6 g6 (.node 5 g5 (.node 3 g3 .nil .nil) .nil) (.node 8 g8 (.node 7 g7 .nil .nil) .nil)) (.node 12 g12 (.node 11 g11 (.node 10 g10 .nil .nil) .nil) (.node 13 g13 .nil .nil))) (.node 19 g19 (.node 17 g17 (.node 16 g16 (.node 15 g15 .nil .nil) .nil) (.node 18 g18 .nil .nil)) (.node 22 g22 (.node 21 g21 (.node 20 g20 .nil .nil) .nil) (.node 23 g23 .nil .nil)))) (.node 38 g38 (.node 31 g31 (.node 27 g27 (.node 26 g26 (.node 25 g25 .nil .nil) .nil) (.node 30 g30 (.node 28 g28 .nil .nil) .nil)) (.node 35 g35 (.node 34 g34 (.node 33 g33 .nil .nil) .nil) (.node 36 g36 .nil .nil))) (.node 45 g45 (.node 41 g41 (.node 40 g40 (.node 39 g39 .nil .nil) .nil) (.node 44 g44 .nil .nil)) (.node 50 g50 (.node 47 g47 (.node 46 g46 .nil .nil) .nil) (.node 53 g53 .nil .nil)))))
set_option maxRecDepth 100000 in
theorem FT_ok : FT.All (FOk Go.Proofs.Tryd.prog) := ⟨⟨_, comp24, by rfl, .inl (by rfl)⟩, ⟨⟨_, comp14, by rfl, .inl (by rfl)⟩, ⟨⟨_, comp9, by rfl, .inl (by rfl)⟩, ⟨⟨_, comp6, by rfl, .inl (by rfl)⟩, ⟨⟨_, comp5, by rfl, .inl (by rfl)⟩, ⟨⟨_, comp3, by rfl, .inl (by rfl)⟩, trivial, trivial⟩, trivial⟩, ⟨⟨_, comp8, by rfl, .inl (by rfl)⟩, ⟨⟨_, comp7, by rfl, .inl (by rfl)⟩, trivial, trivial⟩, trivial⟩⟩, ⟨⟨_, comp12, by rfl, .inl (by rfl)⟩, ⟨⟨_, comp11, by rfl, .inl (by rfl)⟩, ⟨⟨_, comp10, by rfl, .inl (by rfl)⟩, trivial, trivial⟩, trivial⟩, ⟨⟨_, comp13, by rfl, .inl (by rfl)⟩, trivial, trivial⟩⟩⟩, ⟨⟨_, comp19, by rfl, .inl (by rfl)⟩, ⟨⟨_, comp17, by rfl, .inl (by rfl)⟩, ⟨⟨_, comp16, by rfl, .inl (by rfl)⟩, ⟨⟨_, comp15, by rfl, .inl (by rfl)⟩, trivial, trivial⟩, trivial⟩, ⟨⟨_, comp18, by rfl, .inl (by rfl)⟩, trivial, trivial⟩⟩, ⟨⟨_, comp22, by rfl, .inl (by rfl)⟩, ⟨⟨_, comp21, by rfl, .inl (by rfl)⟩, ⟨⟨_, comp20, by rfl, .inl (by rfl)⟩, trivial, trivial⟩, trivial⟩, ⟨⟨_, comp23, by rfl, .inl (by rfl)⟩, trivial, trivial⟩⟩⟩⟩, ⟨⟨_, comp38, by rfl, .inl (by rfl)⟩, ⟨⟨_, comp31, by rfl, .inl (by rfl)⟩, ⟨⟨_, comp27, by rfl, .inl (by rfl)⟩, ⟨⟨_, comp26, by rfl, .inl (by rfl)⟩, ⟨⟨_, comp25, by rfl, .inl (by rfl)⟩, trivial, trivial⟩, trivial⟩, ⟨⟨_, comp30, by rfl, .inl (by rfl)⟩, ⟨⟨_, comp28, by rfl, .inl (by rfl)⟩, trivial, trivial⟩, trivial⟩⟩, ⟨⟨_, comp35, by rfl, .inl (by rfl)⟩, ⟨⟨_, comp34, by rfl, .inl (by rfl)⟩, ⟨⟨_, comp33, by rfl, .inl (by rfl)⟩, trivial, trivial⟩, trivial⟩, ⟨⟨_, comp36, by rfl, .inl (by rfl)⟩, trivial, trivial⟩⟩⟩, ⟨⟨_, comp45, by rfl, .inl (by rfl)⟩, ⟨⟨_, comp41, by rfl, .inl (by rfl)⟩, ⟨⟨_, comp40, by rfl, .inl (by rfl)⟩, ⟨⟨_, comp39, by rfl, .inl (by rfl)⟩, trivial, trivial⟩, trivial⟩, ⟨⟨_, comp44, by rfl, .inl (by rfl)⟩, trivial, trivial⟩⟩, ⟨⟨_, comp50, by rfl, .inl (by rfl)⟩, ⟨⟨_, comp47, by rfl, .inl (by rfl)⟩, ⟨⟨_, comp46, by rfl, .inl (by rfl)⟩, trivial, trivial⟩, trivial⟩, ⟨⟨_, comp53, by rfl, .inl (by rfl)⟩, trivial, trivial⟩⟩⟩⟩⟩
abbrev LT : List (Nat × LI) := []
theorem LT_ok : LAll Go.Proofs.Tryd.prog LT := trivial
end Go.Gi
