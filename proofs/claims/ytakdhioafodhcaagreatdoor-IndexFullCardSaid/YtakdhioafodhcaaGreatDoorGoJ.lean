/- Functions of the program in the form of the abstract machine, printed by a program; each is checked against the translation. -/
import Derived.Test.YtakdhioafodhcaaGreatDoorGoI
import Derived.Test.YtakdhioafodhcaaGreatDoorProg
import Derived.KernelRfl
set_option linter.unusedVariables false
namespace Go.Gi
open Go
-- outlaw/outlawlaw10.IndexFull
abbrev r3_0 : List IOp := [⟨some 4, .op (.mov), [.c (.bool false)], none⟩]
abbrev r3_1 : List IOp := [⟨some 10, .call none, [.f 8], none⟩,
  ⟨some 11, .op (.un .not), [.t 10], none⟩]
abbrev r3_2 : List IOp := [⟨some 4, .op (.mov), [.c (.bool false)], none⟩]
abbrev r3_3 : List IOp := [⟨some 12, .call none, [.f 9, .c (.int .i64 4)], none⟩,
  ⟨some 5, .op (.mov), [.t 12], none⟩]
abbrev r3_4 : List IOp := [⟨some 13, .op (.mov), [.t 0], none⟩,
  ⟨some 14, .call none, [.f 10, .t 13, .c (.int .i64 1000)], none⟩,
  ⟨some 15, .op (.mov), [.t 1], none⟩,
  ⟨some 16, .call none, [.f 10, .t 15, .c (.int .i64 1000)], none⟩,
  ⟨some 17, .op (.bin .add .prim), [.c (.int .i64 1), .t 16], none⟩,
  ⟨some 6, .op (.mov), [.t 14], none⟩,
  ⟨some 7, .op (.mov), [.t 17], none⟩]
abbrev r3_5 : List IOp := [⟨some 8, .op (.mov), [.c (.int .i64 0)], none⟩]
abbrev r3_6 : List IOp := [⟨some 18, .op (.mov), [.t 8], none⟩,
  ⟨some 19, .op (.bin .lss .prim), [.t 18, .c (.int .i64 200)], none⟩]
abbrev r3_7 : List IOp := [⟨some 22, .op (.mov), [.t 5], none⟩,
  ⟨some 23, .op (.mov), [.t 6], none⟩,
  ⟨some 24, .op (.mov), [.t 8], none⟩,
  ⟨some 25, .op (.mov), [.t 7], none⟩,
  ⟨some 26, .op (.bin .mul .prim), [.t 24, .t 25], none⟩,
  ⟨some 27, .op (.bin .add .prim), [.t 23, .t 26], none⟩,
  ⟨some 28, .call none, [.f 11, .t 22, .t 27, .c (.str [97]), .c (.bool false)], none⟩,
  ⟨some 29, .op (.bin .neq .prim), [.t 28, .c (.int .i64 0)], none⟩]
abbrev r3_8 : List IOp := [⟨some 4, .op (.mov), [.c (.bool false)], none⟩]
abbrev r3_9 : List IOp := [⟨some 20, .op (.mov), [.t 8], none⟩,
  ⟨some 21, .op (.bin .add .prim), [.t 20, .c (.int .i64 1)], none⟩,
  ⟨some 8, .op (.mov), [.t 21], none⟩]
abbrev b3_0 : IC := (IC.seq (IC.seq (IC.reg r3_6) (IC.cond (.t 19) IC.skip (IC.exit 0))) (IC.seq (IC.block 1 (IC.seq (IC.reg r3_7) (IC.cond (.t 29) (IC.seq (IC.reg r3_8) IC.ret) IC.skip))) (IC.reg r3_9)))
abbrev r3_10 : List IOp := [⟨some 30, .op (.mov), [.t 5], none⟩,
  ⟨some 31, .call none, [.f 12, .t 30, .c (.str [97])], none⟩,
  ⟨some 9, .op (.mov), [.t 31], none⟩]
abbrev r3_11 : List IOp := [⟨some 32, .op (.mov), [.t 5], none⟩,
  ⟨some 33, .op (.mov), [.t 6], none⟩,
  ⟨some 34, .op (.mov), [.t 7], none⟩,
  ⟨some 35, .op (.bin .mul .prim), [.c (.int .i64 200), .t 34], none⟩,
  ⟨some 36, .op (.bin .add .prim), [.t 33, .t 35], none⟩,
  ⟨some 37, .call none, [.f 11, .t 32, .t 36, .c (.str [97]), .c (.bool false)], none⟩,
  ⟨some 38, .op (.bin .eql .prim), [.t 37, .c (.int .i64 13)], none⟩,
  ⟨some 39, .op (.mov), [.t 38], none⟩,
  ⟨some 40, .op (.mov), [.t 5], some (39, true)⟩,
  ⟨some 41, .call none, [.f 13, .t 40], some (39, true)⟩,
  ⟨some 42, .op (.bin .eql .prim), [.t 41, .c (.int .i64 200)], some (39, true)⟩,
  ⟨some 43, .op (.pick), [.t 39, .t 42, .c (.bool false)], none⟩,
  ⟨some 44, .op (.mov), [.t 43], none⟩,
  ⟨some 45, .op (.mov), [.t 9], some (44, true)⟩,
  ⟨some 46, .op (.len .slice), [.t 45], some (44, true)⟩,
  ⟨some 47, .op (.bin .eql .prim), [.t 46, .c (.int .i64 200)], some (44, true)⟩,
  ⟨some 48, .op (.pick), [.t 44, .t 47, .c (.bool false)], none⟩,
  ⟨some 49, .op (.mov), [.t 48], none⟩,
  ⟨some 50, .op (.mov), [.t 9], some (49, true)⟩,
  ⟨some 51, .op (.iaddr 1), [.t 50, .c (.int .i64 0)], some (49, true)⟩,
  ⟨some 52, .op (.load none), [.t 51], some (49, true)⟩,
  ⟨some 53, .op (.mov), [.t 6], some (49, true)⟩,
  ⟨some 54, .op (.bin .eql .prim), [.t 52, .t 53], some (49, true)⟩,
  ⟨some 55, .op (.pick), [.t 49, .t 54, .c (.bool false)], none⟩,
  ⟨some 56, .op (.mov), [.t 55], none⟩,
  ⟨some 57, .op (.mov), [.t 5], some (56, true)⟩,
  ⟨some 58, .op (.mov), [.t 6], some (56, true)⟩,
  ⟨some 59, .call none, [.f 14, .t 57, .t 58], some (56, true)⟩,
  ⟨some 60, .op (.bin .eql .prim), [.t 59, .c (.int .i64 0)], some (56, true)⟩,
  ⟨some 61, .op (.pick), [.t 56, .t 60, .c (.bool false)], none⟩,
  ⟨some 62, .op (.mov), [.t 61], none⟩,
  ⟨some 63, .op (.mov), [.t 5], some (62, true)⟩,
  ⟨some 64, .op (.mov), [.t 6], some (62, true)⟩,
  ⟨some 65, .op (.mov), [.t 7], some (62, true)⟩,
  ⟨some 66, .op (.bin .mul .prim), [.c (.int .i64 200), .t 65], some (62, true)⟩,
  ⟨some 67, .op (.bin .add .prim), [.t 64, .t 66], some (62, true)⟩,
  ⟨some 68, .call none, [.f 11, .t 63, .t 67, .c (.str [97]), .c (.bool false)], some (62, true)⟩,
  ⟨some 69, .op (.bin .eql .prim), [.t 68, .c (.int .i64 0)], some (62, true)⟩,
  ⟨some 70, .op (.pick), [.t 62, .t 69, .c (.bool false)], none⟩,
  ⟨some 4, .op (.mov), [.t 70], none⟩]
abbrev c3 : IC := (IC.seq (IC.reg r3_0) (IC.seq (IC.seq (IC.reg r3_1) (IC.cond (.t 11) (IC.seq (IC.reg r3_2) IC.ret) IC.skip)) (IC.seq (IC.reg r3_3) (IC.seq (IC.reg r3_4) (IC.seq (IC.seq (IC.reg r3_5) (IC.block 0 (IC.loop b3_0))) (IC.seq (IC.reg r3_10) (IC.seq (IC.reg r3_11) IC.ret)))))))
abbrev g3 : FC := ⟨c3, 71, [.t 4]⟩
theorem comp3 : compF Go.Proofs.Tryz.prog (fun _ => 0) 3 = some g3 := by kernel_rfl

-- outlaw/outlawkit.Pick
abbrev r10_0 : List IOp := [⟨some 4, .op (.mov), [.c (.int .i64 0)], none⟩]
abbrev r10_1 : List IOp := [⟨some 6, .op (.mov), [.t 1], none⟩,
  ⟨some 7, .op (.bin .lss .prim), [.t 6, .c (.int .i64 1)], none⟩]
abbrev r10_2 : List IOp := [⟨some 4, .op (.mov), [.c (.int .i64 0)], none⟩]
abbrev r10_3 : List IOp := [⟨some 8, .op (.mov), [.t 0], none⟩,
  ⟨some 9, .op (.mov), [.t 1], none⟩,
  ⟨some 10, .op (.bin .rem .prim), [.t 8, .t 9], none⟩,
  ⟨some 5, .op (.mov), [.t 10], none⟩]
abbrev r10_4 : List IOp := [⟨some 11, .op (.mov), [.t 5], none⟩,
  ⟨some 12, .op (.bin .lss .prim), [.t 11, .c (.int .i64 0)], none⟩]
abbrev r10_5 : List IOp := [⟨some 13, .op (.mov), [.t 5], none⟩,
  ⟨some 14, .op (.mov), [.t 1], none⟩,
  ⟨some 15, .op (.bin .add .prim), [.t 13, .t 14], none⟩,
  ⟨some 5, .op (.mov), [.t 15], none⟩]
abbrev r10_6 : List IOp := [⟨some 16, .op (.mov), [.t 5], none⟩,
  ⟨some 4, .op (.mov), [.t 16], none⟩]
abbrev c10 : IC := (IC.seq (IC.reg r10_0) (IC.seq (IC.seq (IC.reg r10_1) (IC.cond (.t 7) (IC.seq (IC.reg r10_2) IC.ret) IC.skip)) (IC.seq (IC.reg r10_3) (IC.seq (IC.seq (IC.reg r10_4) (IC.cond (.t 12) (IC.reg r10_5) IC.skip)) (IC.seq (IC.reg r10_6) IC.ret)))))
abbrev g10 : FC := ⟨c10, 17, [.t 4]⟩
theorem comp10 : compF Go.Proofs.Tryz.prog (fun _ => 0) 10 = some g10 := by kernel_rfl

-- (*outlaw/index.Index).Drop$1
abbrev r39_0 : List IOp := [⟨some 3, .op (.mov), [.c (.bool false)], none⟩]
abbrev r39_1 : List IOp := [⟨some 4, .op (.mov), [.t 0], none⟩,
  ⟨some 5, .op (.load none), [.t 1], none⟩,
  ⟨some 6, .op (.bin .eql .prim), [.t 4, .t 5], none⟩,
  ⟨some 3, .op (.mov), [.t 6], none⟩]
abbrev c39 : IC := (IC.seq (IC.reg r39_0) (IC.seq (IC.reg r39_1) IC.ret))
abbrev g39 : FC := ⟨c39, 7, [.t 3]⟩
theorem comp39 : compF Go.Proofs.Tryz.prog (fun _ => 0) 39 = some g39 := by kernel_rfl

-- slices.DeleteFunc[[]int,int]
abbrev r38_0 : List IOp := [⟨some 4, .op (.mov), [.c (.nils)], none⟩]
abbrev r38_1 : List IOp := [⟨some 8, .op (.mov), [.t 0], none⟩,
  ⟨some 9, .op (.mov), [.t 1], none⟩,
  ⟨some 10, .call none, [.f 54, .t 8, .t 9], none⟩,
  ⟨some 5, .op (.mov), [.t 10], none⟩]
abbrev r38_2 : List IOp := [⟨some 11, .op (.mov), [.t 5], none⟩,
  ⟨some 12, .op (.bin .eql .prim), [.t 11, .c (.int .i64 (-1))], none⟩]
abbrev r38_3 : List IOp := [⟨some 13, .op (.mov), [.t 0], none⟩,
  ⟨some 4, .op (.mov), [.t 13], none⟩]
abbrev r38_4 : List IOp := [⟨some 14, .op (.mov), [.t 5], none⟩,
  ⟨some 15, .op (.bin .add .prim), [.t 14, .c (.int .i64 1)], none⟩,
  ⟨some 6, .op (.mov), [.t 15], none⟩]
abbrev r38_5 : List IOp := [⟨some 16, .op (.mov), [.t 6], none⟩,
  ⟨some 17, .op (.mov), [.t 0], none⟩,
  ⟨some 18, .op (.len .slice), [.t 17], none⟩,
  ⟨some 19, .op (.bin .lss .prim), [.t 16, .t 18], none⟩]
abbrev r38_6 : List IOp := [⟨some 22, .op (.mov), [.t 0], none⟩,
  ⟨some 23, .op (.mov), [.t 6], none⟩,
  ⟨some 24, .op (.iaddr 1), [.t 22, .t 23], none⟩,
  ⟨some 25, .op (.load none), [.t 24], none⟩,
  ⟨some 7, .op (.mov), [.t 25], none⟩]
abbrev r38_7 : List IOp := [⟨some 26, .op (.mov), [.t 1], none⟩,
  ⟨some 27, .op (.mov), [.t 7], none⟩,
  ⟨some 28, .call none, [.t 26, .t 27], none⟩,
  ⟨some 29, .op (.un .not), [.t 28], none⟩]
abbrev r38_8 : List IOp := [⟨some 30, .op (.mov), [.t 0], none⟩,
  ⟨some 31, .op (.mov), [.t 5], none⟩,
  ⟨some 32, .op (.mov), [.t 7], none⟩,
  ⟨some 33, .op (.iaddr 1), [.t 30, .t 31], none⟩,
  ⟨none, .op (.store 1), [.t 33, .t 32], none⟩]
abbrev r38_9 : List IOp := [⟨some 34, .op (.mov), [.t 5], none⟩,
  ⟨some 35, .op (.bin .add .prim), [.t 34, .c (.int .i64 1)], none⟩,
  ⟨some 5, .op (.mov), [.t 35], none⟩]
abbrev r38_10 : List IOp := [⟨some 20, .op (.mov), [.t 6], none⟩,
  ⟨some 21, .op (.bin .add .prim), [.t 20, .c (.int .i64 1)], none⟩,
  ⟨some 6, .op (.mov), [.t 21], none⟩]
abbrev b38_0 : IC := (IC.seq (IC.seq (IC.reg r38_5) (IC.cond (.t 19) IC.skip (IC.exit 0))) (IC.seq (IC.block 1 (IC.seq (IC.reg r38_6) (IC.seq (IC.reg r38_7) (IC.cond (.t 29) (IC.seq (IC.reg r38_8) (IC.reg r38_9)) IC.skip)))) (IC.reg r38_10)))
abbrev r38_11 : List IOp := [⟨some 36, .op (.mov), [.t 0], none⟩,
  ⟨some 37, .op (.mov), [.t 5], none⟩,
  ⟨some 38, .op (.slice 1 true false false), [.t 36, .t 37], none⟩,
  ⟨none, .op (.clear [.int .i64 0]), [.t 38], none⟩]
abbrev r38_12 : List IOp := [⟨some 39, .op (.mov), [.t 0], none⟩,
  ⟨some 40, .op (.mov), [.t 5], none⟩,
  ⟨some 41, .op (.slice 1 false true false), [.t 39, .t 40], none⟩,
  ⟨some 4, .op (.mov), [.t 41], none⟩]
abbrev c38 : IC := (IC.seq (IC.reg r38_0) (IC.seq (IC.reg r38_1) (IC.seq (IC.seq (IC.reg r38_2) (IC.cond (.t 12) (IC.seq (IC.reg r38_3) IC.ret) IC.skip)) (IC.seq (IC.seq (IC.reg r38_4) (IC.block 0 (IC.loop b38_0))) (IC.seq (IC.reg r38_11) (IC.seq (IC.reg r38_12) IC.ret))))))
abbrev g38 : FC := ⟨c38, 42, [.t 4]⟩
theorem comp38 : compF Go.Proofs.Tryz.prog (fun _ => 0) 38 = some g38 := by kernel_rfl

-- slices.IndexFunc[[]int,int]
abbrev r54_0 : List IOp := [⟨some 4, .op (.mov), [.c (.int .i64 0)], none⟩]
abbrev r54_1 : List IOp := [⟨some 6, .op (.mov), [.t 0], none⟩,
  ⟨some 7, .op (.len .slice), [.t 6], none⟩,
  ⟨some 8, .op (.mov), [.c (.int .i64 0)], none⟩]
abbrev r54_2 : List IOp := [⟨some 9, .op (.bin .lss .prim), [.t 8, .t 7], none⟩]
abbrev r54_3 : List IOp := [⟨some 10, .op (.mov), [.t 8], none⟩,
  ⟨some 5, .op (.mov), [.t 10], none⟩]
abbrev r54_4 : List IOp := [⟨some 11, .op (.mov), [.t 1], none⟩,
  ⟨some 12, .op (.mov), [.t 0], none⟩,
  ⟨some 13, .op (.mov), [.t 5], none⟩,
  ⟨some 14, .op (.iaddr 1), [.t 12, .t 13], none⟩,
  ⟨some 15, .op (.load none), [.t 14], none⟩,
  ⟨some 16, .call none, [.t 11, .t 15], none⟩]
abbrev r54_5 : List IOp := [⟨some 17, .op (.mov), [.t 5], none⟩,
  ⟨some 4, .op (.mov), [.t 17], none⟩]
abbrev r54_6 : List IOp := [⟨some 18, .op (.bin .add .prim), [.t 8, .c (.int .i64 1)], none⟩,
  ⟨some 8, .op (.mov), [.t 18], none⟩]
abbrev b54_0 : IC := (IC.seq (IC.reg r54_2) (IC.seq (IC.cond (.t 9) IC.skip (IC.exit 0)) (IC.seq (IC.block 1 (IC.seq (IC.reg r54_3) (IC.seq (IC.reg r54_4) (IC.cond (.t 16) (IC.seq (IC.reg r54_5) IC.ret) IC.skip)))) (IC.reg r54_6))))
abbrev r54_7 : List IOp := [⟨some 4, .op (.mov), [.c (.int .i64 (-1))], none⟩]
abbrev c54 : IC := (IC.seq (IC.reg r54_0) (IC.seq (IC.seq (IC.reg r54_1) (IC.block 0 (IC.loop b54_0))) (IC.seq (IC.reg r54_7) IC.ret)))
abbrev g54 : FC := ⟨c54, 19, [.t 4]⟩
theorem comp54 : compF Go.Proofs.Tryz.prog (fun _ => 0) 54 = some g54 := by kernel_rfl

end Go.Gi
