/- Functions of the program in the form of the abstract machine, printed by a program; each is checked against the translation. -/
import Derived.Test.YtikkhhocfjocbaaGiXE
import Derived.Test.YtikkhhocfjocbaaProg
import Derived.KernelRfl
set_option linter.unusedVariables false
namespace Go.Gi
open Go
-- outlaw/outlawlaw09.lives
abbrev r5_0 : List IOp := [⟨some 0, .op (.mov), [.c (.bool false)], none⟩]
abbrev r5_1 : List IOp := [⟨some 4, .call none, [.f 10, .c (.str [97, 98]), .c (.bool false), .c (.int .i64 10)], none⟩,
  ⟨some 3, .op (.mov), [.t 4], none⟩,
  ⟨some 5, .op (.extract 0), [.t 3], none⟩,
  ⟨some 6, .op (.extract 1), [.t 3], none⟩,
  ⟨some 1, .op (.alloc 31 [.nils, .nils, .nils]), [], none⟩,
  ⟨none, .op (.store 3), [.t 1, .t 5], none⟩,
  ⟨some 2, .op (.mov), [.t 6], none⟩]
abbrev r5_2 : List IOp := [⟨some 7, .op (.mov), [.t 2], none⟩,
  ⟨some 8, .op (.mov), [.t 7], none⟩,
  ⟨some 9, .op (.faddr 1), [.t 1], some (8, true)⟩,
  ⟨some 10, .op (.load none), [.t 9], some (8, true)⟩,
  ⟨some 11, .op (.len .slice), [.t 10], some (8, true)⟩,
  ⟨some 12, .op (.bin .eql .prim), [.t 11, .c (.int .i64 4)], some (8, true)⟩,
  ⟨some 13, .op (.pick), [.t 8, .t 12, .c (.bool false)], none⟩,
  ⟨some 14, .op (.mov), [.t 13], none⟩,
  ⟨some 15, .op (.load (some 3)), [.t 1], some (14, true)⟩,
  ⟨some 16, .call none, [.f 13, .t 15, .c (.str [97, 98])], some (14, true)⟩,
  ⟨some 17, .op (.pick), [.t 14, .t 16, .c (.bool false)], none⟩,
  ⟨some 18, .op (.mov), [.t 17], none⟩,
  ⟨some 19, .op (.load (some 3)), [.t 1], some (18, true)⟩,
  ⟨some 20, .call none, [.f 13, .t 19, .c (.str [97])], some (18, true)⟩,
  ⟨some 21, .op (.un .not), [.t 20], some (18, true)⟩,
  ⟨some 22, .op (.pick), [.t 18, .t 21, .c (.bool false)], none⟩,
  ⟨some 0, .op (.mov), [.t 22], none⟩]
abbrev c5 : IC := (IC.seq (IC.reg r5_0) (IC.seq (IC.reg r5_1) (IC.seq (IC.reg r5_2) IC.ret)))
abbrev g5 : FC := ⟨c5, 23, [.t 0]⟩
theorem comp5 : compF Go.Proofs.Try.prog (fun _ => 0) 5 = some g5 := by kernel_rfl

-- outlaw/outlawlaw09.DfaNil
abbrev r3_0 : List IOp := [⟨some 2, .op (.mov), [.c (.bool false)], none⟩]
abbrev r3_1 : List IOp := [⟨some 4, .call none, [.f 5], none⟩,
  ⟨some 5, .op (.un .not), [.t 4], none⟩]
abbrev r3_2 : List IOp := [⟨some 2, .op (.mov), [.c (.bool false)], none⟩]
abbrev r3_3 : List IOp := [⟨some 6, .op (.mov), [.t 0], none⟩,
  ⟨some 7, .op (.len .str), [.t 6], none⟩,
  ⟨some 8, .op (.bin .gtr .prim), [.t 7, .c (.int .i64 200)], none⟩]
abbrev r3_4 : List IOp := [⟨some 2, .op (.mov), [.c (.bool true)], none⟩]
abbrev r3_5 : List IOp := [⟨some 3, .op (.mov), [.c (.nilp)], none⟩]
abbrev r3_6 : List IOp := [⟨some 9, .op (.mov), [.t 3], none⟩,
  ⟨some 10, .op (.mov), [.t 0], none⟩,
  ⟨some 11, .call none, [.f 6, .t 9, .t 10], none⟩,
  ⟨some 12, .op (.un .not), [.t 11], none⟩,
  ⟨some 13, .op (.mov), [.t 12], none⟩,
  ⟨some 14, .op (.mov), [.t 3], some (13, true)⟩,
  ⟨some 15, .call none, [.f 7, .t 14], some (13, true)⟩,
  ⟨some 16, .op (.un .not), [.t 15], some (13, true)⟩,
  ⟨some 17, .op (.pick), [.t 13, .t 16, .c (.bool false)], none⟩,
  ⟨some 18, .op (.mov), [.t 17], none⟩,
  ⟨some 19, .op (.mov), [.t 3], some (18, true)⟩,
  ⟨some 20, .call none, [.f 8, .t 19], some (18, true)⟩,
  ⟨some 21, .op (.bin .eql .prim), [.t 20, .c (.int .i64 0)], some (18, true)⟩,
  ⟨some 22, .op (.pick), [.t 18, .t 21, .c (.bool false)], none⟩,
  ⟨some 2, .op (.mov), [.t 22], none⟩]
abbrev c3 : IC := (IC.seq (IC.reg r3_0) (IC.seq (IC.seq (IC.reg r3_1) (IC.cond (.t 5) (IC.seq (IC.reg r3_2) IC.ret) IC.skip)) (IC.seq (IC.seq (IC.reg r3_3) (IC.cond (.t 8) (IC.seq (IC.reg r3_4) IC.ret) IC.skip)) (IC.seq (IC.reg r3_5) (IC.seq (IC.reg r3_6) IC.ret)))))
abbrev g3 : FC := ⟨c3, 23, [.t 2]⟩
theorem comp3 : compF Go.Proofs.Try.prog (fun _ => 0) 3 = some g3 := by kernel_rfl

-- outlaw/dfa.Build
abbrev r10_0 : List IOp := [⟨some 6, .op (.alloc 31 [.nils, .nils, .nils]), [], none⟩,
  ⟨some 7, .op (.mov), [.c (.bool false)], none⟩]
abbrev r10_1 : List IOp := [⟨some 23, .op (.mov), [.t 0], none⟩,
  ⟨some 24, .op (.mov), [.t 1], none⟩,
  ⟨some 25, .call none, [.f 15, .t 23, .t 24], none⟩,
  ⟨some 22, .op (.mov), [.t 25], none⟩,
  ⟨some 26, .op (.extract 0), [.t 22], none⟩,
  ⟨some 27, .op (.extract 1), [.t 22], none⟩,
  ⟨some 8, .op (.mov), [.t 26], none⟩,
  ⟨some 9, .op (.mov), [.t 27], none⟩]
abbrev r10_2 : List IOp := [⟨some 28, .op (.mov), [.t 9], none⟩,
  ⟨some 29, .op (.bin .neq .prim), [.t 28, .c (.int .i64 0)], none⟩,
  ⟨some 30, .op (.mov), [.t 29], none⟩,
  ⟨some 31, .op (.mov), [.t 2], some (30, false)⟩,
  ⟨some 32, .op (.bin .lss .prim), [.t 31, .c (.int .i64 1)], some (30, false)⟩,
  ⟨some 33, .op (.pick), [.t 30, .c (.bool true), .t 32], none⟩,
  ⟨some 34, .op (.mov), [.t 33], none⟩,
  ⟨some 35, .op (.mov), [.t 2], some (34, false)⟩,
  ⟨some 36, .op (.bin .gtr .prim), [.t 35, .c (.int .i64 256)], some (34, false)⟩,
  ⟨some 37, .op (.pick), [.t 34, .c (.bool true), .t 36], none⟩]
abbrev r10_3 : List IOp := [⟨some 38, .op (.bst [.nils, .nils, .nils] [(0, 1), (1, 1), (2, 1)] []), [], none⟩,
  ⟨none, .op (.store 3), [.t 6, .t 38], none⟩,
  ⟨some 7, .op (.mov), [.c (.bool false)], none⟩]
abbrev r10_4 : List IOp := [⟨some 40, .op (.mov), [.t 8], none⟩,
  ⟨some 41, .call none, [.f 16, .t 40], none⟩,
  ⟨some 39, .op (.mov), [.t 41], none⟩,
  ⟨some 42, .op (.extract 0), [.t 39], none⟩,
  ⟨some 43, .op (.extract 1), [.t 39], none⟩,
  ⟨some 10, .op (.mov), [.t 42], none⟩,
  ⟨some 11, .op (.mov), [.t 43], none⟩]
abbrev r10_5 : List IOp := [⟨some 45, .op (.mov), [.t 10], none⟩,
  ⟨some 46, .op (.mov), [.t 1], none⟩,
  ⟨some 47, .call none, [.f 17, .t 45, .t 46], none⟩,
  ⟨some 44, .op (.mov), [.t 47], none⟩,
  ⟨some 48, .op (.extract 0), [.t 44], none⟩,
  ⟨some 49, .op (.extract 1), [.t 44], none⟩,
  ⟨some 12, .op (.alloc 50 [.int .i64 0, .int .i64 0, .int .i64 0, .int .i64 0, .int .i64 0, .int .i64 0, .int .i64 0, .int .i64 0, .int .i64 0, .int .i64 0, .int .i64 0, .int .i64 0, .int .i64 0, .int .i64 0, .int .i64 0, .int .i64 0, .int .i64 0, .int .i64 0, .int .i64 0, .int .i64 0, .int .i64 0, .int .i64 0, .int .i64 0, .int .i64 0, .int .i64 0, .int .i64 0, .int .i64 0, .int .i64 0, .int .i64 0, .int .i64 0, .int .i64 0, .int .i64 0, .int .i64 0, .int .i64 0, .int .i64 0, .int .i64 0, .int .i64 0, .int .i64 0, .int .i64 0, .int .i64 0, .int .i64 0, .int .i64 0, .int .i64 0, .int .i64 0, .int .i64 0, .int .i64 0, .int .i64 0, .int .i64 0, .int .i64 0, .int .i64 0, .int .i64 0, .int .i64 0, .int .i64 0, .int .i64 0, .int .i64 0, .int .i64 0, .int .i64 0, .int .i64 0, .int .i64 0, .int .i64 0, .int .i64 0, .int .i64 0, .int .i64 0, .int .i64 0, .int .i64 0, .int .i64 0, .int .i64 0, .int .i64 0, .int .i64 0, .int .i64 0, .int .i64 0, .int .i64 0, .int .i64 0, .int .i64 0, .int .i64 0, .int .i64 0, .int .i64 0, .int .i64 0, .int .i64 0, .int .i64 0, .int .i64 0, .int .i64 0, .int .i64 0, .int .i64 0, .int .i64 0, .int .i64 0, .int .i64 0, .int .i64 0, .int .i64 0, .int .i64 0, .int .i64 0, .int .i64 0, .int .i64 0, .int .i64 0, .int .i64 0, .int .i64 0, .int .i64 0, .int .i64 0, .int .i64 0, .int .i64 0, .int .i64 0, .int .i64 0, .int .i64 0, .int .i64 0, .int .i64 0, .int .i64 0, .int .i64 0, .int .i64 0, .int .i64 0, .int .i64 0, .int .i64 0, .int .i64 0, .int .i64 0, .int .i64 0, .int .i64 0, .int .i64 0, .int .i64 0, .int .i64 0, .int .i64 0, .int .i64 0, .int .i64 0, .int .i64 0, .int .i64 0, .int .i64 0, .int .i64 0, .int .i64 0, .int .i64 0, .int .i64 0, .int .i64 0, .int .i64 0, .int .i64 0, .int .i64 0, .int .i64 0, .int .i64 0, .int .i64 0, .int .i64 0, .int .i64 0, .int .i64 0, .int .i64 0, .int .i64 0, .int .i64 0, .int .i64 0, .int .i64 0, .int .i64 0, .int .i64 0, .int .i64 0, .int .i64 0, .int .i64 0, .int .i64 0, .int .i64 0, .int .i64 0, .int .i64 0, .int .i64 0, .int .i64 0, .int .i64 0, .int .i64 0, .int .i64 0, .int .i64 0, .int .i64 0, .int .i64 0, .int .i64 0, .int .i64 0, .int .i64 0, .int .i64 0, .int .i64 0, .int .i64 0, .int .i64 0, .int .i64 0, .int .i64 0, .int .i64 0, .int .i64 0, .int .i64 0, .int .i64 0, .int .i64 0, .int .i64 0, .int .i64 0, .int .i64 0, .int .i64 0, .int .i64 0, .int .i64 0, .int .i64 0, .int .i64 0, .int .i64 0, .int .i64 0, .int .i64 0, .int .i64 0, .int .i64 0, .int .i64 0, .int .i64 0, .int .i64 0, .int .i64 0, .int .i64 0, .int .i64 0, .int .i64 0, .int .i64 0, .int .i64 0, .int .i64 0, .int .i64 0, .int .i64 0, .int .i64 0, .int .i64 0, .int .i64 0, .int .i64 0, .int .i64 0, .int .i64 0, .int .i64 0, .int .i64 0, .int .i64 0, .int .i64 0, .int .i64 0, .int .i64 0, .int .i64 0, .int .i64 0, .int .i64 0, .int .i64 0, .int .i64 0, .int .i64 0, .int .i64 0, .int .i64 0, .int .i64 0, .int .i64 0, .int .i64 0, .int .i64 0, .int .i64 0, .int .i64 0, .int .i64 0, .int .i64 0, .int .i64 0, .int .i64 0, .int .i64 0, .int .i64 0, .int .i64 0, .int .i64 0, .int .i64 0, .int .i64 0, .int .i64 0, .int .i64 0, .int .i64 0, .int .i64 0, .int .i64 0, .int .i64 0, .int .i64 0, .int .i64 0, .int .i64 0, .int .i64 0, .int .i64 0, .int .i64 0, .int .i64 0, .int .i64 0, .int .i64 0, .int .i64 0, .int .i64 0, .int .i64 0, .int .i64 0, .int .i64 0, .int .i64 0]), [], none⟩,
  ⟨none, .op (.store 256), [.t 12, .t 48], none⟩,
  ⟨some 13, .op (.mov), [.t 49], none⟩]
abbrev r10_6 : List IOp := [⟨some 50, .op (.aslice 256 1 false false false), [.t 12], none⟩,
  ⟨some 51, .op (.bst [.nils, .nils, .nils] [(0, 1), (1, 1), (2, 1)] [0]), [.t 50], none⟩,
  ⟨some 14, .op (.alloc 31 [.nils, .nils, .nils]), [], none⟩,
  ⟨none, .op (.store 3), [.t 14, .t 51], none⟩]
abbrev r10_7 : List IOp := [⟨some 52, .op (.mkmap false), [], none⟩,
  ⟨some 15, .op (.alloc 53 [.nilm]), [], none⟩,
  ⟨none, .op (.store 1), [.t 15, .t 52], none⟩]
abbrev r10_8 : List IOp := [⟨some 16, .op (.alloc 28 [.nils]), [], none⟩]
abbrev r10_9 : List IOp := [⟨some 53, .op (.mkfn 18), [.t 15, .t 16], none⟩,
  ⟨some 17, .op (.mov), [.t 53], none⟩]
abbrev r10_10 : List IOp := [⟨some 54, .op (.mov), [.t 17], none⟩,
  ⟨some 55, .op (.mov), [.t 8], none⟩,
  ⟨some 56, .call none, [.f 20, .t 55], none⟩,
  ⟨some 57, .call none, [.t 54, .t 56], none⟩]
abbrev r10_11 : List IOp := [⟨some 18, .op (.mov), [.c (.int .i64 0)], none⟩]
abbrev r10_12 : List IOp := [⟨some 58, .op (.mov), [.t 18], none⟩,
  ⟨some 59, .op (.load none), [.t 16], none⟩,
  ⟨some 60, .op (.len .slice), [.t 59], none⟩,
  ⟨some 61, .op (.bin .lss .prim), [.t 58, .t 60], none⟩]
abbrev r10_13 : List IOp := [⟨some 64, .op (.load none), [.t 16], none⟩,
  ⟨some 65, .op (.len .slice), [.t 64], none⟩,
  ⟨some 66, .op (.mov), [.t 2], none⟩,
  ⟨some 67, .op (.bin .gtr .prim), [.t 65, .t 66], none⟩]
abbrev r10_14 : List IOp := [⟨some 68, .op (.bst [.nils, .nils, .nils] [(0, 1), (1, 1), (2, 1)] []), [], none⟩,
  ⟨none, .op (.store 3), [.t 6, .t 68], none⟩,
  ⟨some 7, .op (.mov), [.c (.bool false)], none⟩]
abbrev r10_15 : List IOp := [⟨some 19, .op (.mov), [.c (.nils)], none⟩]
abbrev r10_16 : List IOp := [⟨some 69, .op (.mov), [.t 13], none⟩,
  ⟨some 70, .op (.len .slice), [.t 69], none⟩,
  ⟨some 71, .op (.mov), [.c (.int .i64 0)], none⟩]
abbrev r10_17 : List IOp := [⟨some 72, .op (.bin .lss .prim), [.t 71, .t 70], none⟩]
abbrev r10_18 : List IOp := [⟨some 73, .op (.iaddr 1), [.t 69, .t 71], none⟩,
  ⟨some 74, .op (.load none), [.t 73], none⟩,
  ⟨some 21, .op (.mov), [.t 74], none⟩]
abbrev r10_19 : List IOp := [⟨some 75, .op (.mov), [.t 21], none⟩,
  ⟨some 76, .op (.bin .lss .prim), [.t 75, .c (.int .i64 0)], none⟩]
abbrev r10_20 : List IOp := [⟨some 77, .op (.mov), [.t 19], none⟩,
  ⟨some 78, .op (.bsl 3 1 false), [.c (.int .i64 0)], none⟩,
  ⟨some 79, .op (.app 3 1 8), [.t 77, .t 78], none⟩,
  ⟨some 19, .op (.mov), [.t 79], none⟩]
abbrev r10_21 : List IOp := [⟨some 80, .op (.mov), [.t 19], none⟩,
  ⟨some 81, .op (.mov), [.t 17], none⟩,
  ⟨some 82, .op (.mov), [.t 8], none⟩,
  ⟨some 83, .op (.load none), [.t 16], none⟩,
  ⟨some 84, .op (.mov), [.t 18], none⟩,
  ⟨some 85, .op (.iaddr 1), [.t 83, .t 84], none⟩,
  ⟨some 86, .op (.load none), [.t 85], none⟩,
  ⟨some 87, .op (.mov), [.t 21], none⟩,
  ⟨some 88, .op (.toInt .u8), [.t 87], none⟩,
  ⟨some 89, .call none, [.f 21, .t 82, .t 86, .t 88], none⟩,
  ⟨some 90, .call none, [.t 81, .t 89], none⟩,
  ⟨some 91, .op (.bsl 3 1 false), [.t 90], none⟩,
  ⟨some 92, .op (.app 3 1 8), [.t 80, .t 91], none⟩,
  ⟨some 19, .op (.mov), [.t 92], none⟩]
abbrev r10_22 : List IOp := [⟨some 93, .op (.bin .add .prim), [.t 71, .c (.int .i64 1)], none⟩,
  ⟨some 71, .op (.mov), [.t 93], none⟩]
abbrev b10_0 : IC := (IC.seq (IC.reg r10_17) (IC.seq (IC.cond (.t 72) IC.skip (IC.exit 2)) (IC.seq (IC.block 3 (IC.seq (IC.reg r10_18) (IC.seq (IC.seq (IC.reg r10_19) (IC.cond (.t 76) (IC.seq (IC.reg r10_20) (IC.exit 3)) IC.skip)) (IC.reg r10_21)))) (IC.reg r10_22))))
abbrev r10_23 : List IOp := [⟨some 94, .op (.faddr 1), [.t 14], none⟩,
  ⟨some 95, .op (.load none), [.t 94], none⟩,
  ⟨some 96, .op (.mov), [.t 19], none⟩,
  ⟨some 97, .op (.bsl 27 1 false), [.t 96], none⟩,
  ⟨some 98, .op (.app 27 1 24), [.t 95, .t 97], none⟩,
  ⟨some 99, .op (.faddr 1), [.t 14], none⟩,
  ⟨none, .op (.store 1), [.t 99, .t 98], none⟩]
abbrev r10_24 : List IOp := [⟨some 100, .op (.faddr 2), [.t 14], none⟩,
  ⟨some 101, .op (.load none), [.t 100], none⟩,
  ⟨some 102, .op (.mov), [.t 8], none⟩,
  ⟨some 103, .op (.load none), [.t 16], none⟩,
  ⟨some 104, .op (.mov), [.t 18], none⟩,
  ⟨some 105, .op (.iaddr 1), [.t 103, .t 104], none⟩,
  ⟨some 106, .op (.load none), [.t 105], none⟩,
  ⟨some 107, .call none, [.f 22, .t 102, .t 106], none⟩,
  ⟨some 108, .op (.bsl 4 1 false), [.t 107], none⟩,
  ⟨some 109, .op (.app 4 1 1), [.t 101, .t 108], none⟩,
  ⟨some 110, .op (.faddr 2), [.t 14], none⟩,
  ⟨none, .op (.store 1), [.t 110, .t 109], none⟩]
abbrev r10_25 : List IOp := [⟨some 62, .op (.mov), [.t 18], none⟩,
  ⟨some 63, .op (.bin .add .prim), [.t 62, .c (.int .i64 1)], none⟩,
  ⟨some 18, .op (.mov), [.t 63], none⟩]
abbrev b10_1 : IC := (IC.seq (IC.seq (IC.reg r10_12) (IC.cond (.t 61) IC.skip (IC.exit 0))) (IC.seq (IC.block 1 (IC.seq (IC.seq (IC.reg r10_13) (IC.cond (.t 67) (IC.seq (IC.reg r10_14) IC.ret) IC.skip)) (IC.seq (IC.reg r10_15) (IC.seq (IC.seq (IC.reg r10_16) (IC.block 2 (IC.loop b10_0))) (IC.seq (IC.reg r10_23) (IC.regD .alloc r10_24 (.take 0 (.take 1 (.take 2 (.take 3 (.take 4 (.take 5 (.take 6 (.take 7 (.take 8 (.take 9 (.take 10 (.take 11 (.done))))))))))))))))))) (IC.reg r10_25)))
abbrev r10_26 : List IOp := [⟨some 111, .op (.load (some 3)), [.t 14], none⟩,
  ⟨none, .op (.store 3), [.t 6, .t 111], none⟩,
  ⟨some 7, .op (.mov), [.c (.bool true)], none⟩]
abbrev c10 : IC := (IC.seq (IC.reg r10_0) (IC.seq (IC.reg r10_1) (IC.seq (IC.seq (IC.reg r10_2) (IC.cond (.t 37) (IC.seq (IC.reg r10_3) IC.ret) IC.skip)) (IC.seq (IC.reg r10_4) (IC.seq (IC.reg r10_5) (IC.seq (IC.reg r10_6) (IC.seq (IC.reg r10_7) (IC.seq (IC.reg r10_8) (IC.seq (IC.reg r10_9) (IC.seq (IC.reg r10_10) (IC.seq (IC.seq (IC.reg r10_11) (IC.block 0 (IC.loop b10_1))) (IC.seq (IC.reg r10_26) IC.ret))))))))))))
abbrev g10 : FC := ⟨c10, 112, [.cell 6 (some 3), .t 7]⟩
theorem comp10 : compF Go.Proofs.Try.prog (hintL [(25, 7)]) 10 = some g10 := by kernel_rfl

-- outlaw/dfa.Run
abbrev r13_0 : List IOp := [⟨some 2, .op (.box 31), [.t 0], none⟩,
  ⟨some 4, .op (.mov), [.c (.bool false)], none⟩]
abbrev r13_1 : List IOp := [⟨some 5, .op (.load (some 3)), [.t 2], none⟩,
  ⟨some 6, .call none, [.f 26, .t 5], none⟩,
  ⟨some 7, .op (.bin .eql .prim), [.t 6, .c (.int .i64 0)], none⟩,
  ⟨some 8, .op (.mov), [.t 7], none⟩,
  ⟨some 9, .op (.load (some 3)), [.t 2], some (8, true)⟩,
  ⟨some 10, .op (.mov), [.t 1], some (8, true)⟩,
  ⟨some 11, .call none, [.f 27, .t 9, .t 10], some (8, true)⟩,
  ⟨some 12, .op (.pick), [.t 8, .t 11, .c (.bool false)], none⟩,
  ⟨some 4, .op (.mov), [.t 12], none⟩]
abbrev c13 : IC := (IC.seq (IC.reg r13_0) (IC.seq (IC.reg r13_1) IC.ret))
abbrev g13 : FC := ⟨c13, 13, [.t 4]⟩
theorem comp13 : compF Go.Proofs.Try.prog (fun _ => 0) 13 = some g13 := by kernel_rfl

-- (*outlaw/dfa.Auto).Match
abbrev r6_0 : List IOp := [⟨some 4, .op (.mov), [.c (.bool false)], none⟩]
abbrev r6_1 : List IOp := [⟨some 5, .op (.mov), [.t 0], none⟩,
  ⟨some 6, .op (.bin .neq .ptr), [.t 5, .c (.nilp)], none⟩,
  ⟨some 7, .op (.mov), [.t 6], none⟩,
  ⟨some 8, .op (.mov), [.t 0], some (7, true)⟩,
  ⟨some 9, .op (.nilchk), [.t 8], some (7, true)⟩,
  ⟨some 10, .op (.faddr 0), [.t 9], some (7, true)⟩,
  ⟨some 11, .op (.load none), [.t 10], some (7, true)⟩,
  ⟨some 12, .op (.bin .neq (.iface true)), [.t 11, .c (.nili)], some (7, true)⟩,
  ⟨some 13, .op (.pick), [.t 7, .t 12, .c (.bool false)], none⟩,
  ⟨some 14, .op (.mov), [.t 13], none⟩,
  ⟨some 15, .op (.mov), [.t 0], some (14, true)⟩,
  ⟨some 16, .op (.nilchk), [.t 15], some (14, true)⟩,
  ⟨some 17, .op (.faddr 0), [.t 16], some (14, true)⟩,
  ⟨some 18, .op (.load none), [.t 17], some (14, true)⟩,
  ⟨some 19, .op (.mov), [.t 1], some (14, true)⟩,
  ⟨some 20, .call (some []), [.t 18, .t 19], some (14, true)⟩,
  ⟨some 21, .op (.pick), [.t 14, .t 20, .c (.bool false)], none⟩,
  ⟨some 4, .op (.mov), [.t 21], none⟩]
abbrev c6 : IC := (IC.seq (IC.reg r6_0) (IC.seq (IC.reg r6_1) IC.ret))
abbrev g6 : FC := ⟨c6, 22, [.t 4]⟩
theorem comp6 : compF Go.Proofs.Try.prog (fun _ => 0) 6 = some g6 := by kernel_rfl

-- (*outlaw/dfa.Auto).Full
abbrev r7_0 : List IOp := [⟨some 2, .op (.mov), [.c (.bool false)], none⟩]
abbrev r7_1 : List IOp := [⟨some 3, .op (.mov), [.t 0], none⟩,
  ⟨some 4, .op (.bin .neq .ptr), [.t 3, .c (.nilp)], none⟩,
  ⟨some 5, .op (.mov), [.t 4], none⟩,
  ⟨some 6, .op (.mov), [.t 0], some (5, true)⟩,
  ⟨some 7, .op (.nilchk), [.t 6], some (5, true)⟩,
  ⟨some 8, .op (.faddr 0), [.t 7], some (5, true)⟩,
  ⟨some 9, .op (.load none), [.t 8], some (5, true)⟩,
  ⟨some 10, .op (.bin .neq (.iface true)), [.t 9, .c (.nili)], some (5, true)⟩,
  ⟨some 11, .op (.pick), [.t 5, .t 10, .c (.bool false)], none⟩,
  ⟨some 12, .op (.mov), [.t 11], none⟩,
  ⟨some 13, .op (.mov), [.t 0], some (12, true)⟩,
  ⟨some 14, .op (.nilchk), [.t 13], some (12, true)⟩,
  ⟨some 15, .op (.faddr 0), [.t 14], some (12, true)⟩,
  ⟨some 16, .op (.load none), [.t 15], some (12, true)⟩,
  ⟨some 17, .call (some []), [.t 16], some (12, true)⟩,
  ⟨some 18, .op (.bin .eql .prim), [.t 17, .c (.int .i64 0)], some (12, true)⟩,
  ⟨some 19, .op (.pick), [.t 12, .t 18, .c (.bool false)], none⟩,
  ⟨some 2, .op (.mov), [.t 19], none⟩]
abbrev c7 : IC := (IC.seq (IC.reg r7_0) (IC.seq (IC.reg r7_1) IC.ret))
abbrev g7 : FC := ⟨c7, 20, [.t 2]⟩
theorem comp7 : compF Go.Proofs.Try.prog (fun _ => 0) 7 = some g7 := by kernel_rfl

-- (*outlaw/dfa.Auto).States
abbrev r8_0 : List IOp := [⟨some 2, .op (.mov), [.c (.int .i64 0)], none⟩]
abbrev r8_1 : List IOp := [⟨some 3, .op (.mov), [.t 0], none⟩,
  ⟨some 4, .op (.bin .eql .ptr), [.t 3, .c (.nilp)], none⟩,
  ⟨some 5, .op (.mov), [.t 4], none⟩,
  ⟨some 6, .op (.mov), [.t 0], some (5, false)⟩,
  ⟨some 7, .op (.nilchk), [.t 6], some (5, false)⟩,
  ⟨some 8, .op (.faddr 0), [.t 7], some (5, false)⟩,
  ⟨some 9, .op (.load none), [.t 8], some (5, false)⟩,
  ⟨some 10, .op (.bin .eql (.iface true)), [.t 9, .c (.nili)], some (5, false)⟩,
  ⟨some 11, .op (.pick), [.t 5, .c (.bool true), .t 10], none⟩]
abbrev r8_2 : List IOp := [⟨some 2, .op (.mov), [.c (.int .i64 0)], none⟩]
abbrev r8_3 : List IOp := [⟨some 12, .op (.mov), [.t 0], none⟩,
  ⟨some 13, .op (.nilchk), [.t 12], none⟩,
  ⟨some 14, .op (.faddr 0), [.t 13], none⟩,
  ⟨some 15, .op (.load none), [.t 14], none⟩,
  ⟨some 16, .call (some []), [.t 15], none⟩,
  ⟨some 2, .op (.mov), [.t 16], none⟩]
abbrev c8 : IC := (IC.seq (IC.reg r8_0) (IC.seq (IC.seq (IC.reg r8_1) (IC.cond (.t 11) (IC.seq (IC.reg r8_2) IC.ret) IC.skip)) (IC.seq (IC.reg r8_3) IC.ret)))
abbrev g8 : FC := ⟨c8, 17, [.t 2]⟩
theorem comp8 : compF Go.Proofs.Try.prog (fun _ => 0) 8 = some g8 := by kernel_rfl

-- outlaw/nfa.New
abbrev r15_0 : List IOp := [⟨some 4, .op (.mov), [.c (.nilp)], none⟩,
  ⟨some 5, .op (.mov), [.c (.int .i64 0)], none⟩]
abbrev r15_1 : List IOp := [⟨some 7, .op (.mov), [.t 0], none⟩,
  ⟨some 8, .call none, [.f 28, .t 7], none⟩,
  ⟨some 6, .op (.mov), [.t 8], none⟩]
abbrev r15_2 : List IOp := [⟨some 9, .op (.mov), [.t 6], none⟩,
  ⟨some 10, .op (.bin .neq .prim), [.t 9, .c (.int .i64 0)], none⟩]
abbrev r15_3 : List IOp := [⟨some 11, .op (.mov), [.t 6], none⟩,
  ⟨some 4, .op (.mov), [.c (.nilp)], none⟩,
  ⟨some 5, .op (.mov), [.t 11], none⟩]
abbrev r15_4 : List IOp := [⟨some 12, .op (.mov), [.t 0], none⟩,
  ⟨some 13, .call none, [.f 29, .t 12], none⟩,
  ⟨some 14, .op (.mov), [.t 1], none⟩,
  ⟨some 15, .op (.bst [.str [], .bool false] [(0, 1), (1, 1)] [0, 1]), [.t 13, .t 14], none⟩,
  ⟨some 16, .op (.box 69), [.t 15], none⟩,
  ⟨some 4, .op (.mov), [.t 16], none⟩,
  ⟨some 5, .op (.mov), [.c (.int .i64 0)], none⟩]
abbrev c15 : IC := (IC.seq (IC.reg r15_0) (IC.seq (IC.seq (IC.reg r15_1) (IC.seq (IC.reg r15_2) (IC.cond (.t 10) (IC.seq (IC.reg r15_3) IC.ret) IC.skip))) (IC.seq (IC.reg r15_4) IC.ret)))
abbrev g15 : FC := ⟨c15, 17, [.t 4, .t 5]⟩
theorem comp15 : compF Go.Proofs.Try.prog (fun _ => 0) 15 = some g15 := by kernel_rfl

-- (*outlaw/nfa.Nfa).Pattern
abbrev r16_0 : List IOp := [⟨some 2, .op (.mov), [.c (.str [])], none⟩,
  ⟨some 3, .op (.mov), [.c (.bool false)], none⟩]
abbrev r16_1 : List IOp := [⟨some 4, .op (.mov), [.t 0], none⟩,
  ⟨some 5, .op (.bin .eql .ptr), [.t 4, .c (.nilp)], none⟩]
abbrev r16_2 : List IOp := [⟨some 2, .op (.mov), [.c (.str [])], none⟩,
  ⟨some 3, .op (.mov), [.c (.bool false)], none⟩]
abbrev r16_3 : List IOp := [⟨some 6, .op (.mov), [.t 0], none⟩,
  ⟨some 7, .op (.nilchk), [.t 6], none⟩,
  ⟨some 8, .op (.faddr 0), [.t 7], none⟩,
  ⟨some 9, .op (.load none), [.t 8], none⟩,
  ⟨some 10, .op (.mov), [.t 0], none⟩,
  ⟨some 11, .op (.nilchk), [.t 10], none⟩,
  ⟨some 12, .op (.faddr 1), [.t 11], none⟩,
  ⟨some 13, .op (.load none), [.t 12], none⟩,
  ⟨some 2, .op (.mov), [.t 9], none⟩,
  ⟨some 3, .op (.mov), [.t 13], none⟩]
abbrev c16 : IC := (IC.seq (IC.reg r16_0) (IC.seq (IC.seq (IC.reg r16_1) (IC.cond (.t 5) (IC.seq (IC.reg r16_2) IC.ret) IC.skip)) (IC.seq (IC.regD .wild r16_3 (.take 0 (.take 1 (.take 2 (.take 3 (.take 4 (.take 5 (.take 6 (.take 7 (.take 8 (.take 9 (.done)))))))))))) IC.ret)))
abbrev g16 : FC := ⟨c16, 14, [.t 2, .t 3]⟩
theorem comp16 : compF Go.Proofs.Try.prog (hintL [(3, 6)]) 16 = some g16 := by kernel_rfl

-- outlaw/dfa.classes
abbrev r17_0 : List IOp := [⟨some 4, .op (.alloc 50 [.int .i64 0, .int .i64 0, .int .i64 0, .int .i64 0, .int .i64 0, .int .i64 0, .int .i64 0, .int .i64 0, .int .i64 0, .int .i64 0, .int .i64 0, .int .i64 0, .int .i64 0, .int .i64 0, .int .i64 0, .int .i64 0, .int .i64 0, .int .i64 0, .int .i64 0, .int .i64 0, .int .i64 0, .int .i64 0, .int .i64 0, .int .i64 0, .int .i64 0, .int .i64 0, .int .i64 0, .int .i64 0, .int .i64 0, .int .i64 0, .int .i64 0, .int .i64 0, .int .i64 0, .int .i64 0, .int .i64 0, .int .i64 0, .int .i64 0, .int .i64 0, .int .i64 0, .int .i64 0, .int .i64 0, .int .i64 0, .int .i64 0, .int .i64 0, .int .i64 0, .int .i64 0, .int .i64 0, .int .i64 0, .int .i64 0, .int .i64 0, .int .i64 0, .int .i64 0, .int .i64 0, .int .i64 0, .int .i64 0, .int .i64 0, .int .i64 0, .int .i64 0, .int .i64 0, .int .i64 0, .int .i64 0, .int .i64 0, .int .i64 0, .int .i64 0, .int .i64 0, .int .i64 0, .int .i64 0, .int .i64 0, .int .i64 0, .int .i64 0, .int .i64 0, .int .i64 0, .int .i64 0, .int .i64 0, .int .i64 0, .int .i64 0, .int .i64 0, .int .i64 0, .int .i64 0, .int .i64 0, .int .i64 0, .int .i64 0, .int .i64 0, .int .i64 0, .int .i64 0, .int .i64 0, .int .i64 0, .int .i64 0, .int .i64 0, .int .i64 0, .int .i64 0, .int .i64 0, .int .i64 0, .int .i64 0, .int .i64 0, .int .i64 0, .int .i64 0, .int .i64 0, .int .i64 0, .int .i64 0, .int .i64 0, .int .i64 0, .int .i64 0, .int .i64 0, .int .i64 0, .int .i64 0, .int .i64 0, .int .i64 0, .int .i64 0, .int .i64 0, .int .i64 0, .int .i64 0, .int .i64 0, .int .i64 0, .int .i64 0, .int .i64 0, .int .i64 0, .int .i64 0, .int .i64 0, .int .i64 0, .int .i64 0, .int .i64 0, .int .i64 0, .int .i64 0, .int .i64 0, .int .i64 0, .int .i64 0, .int .i64 0, .int .i64 0, .int .i64 0, .int .i64 0, .int .i64 0, .int .i64 0, .int .i64 0, .int .i64 0, .int .i64 0, .int .i64 0, .int .i64 0, .int .i64 0, .int .i64 0, .int .i64 0, .int .i64 0, .int .i64 0, .int .i64 0, .int .i64 0, .int .i64 0, .int .i64 0, .int .i64 0, .int .i64 0, .int .i64 0, .int .i64 0, .int .i64 0, .int .i64 0, .int .i64 0, .int .i64 0, .int .i64 0, .int .i64 0, .int .i64 0, .int .i64 0, .int .i64 0, .int .i64 0, .int .i64 0, .int .i64 0, .int .i64 0, .int .i64 0, .int .i64 0, .int .i64 0, .int .i64 0, .int .i64 0, .int .i64 0, .int .i64 0, .int .i64 0, .int .i64 0, .int .i64 0, .int .i64 0, .int .i64 0, .int .i64 0, .int .i64 0, .int .i64 0, .int .i64 0, .int .i64 0, .int .i64 0, .int .i64 0, .int .i64 0, .int .i64 0, .int .i64 0, .int .i64 0, .int .i64 0, .int .i64 0, .int .i64 0, .int .i64 0, .int .i64 0, .int .i64 0, .int .i64 0, .int .i64 0, .int .i64 0, .int .i64 0, .int .i64 0, .int .i64 0, .int .i64 0, .int .i64 0, .int .i64 0, .int .i64 0, .int .i64 0, .int .i64 0, .int .i64 0, .int .i64 0, .int .i64 0, .int .i64 0, .int .i64 0, .int .i64 0, .int .i64 0, .int .i64 0, .int .i64 0, .int .i64 0, .int .i64 0, .int .i64 0, .int .i64 0, .int .i64 0, .int .i64 0, .int .i64 0, .int .i64 0, .int .i64 0, .int .i64 0, .int .i64 0, .int .i64 0, .int .i64 0, .int .i64 0, .int .i64 0, .int .i64 0, .int .i64 0, .int .i64 0, .int .i64 0, .int .i64 0, .int .i64 0, .int .i64 0, .int .i64 0, .int .i64 0, .int .i64 0, .int .i64 0, .int .i64 0, .int .i64 0, .int .i64 0, .int .i64 0, .int .i64 0, .int .i64 0, .int .i64 0, .int .i64 0, .int .i64 0, .int .i64 0, .int .i64 0, .int .i64 0, .int .i64 0, .int .i64 0, .int .i64 0, .int .i64 0]), [], none⟩,
  ⟨some 5, .op (.mov), [.c (.nils)], none⟩]
abbrev r17_1 : List IOp := [⟨some 6, .op (.mov), [.f 30], none⟩]
abbrev r17_2 : List IOp := [⟨some 16, .op (.mov), [.t 1], none⟩]
abbrev r17_3 : List IOp := [⟨some 6, .op (.mov), [.f 31], none⟩]
abbrev r17_4 : List IOp := [⟨some 7, .op (.mov), [.c (.nils)], none⟩]
abbrev r17_5 : List IOp := [⟨some 17, .op (.mov), [.t 0], none⟩,
  ⟨some 18, .op (.len .str), [.t 17], none⟩,
  ⟨some 19, .op (.mov), [.c (.int .i64 0)], none⟩]
abbrev r17_6 : List IOp := [⟨some 20, .op (.bin .lss .prim), [.t 19, .t 18], none⟩]
abbrev r17_7 : List IOp := [⟨some 21, .op (.mov), [.t 19], none⟩,
  ⟨some 8, .op (.mov), [.t 21], none⟩]
abbrev r17_8 : List IOp := [⟨some 22, .op (.mov), [.t 0], none⟩,
  ⟨some 23, .op (.mov), [.t 8], none⟩,
  ⟨some 24, .op (.idxs), [.t 22, .t 23], none⟩,
  ⟨some 25, .op (.bin .neq .prim), [.t 24, .c (.int .u8 42)], none⟩,
  ⟨some 26, .op (.mov), [.t 25], none⟩,
  ⟨some 27, .op (.mov), [.t 0], some (26, true)⟩,
  ⟨some 28, .op (.mov), [.t 8], some (26, true)⟩,
  ⟨some 29, .op (.idxs), [.t 27, .t 28], some (26, true)⟩,
  ⟨some 30, .op (.bin .neq .prim), [.t 29, .c (.int .u8 63)], some (26, true)⟩,
  ⟨some 31, .op (.pick), [.t 26, .t 30, .c (.bool false)], none⟩]
abbrev r17_9 : List IOp := [⟨some 32, .op (.mov), [.t 7], none⟩,
  ⟨some 33, .op (.mov), [.t 6], none⟩,
  ⟨some 34, .op (.mov), [.t 0], none⟩,
  ⟨some 35, .op (.mov), [.t 8], none⟩,
  ⟨some 36, .op (.idxs), [.t 34, .t 35], none⟩,
  ⟨some 37, .call none, [.t 33, .t 36], none⟩,
  ⟨some 38, .op (.bsl 5 1 false), [.t 37], none⟩,
  ⟨some 39, .op (.app 5 1 1), [.t 32, .t 38], none⟩,
  ⟨some 7, .op (.mov), [.t 39], none⟩]
abbrev r17_10 : List IOp := [⟨some 40, .op (.bin .add .prim), [.t 19, .c (.int .i64 1)], none⟩,
  ⟨some 19, .op (.mov), [.t 40], none⟩]
abbrev b17_0 : IC := (IC.seq (IC.reg r17_6) (IC.seq (IC.cond (.t 20) IC.skip (IC.exit 0)) (IC.seq (IC.block 1 (IC.seq (IC.reg r17_7) (IC.seq (IC.reg r17_8) (IC.cond (.t 31) (IC.reg r17_9) IC.skip)))) (IC.reg r17_10))))
abbrev r17_11 : List IOp := [⟨some 41, .op (.mov), [.t 7], none⟩,
  ⟨some 42, .call none, [.f 33, .t 41], none⟩]
abbrev r17_12 : List IOp := [⟨some 43, .op (.mov), [.t 7], none⟩,
  ⟨some 44, .call none, [.f 34, .t 43], none⟩,
  ⟨some 7, .op (.mov), [.t 44], none⟩]
abbrev r17_13 : List IOp := [⟨some 9, .op (.alloc 50 [.int .i64 0, .int .i64 0, .int .i64 0, .int .i64 0, .int .i64 0, .int .i64 0, .int .i64 0, .int .i64 0, .int .i64 0, .int .i64 0, .int .i64 0, .int .i64 0, .int .i64 0, .int .i64 0, .int .i64 0, .int .i64 0, .int .i64 0, .int .i64 0, .int .i64 0, .int .i64 0, .int .i64 0, .int .i64 0, .int .i64 0, .int .i64 0, .int .i64 0, .int .i64 0, .int .i64 0, .int .i64 0, .int .i64 0, .int .i64 0, .int .i64 0, .int .i64 0, .int .i64 0, .int .i64 0, .int .i64 0, .int .i64 0, .int .i64 0, .int .i64 0, .int .i64 0, .int .i64 0, .int .i64 0, .int .i64 0, .int .i64 0, .int .i64 0, .int .i64 0, .int .i64 0, .int .i64 0, .int .i64 0, .int .i64 0, .int .i64 0, .int .i64 0, .int .i64 0, .int .i64 0, .int .i64 0, .int .i64 0, .int .i64 0, .int .i64 0, .int .i64 0, .int .i64 0, .int .i64 0, .int .i64 0, .int .i64 0, .int .i64 0, .int .i64 0, .int .i64 0, .int .i64 0, .int .i64 0, .int .i64 0, .int .i64 0, .int .i64 0, .int .i64 0, .int .i64 0, .int .i64 0, .int .i64 0, .int .i64 0, .int .i64 0, .int .i64 0, .int .i64 0, .int .i64 0, .int .i64 0, .int .i64 0, .int .i64 0, .int .i64 0, .int .i64 0, .int .i64 0, .int .i64 0, .int .i64 0, .int .i64 0, .int .i64 0, .int .i64 0, .int .i64 0, .int .i64 0, .int .i64 0, .int .i64 0, .int .i64 0, .int .i64 0, .int .i64 0, .int .i64 0, .int .i64 0, .int .i64 0, .int .i64 0, .int .i64 0, .int .i64 0, .int .i64 0, .int .i64 0, .int .i64 0, .int .i64 0, .int .i64 0, .int .i64 0, .int .i64 0, .int .i64 0, .int .i64 0, .int .i64 0, .int .i64 0, .int .i64 0, .int .i64 0, .int .i64 0, .int .i64 0, .int .i64 0, .int .i64 0, .int .i64 0, .int .i64 0, .int .i64 0, .int .i64 0, .int .i64 0, .int .i64 0, .int .i64 0, .int .i64 0, .int .i64 0, .int .i64 0, .int .i64 0, .int .i64 0, .int .i64 0, .int .i64 0, .int .i64 0, .int .i64 0, .int .i64 0, .int .i64 0, .int .i64 0, .int .i64 0, .int .i64 0, .int .i64 0, .int .i64 0, .int .i64 0, .int .i64 0, .int .i64 0, .int .i64 0, .int .i64 0, .int .i64 0, .int .i64 0, .int .i64 0, .int .i64 0, .int .i64 0, .int .i64 0, .int .i64 0, .int .i64 0, .int .i64 0, .int .i64 0, .int .i64 0, .int .i64 0, .int .i64 0, .int .i64 0, .int .i64 0, .int .i64 0, .int .i64 0, .int .i64 0, .int .i64 0, .int .i64 0, .int .i64 0, .int .i64 0, .int .i64 0, .int .i64 0, .int .i64 0, .int .i64 0, .int .i64 0, .int .i64 0, .int .i64 0, .int .i64 0, .int .i64 0, .int .i64 0, .int .i64 0, .int .i64 0, .int .i64 0, .int .i64 0, .int .i64 0, .int .i64 0, .int .i64 0, .int .i64 0, .int .i64 0, .int .i64 0, .int .i64 0, .int .i64 0, .int .i64 0, .int .i64 0, .int .i64 0, .int .i64 0, .int .i64 0, .int .i64 0, .int .i64 0, .int .i64 0, .int .i64 0, .int .i64 0, .int .i64 0, .int .i64 0, .int .i64 0, .int .i64 0, .int .i64 0, .int .i64 0, .int .i64 0, .int .i64 0, .int .i64 0, .int .i64 0, .int .i64 0, .int .i64 0, .int .i64 0, .int .i64 0, .int .i64 0, .int .i64 0, .int .i64 0, .int .i64 0, .int .i64 0, .int .i64 0, .int .i64 0, .int .i64 0, .int .i64 0, .int .i64 0, .int .i64 0, .int .i64 0, .int .i64 0, .int .i64 0, .int .i64 0, .int .i64 0, .int .i64 0, .int .i64 0, .int .i64 0, .int .i64 0, .int .i64 0, .int .i64 0, .int .i64 0, .int .i64 0, .int .i64 0, .int .i64 0, .int .i64 0, .int .i64 0, .int .i64 0, .int .i64 0, .int .i64 0, .int .i64 0, .int .i64 0, .int .i64 0, .int .i64 0, .int .i64 0, .int .i64 0, .int .i64 0, .int .i64 0, .int .i64 0]), [], none⟩]
abbrev r17_14 : List IOp := [⟨some 45, .op (.bsl 3 1 false), [.c (.int .i64 (-1))], none⟩,
  ⟨some 10, .op (.mov), [.t 45], none⟩]
abbrev r17_15 : List IOp := [⟨some 46, .op (.mov), [.t 7], none⟩,
  ⟨some 47, .op (.len .slice), [.t 46], none⟩,
  ⟨some 48, .op (.mov), [.c (.int .i64 0)], none⟩]
abbrev r17_16 : List IOp := [⟨some 49, .op (.bin .lss .prim), [.t 48, .t 47], none⟩]
abbrev r17_17 : List IOp := [⟨some 50, .op (.iaddr 1), [.t 46, .t 48], none⟩,
  ⟨some 51, .op (.load none), [.t 50], none⟩,
  ⟨some 12, .op (.mov), [.t 51], none⟩]
abbrev r17_18 : List IOp := [⟨some 52, .op (.mov), [.t 10], none⟩,
  ⟨some 53, .op (.mov), [.t 12], none⟩,
  ⟨some 54, .op (.toInt .i64), [.t 53], none⟩,
  ⟨some 55, .op (.bsl 3 1 false), [.t 54], none⟩,
  ⟨some 56, .op (.app 3 1 8), [.t 52, .t 55], none⟩,
  ⟨some 10, .op (.mov), [.t 56], none⟩]
abbrev r17_19 : List IOp := [⟨some 57, .op (.bin .add .prim), [.t 48, .c (.int .i64 1)], none⟩,
  ⟨some 48, .op (.mov), [.t 57], none⟩]
abbrev b17_1 : IC := (IC.seq (IC.reg r17_16) (IC.seq (IC.cond (.t 49) IC.skip (IC.exit 2)) (IC.seq (IC.block 3 (IC.seq (IC.reg r17_17) (IC.reg r17_18))) (IC.reg r17_19))))
abbrev r17_20 : List IOp := [⟨some 58, .op (.mov), [.c (.int .i64 0)], none⟩]
abbrev r17_21 : List IOp := [⟨some 59, .op (.bin .lss .prim), [.t 58, .c (.int .i64 256)], none⟩]
abbrev r17_22 : List IOp := [⟨some 60, .op (.mov), [.t 58], none⟩,
  ⟨some 13, .op (.mov), [.t 60], none⟩]
abbrev r17_23 : List IOp := [⟨some 62, .op (.mov), [.t 7], none⟩,
  ⟨some 63, .op (.mov), [.t 6], none⟩,
  ⟨some 64, .op (.mov), [.t 13], none⟩,
  ⟨some 65, .op (.toInt .u8), [.t 64], none⟩,
  ⟨some 66, .call none, [.t 63, .t 65], none⟩,
  ⟨some 67, .call none, [.f 35, .t 62, .t 66], none⟩,
  ⟨some 61, .op (.mov), [.t 67], none⟩,
  ⟨some 68, .op (.extract 0), [.t 61], none⟩,
  ⟨some 69, .op (.extract 1), [.t 61], none⟩,
  ⟨some 14, .op (.mov), [.t 68], none⟩,
  ⟨some 15, .op (.mov), [.t 69], none⟩]
abbrev r17_24 : List IOp := [⟨some 70, .op (.mov), [.t 15], none⟩]
abbrev r17_25 : List IOp := [⟨some 71, .op (.mov), [.t 13], none⟩,
  ⟨some 72, .op (.mov), [.t 14], none⟩,
  ⟨some 73, .op (.bin .add .prim), [.t 72, .c (.int .i64 1)], none⟩,
  ⟨some 74, .op (.aaddr 256 1), [.t 9, .t 71], none⟩,
  ⟨none, .op (.store 1), [.t 74, .t 73], none⟩]
abbrev r17_26 : List IOp := [⟨some 75, .op (.mov), [.t 10], none⟩,
  ⟨some 76, .op (.mov), [.t 13], none⟩,
  ⟨some 77, .op (.iaddr 1), [.t 75, .c (.int .i64 0)], none⟩,
  ⟨none, .op (.store 1), [.t 77, .t 76], none⟩]
abbrev r17_27 : List IOp := [⟨some 78, .op (.bin .add .prim), [.t 58, .c (.int .i64 1)], none⟩,
  ⟨some 58, .op (.mov), [.t 78], none⟩]
abbrev b17_2 : IC := (IC.seq (IC.reg r17_21) (IC.seq (IC.cond (.t 59) IC.skip (IC.exit 4)) (IC.seq (IC.block 5 (IC.seq (IC.reg r17_22) (IC.seq (IC.reg r17_23) (IC.seq (IC.reg r17_24) (IC.cond (.t 70) (IC.reg r17_25) (IC.reg r17_26)))))) (IC.reg r17_27))))
abbrev r17_28 : List IOp := [⟨some 79, .op (.load (some 256)), [.t 9], none⟩,
  ⟨some 80, .op (.mov), [.t 10], none⟩,
  ⟨none, .op (.store 256), [.t 4, .t 79], none⟩,
  ⟨some 5, .op (.mov), [.t 80], none⟩]
abbrev c17 : IC := (IC.seq (IC.reg r17_0) (IC.seq (IC.reg r17_1) (IC.seq (IC.seq (IC.reg r17_2) (IC.cond (.t 16) (IC.reg r17_3) IC.skip)) (IC.seq (IC.reg r17_4) (IC.seq (IC.seq (IC.reg r17_5) (IC.block 0 (IC.loop b17_0))) (IC.seq (IC.reg r17_11) (IC.seq (IC.reg r17_12) (IC.seq (IC.reg r17_13) (IC.seq (IC.reg r17_14) (IC.seq (IC.seq (IC.reg r17_15) (IC.block 2 (IC.loop b17_1))) (IC.seq (IC.seq (IC.reg r17_20) (IC.block 4 (IC.loop b17_2))) (IC.seq (IC.reg r17_28) IC.ret))))))))))))
abbrev g17 : FC := ⟨c17, 81, [.cell 4 (some 256), .t 5]⟩
theorem comp17 : compF Go.Proofs.Try.prog (fun _ => 0) 17 = some g17 := by kernel_rfl

-- outlaw/dfa.Build$1
abbrev r18_0 : List IOp := [⟨some 4, .op (.mov), [.c (.int .i64 0)], none⟩]
abbrev r18_1 : List IOp := [⟨some 8, .op (.load none), [.t 1], none⟩,
  ⟨some 9, .op (.mov), [.t 0], none⟩,
  ⟨some 10, .call none, [.f 19, .t 9], none⟩,
  ⟨some 11, .op (.look .str (.agg [.int .i64 0]) true), [.t 8, .t 10], none⟩,
  ⟨some 7, .op (.mov), [.t 11], none⟩,
  ⟨some 12, .op (.extract 0), [.t 7], none⟩,
  ⟨some 13, .op (.extract 1), [.t 7], none⟩,
  ⟨some 5, .op (.alloc 55 [.int .i64 0]), [], none⟩,
  ⟨none, .op (.store 1), [.t 5, .t 12], none⟩,
  ⟨some 6, .op (.mov), [.t 13], none⟩]
abbrev r18_2 : List IOp := [⟨some 14, .op (.mov), [.t 6], none⟩,
  ⟨some 15, .op (.un .not), [.t 14], none⟩]
abbrev r18_3 : List IOp := [⟨some 16, .op (.load none), [.t 2], none⟩,
  ⟨some 17, .op (.len .slice), [.t 16], none⟩,
  ⟨some 18, .op (.bst [.int .i64 0] [(0, 1)] [0]), [.t 17], none⟩,
  ⟨none, .op (.store 1), [.t 5, .t 18], none⟩]
abbrev r18_4 : List IOp := [⟨some 19, .op (.load none), [.t 1], none⟩,
  ⟨some 20, .op (.mov), [.t 0], none⟩,
  ⟨some 21, .call none, [.f 19, .t 20], none⟩,
  ⟨some 22, .op (.load (some 1)), [.t 5], none⟩,
  ⟨none, .op (.mapup .str), [.t 19, .t 21, .t 22], none⟩]
abbrev r18_5 : List IOp := [⟨some 23, .op (.load none), [.t 2], none⟩,
  ⟨some 24, .op (.mov), [.t 0], none⟩,
  ⟨some 25, .op (.bsl 27 1 false), [.t 24], none⟩,
  ⟨some 26, .op (.app 27 1 24), [.t 23, .t 25], none⟩,
  ⟨none, .op (.store 1), [.t 2, .t 26], none⟩]
abbrev r18_6 : List IOp := [⟨some 27, .op (.faddr 0), [.t 5], none⟩,
  ⟨some 28, .op (.load none), [.t 27], none⟩,
  ⟨some 4, .op (.mov), [.t 28], none⟩]
abbrev c18 : IC := (IC.seq (IC.reg r18_0) (IC.seq (IC.regD .wild r18_1 (.take 1 (.fork [(0, .fork [(2, .take 3 (.take 4 (.take 5 (.take 6 (.take 7 (.take 8 (.take 9 (.done)))))))), (7, .take 2 (.take 3 (.take 4 (.take 5 (.take 6 (.take 8 (.take 9 (.done))))))))]), (2, .take 0 (.take 3 (.take 4 (.take 5 (.take 6 (.take 7 (.take 8 (.take 9 (.done))))))))), (7, .fork [(0, .take 2 (.take 3 (.take 4 (.take 5 (.take 6 (.take 8 (.take 9 (.done)))))))), (2, .take 0 (.take 3 (.take 4 (.take 5 (.take 6 (.take 8 (.take 9 (.done))))))))])]))) (IC.seq (IC.seq (IC.reg r18_2) (IC.cond (.t 15) (IC.seq (IC.reg r18_3) (IC.seq (IC.regD .alloc r18_4 (.take 0 (.take 1 (.take 3 (.take 2 (.take 4 (.done))))))) (IC.reg r18_5))) IC.skip)) (IC.seq (IC.reg r18_6) IC.ret))))
abbrev g18 : FC := ⟨c18, 29, [.t 4]⟩
theorem comp18 : compF Go.Proofs.Try.prog (hintL [(1, 6), (4, 7)]) 18 = some g18 := by kernel_rfl

-- (*outlaw/nfa.Nfa).Start
abbrev r20_0 : List IOp := [⟨some 2, .op (.mov), [.c (.nils)], none⟩]
abbrev r20_1 : List IOp := [⟨some 3, .op (.mov), [.t 0], none⟩,
  ⟨some 4, .call none, [.f 36, .t 3], none⟩,
  ⟨some 5, .call none, [.f 37, .t 4], none⟩,
  ⟨some 2, .op (.mov), [.t 5], none⟩]
abbrev c20 : IC := (IC.seq (IC.reg r20_0) (IC.seq (IC.reg r20_1) IC.ret))
abbrev g20 : FC := ⟨c20, 6, [.t 2]⟩
theorem comp20 : compF Go.Proofs.Try.prog (fun _ => 0) 20 = some g20 := by kernel_rfl

-- (*outlaw/nfa.Nfa).Step
abbrev r21_0 : List IOp := [⟨some 6, .op (.mov), [.c (.nils)], none⟩]
abbrev r21_1 : List IOp := [⟨some 7, .op (.mov), [.t 0], none⟩,
  ⟨some 8, .op (.mov), [.t 0], none⟩,
  ⟨some 9, .op (.mov), [.t 1], none⟩,
  ⟨some 10, .call none, [.f 39, .t 8, .t 9], none⟩,
  ⟨some 11, .op (.mov), [.t 2], none⟩,
  ⟨some 12, .call none, [.f 38, .t 7, .t 10, .t 11], none⟩,
  ⟨some 13, .call none, [.f 37, .t 12], none⟩,
  ⟨some 6, .op (.mov), [.t 13], none⟩]
abbrev c21 : IC := (IC.seq (IC.reg r21_0) (IC.seq (IC.reg r21_1) IC.ret))
abbrev g21 : FC := ⟨c21, 14, [.t 6]⟩
theorem comp21 : compF Go.Proofs.Try.prog (fun _ => 0) 21 = some g21 := by kernel_rfl

-- (*outlaw/nfa.Nfa).Accepts
abbrev r22_0 : List IOp := [⟨some 4, .op (.mov), [.c (.bool false)], none⟩]
abbrev r22_1 : List IOp := [⟨some 6, .op (.mov), [.t 0], none⟩,
  ⟨some 7, .op (.mov), [.t 1], none⟩,
  ⟨some 8, .call none, [.f 39, .t 6, .t 7], none⟩,
  ⟨some 5, .op (.mov), [.t 8], none⟩]
abbrev r22_2 : List IOp := [⟨some 9, .op (.mov), [.t 5], none⟩,
  ⟨some 10, .op (.len .slice), [.t 9], none⟩,
  ⟨some 11, .op (.bin .gtr .prim), [.t 10, .c (.int .i64 0)], none⟩,
  ⟨some 12, .op (.mov), [.t 11], none⟩,
  ⟨some 13, .op (.mov), [.t 5], some (12, true)⟩,
  ⟨some 14, .op (.mov), [.t 5], some (12, true)⟩,
  ⟨some 15, .op (.len .slice), [.t 14], some (12, true)⟩,
  ⟨some 16, .op (.bin .sub .prim), [.t 15, .c (.int .i64 1)], some (12, true)⟩,
  ⟨some 17, .op (.iaddr 1), [.t 13, .t 16], some (12, true)⟩,
  ⟨some 18, .op (.load none), [.t 17], some (12, true)⟩,
  ⟨some 19, .op (.pick), [.t 12, .t 18, .c (.bool false)], none⟩,
  ⟨some 4, .op (.mov), [.t 19], none⟩]
abbrev c22 : IC := (IC.seq (IC.reg r22_0) (IC.seq (IC.reg r22_1) (IC.seq (IC.reg r22_2) IC.ret)))
abbrev g22 : FC := ⟨c22, 20, [.t 4]⟩
theorem comp22 : compF Go.Proofs.Try.prog (fun _ => 0) 22 = some g22 := by kernel_rfl

-- outlaw/dfa.Check
abbrev r26_0 : List IOp := [⟨some 1, .op (.box 31), [.t 0], none⟩,
  ⟨some 2, .op (.mov), [.c (.int .i64 0)], none⟩]
abbrev r26_1 : List IOp := [⟨some 6, .op (.faddr 0), [.t 1], none⟩,
  ⟨some 7, .op (.load none), [.t 6], none⟩,
  ⟨some 8, .op (.len .slice), [.t 7], none⟩,
  ⟨some 9, .op (.bin .neq .prim), [.t 8, .c (.int .i64 256)], none⟩,
  ⟨some 10, .op (.mov), [.t 9], none⟩,
  ⟨some 11, .op (.faddr 1), [.t 1], some (10, false)⟩,
  ⟨some 12, .op (.load none), [.t 11], some (10, false)⟩,
  ⟨some 13, .op (.len .slice), [.t 12], some (10, false)⟩,
  ⟨some 14, .op (.bin .lss .prim), [.t 13, .c (.int .i64 1)], some (10, false)⟩,
  ⟨some 15, .op (.pick), [.t 10, .c (.bool true), .t 14], none⟩,
  ⟨some 16, .op (.mov), [.t 15], none⟩,
  ⟨some 17, .op (.faddr 1), [.t 1], some (16, false)⟩,
  ⟨some 18, .op (.load none), [.t 17], some (16, false)⟩,
  ⟨some 19, .op (.len .slice), [.t 18], some (16, false)⟩,
  ⟨some 20, .op (.bin .gtr .prim), [.t 19, .c (.int .i64 256)], some (16, false)⟩,
  ⟨some 21, .op (.pick), [.t 16, .c (.bool true), .t 20], none⟩,
  ⟨some 22, .op (.mov), [.t 21], none⟩,
  ⟨some 23, .op (.faddr 2), [.t 1], some (22, false)⟩,
  ⟨some 24, .op (.load none), [.t 23], some (22, false)⟩,
  ⟨some 25, .op (.len .slice), [.t 24], some (22, false)⟩,
  ⟨some 26, .op (.faddr 1), [.t 1], some (22, false)⟩,
  ⟨some 27, .op (.load none), [.t 26], some (22, false)⟩,
  ⟨some 28, .op (.len .slice), [.t 27], some (22, false)⟩,
  ⟨some 29, .op (.bin .neq .prim), [.t 25, .t 28], some (22, false)⟩,
  ⟨some 30, .op (.pick), [.t 22, .c (.bool true), .t 29], none⟩,
  ⟨some 31, .op (.mov), [.t 30], none⟩,
  ⟨some 32, .op (.faddr 1), [.t 1], some (31, false)⟩,
  ⟨some 33, .op (.load none), [.t 32], some (31, false)⟩,
  ⟨some 34, .op (.iaddr 1), [.t 33, .c (.int .i64 0)], some (31, false)⟩,
  ⟨some 35, .op (.load none), [.t 34], some (31, false)⟩,
  ⟨some 36, .op (.len .slice), [.t 35], some (31, false)⟩,
  ⟨some 37, .op (.bin .lss .prim), [.t 36, .c (.int .i64 1)], some (31, false)⟩,
  ⟨some 38, .op (.pick), [.t 31, .c (.bool true), .t 37], none⟩]
abbrev r26_2 : List IOp := [⟨some 2, .op (.mov), [.c (.int .i64 2)], none⟩]
abbrev r26_3 : List IOp := [⟨some 39, .op (.faddr 1), [.t 1], none⟩,
  ⟨some 40, .op (.load none), [.t 39], none⟩,
  ⟨some 41, .op (.iaddr 1), [.t 40, .c (.int .i64 0)], none⟩,
  ⟨some 42, .op (.load none), [.t 41], none⟩,
  ⟨some 43, .op (.len .slice), [.t 42], none⟩,
  ⟨some 3, .op (.alloc 3 [.int .i64 0]), [], none⟩,
  ⟨none, .op (.store 1), [.t 3, .t 43], none⟩]
abbrev r26_4 : List IOp := [⟨some 44, .op (.faddr 0), [.t 1], none⟩,
  ⟨some 45, .op (.load none), [.t 44], none⟩,
  ⟨some 46, .op (.mkfn 41), [.t 3], none⟩,
  ⟨some 47, .call none, [.f 40, .t 45, .t 46], none⟩]
abbrev r26_5 : List IOp := [⟨some 2, .op (.mov), [.c (.int .i64 2)], none⟩]
abbrev r26_6 : List IOp := [⟨some 48, .op (.faddr 1), [.t 1], none⟩,
  ⟨some 49, .op (.load none), [.t 48], none⟩,
  ⟨some 50, .op (.len .slice), [.t 49], none⟩,
  ⟨some 51, .op (.mov), [.c (.int .i64 0)], none⟩]
abbrev r26_7 : List IOp := [⟨some 52, .op (.bin .lss .prim), [.t 51, .t 50], none⟩]
abbrev r26_8 : List IOp := [⟨some 53, .op (.iaddr 1), [.t 49, .t 51], none⟩,
  ⟨some 54, .op (.load none), [.t 53], none⟩,
  ⟨some 5, .op (.mov), [.t 54], none⟩]
abbrev r26_9 : List IOp := [⟨some 55, .op (.mov), [.t 5], none⟩,
  ⟨some 56, .op (.len .slice), [.t 55], none⟩,
  ⟨some 57, .op (.load none), [.t 3], none⟩,
  ⟨some 58, .op (.bin .neq .prim), [.t 56, .t 57], none⟩,
  ⟨some 59, .op (.mov), [.t 58], none⟩,
  ⟨some 60, .op (.mov), [.t 5], some (59, false)⟩,
  ⟨some 61, .op (.mkfn 42), [.t 1], some (59, false)⟩,
  ⟨some 62, .call none, [.f 40, .t 60, .t 61], some (59, false)⟩,
  ⟨some 63, .op (.pick), [.t 59, .c (.bool true), .t 62], none⟩]
abbrev r26_10 : List IOp := [⟨some 2, .op (.mov), [.c (.int .i64 2)], none⟩]
abbrev r26_11 : List IOp := [⟨some 64, .op (.bin .add .prim), [.t 51, .c (.int .i64 1)], none⟩,
  ⟨some 51, .op (.mov), [.t 64], none⟩]
abbrev b26_0 : IC := (IC.seq (IC.reg r26_7) (IC.seq (IC.cond (.t 52) IC.skip (IC.exit 0)) (IC.seq (IC.block 1 (IC.seq (IC.reg r26_8) (IC.seq (IC.reg r26_9) (IC.cond (.t 63) (IC.seq (IC.reg r26_10) IC.ret) IC.skip)))) (IC.reg r26_11))))
abbrev r26_12 : List IOp := [⟨some 2, .op (.mov), [.c (.int .i64 0)], none⟩]
abbrev c26 : IC := (IC.seq (IC.reg r26_0) (IC.seq (IC.seq (IC.reg r26_1) (IC.cond (.t 38) (IC.seq (IC.reg r26_2) IC.ret) IC.skip)) (IC.seq (IC.reg r26_3) (IC.seq (IC.seq (IC.reg r26_4) (IC.cond (.t 47) (IC.seq (IC.reg r26_5) IC.ret) IC.skip)) (IC.seq (IC.seq (IC.reg r26_6) (IC.block 0 (IC.loop b26_0))) (IC.seq (IC.reg r26_12) IC.ret))))))
abbrev g26 : FC := ⟨c26, 65, [.t 2]⟩
theorem comp26 : compF Go.Proofs.Try.prog (fun _ => 0) 26 = some g26 := by kernel_rfl

-- outlaw/dfa.through
abbrev r27_0 : List IOp := [⟨some 2, .op (.box 31), [.t 0], none⟩,
  ⟨some 4, .op (.mov), [.c (.bool false)], none⟩]
abbrev r27_1 : List IOp := [⟨some 5, .op (.mov), [.c (.int .i64 0)], none⟩]
abbrev r27_2 : List IOp := [⟨some 7, .op (.mov), [.t 1], none⟩,
  ⟨some 8, .op (.len .str), [.t 7], none⟩,
  ⟨some 9, .op (.mov), [.c (.int .i64 0)], none⟩]
abbrev r27_3 : List IOp := [⟨some 10, .op (.bin .lss .prim), [.t 9, .t 8], none⟩]
abbrev r27_4 : List IOp := [⟨some 11, .op (.mov), [.t 9], none⟩,
  ⟨some 6, .op (.mov), [.t 11], none⟩]
abbrev r27_5 : List IOp := [⟨some 12, .op (.faddr 1), [.t 2], none⟩,
  ⟨some 13, .op (.load none), [.t 12], none⟩,
  ⟨some 14, .op (.mov), [.t 5], none⟩,
  ⟨some 15, .op (.iaddr 1), [.t 13, .t 14], none⟩,
  ⟨some 16, .op (.load none), [.t 15], none⟩,
  ⟨some 17, .op (.faddr 0), [.t 2], none⟩,
  ⟨some 18, .op (.load none), [.t 17], none⟩,
  ⟨some 19, .op (.mov), [.t 1], none⟩,
  ⟨some 20, .op (.mov), [.t 6], none⟩,
  ⟨some 21, .op (.idxs), [.t 19, .t 20], none⟩,
  ⟨some 22, .op (.iaddr 1), [.t 18, .t 21], none⟩,
  ⟨some 23, .op (.load none), [.t 22], none⟩,
  ⟨some 24, .op (.iaddr 1), [.t 16, .t 23], none⟩,
  ⟨some 25, .op (.load none), [.t 24], none⟩,
  ⟨some 5, .op (.mov), [.t 25], none⟩]
abbrev r27_6 : List IOp := [⟨some 26, .op (.bin .add .prim), [.t 9, .c (.int .i64 1)], none⟩,
  ⟨some 9, .op (.mov), [.t 26], none⟩]
abbrev b27_0 : IC := (IC.seq (IC.reg r27_3) (IC.seq (IC.cond (.t 10) IC.skip (IC.exit 0)) (IC.seq (IC.block 1 (IC.seq (IC.reg r27_4) (IC.regD .wild r27_5 (.take 0 (.take 1 (.take 2 (.take 3 (.take 4 (.take 5 (.take 6 (.take 7 (.take 8 (.take 9 (.take 10 (.take 11 (.take 12 (.take 13 (.take 14 (.done))))))))))))))))))) (IC.reg r27_6))))
abbrev r27_7 : List IOp := [⟨some 27, .op (.faddr 2), [.t 2], none⟩,
  ⟨some 28, .op (.load none), [.t 27], none⟩,
  ⟨some 29, .op (.mov), [.t 5], none⟩,
  ⟨some 30, .op (.iaddr 1), [.t 28, .t 29], none⟩,
  ⟨some 31, .op (.load none), [.t 30], none⟩,
  ⟨some 4, .op (.mov), [.t 31], none⟩]
abbrev c27 : IC := (IC.seq (IC.reg r27_0) (IC.seq (IC.reg r27_1) (IC.seq (IC.seq (IC.reg r27_2) (IC.block 0 (IC.loop b27_0))) (IC.seq (IC.reg r27_7) IC.ret))))
abbrev g27 : FC := ⟨c27, 32, [.t 4]⟩
theorem comp27 : compF Go.Proofs.Try.prog (hintL [(5, 6)]) 27 = some g27 := by kernel_rfl

-- outlaw/glob.Check
abbrev r28_0 : List IOp := [⟨some 2, .op (.mov), [.c (.int .i64 0)], none⟩]
abbrev r28_1 : List IOp := [⟨some 4, .op (.mov), [.t 0], none⟩,
  ⟨some 5, .op (.bin .eql .prim), [.t 4, .c (.str [])], none⟩,
  ⟨some 3, .op (.mov), [.t 5], none⟩]
abbrev r28_2 : List IOp := [⟨some 2, .op (.mov), [.c (.int .i64 2)], none⟩]
abbrev r28_3 : List IOp := [⟨some 7, .op (.mov), [.t 0], none⟩,
  ⟨some 8, .op (.len .str), [.t 7], none⟩,
  ⟨some 9, .op (.bin .gtr .prim), [.t 8, .c (.int .i64 255)], none⟩,
  ⟨some 6, .op (.mov), [.t 9], none⟩]
abbrev r28_4 : List IOp := [⟨some 2, .op (.mov), [.c (.int .i64 4)], none⟩]
abbrev r28_5 : List IOp := [⟨some 2, .op (.mov), [.c (.int .i64 0)], none⟩]
abbrev c28 : IC := (IC.seq (IC.reg r28_0) (IC.seq (IC.block 0 (IC.seq (IC.reg r28_1) (IC.cond (.t 3) (IC.seq (IC.reg r28_2) IC.ret) (IC.seq (IC.reg r28_3) (IC.cond (.t 6) (IC.seq (IC.reg r28_4) IC.ret) IC.skip))))) (IC.seq (IC.reg r28_5) IC.ret)))
abbrev g28 : FC := ⟨c28, 10, [.t 2]⟩
theorem comp28 : compF Go.Proofs.Try.prog (fun _ => 0) 28 = some g28 := by kernel_rfl

-- outlaw/glob.Norm
abbrev r29_0 : List IOp := [⟨some 2, .op (.mov), [.c (.str [])], none⟩]
abbrev r29_1 : List IOp := [⟨some 3, .op (.mov), [.c (.nils)], none⟩]
abbrev r29_2 : List IOp := [⟨some 4, .op (.mov), [.c (.int .i64 0)], none⟩]
abbrev r29_3 : List IOp := [⟨some 7, .op (.mov), [.t 4], none⟩,
  ⟨some 8, .op (.mov), [.t 0], none⟩,
  ⟨some 9, .op (.len .str), [.t 8], none⟩,
  ⟨some 10, .op (.bin .lss .prim), [.t 7, .t 9], none⟩]
abbrev r29_4 : List IOp := [⟨some 11, .op (.mov), [.t 4], none⟩,
  ⟨some 5, .op (.mov), [.t 11], none⟩]
abbrev r29_5 : List IOp := [⟨some 12, .op (.mov), [.t 5], none⟩,
  ⟨some 13, .op (.mov), [.t 0], none⟩,
  ⟨some 14, .op (.len .str), [.t 13], none⟩,
  ⟨some 15, .op (.bin .lss .prim), [.t 12, .t 14], none⟩,
  ⟨some 16, .op (.mov), [.t 15], none⟩,
  ⟨some 17, .op (.mov), [.t 0], some (16, true)⟩,
  ⟨some 18, .op (.mov), [.t 5], some (16, true)⟩,
  ⟨some 19, .op (.idxs), [.t 17, .t 18], some (16, true)⟩,
  ⟨some 20, .op (.bin .eql .prim), [.t 19, .c (.int .u8 42)], some (16, true)⟩,
  ⟨some 21, .op (.mov), [.t 20], some (16, true)⟩,
  ⟨some 22, .op (.mov), [.t 0], some (21, false)⟩,
  ⟨some 23, .op (.mov), [.t 5], some (21, false)⟩,
  ⟨some 24, .op (.idxs), [.t 22, .t 23], some (21, false)⟩,
  ⟨some 25, .op (.bin .eql .prim), [.t 24, .c (.int .u8 63)], some (21, false)⟩,
  ⟨some 26, .op (.pick), [.t 21, .c (.bool true), .t 25], some (16, true)⟩,
  ⟨some 27, .op (.pick), [.t 16, .t 26, .c (.bool false)], none⟩]
abbrev r29_6 : List IOp := [⟨some 28, .op (.mov), [.t 5], none⟩,
  ⟨some 29, .op (.bin .add .prim), [.t 28, .c (.int .i64 1)], none⟩,
  ⟨some 5, .op (.mov), [.t 29], none⟩]
abbrev b29_0 : IC := (IC.seq (IC.seq (IC.reg r29_5) (IC.cond (.t 27) IC.skip (IC.exit 2))) (IC.block 3 (IC.reg r29_6)))
abbrev r29_7 : List IOp := [⟨some 30, .op (.mov), [.t 5], none⟩,
  ⟨some 31, .op (.mov), [.t 4], none⟩,
  ⟨some 32, .op (.bin .eql .prim), [.t 30, .t 31], none⟩]
abbrev r29_8 : List IOp := [⟨some 33, .op (.mov), [.t 3], none⟩,
  ⟨some 34, .op (.mov), [.t 0], none⟩,
  ⟨some 35, .op (.mov), [.t 4], none⟩,
  ⟨some 36, .op (.idxs), [.t 34, .t 35], none⟩,
  ⟨some 37, .op (.bsl 5 1 false), [.t 36], none⟩,
  ⟨some 38, .op (.app 5 1 1), [.t 33, .t 37], none⟩,
  ⟨some 3, .op (.mov), [.t 38], none⟩]
abbrev r29_9 : List IOp := [⟨some 39, .op (.mov), [.t 4], none⟩,
  ⟨some 40, .op (.bin .add .prim), [.t 39, .c (.int .i64 1)], none⟩,
  ⟨some 4, .op (.mov), [.t 40], none⟩]
abbrev r29_10 : List IOp := [⟨some 41, .op (.mov), [.t 0], none⟩,
  ⟨some 42, .op (.mov), [.t 4], none⟩,
  ⟨some 43, .op (.mov), [.t 5], none⟩,
  ⟨some 44, .op (.sslice true true false), [.t 41, .t 42, .t 43], none⟩,
  ⟨some 45, .op (.s2b 5), [.t 44], none⟩,
  ⟨some 46, .op (.bsl 5 1 false), [.c (.int .u8 63)], none⟩,
  ⟨some 47, .op (.cvs), [.t 46], none⟩,
  ⟨some 48, .call none, [.f 43, .t 45, .t 47], none⟩,
  ⟨some 6, .op (.mov), [.t 48], none⟩]
abbrev r29_11 : List IOp := [⟨some 49, .op (.mov), [.t 3], none⟩,
  ⟨some 50, .op (.bsl 5 1 false), [.c (.int .u8 63)], none⟩,
  ⟨some 51, .op (.cvs), [.t 50], none⟩,
  ⟨some 52, .op (.mov), [.t 6], none⟩,
  ⟨some 53, .call none, [.f 44, .t 51, .t 52], none⟩,
  ⟨some 54, .op (.app 5 1 1), [.t 49, .t 53], none⟩,
  ⟨some 3, .op (.mov), [.t 54], none⟩]
abbrev r29_12 : List IOp := [⟨some 55, .op (.mov), [.t 6], none⟩,
  ⟨some 56, .op (.mov), [.t 5], none⟩,
  ⟨some 57, .op (.mov), [.t 4], none⟩,
  ⟨some 58, .op (.bin .sub .prim), [.t 56, .t 57], none⟩,
  ⟨some 59, .op (.bin .lss .prim), [.t 55, .t 58], none⟩]
abbrev r29_13 : List IOp := [⟨some 60, .op (.mov), [.t 3], none⟩,
  ⟨some 61, .op (.bsl 5 1 false), [.c (.int .u8 42)], none⟩,
  ⟨some 62, .op (.app 5 1 1), [.t 60, .t 61], none⟩,
  ⟨some 3, .op (.mov), [.t 62], none⟩]
abbrev r29_14 : List IOp := [⟨some 63, .op (.mov), [.t 5], none⟩,
  ⟨some 4, .op (.mov), [.t 63], none⟩]
abbrev b29_1 : IC := (IC.seq (IC.seq (IC.reg r29_3) (IC.cond (.t 10) IC.skip (IC.exit 0))) (IC.block 1 (IC.seq (IC.reg r29_4) (IC.seq (IC.block 2 (IC.loop b29_0)) (IC.seq (IC.seq (IC.reg r29_7) (IC.cond (.t 32) (IC.seq (IC.reg r29_8) (IC.seq (IC.reg r29_9) (IC.exit 1))) IC.skip)) (IC.seq (IC.reg r29_10) (IC.seq (IC.reg r29_11) (IC.seq (IC.seq (IC.reg r29_12) (IC.cond (.t 59) (IC.reg r29_13) IC.skip)) (IC.reg r29_14)))))))))
abbrev r29_15 : List IOp := [⟨some 64, .op (.mov), [.t 3], none⟩,
  ⟨some 65, .op (.b2s), [.t 64], none⟩,
  ⟨some 2, .op (.mov), [.t 65], none⟩]
abbrev c29 : IC := (IC.seq (IC.reg r29_0) (IC.seq (IC.reg r29_1) (IC.seq (IC.seq (IC.reg r29_2) (IC.block 0 (IC.loop b29_1))) (IC.seq (IC.reg r29_15) IC.ret))))
abbrev g29 : FC := ⟨c29, 66, [.t 2]⟩
theorem comp29 : compF Go.Proofs.Try.prog (fun _ => 0) 29 = some g29 := by kernel_rfl

-- outlaw/dfa.classes$1
abbrev r30_0 : List IOp := [⟨some 2, .op (.mov), [.c (.int .u8 0)], none⟩]
abbrev r30_1 : List IOp := [⟨some 3, .op (.mov), [.t 0], none⟩,
  ⟨some 2, .op (.mov), [.t 3], none⟩]
abbrev c30 : IC := (IC.seq (IC.reg r30_0) (IC.seq (IC.reg r30_1) IC.ret))
abbrev g30 : FC := ⟨c30, 4, [.t 2]⟩
theorem comp30 : compF Go.Proofs.Try.prog (fun _ => 0) 30 = some g30 := by kernel_rfl

-- slices.Sort[[]byte,byte]
abbrev r33_0 : List IOp := [⟨some 3, .op (.mov), [.t 0], none⟩,
  ⟨some 4, .op (.len .slice), [.t 3], none⟩,
  ⟨some 2, .op (.mov), [.t 4], none⟩]
abbrev r33_1 : List IOp := [⟨some 5, .op (.mov), [.t 0], none⟩,
  ⟨some 6, .op (.mov), [.t 2], none⟩,
  ⟨some 7, .op (.mov), [.t 2], none⟩,
  ⟨some 8, .op (.toInt .u64), [.t 7], none⟩,
  ⟨some 9, .call none, [.f 47, .t 8], none⟩,
  ⟨some 10, .call none, [.f 46, .t 5, .c (.int .i64 0), .t 6, .t 9], none⟩]
abbrev c33 : IC := (IC.seq (IC.reg r33_0) (IC.reg r33_1))
abbrev g33 : FC := ⟨c33, 11, []⟩
theorem comp33 : compF Go.Proofs.Try.prog (fun _ => 0) 33 = some g33 := by kernel_rfl

-- slices.Compact[[]byte,byte]
abbrev r34_0 : List IOp := [⟨some 2, .op (.mov), [.c (.nils)], none⟩]
abbrev r34_1 : List IOp := [⟨some 6, .op (.mov), [.t 0], none⟩,
  ⟨some 7, .op (.len .slice), [.t 6], none⟩,
  ⟨some 8, .op (.bin .lss .prim), [.t 7, .c (.int .i64 2)], none⟩]
abbrev r34_2 : List IOp := [⟨some 9, .op (.mov), [.t 0], none⟩,
  ⟨some 2, .op (.mov), [.t 9], none⟩]
abbrev r34_3 : List IOp := [⟨some 3, .op (.mov), [.c (.int .i64 1)], none⟩]
abbrev r34_4 : List IOp := [⟨some 10, .op (.mov), [.t 3], none⟩,
  ⟨some 11, .op (.mov), [.t 0], none⟩,
  ⟨some 12, .op (.len .slice), [.t 11], none⟩,
  ⟨some 13, .op (.bin .lss .prim), [.t 10, .t 12], none⟩]
abbrev r34_5 : List IOp := [⟨some 16, .op (.mov), [.t 0], none⟩,
  ⟨some 17, .op (.mov), [.t 3], none⟩,
  ⟨some 18, .op (.iaddr 1), [.t 16, .t 17], none⟩,
  ⟨some 19, .op (.load none), [.t 18], none⟩,
  ⟨some 20, .op (.mov), [.t 0], none⟩,
  ⟨some 21, .op (.mov), [.t 3], none⟩,
  ⟨some 22, .op (.bin .sub .prim), [.t 21, .c (.int .i64 1)], none⟩,
  ⟨some 23, .op (.iaddr 1), [.t 20, .t 22], none⟩,
  ⟨some 24, .op (.load none), [.t 23], none⟩,
  ⟨some 25, .op (.bin .eql .prim), [.t 19, .t 24], none⟩]
abbrev r34_6 : List IOp := [⟨some 26, .op (.mov), [.t 0], none⟩,
  ⟨some 27, .op (.mov), [.t 3], none⟩,
  ⟨some 28, .op (.slice 1 true false false), [.t 26, .t 27], none⟩,
  ⟨some 4, .op (.mov), [.t 28], none⟩]
abbrev r34_7 : List IOp := [⟨some 5, .op (.mov), [.c (.int .i64 1)], none⟩]
abbrev r34_8 : List IOp := [⟨some 29, .op (.mov), [.t 5], none⟩,
  ⟨some 30, .op (.mov), [.t 4], none⟩,
  ⟨some 31, .op (.len .slice), [.t 30], none⟩,
  ⟨some 32, .op (.bin .lss .prim), [.t 29, .t 31], none⟩]
abbrev r34_9 : List IOp := [⟨some 35, .op (.mov), [.t 4], none⟩,
  ⟨some 36, .op (.mov), [.t 5], none⟩,
  ⟨some 37, .op (.iaddr 1), [.t 35, .t 36], none⟩,
  ⟨some 38, .op (.load none), [.t 37], none⟩,
  ⟨some 39, .op (.mov), [.t 4], none⟩,
  ⟨some 40, .op (.mov), [.t 5], none⟩,
  ⟨some 41, .op (.bin .sub .prim), [.t 40, .c (.int .i64 1)], none⟩,
  ⟨some 42, .op (.iaddr 1), [.t 39, .t 41], none⟩,
  ⟨some 43, .op (.load none), [.t 42], none⟩,
  ⟨some 44, .op (.bin .neq .prim), [.t 38, .t 43], none⟩]
abbrev r34_10 : List IOp := [⟨some 45, .op (.mov), [.t 0], none⟩,
  ⟨some 46, .op (.mov), [.t 3], none⟩,
  ⟨some 47, .op (.mov), [.t 4], none⟩,
  ⟨some 48, .op (.mov), [.t 5], none⟩,
  ⟨some 49, .op (.iaddr 1), [.t 47, .t 48], none⟩,
  ⟨some 50, .op (.load none), [.t 49], none⟩,
  ⟨some 51, .op (.iaddr 1), [.t 45, .t 46], none⟩,
  ⟨none, .op (.store 1), [.t 51, .t 50], none⟩]
abbrev r34_11 : List IOp := [⟨some 52, .op (.mov), [.t 3], none⟩,
  ⟨some 53, .op (.bin .add .prim), [.t 52, .c (.int .i64 1)], none⟩,
  ⟨some 3, .op (.mov), [.t 53], none⟩]
abbrev r34_12 : List IOp := [⟨some 33, .op (.mov), [.t 5], none⟩,
  ⟨some 34, .op (.bin .add .prim), [.t 33, .c (.int .i64 1)], none⟩,
  ⟨some 5, .op (.mov), [.t 34], none⟩]
abbrev b34_0 : IC := (IC.seq (IC.seq (IC.reg r34_8) (IC.cond (.t 32) IC.skip (IC.exit 2))) (IC.seq (IC.block 3 (IC.seq (IC.regD .wild r34_9 (.take 0 (.take 1 (.take 2 (.take 3 (.take 4 (.take 5 (.take 6 (.take 7 (.take 8 (.take 9 (.done)))))))))))) (IC.cond (.t 44) (IC.seq (IC.reg r34_10) (IC.reg r34_11)) IC.skip))) (IC.reg r34_12)))
abbrev r34_13 : List IOp := [⟨some 54, .op (.mov), [.t 0], none⟩,
  ⟨some 55, .op (.mov), [.t 3], none⟩,
  ⟨some 56, .op (.slice 1 true false false), [.t 54, .t 55], none⟩,
  ⟨none, .op (.clear [.int .u8 0]), [.t 56], none⟩]
abbrev r34_14 : List IOp := [⟨some 57, .op (.mov), [.t 0], none⟩,
  ⟨some 58, .op (.mov), [.t 3], none⟩,
  ⟨some 59, .op (.slice 1 false true false), [.t 57, .t 58], none⟩,
  ⟨some 2, .op (.mov), [.t 59], none⟩]
abbrev r34_15 : List IOp := [⟨some 14, .op (.mov), [.t 3], none⟩,
  ⟨some 15, .op (.bin .add .prim), [.t 14, .c (.int .i64 1)], none⟩,
  ⟨some 3, .op (.mov), [.t 15], none⟩]
abbrev b34_1 : IC := (IC.seq (IC.seq (IC.reg r34_4) (IC.cond (.t 13) IC.skip (IC.exit 0))) (IC.seq (IC.block 1 (IC.seq (IC.regD .wild r34_5 (.take 0 (.take 1 (.take 2 (.take 3 (.take 4 (.take 5 (.take 6 (.take 7 (.take 8 (.take 9 (.done)))))))))))) (IC.cond (.t 25) (IC.seq (IC.reg r34_6) (IC.seq (IC.seq (IC.reg r34_7) (IC.block 2 (IC.loop b34_0))) (IC.seq (IC.reg r34_13) (IC.seq (IC.reg r34_14) IC.ret)))) IC.skip))) (IC.reg r34_15)))
abbrev r34_16 : List IOp := [⟨some 60, .op (.mov), [.t 0], none⟩,
  ⟨some 2, .op (.mov), [.t 60], none⟩]
abbrev c34 : IC := (IC.seq (IC.reg r34_0) (IC.seq (IC.seq (IC.reg r34_1) (IC.cond (.t 8) (IC.seq (IC.reg r34_2) IC.ret) IC.skip)) (IC.seq (IC.seq (IC.reg r34_3) (IC.block 0 (IC.loop b34_1))) (IC.seq (IC.reg r34_16) IC.ret))))
abbrev g34 : FC := ⟨c34, 61, [.t 2]⟩
theorem comp34 : compF Go.Proofs.Try.prog (hintL [(6, 6), (11, 6)]) 34 = some g34 := by kernel_rfl

-- slices.BinarySearch[[]byte,byte]
abbrev r35_0 : List IOp := [⟨some 4, .op (.mov), [.c (.int .i64 0)], none⟩,
  ⟨some 5, .op (.mov), [.c (.bool false)], none⟩]
abbrev r35_1 : List IOp := [⟨some 10, .op (.mov), [.t 0], none⟩,
  ⟨some 11, .op (.len .slice), [.t 10], none⟩,
  ⟨some 6, .op (.mov), [.t 11], none⟩]
abbrev r35_2 : List IOp := [⟨some 12, .op (.mov), [.t 6], none⟩,
  ⟨some 7, .op (.mov), [.c (.int .i64 0)], none⟩,
  ⟨some 8, .op (.mov), [.t 12], none⟩]
abbrev r35_3 : List IOp := [⟨some 13, .op (.mov), [.t 7], none⟩,
  ⟨some 14, .op (.mov), [.t 8], none⟩,
  ⟨some 15, .op (.bin .lss .prim), [.t 13, .t 14], none⟩]
abbrev r35_4 : List IOp := [⟨some 16, .op (.mov), [.t 7], none⟩,
  ⟨some 17, .op (.mov), [.t 8], none⟩,
  ⟨some 18, .op (.bin .add .prim), [.t 16, .t 17], none⟩,
  ⟨some 19, .op (.toInt .u64), [.t 18], none⟩,
  ⟨some 20, .op (.bin .shr .prim), [.t 19, .c (.int .u64 1)], none⟩,
  ⟨some 21, .op (.toInt .i64), [.t 20], none⟩,
  ⟨some 9, .op (.mov), [.t 21], none⟩]
abbrev r35_5 : List IOp := [⟨some 22, .op (.mov), [.t 0], none⟩,
  ⟨some 23, .op (.mov), [.t 9], none⟩,
  ⟨some 24, .op (.iaddr 1), [.t 22, .t 23], none⟩,
  ⟨some 25, .op (.load none), [.t 24], none⟩,
  ⟨some 26, .op (.mov), [.t 1], none⟩,
  ⟨some 27, .call none, [.f 48, .t 25, .t 26], none⟩]
abbrev r35_6 : List IOp := [⟨some 28, .op (.mov), [.t 9], none⟩,
  ⟨some 29, .op (.bin .add .prim), [.t 28, .c (.int .i64 1)], none⟩,
  ⟨some 7, .op (.mov), [.t 29], none⟩]
abbrev r35_7 : List IOp := [⟨some 30, .op (.mov), [.t 9], none⟩,
  ⟨some 8, .op (.mov), [.t 30], none⟩]
abbrev b35_0 : IC := (IC.seq (IC.seq (IC.reg r35_3) (IC.cond (.t 15) IC.skip (IC.exit 0))) (IC.block 1 (IC.seq (IC.reg r35_4) (IC.seq (IC.reg r35_5) (IC.cond (.t 27) (IC.reg r35_6) (IC.reg r35_7))))))
abbrev r35_8 : List IOp := [⟨some 31, .op (.mov), [.t 7], none⟩,
  ⟨some 32, .op (.mov), [.t 7], none⟩,
  ⟨some 33, .op (.mov), [.t 6], none⟩,
  ⟨some 34, .op (.bin .lss .prim), [.t 32, .t 33], none⟩,
  ⟨some 35, .op (.mov), [.t 34], none⟩,
  ⟨some 36, .op (.mov), [.t 0], some (35, true)⟩,
  ⟨some 37, .op (.mov), [.t 7], some (35, true)⟩,
  ⟨some 38, .op (.iaddr 1), [.t 36, .t 37], some (35, true)⟩,
  ⟨some 39, .op (.load none), [.t 38], some (35, true)⟩,
  ⟨some 40, .op (.mov), [.t 1], some (35, true)⟩,
  ⟨some 41, .op (.bin .eql .prim), [.t 39, .t 40], some (35, true)⟩,
  ⟨some 42, .op (.mov), [.t 41], some (35, true)⟩,
  ⟨some 43, .op (.mov), [.t 0], some (42, false)⟩,
  ⟨some 44, .op (.mov), [.t 7], some (42, false)⟩,
  ⟨some 45, .op (.iaddr 1), [.t 43, .t 44], some (42, false)⟩,
  ⟨some 46, .op (.load none), [.t 45], some (42, false)⟩,
  ⟨some 47, .call none, [.f 49, .t 46], some (42, false)⟩,
  ⟨some 48, .op (.mov), [.t 47], some (42, false)⟩,
  ⟨some 49, .op (.mov), [.t 1], some (48, true)⟩,
  ⟨some 50, .call none, [.f 49, .t 49], some (48, true)⟩,
  ⟨some 51, .op (.pick), [.t 48, .t 50, .c (.bool false)], some (42, false)⟩,
  ⟨some 52, .op (.pick), [.t 42, .c (.bool true), .t 51], some (35, true)⟩,
  ⟨some 53, .op (.pick), [.t 35, .t 52, .c (.bool false)], none⟩,
  ⟨some 4, .op (.mov), [.t 31], none⟩,
  ⟨some 5, .op (.mov), [.t 53], none⟩]
abbrev c35 : IC := (IC.seq (IC.reg r35_0) (IC.seq (IC.reg r35_1) (IC.seq (IC.reg r35_2) (IC.seq (IC.block 0 (IC.loop b35_0)) (IC.seq (IC.reg r35_8) IC.ret)))))
abbrev g35 : FC := ⟨c35, 54, [.t 4, .t 5]⟩
theorem comp35 : compF Go.Proofs.Try.prog (fun _ => 0) 35 = some g35 := by kernel_rfl

-- outlaw/dfa.key
abbrev r19_0 : List IOp := [⟨some 2, .op (.mov), [.c (.str [])], none⟩]
abbrev r19_1 : List IOp := [⟨some 3, .op (.mov), [.c (.nils)], none⟩]
abbrev r19_2 : List IOp := [⟨some 6, .op (.mov), [.t 0], none⟩,
  ⟨some 7, .op (.len .slice), [.t 6], none⟩,
  ⟨some 8, .op (.mov), [.c (.int .i64 0)], none⟩]
abbrev r19_3 : List IOp := [⟨some 9, .op (.bin .lss .prim), [.t 8, .t 7], none⟩]
abbrev r19_4 : List IOp := [⟨some 10, .op (.iaddr 1), [.t 6, .t 8], none⟩,
  ⟨some 11, .op (.load none), [.t 10], none⟩,
  ⟨some 5, .op (.mov), [.t 11], none⟩]
abbrev r19_5 : List IOp := [⟨some 12, .op (.mov), [.t 3], none⟩,
  ⟨some 13, .op (.mov), [.t 5], none⟩,
  ⟨some 14, .op (.toInt .u8), [.t 13], none⟩,
  ⟨some 15, .op (.bsl 5 1 false), [.t 14], none⟩,
  ⟨some 16, .op (.app 5 1 1), [.t 12, .t 15], none⟩,
  ⟨some 3, .op (.mov), [.t 16], none⟩]
abbrev r19_6 : List IOp := [⟨some 17, .op (.bin .add .prim), [.t 8, .c (.int .i64 1)], none⟩,
  ⟨some 8, .op (.mov), [.t 17], none⟩]
abbrev b19_0 : IC := (IC.seq (IC.reg r19_3) (IC.seq (IC.cond (.t 9) IC.skip (IC.exit 0)) (IC.seq (IC.block 1 (IC.seq (IC.reg r19_4) (IC.reg r19_5))) (IC.reg r19_6))))
abbrev r19_7 : List IOp := [⟨some 18, .op (.mov), [.t 3], none⟩,
  ⟨some 19, .op (.b2s), [.t 18], none⟩,
  ⟨some 2, .op (.mov), [.t 19], none⟩]
abbrev c19 : IC := (IC.seq (IC.reg r19_0) (IC.seq (IC.reg r19_1) (IC.seq (IC.seq (IC.reg r19_2) (IC.block 0 (IC.loop b19_0))) (IC.seq (IC.reg r19_7) IC.ret))))
abbrev g19 : FC := ⟨c19, 20, [.t 2]⟩
theorem comp19 : compF Go.Proofs.Try.prog (fun _ => 0) 19 = some g19 := by kernel_rfl

-- (*outlaw/nfa.Nfa).start
abbrev r36_0 : List IOp := [⟨some 2, .op (.mov), [.c (.nils)], none⟩]
abbrev r36_1 : List IOp := [⟨some 4, .op (.mov), [.t 0], none⟩,
  ⟨some 5, .call none, [.f 50, .t 4], none⟩,
  ⟨some 6, .op (.make 4 [.bool false] 1), [.t 5, .t 5], none⟩,
  ⟨some 3, .op (.mov), [.t 6], none⟩]
abbrev r36_2 : List IOp := [⟨some 7, .op (.mov), [.t 3], none⟩,
  ⟨some 8, .op (.len .slice), [.t 7], none⟩,
  ⟨some 9, .op (.bin .gtr .prim), [.t 8, .c (.int .i64 0)], none⟩]
abbrev r36_3 : List IOp := [⟨some 10, .op (.mov), [.t 0], none⟩,
  ⟨some 11, .op (.mov), [.t 3], none⟩,
  ⟨some 12, .call none, [.f 51, .t 10, .t 11, .c (.int .i64 0)], none⟩]
abbrev r36_4 : List IOp := [⟨some 13, .op (.mov), [.t 3], none⟩,
  ⟨some 2, .op (.mov), [.t 13], none⟩]
abbrev c36 : IC := (IC.seq (IC.reg r36_0) (IC.seq (IC.reg r36_1) (IC.seq (IC.seq (IC.reg r36_2) (IC.cond (.t 9) (IC.reg r36_3) IC.skip)) (IC.seq (IC.reg r36_4) IC.ret))))
abbrev g36 : FC := ⟨c36, 14, [.t 2]⟩
theorem comp36 : compF Go.Proofs.Try.prog (fun _ => 0) 36 = some g36 := by kernel_rfl

-- (outlaw/nfa.row).list
abbrev r37_0 : List IOp := [⟨some 2, .op (.mov), [.c (.nils)], none⟩]
abbrev r37_1 : List IOp := [⟨some 3, .op (.alloc 27 [.nils]), [], none⟩]
abbrev r37_2 : List IOp := [⟨some 5, .op (.mov), [.t 0], none⟩,
  ⟨some 6, .call none, [.f 52, .t 5], none⟩]
abbrev r37_3 : List IOp := [⟨some 12, .op (.load none), [.t 3], none⟩,
  ⟨some 2, .op (.mov), [.t 12], none⟩]
abbrev r37_4 : List IOp := [⟨some 4, .op (.mov), [.t 7], none⟩]
abbrev r37_5 : List IOp := [⟨some 8, .op (.load none), [.t 3], none⟩,
  ⟨some 9, .op (.mov), [.t 4], none⟩,
  ⟨some 10, .op (.bsl 3 1 false), [.t 9], none⟩,
  ⟨some 11, .op (.app 3 1 8), [.t 8, .t 10], none⟩,
  ⟨none, .op (.store 1), [.t 3, .t 11], none⟩]
abbrev c37 : IC := (IC.seq (IC.reg r37_0) (IC.seq (IC.reg r37_1) (IC.seq (IC.seq (IC.reg r37_2) (IC.block 0 (IC.rangeF 37000 13 (.t 6)))) (IC.seq (IC.reg r37_3) IC.ret))))
abbrev g37 : FC := ⟨c37, 13, [.t 2]⟩
theorem comp37 : compF Go.Proofs.Try.prog (hintL [(1000003, 37000), (2000003, 13)]) 37 = some g37 := by kernel_rfl
abbrev li37000 : LI := ⟨13, [7], (IC.reg r37_4), (IC.block 1 (IC.reg r37_5))⟩
theorem keys37 : KeysF Go.Proofs.Try.prog (hintL [(1000003, 37000), (2000003, 13)]) 37 := keysF_of (by kernel_rfl)
theorem lok37000 : LOk Go.Proofs.Try.prog 37000 li37000 := ⟨hintL [(1000003, 37000), (2000003, 13)], by kernel_rfl, by kernel_rfl, by kernel_rfl, by kernel_rfl, by decide⟩

-- (*outlaw/nfa.Nfa).of
abbrev r39_0 : List IOp := [⟨some 4, .op (.mov), [.c (.nils)], none⟩]
abbrev r39_1 : List IOp := [⟨some 8, .op (.mov), [.t 0], none⟩,
  ⟨some 9, .call none, [.f 50, .t 8], none⟩,
  ⟨some 10, .op (.make 4 [.bool false] 1), [.t 9, .t 9], none⟩,
  ⟨some 5, .op (.mov), [.t 10], none⟩]
abbrev r39_2 : List IOp := [⟨some 11, .op (.mov), [.t 1], none⟩,
  ⟨some 12, .op (.len .slice), [.t 11], none⟩,
  ⟨some 13, .op (.mov), [.c (.int .i64 0)], none⟩]
abbrev r39_3 : List IOp := [⟨some 14, .op (.bin .lss .prim), [.t 13, .t 12], none⟩]
abbrev r39_4 : List IOp := [⟨some 15, .op (.iaddr 1), [.t 11, .t 13], none⟩,
  ⟨some 16, .op (.load none), [.t 15], none⟩,
  ⟨some 7, .op (.mov), [.t 16], none⟩]
abbrev r39_5 : List IOp := [⟨some 17, .op (.mov), [.t 7], none⟩,
  ⟨some 18, .op (.bin .geq .prim), [.t 17, .c (.int .i64 0)], none⟩,
  ⟨some 19, .op (.mov), [.t 18], none⟩,
  ⟨some 20, .op (.mov), [.t 7], some (19, true)⟩,
  ⟨some 21, .op (.mov), [.t 5], some (19, true)⟩,
  ⟨some 22, .op (.len .slice), [.t 21], some (19, true)⟩,
  ⟨some 23, .op (.bin .lss .prim), [.t 20, .t 22], some (19, true)⟩,
  ⟨some 24, .op (.pick), [.t 19, .t 23, .c (.bool false)], none⟩]
abbrev r39_6 : List IOp := [⟨some 25, .op (.mov), [.t 5], none⟩,
  ⟨some 26, .op (.mov), [.t 7], none⟩,
  ⟨some 27, .op (.iaddr 1), [.t 25, .t 26], none⟩,
  ⟨none, .op (.store 1), [.t 27, .c (.bool true)], none⟩]
abbrev r39_7 : List IOp := [⟨some 28, .op (.bin .add .prim), [.t 13, .c (.int .i64 1)], none⟩,
  ⟨some 13, .op (.mov), [.t 28], none⟩]
abbrev b39_0 : IC := (IC.seq (IC.reg r39_3) (IC.seq (IC.cond (.t 14) IC.skip (IC.exit 0)) (IC.seq (IC.block 1 (IC.seq (IC.reg r39_4) (IC.seq (IC.reg r39_5) (IC.cond (.t 24) (IC.reg r39_6) IC.skip)))) (IC.reg r39_7))))
abbrev r39_8 : List IOp := [⟨some 29, .op (.mov), [.t 5], none⟩,
  ⟨some 4, .op (.mov), [.t 29], none⟩]
abbrev c39 : IC := (IC.seq (IC.reg r39_0) (IC.seq (IC.reg r39_1) (IC.seq (IC.seq (IC.reg r39_2) (IC.block 0 (IC.loop b39_0))) (IC.seq (IC.reg r39_8) IC.ret))))
abbrev g39 : FC := ⟨c39, 30, [.t 4]⟩
theorem comp39 : compF Go.Proofs.Try.prog (fun _ => 0) 39 = some g39 := by kernel_rfl

-- (*outlaw/nfa.Nfa).step
abbrev r38_0 : List IOp := [⟨some 3, .op (.box 44), [.t 0], none⟩,
  ⟨some 5, .op (.box 5), [.t 2], none⟩,
  ⟨some 6, .op (.mov), [.c (.nils)], none⟩]
abbrev r38_1 : List IOp := [⟨some 10, .op (.mov), [.t 1], none⟩,
  ⟨some 11, .op (.len .slice), [.t 10], none⟩,
  ⟨some 12, .op (.make 4 [.bool false] 1), [.t 11, .t 11], none⟩,
  ⟨some 7, .op (.alloc 76 [.nils]), [], none⟩,
  ⟨none, .op (.store 1), [.t 7, .t 12], none⟩]
abbrev r38_2 : List IOp := [⟨some 13, .op (.mov), [.t 1], none⟩,
  ⟨some 14, .call none, [.f 52, .t 13], none⟩]
abbrev r38_3 : List IOp := [⟨some 62, .op (.load none), [.t 7], none⟩,
  ⟨some 6, .op (.mov), [.t 62], none⟩]
abbrev r38_4 : List IOp := [⟨some 8, .op (.mov), [.t 15], none⟩]
abbrev r38_5 : List IOp := [⟨some 16, .op (.mov), [.t 8], none⟩,
  ⟨some 17, .op (.load none), [.t 3], none⟩,
  ⟨some 18, .op (.nilchk), [.t 17], none⟩,
  ⟨some 19, .op (.faddr 0), [.t 18], none⟩,
  ⟨some 20, .op (.load none), [.t 19], none⟩,
  ⟨some 21, .op (.len .str), [.t 20], none⟩,
  ⟨some 22, .op (.bin .eql .prim), [.t 16, .t 21], none⟩]
abbrev r38_6 : List IOp := [⟨some 23, .op (.load none), [.t 3], none⟩,
  ⟨some 24, .op (.nilchk), [.t 23], none⟩,
  ⟨some 25, .op (.faddr 0), [.t 24], none⟩,
  ⟨some 26, .op (.load none), [.t 25], none⟩,
  ⟨some 27, .op (.mov), [.t 8], none⟩,
  ⟨some 28, .op (.idxs), [.t 26, .t 27], none⟩,
  ⟨some 9, .op (.mov), [.t 28], none⟩]
abbrev r38_7 : List IOp := [⟨some 30, .op (.mov), [.t 9], none⟩,
  ⟨some 31, .op (.bin .eql .prim), [.t 30, .c (.int .u8 42)], none⟩,
  ⟨some 29, .op (.mov), [.t 31], none⟩]
abbrev r38_8 : List IOp := [⟨some 32, .op (.load none), [.t 3], none⟩,
  ⟨some 33, .op (.load none), [.t 7], none⟩,
  ⟨some 34, .op (.mov), [.t 8], none⟩,
  ⟨some 35, .call none, [.f 51, .t 32, .t 33, .t 34], none⟩]
abbrev r38_9 : List IOp := [⟨some 37, .op (.mov), [.t 9], none⟩,
  ⟨some 38, .op (.bin .eql .prim), [.t 37, .c (.int .u8 63)], none⟩,
  ⟨some 36, .op (.mov), [.t 38], none⟩]
abbrev r38_10 : List IOp := [⟨some 39, .op (.mov), [.t 9], none⟩,
  ⟨some 40, .op (.load none), [.t 5], none⟩,
  ⟨some 41, .op (.bin .eql .prim), [.t 39, .t 40], none⟩,
  ⟨some 36, .op (.mov), [.t 41], none⟩]
abbrev r38_11 : List IOp := [⟨some 42, .op (.load none), [.t 3], none⟩,
  ⟨some 43, .op (.nilchk), [.t 42], none⟩,
  ⟨some 44, .op (.faddr 1), [.t 43], none⟩,
  ⟨some 45, .op (.load none), [.t 44], none⟩,
  ⟨some 46, .op (.mov), [.t 45], none⟩,
  ⟨some 47, .op (.mov), [.t 9], some (46, true)⟩,
  ⟨some 48, .op (.bsl 5 1 true), [.t 47], some (46, true)⟩,
  ⟨some 49, .op (.b2s), [.t 48], some (46, true)⟩,
  ⟨some 50, .call none, [.f 32, .t 49], some (46, true)⟩,
  ⟨some 51, .op (.load none), [.t 5], some (46, true)⟩,
  ⟨some 52, .op (.bsl 5 1 true), [.t 51], some (46, true)⟩,
  ⟨some 53, .op (.b2s), [.t 52], some (46, true)⟩,
  ⟨some 54, .call none, [.f 32, .t 53], some (46, true)⟩,
  ⟨some 55, .op (.bin .eql .prim), [.t 50, .t 54], some (46, true)⟩,
  ⟨some 56, .op (.pick), [.t 46, .t 55, .c (.bool false)], none⟩,
  ⟨some 36, .op (.mov), [.t 56], none⟩]
abbrev r38_12 : List IOp := [⟨some 57, .op (.load none), [.t 3], none⟩,
  ⟨some 58, .op (.load none), [.t 7], none⟩,
  ⟨some 59, .op (.mov), [.t 8], none⟩,
  ⟨some 60, .op (.bin .add .prim), [.t 59, .c (.int .i64 1)], none⟩,
  ⟨some 61, .call none, [.f 51, .t 57, .t 58, .t 60], none⟩]
abbrev c38 : IC := (IC.seq (IC.reg r38_0) (IC.seq (IC.reg r38_1) (IC.seq (IC.seq (IC.reg r38_2) (IC.block 0 (IC.rangeF 38000 63 (.t 14)))) (IC.seq (IC.reg r38_3) IC.ret))))
abbrev g38 : FC := ⟨c38, 63, [.t 6]⟩
theorem comp38 : compF Go.Proofs.Try.prog (hintL [(10, 3), (1000003, 38000), (2000003, 63)]) 38 = some g38 := by kernel_rfl
abbrev li38000 : LI := ⟨63, [15], (IC.reg r38_4), (IC.block 1 (IC.seq (IC.seq (IC.reg r38_5) (IC.cond (.t 22) (IC.exit 0) IC.skip)) (IC.seq (IC.reg r38_6) (IC.block 2 (IC.seq (IC.reg r38_7) (IC.cond (.t 29) (IC.reg r38_8) (IC.seq (IC.seq (IC.reg r38_9) (IC.cond (.t 36) IC.skip (IC.seq (IC.reg r38_10) (IC.cond (.t 36) IC.skip (IC.regD .alloc r38_11 (.take 0 (.take 1 (.take 2 (.take 3 (.take 4 (.take 5 (.take 6 (.take 7 (.take 9 (.take 10 (.take 11 (.take 8 (.take 12 (.take 13 (.take 14 (.take 15 (.done)))))))))))))))))))))) (IC.cond (.t 36) (IC.reg r38_12) IC.skip))))))))⟩
theorem keys38 : KeysF Go.Proofs.Try.prog (hintL [(10, 3), (1000003, 38000), (2000003, 63)]) 38 := keysF_of (by kernel_rfl)
theorem lok38000 : LOk Go.Proofs.Try.prog 38000 li38000 := ⟨hintL [(10, 3), (1000003, 38000), (2000003, 63)], by kernel_rfl, by kernel_rfl, by kernel_rfl, by kernel_rfl, by decide⟩

-- outlaw/dfa.Check$1
abbrev r41_0 : List IOp := [⟨some 3, .op (.mov), [.c (.bool false)], none⟩]
abbrev r41_1 : List IOp := [⟨some 4, .op (.mov), [.t 0], none⟩,
  ⟨some 5, .op (.bin .lss .prim), [.t 4, .c (.int .i64 0)], none⟩,
  ⟨some 6, .op (.mov), [.t 5], none⟩,
  ⟨some 7, .op (.mov), [.t 0], some (6, false)⟩,
  ⟨some 8, .op (.load none), [.t 1], some (6, false)⟩,
  ⟨some 9, .op (.bin .geq .prim), [.t 7, .t 8], some (6, false)⟩,
  ⟨some 10, .op (.pick), [.t 6, .c (.bool true), .t 9], none⟩,
  ⟨some 3, .op (.mov), [.t 10], none⟩]
abbrev c41 : IC := (IC.seq (IC.reg r41_0) (IC.seq (IC.reg r41_1) IC.ret))
abbrev g41 : FC := ⟨c41, 11, [.t 3]⟩
theorem comp41 : compF Go.Proofs.Try.prog (fun _ => 0) 41 = some g41 := by kernel_rfl

-- slices.ContainsFunc[[]int,int]
abbrev r40_0 : List IOp := [⟨some 4, .op (.mov), [.c (.bool false)], none⟩]
abbrev r40_1 : List IOp := [⟨some 5, .op (.mov), [.t 0], none⟩,
  ⟨some 6, .op (.mov), [.t 1], none⟩,
  ⟨some 7, .call none, [.f 53, .t 5, .t 6], none⟩,
  ⟨some 8, .op (.bin .geq .prim), [.t 7, .c (.int .i64 0)], none⟩,
  ⟨some 4, .op (.mov), [.t 8], none⟩]
abbrev c40 : IC := (IC.seq (IC.reg r40_0) (IC.seq (IC.reg r40_1) IC.ret))
abbrev g40 : FC := ⟨c40, 9, [.t 4]⟩
theorem comp40 : compF Go.Proofs.Try.prog (fun _ => 0) 40 = some g40 := by kernel_rfl

-- outlaw/dfa.Check$2
abbrev r42_0 : List IOp := [⟨some 3, .op (.mov), [.c (.bool false)], none⟩]
abbrev r42_1 : List IOp := [⟨some 4, .op (.mov), [.t 0], none⟩,
  ⟨some 5, .op (.bin .lss .prim), [.t 4, .c (.int .i64 0)], none⟩,
  ⟨some 6, .op (.mov), [.t 5], none⟩,
  ⟨some 7, .op (.mov), [.t 0], some (6, false)⟩,
  ⟨some 8, .op (.faddr 1), [.t 1], some (6, false)⟩,
  ⟨some 9, .op (.load none), [.t 8], some (6, false)⟩,
  ⟨some 10, .op (.len .slice), [.t 9], some (6, false)⟩,
  ⟨some 11, .op (.bin .geq .prim), [.t 7, .t 10], some (6, false)⟩,
  ⟨some 12, .op (.pick), [.t 6, .c (.bool true), .t 11], none⟩,
  ⟨some 3, .op (.mov), [.t 12], none⟩]
abbrev c42 : IC := (IC.seq (IC.reg r42_0) (IC.seq (IC.reg r42_1) IC.ret))
abbrev g42 : FC := ⟨c42, 13, [.t 3]⟩
theorem comp42 : compF Go.Proofs.Try.prog (fun _ => 0) 42 = some g42 := by kernel_rfl

-- math/bits.Len
abbrev r47_0 : List IOp := [⟨some 2, .op (.mov), [.c (.int .i64 0)], none⟩]
abbrev r47_1 : List IOp := [⟨some 3, .op (.mov), [.t 0], none⟩,
  ⟨some 4, .op (.toInt .u32), [.t 3], none⟩,
  ⟨some 5, .call none, [.f 67, .t 4], none⟩,
  ⟨some 2, .op (.mov), [.t 5], none⟩]
abbrev r47_2 : List IOp := [⟨some 6, .op (.mov), [.t 0], none⟩,
  ⟨some 7, .call none, [.f 68, .t 6], none⟩,
  ⟨some 2, .op (.mov), [.t 7], none⟩]
abbrev c47 : IC := (IC.seq (IC.reg r47_0) (IC.seq (IC.cond (.c (.bool false)) (IC.seq (IC.reg r47_1) IC.ret) IC.skip) (IC.seq (IC.reg r47_2) IC.ret)))
abbrev g47 : FC := ⟨c47, 8, [.t 2]⟩
theorem comp47 : compF Go.Proofs.Try.prog (fun _ => 0) 47 = some g47 := by kernel_rfl

-- slices.pdqsortOrdered[byte]
abbrev r46_0 : List IOp := [⟨some 8, .op (.mov), [.c (.bool true)], none⟩]
abbrev r46_1 : List IOp := [⟨some 9, .op (.mov), [.c (.bool true)], none⟩]
abbrev r46_2 : List IOp := [⟨some 19, .op (.mov), [.t 2], none⟩,
  ⟨some 20, .op (.mov), [.t 1], none⟩,
  ⟨some 21, .op (.bin .sub .prim), [.t 19, .t 20], none⟩,
  ⟨some 10, .op (.mov), [.t 21], none⟩]
abbrev r46_3 : List IOp := [⟨some 22, .op (.mov), [.t 10], none⟩,
  ⟨some 23, .op (.bin .leq .prim), [.t 22, .c (.int .i64 12)], none⟩]
abbrev r46_4 : List IOp := [⟨some 24, .op (.mov), [.t 0], none⟩,
  ⟨some 25, .op (.mov), [.t 1], none⟩,
  ⟨some 26, .op (.mov), [.t 2], none⟩,
  ⟨some 27, .call none, [.f 59, .t 24, .t 25, .t 26], none⟩]
abbrev r46_5 : List IOp := [⟨some 28, .op (.mov), [.t 3], none⟩,
  ⟨some 29, .op (.bin .eql .prim), [.t 28, .c (.int .i64 0)], none⟩]
abbrev r46_6 : List IOp := [⟨some 30, .op (.mov), [.t 0], none⟩,
  ⟨some 31, .op (.mov), [.t 1], none⟩,
  ⟨some 32, .op (.mov), [.t 2], none⟩,
  ⟨some 33, .call none, [.f 60, .t 30, .t 31, .t 32], none⟩]
abbrev r46_7 : List IOp := [⟨some 34, .op (.mov), [.t 8], none⟩,
  ⟨some 35, .op (.un .not), [.t 34], none⟩]
abbrev r46_8 : List IOp := [⟨some 36, .op (.mov), [.t 0], none⟩,
  ⟨some 37, .op (.mov), [.t 1], none⟩,
  ⟨some 38, .op (.mov), [.t 2], none⟩,
  ⟨some 39, .call none, [.f 61, .t 36, .t 37, .t 38], none⟩]
abbrev r46_9 : List IOp := [⟨some 40, .op (.mov), [.t 3], none⟩,
  ⟨some 41, .op (.bin .sub .prim), [.t 40, .c (.int .i64 1)], none⟩,
  ⟨some 3, .op (.mov), [.t 41], none⟩]
abbrev r46_10 : List IOp := [⟨some 43, .op (.mov), [.t 0], none⟩,
  ⟨some 44, .op (.mov), [.t 1], none⟩,
  ⟨some 45, .op (.mov), [.t 2], none⟩,
  ⟨some 46, .call none, [.f 62, .t 43, .t 44, .t 45], none⟩,
  ⟨some 42, .op (.mov), [.t 46], none⟩,
  ⟨some 47, .op (.extract 0), [.t 42], none⟩,
  ⟨some 48, .op (.extract 1), [.t 42], none⟩,
  ⟨some 11, .op (.mov), [.t 47], none⟩,
  ⟨some 12, .op (.mov), [.t 48], none⟩]
abbrev r46_11 : List IOp := [⟨some 49, .op (.mov), [.t 12], none⟩,
  ⟨some 50, .op (.bin .eql .prim), [.t 49, .c (.int .i64 2)], none⟩]
abbrev r46_12 : List IOp := [⟨some 51, .op (.mov), [.t 0], none⟩,
  ⟨some 52, .op (.mov), [.t 1], none⟩,
  ⟨some 53, .op (.mov), [.t 2], none⟩,
  ⟨some 54, .call none, [.f 63, .t 51, .t 52, .t 53], none⟩]
abbrev r46_13 : List IOp := [⟨some 55, .op (.mov), [.t 2], none⟩,
  ⟨some 56, .op (.bin .sub .prim), [.t 55, .c (.int .i64 1)], none⟩,
  ⟨some 57, .op (.mov), [.t 11], none⟩,
  ⟨some 58, .op (.mov), [.t 1], none⟩,
  ⟨some 59, .op (.bin .sub .prim), [.t 57, .t 58], none⟩,
  ⟨some 60, .op (.bin .sub .prim), [.t 56, .t 59], none⟩,
  ⟨some 11, .op (.mov), [.t 60], none⟩]
abbrev r46_14 : List IOp := [⟨some 12, .op (.mov), [.c (.int .i64 1)], none⟩]
abbrev r46_15 : List IOp := [⟨some 61, .op (.mov), [.t 8], none⟩,
  ⟨some 62, .op (.mov), [.t 61], none⟩,
  ⟨some 63, .op (.mov), [.t 9], some (62, true)⟩,
  ⟨some 64, .op (.pick), [.t 62, .t 63, .c (.bool false)], none⟩,
  ⟨some 65, .op (.mov), [.t 64], none⟩,
  ⟨some 66, .op (.mov), [.t 12], some (65, true)⟩,
  ⟨some 67, .op (.bin .eql .prim), [.t 66, .c (.int .i64 1)], some (65, true)⟩,
  ⟨some 68, .op (.pick), [.t 65, .t 67, .c (.bool false)], none⟩]
abbrev r46_16 : List IOp := [⟨some 69, .op (.mov), [.t 0], none⟩,
  ⟨some 70, .op (.mov), [.t 1], none⟩,
  ⟨some 71, .op (.mov), [.t 2], none⟩,
  ⟨some 72, .call none, [.f 64, .t 69, .t 70, .t 71], none⟩]
abbrev r46_17 : List IOp := [⟨some 73, .op (.mov), [.t 1], none⟩,
  ⟨some 74, .op (.bin .gtr .prim), [.t 73, .c (.int .i64 0)], none⟩,
  ⟨some 75, .op (.mov), [.t 74], none⟩,
  ⟨some 76, .op (.mov), [.t 0], some (75, true)⟩,
  ⟨some 77, .op (.mov), [.t 1], some (75, true)⟩,
  ⟨some 78, .op (.bin .sub .prim), [.t 77, .c (.int .i64 1)], some (75, true)⟩,
  ⟨some 79, .op (.iaddr 1), [.t 76, .t 78], some (75, true)⟩,
  ⟨some 80, .op (.load none), [.t 79], some (75, true)⟩,
  ⟨some 81, .op (.mov), [.t 0], some (75, true)⟩,
  ⟨some 82, .op (.mov), [.t 11], some (75, true)⟩,
  ⟨some 83, .op (.iaddr 1), [.t 81, .t 82], some (75, true)⟩,
  ⟨some 84, .op (.load none), [.t 83], some (75, true)⟩,
  ⟨some 85, .call none, [.f 48, .t 80, .t 84], some (75, true)⟩,
  ⟨some 86, .op (.un .not), [.t 85], some (75, true)⟩,
  ⟨some 87, .op (.pick), [.t 75, .t 86, .c (.bool false)], none⟩]
abbrev r46_18 : List IOp := [⟨some 88, .op (.mov), [.t 0], none⟩,
  ⟨some 89, .op (.mov), [.t 1], none⟩,
  ⟨some 90, .op (.mov), [.t 2], none⟩,
  ⟨some 91, .op (.mov), [.t 11], none⟩,
  ⟨some 92, .call none, [.f 65, .t 88, .t 89, .t 90, .t 91], none⟩,
  ⟨some 13, .op (.mov), [.t 92], none⟩]
abbrev r46_19 : List IOp := [⟨some 93, .op (.mov), [.t 13], none⟩,
  ⟨some 1, .op (.mov), [.t 93], none⟩]
abbrev r46_20 : List IOp := [⟨some 95, .op (.mov), [.t 0], none⟩,
  ⟨some 96, .op (.mov), [.t 1], none⟩,
  ⟨some 97, .op (.mov), [.t 2], none⟩,
  ⟨some 98, .op (.mov), [.t 11], none⟩,
  ⟨some 99, .call none, [.f 66, .t 95, .t 96, .t 97, .t 98], none⟩,
  ⟨some 94, .op (.mov), [.t 99], none⟩,
  ⟨some 100, .op (.extract 0), [.t 94], none⟩,
  ⟨some 101, .op (.extract 1), [.t 94], none⟩,
  ⟨some 14, .op (.mov), [.t 100], none⟩,
  ⟨some 15, .op (.mov), [.t 101], none⟩]
abbrev r46_21 : List IOp := [⟨some 102, .op (.mov), [.t 15], none⟩,
  ⟨some 9, .op (.mov), [.t 102], none⟩]
abbrev r46_22 : List IOp := [⟨some 103, .op (.mov), [.t 14], none⟩,
  ⟨some 104, .op (.mov), [.t 1], none⟩,
  ⟨some 105, .op (.bin .sub .prim), [.t 103, .t 104], none⟩,
  ⟨some 106, .op (.mov), [.t 2], none⟩,
  ⟨some 107, .op (.mov), [.t 14], none⟩,
  ⟨some 108, .op (.bin .sub .prim), [.t 106, .t 107], none⟩,
  ⟨some 16, .op (.mov), [.t 105], none⟩,
  ⟨some 17, .op (.mov), [.t 108], none⟩]
abbrev r46_23 : List IOp := [⟨some 109, .op (.mov), [.t 10], none⟩,
  ⟨some 110, .op (.bin .quo .prim), [.t 109, .c (.int .i64 8)], none⟩,
  ⟨some 18, .op (.mov), [.t 110], none⟩]
abbrev r46_24 : List IOp := [⟨some 111, .op (.mov), [.t 16], none⟩,
  ⟨some 112, .op (.mov), [.t 17], none⟩,
  ⟨some 113, .op (.bin .lss .prim), [.t 111, .t 112], none⟩]
abbrev r46_25 : List IOp := [⟨some 114, .op (.mov), [.t 16], none⟩,
  ⟨some 115, .op (.mov), [.t 18], none⟩,
  ⟨some 116, .op (.bin .geq .prim), [.t 114, .t 115], none⟩,
  ⟨some 8, .op (.mov), [.t 116], none⟩]
abbrev r46_26 : List IOp := [⟨some 117, .op (.mov), [.t 0], none⟩,
  ⟨some 118, .op (.mov), [.t 1], none⟩,
  ⟨some 119, .op (.mov), [.t 14], none⟩,
  ⟨some 120, .op (.mov), [.t 3], none⟩,
  ⟨some 121, .call none, [.f 46, .t 117, .t 118, .t 119, .t 120], none⟩]
abbrev r46_27 : List IOp := [⟨some 122, .op (.mov), [.t 14], none⟩,
  ⟨some 123, .op (.bin .add .prim), [.t 122, .c (.int .i64 1)], none⟩,
  ⟨some 1, .op (.mov), [.t 123], none⟩]
abbrev r46_28 : List IOp := [⟨some 124, .op (.mov), [.t 17], none⟩,
  ⟨some 125, .op (.mov), [.t 18], none⟩,
  ⟨some 126, .op (.bin .geq .prim), [.t 124, .t 125], none⟩,
  ⟨some 8, .op (.mov), [.t 126], none⟩]
abbrev r46_29 : List IOp := [⟨some 127, .op (.mov), [.t 0], none⟩,
  ⟨some 128, .op (.mov), [.t 14], none⟩,
  ⟨some 129, .op (.bin .add .prim), [.t 128, .c (.int .i64 1)], none⟩,
  ⟨some 130, .op (.mov), [.t 2], none⟩,
  ⟨some 131, .op (.mov), [.t 3], none⟩,
  ⟨some 132, .call none, [.f 46, .t 127, .t 129, .t 130, .t 131], none⟩]
abbrev r46_30 : List IOp := [⟨some 133, .op (.mov), [.t 14], none⟩,
  ⟨some 2, .op (.mov), [.t 133], none⟩]
abbrev b46_0 : IC := (IC.block 1 (IC.seq (IC.reg r46_2) (IC.seq (IC.seq (IC.reg r46_3) (IC.cond (.t 23) (IC.seq (IC.reg r46_4) IC.ret) IC.skip)) (IC.seq (IC.seq (IC.reg r46_5) (IC.cond (.t 29) (IC.seq (IC.reg r46_6) IC.ret) IC.skip)) (IC.seq (IC.seq (IC.reg r46_7) (IC.cond (.t 35) (IC.seq (IC.reg r46_8) (IC.reg r46_9)) IC.skip)) (IC.seq (IC.reg r46_10) (IC.seq (IC.seq (IC.reg r46_11) (IC.cond (.t 50) (IC.seq (IC.reg r46_12) (IC.seq (IC.reg r46_13) (IC.reg r46_14))) IC.skip)) (IC.seq (IC.seq (IC.reg r46_15) (IC.cond (.t 68) (IC.seq (IC.reg r46_16) (IC.cond (.t 72) IC.ret IC.skip)) IC.skip)) (IC.seq (IC.seq (IC.regD .wild r46_17 (.take 0 (.take 1 (.take 2 (.take 3 (.take 4 (.take 5 (.take 6 (.take 7 (.take 8 (.take 9 (.take 10 (.take 11 (.take 12 (.take 13 (.take 14 (.done))))))))))))))))) (IC.cond (.t 87) (IC.seq (IC.reg r46_18) (IC.seq (IC.reg r46_19) (IC.exit 1))) IC.skip)) (IC.seq (IC.reg r46_20) (IC.seq (IC.reg r46_21) (IC.seq (IC.reg r46_22) (IC.seq (IC.reg r46_23) (IC.seq (IC.reg r46_24) (IC.cond (.t 113) (IC.seq (IC.reg r46_25) (IC.seq (IC.reg r46_26) (IC.reg r46_27))) (IC.seq (IC.reg r46_28) (IC.seq (IC.reg r46_29) (IC.reg r46_30))))))))))))))))))
abbrev c46 : IC := (IC.seq (IC.reg r46_0) (IC.seq (IC.reg r46_1) (IC.block 0 (IC.loop b46_0))))
abbrev g46 : FC := ⟨c46, 134, []⟩
theorem comp46 : compF Go.Proofs.Try.prog (hintL [(17, 6)]) 46 = some g46 := by kernel_rfl

-- cmp.Less[byte]
abbrev r48_0 : List IOp := [⟨some 4, .op (.mov), [.c (.bool false)], none⟩]
abbrev r48_1 : List IOp := [⟨some 5, .op (.mov), [.t 0], none⟩,
  ⟨some 6, .call none, [.f 69, .t 5], none⟩,
  ⟨some 7, .op (.mov), [.t 6], none⟩,
  ⟨some 8, .op (.mov), [.t 1], some (7, true)⟩,
  ⟨some 9, .call none, [.f 69, .t 8], some (7, true)⟩,
  ⟨some 10, .op (.un .not), [.t 9], some (7, true)⟩,
  ⟨some 11, .op (.pick), [.t 7, .t 10, .c (.bool false)], none⟩,
  ⟨some 12, .op (.mov), [.t 11], none⟩,
  ⟨some 13, .op (.mov), [.t 0], some (12, false)⟩,
  ⟨some 14, .op (.mov), [.t 1], some (12, false)⟩,
  ⟨some 15, .op (.bin .lss .prim), [.t 13, .t 14], some (12, false)⟩,
  ⟨some 16, .op (.pick), [.t 12, .c (.bool true), .t 15], none⟩,
  ⟨some 4, .op (.mov), [.t 16], none⟩]
abbrev c48 : IC := (IC.seq (IC.reg r48_0) (IC.seq (IC.reg r48_1) IC.ret))
abbrev g48 : FC := ⟨c48, 17, [.t 4]⟩
theorem comp48 : compF Go.Proofs.Try.prog (fun _ => 0) 48 = some g48 := by kernel_rfl

-- slices.isNaN[byte]
abbrev r49_0 : List IOp := [⟨some 2, .op (.mov), [.c (.bool false)], none⟩]
abbrev r49_1 : List IOp := [⟨some 3, .op (.mov), [.t 0], none⟩,
  ⟨some 4, .op (.mov), [.t 0], none⟩,
  ⟨some 5, .op (.bin .neq .prim), [.t 3, .t 4], none⟩,
  ⟨some 2, .op (.mov), [.t 5], none⟩]
abbrev c49 : IC := (IC.seq (IC.reg r49_0) (IC.seq (IC.reg r49_1) IC.ret))
abbrev g49 : FC := ⟨c49, 6, [.t 2]⟩
theorem comp49 : compF Go.Proofs.Try.prog (fun _ => 0) 49 = some g49 := by kernel_rfl

-- (*outlaw/nfa.Nfa).States
abbrev r50_0 : List IOp := [⟨some 2, .op (.mov), [.c (.int .i64 0)], none⟩]
abbrev r50_1 : List IOp := [⟨some 3, .op (.mov), [.t 0], none⟩,
  ⟨some 4, .op (.bin .eql .ptr), [.t 3, .c (.nilp)], none⟩,
  ⟨some 5, .op (.mov), [.t 4], none⟩,
  ⟨some 6, .op (.mov), [.t 0], some (5, false)⟩,
  ⟨some 7, .op (.nilchk), [.t 6], some (5, false)⟩,
  ⟨some 8, .op (.faddr 0), [.t 7], some (5, false)⟩,
  ⟨some 9, .op (.load none), [.t 8], some (5, false)⟩,
  ⟨some 10, .op (.bin .eql .prim), [.t 9, .c (.str [])], some (5, false)⟩,
  ⟨some 11, .op (.pick), [.t 5, .c (.bool true), .t 10], none⟩]
abbrev r50_2 : List IOp := [⟨some 2, .op (.mov), [.c (.int .i64 0)], none⟩]
abbrev r50_3 : List IOp := [⟨some 12, .op (.mov), [.t 0], none⟩,
  ⟨some 13, .op (.nilchk), [.t 12], none⟩,
  ⟨some 14, .op (.faddr 0), [.t 13], none⟩,
  ⟨some 15, .op (.load none), [.t 14], none⟩,
  ⟨some 16, .op (.len .str), [.t 15], none⟩,
  ⟨some 17, .op (.bin .add .prim), [.t 16, .c (.int .i64 1)], none⟩,
  ⟨some 2, .op (.mov), [.t 17], none⟩]
abbrev c50 : IC := (IC.seq (IC.reg r50_0) (IC.seq (IC.seq (IC.reg r50_1) (IC.cond (.t 11) (IC.seq (IC.reg r50_2) IC.ret) IC.skip)) (IC.seq (IC.reg r50_3) IC.ret)))
abbrev g50 : FC := ⟨c50, 18, [.t 2]⟩
theorem comp50 : compF Go.Proofs.Try.prog (fun _ => 0) 50 = some g50 := by kernel_rfl

-- (*outlaw/nfa.Nfa).come
abbrev r51_0 : List IOp := [⟨some 6, .op (.mov), [.t 1], none⟩,
  ⟨some 7, .op (.mov), [.t 2], none⟩,
  ⟨some 8, .op (.iaddr 1), [.t 6, .t 7], none⟩,
  ⟨none, .op (.store 1), [.t 8, .c (.bool true)], none⟩]
abbrev r51_1 : List IOp := [⟨some 9, .op (.mov), [.t 2], none⟩,
  ⟨some 10, .op (.mov), [.t 0], none⟩,
  ⟨some 11, .op (.nilchk), [.t 10], none⟩,
  ⟨some 12, .op (.faddr 0), [.t 11], none⟩,
  ⟨some 13, .op (.load none), [.t 12], none⟩,
  ⟨some 14, .op (.len .str), [.t 13], none⟩,
  ⟨some 15, .op (.bin .lss .prim), [.t 9, .t 14], none⟩,
  ⟨some 16, .op (.mov), [.t 15], none⟩,
  ⟨some 17, .op (.mov), [.t 0], some (16, true)⟩,
  ⟨some 18, .op (.nilchk), [.t 17], some (16, true)⟩,
  ⟨some 19, .op (.faddr 0), [.t 18], some (16, true)⟩,
  ⟨some 20, .op (.load none), [.t 19], some (16, true)⟩,
  ⟨some 21, .op (.mov), [.t 2], some (16, true)⟩,
  ⟨some 22, .op (.idxs), [.t 20, .t 21], some (16, true)⟩,
  ⟨some 23, .op (.bin .eql .prim), [.t 22, .c (.int .u8 42)], some (16, true)⟩,
  ⟨some 24, .op (.pick), [.t 16, .t 23, .c (.bool false)], none⟩]
abbrev r51_2 : List IOp := [⟨some 28, .op (.mov), [.t 2], none⟩,
  ⟨some 29, .op (.bin .add .prim), [.t 28, .c (.int .i64 1)], none⟩,
  ⟨some 2, .op (.mov), [.t 29], none⟩]
abbrev r51_3 : List IOp := [⟨some 25, .op (.mov), [.t 1], none⟩,
  ⟨some 26, .op (.mov), [.t 2], none⟩,
  ⟨some 27, .op (.iaddr 1), [.t 25, .t 26], none⟩,
  ⟨none, .op (.store 1), [.t 27, .c (.bool true)], none⟩]
abbrev b51_0 : IC := (IC.seq (IC.seq (IC.reg r51_1) (IC.cond (.t 24) IC.skip (IC.exit 0))) (IC.seq (IC.block 1 (IC.reg r51_2)) (IC.reg r51_3)))
abbrev c51 : IC := (IC.seq (IC.reg r51_0) (IC.block 0 (IC.loop b51_0)))
abbrev g51 : FC := ⟨c51, 30, []⟩
theorem comp51 : compF Go.Proofs.Try.prog (fun _ => 0) 51 = some g51 := by kernel_rfl

-- (outlaw/nfa.row).all
abbrev r52_0 : List IOp := [⟨some 1, .op (.box 76), [.t 0], none⟩,
  ⟨some 2, .op (.mov), [.c (.nilf)], none⟩]
abbrev r52_1 : List IOp := [⟨some 3, .op (.mkfn 70), [.t 1], none⟩,
  ⟨some 2, .op (.mov), [.t 3], none⟩]
abbrev c52 : IC := (IC.seq (IC.reg r52_0) (IC.seq (IC.reg r52_1) IC.ret))
abbrev g52 : FC := ⟨c52, 4, [.t 2]⟩
theorem comp52 : compF Go.Proofs.Try.prog (fun _ => 0) 52 = some g52 := by kernel_rfl

-- slices.IndexFunc[[]int,int]
abbrev r53_0 : List IOp := [⟨some 4, .op (.mov), [.c (.int .i64 0)], none⟩]
abbrev r53_1 : List IOp := [⟨some 6, .op (.mov), [.t 0], none⟩,
  ⟨some 7, .op (.len .slice), [.t 6], none⟩,
  ⟨some 8, .op (.mov), [.c (.int .i64 0)], none⟩]
abbrev r53_2 : List IOp := [⟨some 9, .op (.bin .lss .prim), [.t 8, .t 7], none⟩]
abbrev r53_3 : List IOp := [⟨some 10, .op (.mov), [.t 8], none⟩,
  ⟨some 5, .op (.mov), [.t 10], none⟩]
abbrev r53_4 : List IOp := [⟨some 11, .op (.mov), [.t 1], none⟩,
  ⟨some 12, .op (.mov), [.t 0], none⟩,
  ⟨some 13, .op (.mov), [.t 5], none⟩,
  ⟨some 14, .op (.iaddr 1), [.t 12, .t 13], none⟩,
  ⟨some 15, .op (.load none), [.t 14], none⟩,
  ⟨some 16, .call none, [.t 11, .t 15], none⟩]
abbrev r53_5 : List IOp := [⟨some 17, .op (.mov), [.t 5], none⟩,
  ⟨some 4, .op (.mov), [.t 17], none⟩]
abbrev r53_6 : List IOp := [⟨some 18, .op (.bin .add .prim), [.t 8, .c (.int .i64 1)], none⟩,
  ⟨some 8, .op (.mov), [.t 18], none⟩]
abbrev b53_0 : IC := (IC.seq (IC.reg r53_2) (IC.seq (IC.cond (.t 9) IC.skip (IC.exit 0)) (IC.seq (IC.block 1 (IC.seq (IC.reg r53_3) (IC.seq (IC.reg r53_4) (IC.cond (.t 16) (IC.seq (IC.reg r53_5) IC.ret) IC.skip)))) (IC.reg r53_6))))
abbrev r53_7 : List IOp := [⟨some 4, .op (.mov), [.c (.int .i64 (-1))], none⟩]
abbrev c53 : IC := (IC.seq (IC.reg r53_0) (IC.seq (IC.seq (IC.reg r53_1) (IC.block 0 (IC.loop b53_0))) (IC.seq (IC.reg r53_7) IC.ret)))
abbrev g53 : FC := ⟨c53, 19, [.t 4]⟩
theorem comp53 : compF Go.Proofs.Try.prog (fun _ => 0) 53 = some g53 := by kernel_rfl

-- math/bits.Len64
abbrev r68_0 : List IOp := [⟨some 2, .op (.mov), [.c (.int .i64 0)], none⟩]
abbrev r68_1 : List IOp := [⟨some 3, .op (.mov), [.t 0], none⟩,
  ⟨some 4, .op (.bin .geq .prim), [.t 3, .c (.int .u64 4294967296)], none⟩]
abbrev r68_2 : List IOp := [⟨some 5, .op (.mov), [.t 0], none⟩,
  ⟨some 6, .op (.bin .shr .prim), [.t 5, .c (.int .u64 32)], none⟩,
  ⟨some 0, .op (.mov), [.t 6], none⟩]
abbrev r68_3 : List IOp := [⟨some 2, .op (.mov), [.c (.int .i64 32)], none⟩]
abbrev r68_4 : List IOp := [⟨some 7, .op (.mov), [.t 0], none⟩,
  ⟨some 8, .op (.bin .geq .prim), [.t 7, .c (.int .u64 65536)], none⟩]
abbrev r68_5 : List IOp := [⟨some 9, .op (.mov), [.t 0], none⟩,
  ⟨some 10, .op (.bin .shr .prim), [.t 9, .c (.int .u64 16)], none⟩,
  ⟨some 0, .op (.mov), [.t 10], none⟩]
abbrev r68_6 : List IOp := [⟨some 11, .op (.mov), [.t 2], none⟩,
  ⟨some 12, .op (.bin .add .prim), [.t 11, .c (.int .i64 16)], none⟩,
  ⟨some 2, .op (.mov), [.t 12], none⟩]
abbrev r68_7 : List IOp := [⟨some 13, .op (.mov), [.t 0], none⟩,
  ⟨some 14, .op (.bin .geq .prim), [.t 13, .c (.int .u64 256)], none⟩]
abbrev r68_8 : List IOp := [⟨some 15, .op (.mov), [.t 0], none⟩,
  ⟨some 16, .op (.bin .shr .prim), [.t 15, .c (.int .u64 8)], none⟩,
  ⟨some 0, .op (.mov), [.t 16], none⟩]
abbrev r68_9 : List IOp := [⟨some 17, .op (.mov), [.t 2], none⟩,
  ⟨some 18, .op (.bin .add .prim), [.t 17, .c (.int .i64 8)], none⟩,
  ⟨some 2, .op (.mov), [.t 18], none⟩]
abbrev r68_10 : List IOp := [⟨some 19, .op (.mov), [.t 2], none⟩,
  ⟨some 20, .op (.mov), [.t 0], none⟩,
  ⟨some 21, .op (.toInt .u8), [.t 20], none⟩,
  ⟨some 22, .op (.idxs), [.c (.str [0, 1, 2, 2, 3, 3, 3, 3, 4, 4, 4, 4, 4, 4, 4, 4, 5, 5, 5, 5, 5, 5, 5, 5, 5, 5, 5, 5, 5, 5, 5, 5, 6, 6, 6, 6, 6, 6, 6, 6, 6, 6, 6, 6, 6, 6, 6, 6, 6, 6, 6, 6, 6, 6, 6, 6, 6, 6, 6, 6, 6, 6, 6, 6, 7, 7, 7, 7, 7, 7, 7, 7, 7, 7, 7, 7, 7, 7, 7, 7, 7, 7, 7, 7, 7, 7, 7, 7, 7, 7, 7, 7, 7, 7, 7, 7, 7, 7, 7, 7, 7, 7, 7, 7, 7, 7, 7, 7, 7, 7, 7, 7, 7, 7, 7, 7, 7, 7, 7, 7, 7, 7, 7, 7, 7, 7, 7, 7, 8, 8, 8, 8, 8, 8, 8, 8, 8, 8, 8, 8, 8, 8, 8, 8, 8, 8, 8, 8, 8, 8, 8, 8, 8, 8, 8, 8, 8, 8, 8, 8, 8, 8, 8, 8, 8, 8, 8, 8, 8, 8, 8, 8, 8, 8, 8, 8, 8, 8, 8, 8, 8, 8, 8, 8, 8, 8, 8, 8, 8, 8, 8, 8, 8, 8, 8, 8, 8, 8, 8, 8, 8, 8, 8, 8, 8, 8, 8, 8, 8, 8, 8, 8, 8, 8, 8, 8, 8, 8, 8, 8, 8, 8, 8, 8, 8, 8, 8, 8, 8, 8, 8, 8, 8, 8, 8, 8, 8, 8, 8, 8, 8, 8, 8, 8, 8, 8, 8, 8, 8, 8, 8, 8, 8, 8, 8, 8]), .t 21], none⟩,
  ⟨some 23, .op (.toInt .i64), [.t 22], none⟩,
  ⟨some 24, .op (.bin .add .prim), [.t 19, .t 23], none⟩,
  ⟨some 2, .op (.mov), [.t 24], none⟩]
abbrev c68 : IC := (IC.seq (IC.reg r68_0) (IC.seq (IC.seq (IC.reg r68_1) (IC.cond (.t 4) (IC.seq (IC.reg r68_2) (IC.reg r68_3)) IC.skip)) (IC.seq (IC.seq (IC.reg r68_4) (IC.cond (.t 8) (IC.seq (IC.reg r68_5) (IC.reg r68_6)) IC.skip)) (IC.seq (IC.seq (IC.reg r68_7) (IC.cond (.t 14) (IC.seq (IC.reg r68_8) (IC.reg r68_9)) IC.skip)) (IC.seq (IC.reg r68_10) IC.ret)))))
abbrev g68 : FC := ⟨c68, 25, [.t 2]⟩
theorem comp68 : compF Go.Proofs.Try.prog (fun _ => 0) 68 = some g68 := by kernel_rfl

-- slices.insertionSortOrdered[byte]
abbrev r59_0 : List IOp := [⟨some 8, .op (.mov), [.t 1], none⟩,
  ⟨some 9, .op (.bin .add .prim), [.t 8, .c (.int .i64 1)], none⟩,
  ⟨some 6, .op (.mov), [.t 9], none⟩]
abbrev r59_1 : List IOp := [⟨some 10, .op (.mov), [.t 6], none⟩,
  ⟨some 11, .op (.mov), [.t 2], none⟩,
  ⟨some 12, .op (.bin .lss .prim), [.t 10, .t 11], none⟩]
abbrev r59_2 : List IOp := [⟨some 15, .op (.mov), [.t 6], none⟩,
  ⟨some 7, .op (.mov), [.t 15], none⟩]
abbrev r59_3 : List IOp := [⟨some 16, .op (.mov), [.t 7], none⟩,
  ⟨some 17, .op (.mov), [.t 1], none⟩,
  ⟨some 18, .op (.bin .gtr .prim), [.t 16, .t 17], none⟩,
  ⟨some 19, .op (.mov), [.t 18], none⟩,
  ⟨some 20, .op (.mov), [.t 0], some (19, true)⟩,
  ⟨some 21, .op (.mov), [.t 7], some (19, true)⟩,
  ⟨some 22, .op (.iaddr 1), [.t 20, .t 21], some (19, true)⟩,
  ⟨some 23, .op (.load none), [.t 22], some (19, true)⟩,
  ⟨some 24, .op (.mov), [.t 0], some (19, true)⟩,
  ⟨some 25, .op (.mov), [.t 7], some (19, true)⟩,
  ⟨some 26, .op (.bin .sub .prim), [.t 25, .c (.int .i64 1)], some (19, true)⟩,
  ⟨some 27, .op (.iaddr 1), [.t 24, .t 26], some (19, true)⟩,
  ⟨some 28, .op (.load none), [.t 27], some (19, true)⟩,
  ⟨some 29, .call none, [.f 48, .t 23, .t 28], some (19, true)⟩,
  ⟨some 30, .op (.pick), [.t 19, .t 29, .c (.bool false)], none⟩]
abbrev r59_4 : List IOp := [⟨some 33, .op (.mov), [.t 0], none⟩,
  ⟨some 34, .op (.mov), [.t 7], none⟩,
  ⟨some 35, .op (.mov), [.t 0], none⟩,
  ⟨some 36, .op (.mov), [.t 7], none⟩,
  ⟨some 37, .op (.bin .sub .prim), [.t 36, .c (.int .i64 1)], none⟩,
  ⟨some 38, .op (.mov), [.t 0], none⟩,
  ⟨some 39, .op (.mov), [.t 7], none⟩,
  ⟨some 40, .op (.bin .sub .prim), [.t 39, .c (.int .i64 1)], none⟩,
  ⟨some 41, .op (.iaddr 1), [.t 38, .t 40], none⟩,
  ⟨some 42, .op (.load none), [.t 41], none⟩,
  ⟨some 43, .op (.mov), [.t 0], none⟩,
  ⟨some 44, .op (.mov), [.t 7], none⟩,
  ⟨some 45, .op (.iaddr 1), [.t 43, .t 44], none⟩,
  ⟨some 46, .op (.load none), [.t 45], none⟩,
  ⟨some 47, .op (.iaddr 1), [.t 33, .t 34], none⟩,
  ⟨none, .op (.store 1), [.t 47, .t 42], none⟩,
  ⟨some 48, .op (.iaddr 1), [.t 35, .t 37], none⟩,
  ⟨none, .op (.store 1), [.t 48, .t 46], none⟩]
abbrev r59_5 : List IOp := [⟨some 31, .op (.mov), [.t 7], none⟩,
  ⟨some 32, .op (.bin .sub .prim), [.t 31, .c (.int .i64 1)], none⟩,
  ⟨some 7, .op (.mov), [.t 32], none⟩]
abbrev b59_0 : IC := (IC.seq (IC.seq (IC.regD .wild r59_3 (.take 0 (.take 1 (.take 2 (.take 3 (.take 4 (.take 5 (.take 6 (.take 7 (.take 8 (.take 9 (.take 10 (.take 11 (.take 12 (.take 13 (.take 14 (.done))))))))))))))))) (IC.cond (.t 30) IC.skip (IC.exit 2))) (IC.seq (IC.block 3 (IC.regD .wild r59_4 (.take 0 (.take 1 (.take 2 (.take 3 (.take 4 (.take 5 (.take 6 (.take 7 (.take 8 (.take 9 (.take 10 (.take 11 (.take 12 (.take 13 (.take 14 (.take 15 (.take 16 (.take 17 (.done))))))))))))))))))))) (IC.reg r59_5)))
abbrev r59_6 : List IOp := [⟨some 13, .op (.mov), [.t 6], none⟩,
  ⟨some 14, .op (.bin .add .prim), [.t 13, .c (.int .i64 1)], none⟩,
  ⟨some 6, .op (.mov), [.t 14], none⟩]
abbrev b59_1 : IC := (IC.seq (IC.seq (IC.reg r59_1) (IC.cond (.t 12) IC.skip (IC.exit 0))) (IC.seq (IC.block 1 (IC.seq (IC.reg r59_2) (IC.block 2 (IC.loop b59_0)))) (IC.reg r59_6)))
abbrev c59 : IC := (IC.seq (IC.reg r59_0) (IC.block 0 (IC.loop b59_1)))
abbrev g59 : FC := ⟨c59, 49, []⟩
theorem comp59 : compF Go.Proofs.Try.prog (hintL [(4, 6), (6, 6)]) 59 = some g59 := by kernel_rfl

-- cmp.isNaN[byte]
abbrev r69_0 : List IOp := [⟨some 2, .op (.mov), [.c (.bool false)], none⟩]
abbrev r69_1 : List IOp := [⟨some 3, .op (.mov), [.t 0], none⟩,
  ⟨some 4, .op (.mov), [.t 0], none⟩,
  ⟨some 5, .op (.bin .neq .prim), [.t 3, .t 4], none⟩,
  ⟨some 2, .op (.mov), [.t 5], none⟩]
abbrev c69 : IC := (IC.seq (IC.reg r69_0) (IC.seq (IC.reg r69_1) IC.ret))
abbrev g69 : FC := ⟨c69, 6, [.t 2]⟩
theorem comp69 : compF Go.Proofs.Try.prog (fun _ => 0) 69 = some g69 := by kernel_rfl

-- (outlaw/nfa.row).all$1
abbrev r70_0 : List IOp := [⟨some 5, .op (.load none), [.t 1], none⟩,
  ⟨some 6, .op (.len .slice), [.t 5], none⟩,
  ⟨some 7, .op (.mov), [.c (.int .i64 0)], none⟩]
abbrev r70_1 : List IOp := [⟨some 8, .op (.bin .lss .prim), [.t 7, .t 6], none⟩]
abbrev r70_2 : List IOp := [⟨some 9, .op (.mov), [.t 7], none⟩,
  ⟨some 10, .op (.iaddr 1), [.t 5, .t 7], none⟩,
  ⟨some 11, .op (.load none), [.t 10], none⟩,
  ⟨some 3, .op (.mov), [.t 9], none⟩,
  ⟨some 4, .op (.mov), [.t 11], none⟩]
abbrev r70_3 : List IOp := [⟨some 12, .op (.mov), [.t 4], none⟩,
  ⟨some 13, .op (.mov), [.t 12], none⟩,
  ⟨some 14, .op (.mov), [.t 0], some (13, true)⟩,
  ⟨some 15, .op (.mov), [.t 3], some (13, true)⟩,
  ⟨some 16, .call none, [.t 14, .t 15], some (13, true)⟩,
  ⟨some 17, .op (.un .not), [.t 16], some (13, true)⟩,
  ⟨some 18, .op (.pick), [.t 13, .t 17, .c (.bool false)], none⟩]
abbrev r70_4 : List IOp := [⟨some 19, .op (.bin .add .prim), [.t 7, .c (.int .i64 1)], none⟩,
  ⟨some 7, .op (.mov), [.t 19], none⟩]
abbrev b70_0 : IC := (IC.seq (IC.reg r70_1) (IC.seq (IC.cond (.t 8) IC.skip (IC.exit 0)) (IC.seq (IC.block 1 (IC.seq (IC.reg r70_2) (IC.seq (IC.reg r70_3) (IC.cond (.t 18) IC.ret IC.skip)))) (IC.reg r70_4))))
abbrev c70 : IC := (IC.seq (IC.reg r70_0) (IC.block 0 (IC.loop b70_0)))
abbrev g70 : FC := ⟨c70, 20, []⟩
theorem comp70 : compF Go.Proofs.Try.prog (fun _ => 0) 70 = some g70 := by kernel_rfl

set_option maxRecDepth 100000 in
abbrev FT : FTr := (.node 34 g34 (.node 18 g18 (.node 10 g10 (.node 6 g6 (.node 5 g5 (.node 3 g3 .nil .nil) .nil) (.node 8 g8 (.node 7 g7 .nil .nil) .nil)) (.node 16 g16 (.node 15 g15 (.node 13 g13 .nil .nil) .nil) (.node 17 g17 .nil .nil))) (.node 27 g27 (.node 21 g21 (.node 20 g20 (.node 19 g19 .nil .nil) .nil) (.node 26 g26 (.node 22 g22 .nil .nil) .nil)) (.node 30 g30 (.node 29 g29 (.node 28 g28 .nil .nil) .nil) (.node 33 g33 .nil .nil)))) (.node 48 g48 (.node 40 g40 (.node 37 g37 (.node 36 g36 (.node 35 g35 .nil .nil) .nil) (.node 39 g39 (.node 38 g38 .nil .nil) .nil)) (.node 46 g46 (.node 42 g42 (.node 41 g41 .nil .nil) .nil) (.node 47 g47 .nil .nil))) (.node 53 g53 (.node 51 g51 (.node 50 g50 (.node 49 g49 .nil .nil) .nil) (.node 52 g52 .nil .nil)) (.node 69 g69 (.node 68 g68 (.node 59 g59 .nil .nil) .nil) (.node 70 g70 .nil .nil)))))
set_option maxRecDepth 100000 in
theorem FT_ok : FT.All (FOk Go.Proofs.Try.prog) := ⟨⟨_, comp34, by decide, .inl (by decide)⟩, ⟨⟨_, comp18, by decide, .inl (by decide)⟩, ⟨⟨_, comp10, by decide, .inl (by decide)⟩, ⟨⟨_, comp6, by decide, .inl (by decide)⟩, ⟨⟨_, comp5, by decide, .inl (by decide)⟩, ⟨⟨_, comp3, by decide, .inl (by decide)⟩, trivial, trivial⟩, trivial⟩, ⟨⟨_, comp8, by decide, .inl (by decide)⟩, ⟨⟨_, comp7, by decide, .inl (by decide)⟩, trivial, trivial⟩, trivial⟩⟩, ⟨⟨_, comp16, by decide, .inl (by decide)⟩, ⟨⟨_, comp15, by decide, .inl (by decide)⟩, ⟨⟨_, comp13, by decide, .inl (by decide)⟩, trivial, trivial⟩, trivial⟩, ⟨⟨_, comp17, by decide, .inl (by decide)⟩, trivial, trivial⟩⟩⟩, ⟨⟨_, comp27, by decide, .inl (by decide)⟩, ⟨⟨_, comp21, by decide, .inl (by decide)⟩, ⟨⟨_, comp20, by decide, .inl (by decide)⟩, ⟨⟨_, comp19, by decide, .inl (by decide)⟩, trivial, trivial⟩, trivial⟩, ⟨⟨_, comp26, by decide, .inl (by decide)⟩, ⟨⟨_, comp22, by decide, .inl (by decide)⟩, trivial, trivial⟩, trivial⟩⟩, ⟨⟨_, comp30, by decide, .inl (by decide)⟩, ⟨⟨_, comp29, by decide, .inl (by decide)⟩, ⟨⟨_, comp28, by decide, .inl (by decide)⟩, trivial, trivial⟩, trivial⟩, ⟨⟨_, comp33, by decide, .inl (by decide)⟩, trivial, trivial⟩⟩⟩⟩, ⟨⟨_, comp48, by decide, .inl (by decide)⟩, ⟨⟨_, comp40, by decide, .inl (by decide)⟩, ⟨⟨_, comp37, by decide, .inr keys37⟩, ⟨⟨_, comp36, by decide, .inl (by decide)⟩, ⟨⟨_, comp35, by decide, .inl (by decide)⟩, trivial, trivial⟩, trivial⟩, ⟨⟨_, comp39, by decide, .inl (by decide)⟩, ⟨⟨_, comp38, by decide, .inr keys38⟩, trivial, trivial⟩, trivial⟩⟩, ⟨⟨_, comp46, by decide, .inl (by decide)⟩, ⟨⟨_, comp42, by decide, .inl (by decide)⟩, ⟨⟨_, comp41, by decide, .inl (by decide)⟩, trivial, trivial⟩, trivial⟩, ⟨⟨_, comp47, by decide, .inl (by decide)⟩, trivial, trivial⟩⟩⟩, ⟨⟨_, comp53, by decide, .inl (by decide)⟩, ⟨⟨_, comp51, by decide, .inl (by decide)⟩, ⟨⟨_, comp50, by decide, .inl (by decide)⟩, ⟨⟨_, comp49, by decide, .inl (by decide)⟩, trivial, trivial⟩, trivial⟩, ⟨⟨_, comp52, by decide, .inl (by decide)⟩, trivial, trivial⟩⟩, ⟨⟨_, comp69, by decide, .inl (by decide)⟩, ⟨⟨_, comp68, by decide, .inl (by decide)⟩, ⟨⟨_, comp59, by decide, .inl (by decide)⟩, trivial, trivial⟩, trivial⟩, ⟨⟨_, comp70, by decide, .inl (by decide)⟩, trivial, trivial⟩⟩⟩⟩⟩
abbrev LT : List (Nat × LI) := [(37000, li37000), (38000, li38000)]
theorem LT_ok : LAll Go.Proofs.Try.prog LT := ⟨lok37000, ⟨lok38000, trivial⟩⟩
end Go.Gi
