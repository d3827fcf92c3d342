/- Functions of the program in the form of the abstract machine, printed by a program; each is checked against the translation. -/
import Derived.Test.YtfacalnpmjmmdaaGiXE
import Derived.Test.YtfacalnpmjmmdaaProg
import Derived.KernelRfl
set_option linter.unusedVariables false
namespace Go.Gi
open Go
-- outlaw/outlawlaw09.DfaNames
abbrev r3_0 : List IOp := [⟨some 0, .op (.mov), [.c (.bool false)], none⟩]
abbrev r3_1 : List IOp := [⟨some 10, .call none, [.f 4, .c (.str [42]), .c (.bool false), .c (.int .i64 1)], none⟩,
  ⟨some 9, .op (.mov), [.t 10], none⟩,
  ⟨some 11, .op (.extract 0), [.t 9], none⟩,
  ⟨some 12, .op (.extract 1), [.t 9], none⟩,
  ⟨some 1, .op (.alloc 26 [.nils, .nils, .nils]), [], none⟩,
  ⟨none, .op (.store 3), [.t 1, .t 11], none⟩,
  ⟨some 2, .op (.mov), [.t 12], none⟩]
abbrev r3_2 : List IOp := [⟨some 14, .call none, [.f 4, .c (.str [97, 98]), .c (.bool false), .c (.int .i64 3)], none⟩,
  ⟨some 13, .op (.mov), [.t 14], none⟩,
  ⟨some 15, .op (.extract 0), [.t 13], none⟩,
  ⟨some 16, .op (.extract 1), [.t 13], none⟩,
  ⟨some 3, .op (.alloc 26 [.nils, .nils, .nils]), [], none⟩,
  ⟨none, .op (.store 3), [.t 3, .t 15], none⟩,
  ⟨some 4, .op (.mov), [.t 16], none⟩]
abbrev r3_3 : List IOp := [⟨some 18, .call none, [.f 5, .c (.str [97, 98]), .c (.bool true), .c (.int .i64 3)], none⟩,
  ⟨some 17, .op (.mov), [.t 18], none⟩,
  ⟨some 19, .op (.extract 0), [.t 17], none⟩,
  ⟨some 20, .op (.extract 1), [.t 17], none⟩,
  ⟨some 5, .op (.mov), [.t 19], none⟩,
  ⟨some 6, .op (.mov), [.t 20], none⟩]
abbrev r3_4 : List IOp := [⟨some 22, .call none, [.f 5, .c (.str [97]), .c (.bool false), .c (.int .i64 0)], none⟩,
  ⟨some 21, .op (.mov), [.t 22], none⟩,
  ⟨some 23, .op (.extract 0), [.t 21], none⟩,
  ⟨some 24, .op (.extract 1), [.t 21], none⟩,
  ⟨some 7, .op (.mov), [.t 23], none⟩,
  ⟨some 8, .op (.mov), [.t 24], none⟩]
abbrev r3_5 : List IOp := [⟨some 25, .call none, [.f 6], none⟩,
  ⟨some 26, .op (.mov), [.t 25], none⟩,
  ⟨some 27, .op (.mov), [.t 2], some (26, true)⟩,
  ⟨some 28, .op (.pick), [.t 26, .t 27, .c (.bool false)], none⟩,
  ⟨some 29, .op (.mov), [.t 28], none⟩,
  ⟨some 30, .op (.faddr 1), [.t 1], some (29, true)⟩,
  ⟨some 31, .op (.load none), [.t 30], some (29, true)⟩,
  ⟨some 32, .op (.len .slice), [.t 31], some (29, true)⟩,
  ⟨some 33, .op (.bin .eql .prim), [.t 32, .c (.int .i64 1)], some (29, true)⟩,
  ⟨some 34, .op (.pick), [.t 29, .t 33, .c (.bool false)], none⟩,
  ⟨some 35, .op (.mov), [.t 34], none⟩,
  ⟨some 36, .op (.faddr 1), [.t 1], some (35, true)⟩,
  ⟨some 37, .op (.load none), [.t 36], some (35, true)⟩,
  ⟨some 38, .op (.iaddr 1), [.t 37, .c (.int .i64 0)], some (35, true)⟩,
  ⟨some 39, .op (.load none), [.t 38], some (35, true)⟩,
  ⟨some 40, .op (.len .slice), [.t 39], some (35, true)⟩,
  ⟨some 41, .op (.bin .eql .prim), [.t 40, .c (.int .i64 1)], some (35, true)⟩,
  ⟨some 42, .op (.pick), [.t 35, .t 41, .c (.bool false)], none⟩,
  ⟨some 43, .op (.mov), [.t 42], none⟩,
  ⟨some 44, .op (.faddr 2), [.t 1], some (43, true)⟩,
  ⟨some 45, .op (.load none), [.t 44], some (43, true)⟩,
  ⟨some 46, .op (.len .slice), [.t 45], some (43, true)⟩,
  ⟨some 47, .op (.bin .eql .prim), [.t 46, .c (.int .i64 1)], some (43, true)⟩,
  ⟨some 48, .op (.pick), [.t 43, .t 47, .c (.bool false)], none⟩,
  ⟨some 49, .op (.mov), [.t 48], none⟩,
  ⟨some 50, .op (.faddr 2), [.t 1], some (49, true)⟩,
  ⟨some 51, .op (.load none), [.t 50], some (49, true)⟩,
  ⟨some 52, .op (.iaddr 1), [.t 51, .c (.int .i64 0)], some (49, true)⟩,
  ⟨some 53, .op (.load none), [.t 52], some (49, true)⟩,
  ⟨some 54, .op (.pick), [.t 49, .t 53, .c (.bool false)], none⟩,
  ⟨some 55, .op (.mov), [.t 54], none⟩,
  ⟨some 56, .op (.load (some 3)), [.t 1], some (55, true)⟩,
  ⟨some 57, .call none, [.f 7, .t 56], some (55, true)⟩,
  ⟨some 58, .op (.bin .eql .prim), [.t 57, .c (.int .i64 0)], some (55, true)⟩,
  ⟨some 59, .op (.pick), [.t 55, .t 58, .c (.bool false)], none⟩,
  ⟨some 60, .op (.mov), [.t 59], none⟩,
  ⟨some 61, .op (.mov), [.t 4], some (60, true)⟩,
  ⟨some 62, .op (.un .not), [.t 61], some (60, true)⟩,
  ⟨some 63, .op (.pick), [.t 60, .t 62, .c (.bool false)], none⟩,
  ⟨some 64, .op (.mov), [.t 63], none⟩,
  ⟨some 65, .op (.mov), [.t 6], some (64, true)⟩,
  ⟨some 66, .op (.bin .eql .prim), [.t 65, .c (.int .i64 0)], some (64, true)⟩,
  ⟨some 67, .op (.pick), [.t 64, .t 66, .c (.bool false)], none⟩,
  ⟨some 68, .op (.mov), [.t 67], none⟩,
  ⟨some 69, .op (.mov), [.t 5], some (68, true)⟩,
  ⟨some 70, .op (.bin .neq .ptr), [.t 69, .c (.nilp)], some (68, true)⟩,
  ⟨some 71, .op (.pick), [.t 68, .t 70, .c (.bool false)], none⟩,
  ⟨some 72, .op (.mov), [.t 71], none⟩,
  ⟨some 73, .op (.mov), [.t 5], some (72, true)⟩,
  ⟨some 74, .call none, [.f 8, .t 73], some (72, true)⟩,
  ⟨some 75, .op (.pick), [.t 72, .t 74, .c (.bool false)], none⟩,
  ⟨some 76, .op (.mov), [.t 75], none⟩,
  ⟨some 77, .op (.mov), [.t 5], some (76, true)⟩,
  ⟨some 78, .call none, [.f 9, .t 77], some (76, true)⟩,
  ⟨some 79, .op (.bin .eql .prim), [.t 78, .c (.int .i64 0)], some (76, true)⟩,
  ⟨some 80, .op (.pick), [.t 76, .t 79, .c (.bool false)], none⟩,
  ⟨some 81, .op (.mov), [.t 80], none⟩,
  ⟨some 82, .op (.mov), [.t 5], some (81, true)⟩,
  ⟨some 83, .call none, [.f 10, .t 82, .c (.str [65, 66])], some (81, true)⟩,
  ⟨some 84, .op (.pick), [.t 81, .t 83, .c (.bool false)], none⟩,
  ⟨some 85, .op (.mov), [.t 84], none⟩,
  ⟨some 86, .op (.mov), [.t 5], some (85, true)⟩,
  ⟨some 87, .call none, [.f 10, .t 86, .c (.str [65])], some (85, true)⟩,
  ⟨some 88, .op (.un .not), [.t 87], some (85, true)⟩,
  ⟨some 89, .op (.pick), [.t 85, .t 88, .c (.bool false)], none⟩,
  ⟨some 90, .op (.mov), [.t 89], none⟩,
  ⟨some 91, .op (.mov), [.t 8], some (90, true)⟩,
  ⟨some 92, .op (.bin .eql .prim), [.t 91, .c (.int .i64 2)], some (90, true)⟩,
  ⟨some 93, .op (.pick), [.t 90, .t 92, .c (.bool false)], none⟩,
  ⟨some 0, .op (.mov), [.t 93], none⟩]
abbrev c3 : IC := (IC.seq (IC.reg r3_0) (IC.seq (IC.reg r3_1) (IC.seq (IC.reg r3_2) (IC.seq (IC.reg r3_3) (IC.seq (IC.reg r3_4) (IC.seq (IC.reg r3_5) IC.ret))))))
abbrev g3 : FC := ⟨c3, 94, [.t 0]⟩
theorem comp3 : compF Go.Proofs.Try.prog (fun _ => 0) 3 = some g3 := by kernel_rfl

-- outlaw/dfa.Build
abbrev r4_0 : List IOp := [⟨some 6, .op (.alloc 26 [.nils, .nils, .nils]), [], none⟩,
  ⟨some 7, .op (.mov), [.c (.bool false)], none⟩]
abbrev r4_1 : List IOp := [⟨some 23, .op (.mov), [.t 0], none⟩,
  ⟨some 24, .op (.mov), [.t 1], none⟩,
  ⟨some 25, .call none, [.f 11, .t 23, .t 24], none⟩,
  ⟨some 22, .op (.mov), [.t 25], none⟩,
  ⟨some 26, .op (.extract 0), [.t 22], none⟩,
  ⟨some 27, .op (.extract 1), [.t 22], none⟩,
  ⟨some 8, .op (.mov), [.t 26], none⟩,
  ⟨some 9, .op (.mov), [.t 27], none⟩]
abbrev r4_2 : List IOp := [⟨some 28, .op (.mov), [.t 9], none⟩,
  ⟨some 29, .op (.bin .neq .prim), [.t 28, .c (.int .i64 0)], none⟩,
  ⟨some 30, .op (.mov), [.t 29], none⟩,
  ⟨some 31, .op (.mov), [.t 2], some (30, false)⟩,
  ⟨some 32, .op (.bin .lss .prim), [.t 31, .c (.int .i64 1)], some (30, false)⟩,
  ⟨some 33, .op (.pick), [.t 30, .c (.bool true), .t 32], none⟩,
  ⟨some 34, .op (.mov), [.t 33], none⟩,
  ⟨some 35, .op (.mov), [.t 2], some (34, false)⟩,
  ⟨some 36, .op (.bin .gtr .prim), [.t 35, .c (.int .i64 256)], some (34, false)⟩,
  ⟨some 37, .op (.pick), [.t 34, .c (.bool true), .t 36], none⟩]
abbrev r4_3 : List IOp := [⟨some 38, .op (.bst [.nils, .nils, .nils] [(0, 1), (1, 1), (2, 1)] []), [], none⟩,
  ⟨none, .op (.store 3), [.t 6, .t 38], none⟩,
  ⟨some 7, .op (.mov), [.c (.bool false)], none⟩]
abbrev r4_4 : List IOp := [⟨some 40, .op (.mov), [.t 8], none⟩,
  ⟨some 41, .call none, [.f 12, .t 40], none⟩,
  ⟨some 39, .op (.mov), [.t 41], none⟩,
  ⟨some 42, .op (.extract 0), [.t 39], none⟩,
  ⟨some 43, .op (.extract 1), [.t 39], none⟩,
  ⟨some 10, .op (.mov), [.t 42], none⟩,
  ⟨some 11, .op (.mov), [.t 43], none⟩]
abbrev r4_5 : List IOp := [⟨some 45, .op (.mov), [.t 10], none⟩,
  ⟨some 46, .op (.mov), [.t 1], none⟩,
  ⟨some 47, .call none, [.f 13, .t 45, .t 46], none⟩,
  ⟨some 44, .op (.mov), [.t 47], none⟩,
  ⟨some 48, .op (.extract 0), [.t 44], none⟩,
  ⟨some 49, .op (.extract 1), [.t 44], none⟩,
  ⟨some 12, .op (.alloc 42 [.int .i64 0, .int .i64 0, .int .i64 0, .int .i64 0, .int .i64 0, .int .i64 0, .int .i64 0, .int .i64 0, .int .i64 0, .int .i64 0, .int .i64 0, .int .i64 0, .int .i64 0, .int .i64 0, .int .i64 0, .int .i64 0, .int .i64 0, .int .i64 0, .int .i64 0, .int .i64 0, .int .i64 0, .int .i64 0, .int .i64 0, .int .i64 0, .int .i64 0, .int .i64 0, .int .i64 0, .int .i64 0, .int .i64 0, .int .i64 0, .int .i64 0, .int .i64 0, .int .i64 0, .int .i64 0, .int .i64 0, .int .i64 0, .int .i64 0, .int .i64 0, .int .i64 0, .int .i64 0, .int .i64 0, .int .i64 0, .int .i64 0, .int .i64 0, .int .i64 0, .int .i64 0, .int .i64 0, .int .i64 0, .int .i64 0, .int .i64 0, .int .i64 0, .int .i64 0, .int .i64 0, .int .i64 0, .int .i64 0, .int .i64 0, .int .i64 0, .int .i64 0, .int .i64 0, .int .i64 0, .int .i64 0, .int .i64 0, .int .i64 0, .int .i64 0, .int .i64 0, .int .i64 0, .int .i64 0, .int .i64 0, .int .i64 0, .int .i64 0, .int .i64 0, .int .i64 0, .int .i64 0, .int .i64 0, .int .i64 0, .int .i64 0, .int .i64 0, .int .i64 0, .int .i64 0, .int .i64 0, .int .i64 0, .int .i64 0, .int .i64 0, .int .i64 0, .int .i64 0, .int .i64 0, .int .i64 0, .int .i64 0, .int .i64 0, .int .i64 0, .int .i64 0, .int .i64 0, .int .i64 0, .int .i64 0, .int .i64 0, .int .i64 0, .int .i64 0, .int .i64 0, .int .i64 0, .int .i64 0, .int .i64 0, .int .i64 0, .int .i64 0, .int .i64 0, .int .i64 0, .int .i64 0, .int .i64 0, .int .i64 0, .int .i64 0, .int .i64 0, .int .i64 0, .int .i64 0, .int .i64 0, .int .i64 0, .int .i64 0, .int .i64 0, .int .i64 0, .int .i64 0, .int .i64 0, .int .i64 0, .int .i64 0, .int .i64 0, .int .i64 0, .int .i64 0, .int .i64 0, .int .i64 0, .int .i64 0, .int .i64 0, .int .i64 0, .int .i64 0, .int .i64 0, .int .i64 0, .int .i64 0, .int .i64 0, .int .i64 0, .int .i64 0, .int .i64 0, .int .i64 0, .int .i64 0, .int .i64 0, .int .i64 0, .int .i64 0, .int .i64 0, .int .i64 0, .int .i64 0, .int .i64 0, .int .i64 0, .int .i64 0, .int .i64 0, .int .i64 0, .int .i64 0, .int .i64 0, .int .i64 0, .int .i64 0, .int .i64 0, .int .i64 0, .int .i64 0, .int .i64 0, .int .i64 0, .int .i64 0, .int .i64 0, .int .i64 0, .int .i64 0, .int .i64 0, .int .i64 0, .int .i64 0, .int .i64 0, .int .i64 0, .int .i64 0, .int .i64 0, .int .i64 0, .int .i64 0, .int .i64 0, .int .i64 0, .int .i64 0, .int .i64 0, .int .i64 0, .int .i64 0, .int .i64 0, .int .i64 0, .int .i64 0, .int .i64 0, .int .i64 0, .int .i64 0, .int .i64 0, .int .i64 0, .int .i64 0, .int .i64 0, .int .i64 0, .int .i64 0, .int .i64 0, .int .i64 0, .int .i64 0, .int .i64 0, .int .i64 0, .int .i64 0, .int .i64 0, .int .i64 0, .int .i64 0, .int .i64 0, .int .i64 0, .int .i64 0, .int .i64 0, .int .i64 0, .int .i64 0, .int .i64 0, .int .i64 0, .int .i64 0, .int .i64 0, .int .i64 0, .int .i64 0, .int .i64 0, .int .i64 0, .int .i64 0, .int .i64 0, .int .i64 0, .int .i64 0, .int .i64 0, .int .i64 0, .int .i64 0, .int .i64 0, .int .i64 0, .int .i64 0, .int .i64 0, .int .i64 0, .int .i64 0, .int .i64 0, .int .i64 0, .int .i64 0, .int .i64 0, .int .i64 0, .int .i64 0, .int .i64 0, .int .i64 0, .int .i64 0, .int .i64 0, .int .i64 0, .int .i64 0, .int .i64 0, .int .i64 0, .int .i64 0, .int .i64 0, .int .i64 0, .int .i64 0, .int .i64 0, .int .i64 0, .int .i64 0, .int .i64 0, .int .i64 0, .int .i64 0, .int .i64 0, .int .i64 0, .int .i64 0, .int .i64 0, .int .i64 0, .int .i64 0]), [], none⟩,
  ⟨none, .op (.store 256), [.t 12, .t 48], none⟩,
  ⟨some 13, .op (.mov), [.t 49], none⟩]
abbrev r4_6 : List IOp := [⟨some 50, .op (.aslice 256 1 false false false), [.t 12], none⟩,
  ⟨some 51, .op (.bst [.nils, .nils, .nils] [(0, 1), (1, 1), (2, 1)] [0]), [.t 50], none⟩,
  ⟨some 14, .op (.alloc 26 [.nils, .nils, .nils]), [], none⟩,
  ⟨none, .op (.store 3), [.t 14, .t 51], none⟩]
abbrev r4_7 : List IOp := [⟨some 52, .op (.mkmap false), [], none⟩,
  ⟨some 15, .op (.alloc 45 [.nilm]), [], none⟩,
  ⟨none, .op (.store 1), [.t 15, .t 52], none⟩]
abbrev r4_8 : List IOp := [⟨some 16, .op (.alloc 23 [.nils]), [], none⟩]
abbrev r4_9 : List IOp := [⟨some 53, .op (.mkfn 14), [.t 15, .t 16], none⟩,
  ⟨some 17, .op (.mov), [.t 53], none⟩]
abbrev r4_10 : List IOp := [⟨some 54, .op (.mov), [.t 17], none⟩,
  ⟨some 55, .op (.mov), [.t 8], none⟩,
  ⟨some 56, .call none, [.f 16, .t 55], none⟩,
  ⟨some 57, .call none, [.t 54, .t 56], none⟩]
abbrev r4_11 : List IOp := [⟨some 18, .op (.mov), [.c (.int .i64 0)], none⟩]
abbrev r4_12 : List IOp := [⟨some 58, .op (.mov), [.t 18], none⟩,
  ⟨some 59, .op (.load none), [.t 16], none⟩,
  ⟨some 60, .op (.len .slice), [.t 59], none⟩,
  ⟨some 61, .op (.bin .lss .prim), [.t 58, .t 60], none⟩]
abbrev r4_13 : List IOp := [⟨some 64, .op (.load none), [.t 16], none⟩,
  ⟨some 65, .op (.len .slice), [.t 64], none⟩,
  ⟨some 66, .op (.mov), [.t 2], none⟩,
  ⟨some 67, .op (.bin .gtr .prim), [.t 65, .t 66], none⟩]
abbrev r4_14 : List IOp := [⟨some 68, .op (.bst [.nils, .nils, .nils] [(0, 1), (1, 1), (2, 1)] []), [], none⟩,
  ⟨none, .op (.store 3), [.t 6, .t 68], none⟩,
  ⟨some 7, .op (.mov), [.c (.bool false)], none⟩]
abbrev r4_15 : List IOp := [⟨some 19, .op (.mov), [.c (.nils)], none⟩]
abbrev r4_16 : List IOp := [⟨some 69, .op (.mov), [.t 13], none⟩,
  ⟨some 70, .op (.len .slice), [.t 69], none⟩,
  ⟨some 71, .op (.mov), [.c (.int .i64 0)], none⟩]
abbrev r4_17 : List IOp := [⟨some 72, .op (.bin .lss .prim), [.t 71, .t 70], none⟩]
abbrev r4_18 : List IOp := [⟨some 73, .op (.iaddr 1), [.t 69, .t 71], none⟩,
  ⟨some 74, .op (.load none), [.t 73], none⟩,
  ⟨some 21, .op (.mov), [.t 74], none⟩]
abbrev r4_19 : List IOp := [⟨some 75, .op (.mov), [.t 21], none⟩,
  ⟨some 76, .op (.bin .lss .prim), [.t 75, .c (.int .i64 0)], none⟩]
abbrev r4_20 : List IOp := [⟨some 77, .op (.mov), [.t 19], none⟩,
  ⟨some 78, .op (.bsl 3 1 false), [.c (.int .i64 0)], none⟩,
  ⟨some 79, .op (.app 3 1 8), [.t 77, .t 78], none⟩,
  ⟨some 19, .op (.mov), [.t 79], none⟩]
abbrev r4_21 : List IOp := [⟨some 80, .op (.mov), [.t 19], none⟩,
  ⟨some 81, .op (.mov), [.t 17], none⟩,
  ⟨some 82, .op (.mov), [.t 8], none⟩,
  ⟨some 83, .op (.load none), [.t 16], none⟩,
  ⟨some 84, .op (.mov), [.t 18], none⟩,
  ⟨some 85, .op (.iaddr 1), [.t 83, .t 84], none⟩,
  ⟨some 86, .op (.load none), [.t 85], none⟩,
  ⟨some 87, .op (.mov), [.t 21], none⟩,
  ⟨some 88, .op (.toInt .u8), [.t 87], none⟩,
  ⟨some 89, .call none, [.f 17, .t 82, .t 86, .t 88], none⟩,
  ⟨some 90, .call none, [.t 81, .t 89], none⟩,
  ⟨some 91, .op (.bsl 3 1 false), [.t 90], none⟩,
  ⟨some 92, .op (.app 3 1 8), [.t 80, .t 91], none⟩,
  ⟨some 19, .op (.mov), [.t 92], none⟩]
abbrev r4_22 : List IOp := [⟨some 93, .op (.bin .add .prim), [.t 71, .c (.int .i64 1)], none⟩,
  ⟨some 71, .op (.mov), [.t 93], none⟩]
abbrev b4_0 : IC := (IC.seq (IC.reg r4_17) (IC.seq (IC.cond (.t 72) IC.skip (IC.exit 2)) (IC.seq (IC.block 3 (IC.seq (IC.reg r4_18) (IC.seq (IC.seq (IC.reg r4_19) (IC.cond (.t 76) (IC.seq (IC.reg r4_20) (IC.exit 3)) IC.skip)) (IC.reg r4_21)))) (IC.reg r4_22))))
abbrev r4_23 : List IOp := [⟨some 94, .op (.faddr 1), [.t 14], none⟩,
  ⟨some 95, .op (.load none), [.t 94], none⟩,
  ⟨some 96, .op (.mov), [.t 19], none⟩,
  ⟨some 97, .op (.bsl 22 1 false), [.t 96], none⟩,
  ⟨some 98, .op (.app 22 1 24), [.t 95, .t 97], none⟩,
  ⟨some 99, .op (.faddr 1), [.t 14], none⟩,
  ⟨none, .op (.store 1), [.t 99, .t 98], none⟩]
abbrev r4_24 : List IOp := [⟨some 100, .op (.faddr 2), [.t 14], none⟩,
  ⟨some 101, .op (.load none), [.t 100], none⟩,
  ⟨some 102, .op (.mov), [.t 8], none⟩,
  ⟨some 103, .op (.load none), [.t 16], none⟩,
  ⟨some 104, .op (.mov), [.t 18], none⟩,
  ⟨some 105, .op (.iaddr 1), [.t 103, .t 104], none⟩,
  ⟨some 106, .op (.load none), [.t 105], none⟩,
  ⟨some 107, .call none, [.f 18, .t 102, .t 106], none⟩,
  ⟨some 108, .op (.bsl 4 1 false), [.t 107], none⟩,
  ⟨some 109, .op (.app 4 1 1), [.t 101, .t 108], none⟩,
  ⟨some 110, .op (.faddr 2), [.t 14], none⟩,
  ⟨none, .op (.store 1), [.t 110, .t 109], none⟩]
abbrev r4_25 : List IOp := [⟨some 62, .op (.mov), [.t 18], none⟩,
  ⟨some 63, .op (.bin .add .prim), [.t 62, .c (.int .i64 1)], none⟩,
  ⟨some 18, .op (.mov), [.t 63], none⟩]
abbrev b4_1 : IC := (IC.seq (IC.seq (IC.reg r4_12) (IC.cond (.t 61) IC.skip (IC.exit 0))) (IC.seq (IC.block 1 (IC.seq (IC.seq (IC.reg r4_13) (IC.cond (.t 67) (IC.seq (IC.reg r4_14) IC.ret) IC.skip)) (IC.seq (IC.reg r4_15) (IC.seq (IC.seq (IC.reg r4_16) (IC.block 2 (IC.loop b4_0))) (IC.seq (IC.reg r4_23) (IC.regD .alloc r4_24 (.take 0 (.take 1 (.take 2 (.take 3 (.take 4 (.take 5 (.take 6 (.take 7 (.take 8 (.take 9 (.take 10 (.take 11 (.done))))))))))))))))))) (IC.reg r4_25)))
abbrev r4_26 : List IOp := [⟨some 111, .op (.load (some 3)), [.t 14], none⟩,
  ⟨none, .op (.store 3), [.t 6, .t 111], none⟩,
  ⟨some 7, .op (.mov), [.c (.bool true)], none⟩]
abbrev c4 : IC := (IC.seq (IC.reg r4_0) (IC.seq (IC.reg r4_1) (IC.seq (IC.seq (IC.reg r4_2) (IC.cond (.t 37) (IC.seq (IC.reg r4_3) IC.ret) IC.skip)) (IC.seq (IC.reg r4_4) (IC.seq (IC.reg r4_5) (IC.seq (IC.reg r4_6) (IC.seq (IC.reg r4_7) (IC.seq (IC.reg r4_8) (IC.seq (IC.reg r4_9) (IC.seq (IC.reg r4_10) (IC.seq (IC.seq (IC.reg r4_11) (IC.block 0 (IC.loop b4_1))) (IC.seq (IC.reg r4_26) IC.ret))))))))))))
abbrev g4 : FC := ⟨c4, 112, [.cell 6 (some 3), .t 7]⟩
theorem comp4 : compF Go.Proofs.Try.prog (hintL [(25, 7)]) 4 = some g4 := by kernel_rfl

-- outlaw/dfa.New
abbrev r5_0 : List IOp := [⟨some 6, .op (.mov), [.c (.nilp)], none⟩,
  ⟨some 7, .op (.mov), [.c (.int .i64 0)], none⟩]
abbrev r5_1 : List IOp := [⟨some 13, .op (.mov), [.t 0], none⟩,
  ⟨some 14, .op (.mov), [.t 1], none⟩,
  ⟨some 15, .call none, [.f 11, .t 13, .t 14], none⟩,
  ⟨some 12, .op (.mov), [.t 15], none⟩,
  ⟨some 16, .op (.extract 0), [.t 12], none⟩,
  ⟨some 17, .op (.extract 1), [.t 12], none⟩,
  ⟨some 8, .op (.mov), [.t 16], none⟩,
  ⟨some 9, .op (.mov), [.t 17], none⟩]
abbrev r5_2 : List IOp := [⟨some 18, .op (.mov), [.t 9], none⟩,
  ⟨some 19, .op (.bin .neq .prim), [.t 18, .c (.int .i64 0)], none⟩]
abbrev r5_3 : List IOp := [⟨some 20, .op (.mov), [.t 9], none⟩,
  ⟨some 6, .op (.mov), [.c (.nilp)], none⟩,
  ⟨some 7, .op (.mov), [.t 20], none⟩]
abbrev r5_4 : List IOp := [⟨some 21, .op (.mov), [.t 2], none⟩,
  ⟨some 22, .op (.bin .lss .prim), [.t 21, .c (.int .i64 1)], none⟩,
  ⟨some 23, .op (.mov), [.t 22], none⟩,
  ⟨some 24, .op (.mov), [.t 2], some (23, false)⟩,
  ⟨some 25, .op (.bin .gtr .prim), [.t 24, .c (.int .i64 256)], some (23, false)⟩,
  ⟨some 26, .op (.pick), [.t 23, .c (.bool true), .t 25], none⟩]
abbrev r5_5 : List IOp := [⟨some 6, .op (.mov), [.c (.nilp)], none⟩,
  ⟨some 7, .op (.mov), [.c (.int .i64 2)], none⟩]
abbrev r5_6 : List IOp := [⟨some 28, .op (.mov), [.t 0], none⟩,
  ⟨some 29, .op (.mov), [.t 1], none⟩,
  ⟨some 30, .op (.mov), [.t 2], none⟩,
  ⟨some 31, .call none, [.f 4, .t 28, .t 29, .t 30], none⟩,
  ⟨some 27, .op (.mov), [.t 31], none⟩,
  ⟨some 32, .op (.extract 0), [.t 27], none⟩,
  ⟨some 33, .op (.extract 1), [.t 27], none⟩,
  ⟨some 10, .op (.alloc 26 [.nils, .nils, .nils]), [], none⟩,
  ⟨none, .op (.store 3), [.t 10, .t 32], none⟩,
  ⟨some 11, .op (.mov), [.t 33], none⟩]
abbrev r5_7 : List IOp := [⟨some 34, .op (.mov), [.t 11], none⟩]
abbrev r5_8 : List IOp := [⟨some 35, .op (.load (some 3)), [.t 10], none⟩,
  ⟨some 36, .op (.bst [.nils, .nils, .nils] [(0, 3)] [0]), [.t 35], none⟩,
  ⟨some 37, .op (.mkif 55), [.t 36], none⟩,
  ⟨some 38, .op (.bst [.nili] [(0, 1)] [0]), [.t 37], none⟩,
  ⟨some 39, .op (.box 59), [.t 38], none⟩,
  ⟨some 6, .op (.mov), [.t 39], none⟩,
  ⟨some 7, .op (.mov), [.c (.int .i64 0)], none⟩]
abbrev r5_9 : List IOp := [⟨some 40, .op (.mov), [.t 8], none⟩,
  ⟨some 41, .op (.bst [.nilp] [(0, 1)] [0]), [.t 40], none⟩,
  ⟨some 42, .op (.mkif 61), [.t 41], none⟩,
  ⟨some 43, .op (.bst [.nili] [(0, 1)] [0]), [.t 42], none⟩,
  ⟨some 44, .op (.box 59), [.t 43], none⟩,
  ⟨some 6, .op (.mov), [.t 44], none⟩,
  ⟨some 7, .op (.mov), [.c (.int .i64 0)], none⟩]
abbrev c5 : IC := (IC.seq (IC.reg r5_0) (IC.seq (IC.reg r5_1) (IC.seq (IC.seq (IC.reg r5_2) (IC.cond (.t 19) (IC.seq (IC.reg r5_3) IC.ret) IC.skip)) (IC.seq (IC.seq (IC.reg r5_4) (IC.cond (.t 26) (IC.seq (IC.reg r5_5) IC.ret) IC.skip)) (IC.seq (IC.seq (IC.reg r5_6) (IC.seq (IC.reg r5_7) (IC.cond (.t 34) (IC.seq (IC.reg r5_8) IC.ret) IC.skip))) (IC.seq (IC.reg r5_9) IC.ret))))))
abbrev g5 : FC := ⟨c5, 45, [.t 6, .t 7]⟩
theorem comp5 : compF Go.Proofs.Try.prog (fun _ => 0) 5 = some g5 := by kernel_rfl

-- outlaw/outlawlaw09.lives
abbrev r6_0 : List IOp := [⟨some 0, .op (.mov), [.c (.bool false)], none⟩]
abbrev r6_1 : List IOp := [⟨some 4, .call none, [.f 4, .c (.str [97, 98]), .c (.bool false), .c (.int .i64 10)], none⟩,
  ⟨some 3, .op (.mov), [.t 4], none⟩,
  ⟨some 5, .op (.extract 0), [.t 3], none⟩,
  ⟨some 6, .op (.extract 1), [.t 3], none⟩,
  ⟨some 1, .op (.alloc 26 [.nils, .nils, .nils]), [], none⟩,
  ⟨none, .op (.store 3), [.t 1, .t 5], none⟩,
  ⟨some 2, .op (.mov), [.t 6], none⟩]
abbrev r6_2 : List IOp := [⟨some 7, .op (.mov), [.t 2], none⟩,
  ⟨some 8, .op (.mov), [.t 7], none⟩,
  ⟨some 9, .op (.faddr 1), [.t 1], some (8, true)⟩,
  ⟨some 10, .op (.load none), [.t 9], some (8, true)⟩,
  ⟨some 11, .op (.len .slice), [.t 10], some (8, true)⟩,
  ⟨some 12, .op (.bin .eql .prim), [.t 11, .c (.int .i64 4)], some (8, true)⟩,
  ⟨some 13, .op (.pick), [.t 8, .t 12, .c (.bool false)], none⟩,
  ⟨some 14, .op (.mov), [.t 13], none⟩,
  ⟨some 15, .op (.load (some 3)), [.t 1], some (14, true)⟩,
  ⟨some 16, .call none, [.f 19, .t 15, .c (.str [97, 98])], some (14, true)⟩,
  ⟨some 17, .op (.pick), [.t 14, .t 16, .c (.bool false)], none⟩,
  ⟨some 18, .op (.mov), [.t 17], none⟩,
  ⟨some 19, .op (.load (some 3)), [.t 1], some (18, true)⟩,
  ⟨some 20, .call none, [.f 19, .t 19, .c (.str [97])], some (18, true)⟩,
  ⟨some 21, .op (.un .not), [.t 20], some (18, true)⟩,
  ⟨some 22, .op (.pick), [.t 18, .t 21, .c (.bool false)], none⟩,
  ⟨some 0, .op (.mov), [.t 22], none⟩]
abbrev c6 : IC := (IC.seq (IC.reg r6_0) (IC.seq (IC.reg r6_1) (IC.seq (IC.reg r6_2) IC.ret)))
abbrev g6 : FC := ⟨c6, 23, [.t 0]⟩
theorem comp6 : compF Go.Proofs.Try.prog (fun _ => 0) 6 = some g6 := by kernel_rfl

-- outlaw/dfa.Check
abbrev r7_0 : List IOp := [⟨some 1, .op (.box 26), [.t 0], none⟩,
  ⟨some 2, .op (.mov), [.c (.int .i64 0)], none⟩]
abbrev r7_1 : List IOp := [⟨some 6, .op (.faddr 0), [.t 1], none⟩,
  ⟨some 7, .op (.load none), [.t 6], none⟩,
  ⟨some 8, .op (.len .slice), [.t 7], none⟩,
  ⟨some 9, .op (.bin .neq .prim), [.t 8, .c (.int .i64 256)], none⟩,
  ⟨some 10, .op (.mov), [.t 9], none⟩,
  ⟨some 11, .op (.faddr 1), [.t 1], some (10, false)⟩,
  ⟨some 12, .op (.load none), [.t 11], some (10, false)⟩,
  ⟨some 13, .op (.len .slice), [.t 12], some (10, false)⟩,
  ⟨some 14, .op (.bin .lss .prim), [.t 13, .c (.int .i64 1)], some (10, false)⟩,
  ⟨some 15, .op (.pick), [.t 10, .c (.bool true), .t 14], none⟩,
  ⟨some 16, .op (.mov), [.t 15], none⟩,
  ⟨some 17, .op (.faddr 1), [.t 1], some (16, false)⟩,
  ⟨some 18, .op (.load none), [.t 17], some (16, false)⟩,
  ⟨some 19, .op (.len .slice), [.t 18], some (16, false)⟩,
  ⟨some 20, .op (.bin .gtr .prim), [.t 19, .c (.int .i64 256)], some (16, false)⟩,
  ⟨some 21, .op (.pick), [.t 16, .c (.bool true), .t 20], none⟩,
  ⟨some 22, .op (.mov), [.t 21], none⟩,
  ⟨some 23, .op (.faddr 2), [.t 1], some (22, false)⟩,
  ⟨some 24, .op (.load none), [.t 23], some (22, false)⟩,
  ⟨some 25, .op (.len .slice), [.t 24], some (22, false)⟩,
  ⟨some 26, .op (.faddr 1), [.t 1], some (22, false)⟩,
  ⟨some 27, .op (.load none), [.t 26], some (22, false)⟩,
  ⟨some 28, .op (.len .slice), [.t 27], some (22, false)⟩,
  ⟨some 29, .op (.bin .neq .prim), [.t 25, .t 28], some (22, false)⟩,
  ⟨some 30, .op (.pick), [.t 22, .c (.bool true), .t 29], none⟩,
  ⟨some 31, .op (.mov), [.t 30], none⟩,
  ⟨some 32, .op (.faddr 1), [.t 1], some (31, false)⟩,
  ⟨some 33, .op (.load none), [.t 32], some (31, false)⟩,
  ⟨some 34, .op (.iaddr 1), [.t 33, .c (.int .i64 0)], some (31, false)⟩,
  ⟨some 35, .op (.load none), [.t 34], some (31, false)⟩,
  ⟨some 36, .op (.len .slice), [.t 35], some (31, false)⟩,
  ⟨some 37, .op (.bin .lss .prim), [.t 36, .c (.int .i64 1)], some (31, false)⟩,
  ⟨some 38, .op (.pick), [.t 31, .c (.bool true), .t 37], none⟩]
abbrev r7_2 : List IOp := [⟨some 2, .op (.mov), [.c (.int .i64 2)], none⟩]
abbrev r7_3 : List IOp := [⟨some 39, .op (.faddr 1), [.t 1], none⟩,
  ⟨some 40, .op (.load none), [.t 39], none⟩,
  ⟨some 41, .op (.iaddr 1), [.t 40, .c (.int .i64 0)], none⟩,
  ⟨some 42, .op (.load none), [.t 41], none⟩,
  ⟨some 43, .op (.len .slice), [.t 42], none⟩,
  ⟨some 3, .op (.alloc 3 [.int .i64 0]), [], none⟩,
  ⟨none, .op (.store 1), [.t 3, .t 43], none⟩]
abbrev r7_4 : List IOp := [⟨some 44, .op (.faddr 0), [.t 1], none⟩,
  ⟨some 45, .op (.load none), [.t 44], none⟩,
  ⟨some 46, .op (.mkfn 21), [.t 3], none⟩,
  ⟨some 47, .call none, [.f 20, .t 45, .t 46], none⟩]
abbrev r7_5 : List IOp := [⟨some 2, .op (.mov), [.c (.int .i64 2)], none⟩]
abbrev r7_6 : List IOp := [⟨some 48, .op (.faddr 1), [.t 1], none⟩,
  ⟨some 49, .op (.load none), [.t 48], none⟩,
  ⟨some 50, .op (.len .slice), [.t 49], none⟩,
  ⟨some 51, .op (.mov), [.c (.int .i64 0)], none⟩]
abbrev r7_7 : List IOp := [⟨some 52, .op (.bin .lss .prim), [.t 51, .t 50], none⟩]
abbrev r7_8 : List IOp := [⟨some 53, .op (.iaddr 1), [.t 49, .t 51], none⟩,
  ⟨some 54, .op (.load none), [.t 53], none⟩,
  ⟨some 5, .op (.mov), [.t 54], none⟩]
abbrev r7_9 : List IOp := [⟨some 55, .op (.mov), [.t 5], none⟩,
  ⟨some 56, .op (.len .slice), [.t 55], none⟩,
  ⟨some 57, .op (.load none), [.t 3], none⟩,
  ⟨some 58, .op (.bin .neq .prim), [.t 56, .t 57], none⟩,
  ⟨some 59, .op (.mov), [.t 58], none⟩,
  ⟨some 60, .op (.mov), [.t 5], some (59, false)⟩,
  ⟨some 61, .op (.mkfn 22), [.t 1], some (59, false)⟩,
  ⟨some 62, .call none, [.f 20, .t 60, .t 61], some (59, false)⟩,
  ⟨some 63, .op (.pick), [.t 59, .c (.bool true), .t 62], none⟩]
abbrev r7_10 : List IOp := [⟨some 2, .op (.mov), [.c (.int .i64 2)], none⟩]
abbrev r7_11 : List IOp := [⟨some 64, .op (.bin .add .prim), [.t 51, .c (.int .i64 1)], none⟩,
  ⟨some 51, .op (.mov), [.t 64], none⟩]
abbrev b7_0 : IC := (IC.seq (IC.reg r7_7) (IC.seq (IC.cond (.t 52) IC.skip (IC.exit 0)) (IC.seq (IC.block 1 (IC.seq (IC.reg r7_8) (IC.seq (IC.reg r7_9) (IC.cond (.t 63) (IC.seq (IC.reg r7_10) IC.ret) IC.skip)))) (IC.reg r7_11))))
abbrev r7_12 : List IOp := [⟨some 2, .op (.mov), [.c (.int .i64 0)], none⟩]
abbrev c7 : IC := (IC.seq (IC.reg r7_0) (IC.seq (IC.seq (IC.reg r7_1) (IC.cond (.t 38) (IC.seq (IC.reg r7_2) IC.ret) IC.skip)) (IC.seq (IC.reg r7_3) (IC.seq (IC.seq (IC.reg r7_4) (IC.cond (.t 47) (IC.seq (IC.reg r7_5) IC.ret) IC.skip)) (IC.seq (IC.seq (IC.reg r7_6) (IC.block 0 (IC.loop b7_0))) (IC.seq (IC.reg r7_12) IC.ret))))))
abbrev g7 : FC := ⟨c7, 65, [.t 2]⟩
theorem comp7 : compF Go.Proofs.Try.prog (fun _ => 0) 7 = some g7 := by kernel_rfl

-- (*outlaw/dfa.Auto).Full
abbrev r8_0 : List IOp := [⟨some 2, .op (.mov), [.c (.bool false)], none⟩]
abbrev r8_1 : List IOp := [⟨some 3, .op (.mov), [.t 0], none⟩,
  ⟨some 4, .op (.bin .neq .ptr), [.t 3, .c (.nilp)], none⟩,
  ⟨some 5, .op (.mov), [.t 4], none⟩,
  ⟨some 6, .op (.mov), [.t 0], some (5, true)⟩,
  ⟨some 7, .op (.nilchk), [.t 6], some (5, true)⟩,
  ⟨some 8, .op (.faddr 0), [.t 7], some (5, true)⟩,
  ⟨some 9, .op (.load none), [.t 8], some (5, true)⟩,
  ⟨some 10, .op (.bin .neq (.iface true)), [.t 9, .c (.nili)], some (5, true)⟩,
  ⟨some 11, .op (.pick), [.t 5, .t 10, .c (.bool false)], none⟩,
  ⟨some 12, .op (.mov), [.t 11], none⟩,
  ⟨some 13, .op (.mov), [.t 0], some (12, true)⟩,
  ⟨some 14, .op (.nilchk), [.t 13], some (12, true)⟩,
  ⟨some 15, .op (.faddr 0), [.t 14], some (12, true)⟩,
  ⟨some 16, .op (.load none), [.t 15], some (12, true)⟩,
  ⟨some 17, .call (some [(55, 96), (61, 98)]), [.t 16], some (12, true)⟩,
  ⟨some 18, .op (.bin .eql .prim), [.t 17, .c (.int .i64 0)], some (12, true)⟩,
  ⟨some 19, .op (.pick), [.t 12, .t 18, .c (.bool false)], none⟩,
  ⟨some 2, .op (.mov), [.t 19], none⟩]
abbrev c8 : IC := (IC.seq (IC.reg r8_0) (IC.seq (IC.reg r8_1) IC.ret))
abbrev g8 : FC := ⟨c8, 20, [.t 2]⟩
theorem comp8 : compF Go.Proofs.Try.prog (fun _ => 0) 8 = some g8 := by kernel_rfl

-- (*outlaw/dfa.Auto).States
abbrev r9_0 : List IOp := [⟨some 2, .op (.mov), [.c (.int .i64 0)], none⟩]
abbrev r9_1 : List IOp := [⟨some 3, .op (.mov), [.t 0], none⟩,
  ⟨some 4, .op (.bin .eql .ptr), [.t 3, .c (.nilp)], none⟩,
  ⟨some 5, .op (.mov), [.t 4], none⟩,
  ⟨some 6, .op (.mov), [.t 0], some (5, false)⟩,
  ⟨some 7, .op (.nilchk), [.t 6], some (5, false)⟩,
  ⟨some 8, .op (.faddr 0), [.t 7], some (5, false)⟩,
  ⟨some 9, .op (.load none), [.t 8], some (5, false)⟩,
  ⟨some 10, .op (.bin .eql (.iface true)), [.t 9, .c (.nili)], some (5, false)⟩,
  ⟨some 11, .op (.pick), [.t 5, .c (.bool true), .t 10], none⟩]
abbrev r9_2 : List IOp := [⟨some 2, .op (.mov), [.c (.int .i64 0)], none⟩]
abbrev r9_3 : List IOp := [⟨some 12, .op (.mov), [.t 0], none⟩,
  ⟨some 13, .op (.nilchk), [.t 12], none⟩,
  ⟨some 14, .op (.faddr 0), [.t 13], none⟩,
  ⟨some 15, .op (.load none), [.t 14], none⟩,
  ⟨some 16, .call (some [(55, 96), (61, 98)]), [.t 15], none⟩,
  ⟨some 2, .op (.mov), [.t 16], none⟩]
abbrev c9 : IC := (IC.seq (IC.reg r9_0) (IC.seq (IC.seq (IC.reg r9_1) (IC.cond (.t 11) (IC.seq (IC.reg r9_2) IC.ret) IC.skip)) (IC.seq (IC.reg r9_3) IC.ret)))
abbrev g9 : FC := ⟨c9, 17, [.t 2]⟩
theorem comp9 : compF Go.Proofs.Try.prog (fun _ => 0) 9 = some g9 := by kernel_rfl

-- (*outlaw/dfa.Auto).Match
abbrev r10_0 : List IOp := [⟨some 4, .op (.mov), [.c (.bool false)], none⟩]
abbrev r10_1 : List IOp := [⟨some 5, .op (.mov), [.t 0], none⟩,
  ⟨some 6, .op (.bin .neq .ptr), [.t 5, .c (.nilp)], none⟩,
  ⟨some 7, .op (.mov), [.t 6], none⟩,
  ⟨some 8, .op (.mov), [.t 0], some (7, true)⟩,
  ⟨some 9, .op (.nilchk), [.t 8], some (7, true)⟩,
  ⟨some 10, .op (.faddr 0), [.t 9], some (7, true)⟩,
  ⟨some 11, .op (.load none), [.t 10], some (7, true)⟩,
  ⟨some 12, .op (.bin .neq (.iface true)), [.t 11, .c (.nili)], some (7, true)⟩,
  ⟨some 13, .op (.pick), [.t 7, .t 12, .c (.bool false)], none⟩,
  ⟨some 14, .op (.mov), [.t 13], none⟩,
  ⟨some 15, .op (.mov), [.t 0], some (14, true)⟩,
  ⟨some 16, .op (.nilchk), [.t 15], some (14, true)⟩,
  ⟨some 17, .op (.faddr 0), [.t 16], some (14, true)⟩,
  ⟨some 18, .op (.load none), [.t 17], some (14, true)⟩,
  ⟨some 19, .op (.mov), [.t 1], some (14, true)⟩,
  ⟨some 20, .call (some [(55, 95), (61, 97)]), [.t 18, .t 19], some (14, true)⟩,
  ⟨some 21, .op (.pick), [.t 14, .t 20, .c (.bool false)], none⟩,
  ⟨some 4, .op (.mov), [.t 21], none⟩]
abbrev c10 : IC := (IC.seq (IC.reg r10_0) (IC.seq (IC.reg r10_1) IC.ret))
abbrev g10 : FC := ⟨c10, 22, [.t 4]⟩
theorem comp10 : compF Go.Proofs.Try.prog (fun _ => 0) 10 = some g10 := by kernel_rfl

-- outlaw/nfa.New
abbrev r11_0 : List IOp := [⟨some 4, .op (.mov), [.c (.nilp)], none⟩,
  ⟨some 5, .op (.mov), [.c (.int .i64 0)], none⟩]
abbrev r11_1 : List IOp := [⟨some 7, .op (.mov), [.t 0], none⟩,
  ⟨some 8, .call none, [.f 23, .t 7], none⟩,
  ⟨some 6, .op (.mov), [.t 8], none⟩]
abbrev r11_2 : List IOp := [⟨some 9, .op (.mov), [.t 6], none⟩,
  ⟨some 10, .op (.bin .neq .prim), [.t 9, .c (.int .i64 0)], none⟩]
abbrev r11_3 : List IOp := [⟨some 11, .op (.mov), [.t 6], none⟩,
  ⟨some 4, .op (.mov), [.c (.nilp)], none⟩,
  ⟨some 5, .op (.mov), [.t 11], none⟩]
abbrev r11_4 : List IOp := [⟨some 12, .op (.mov), [.t 0], none⟩,
  ⟨some 13, .call none, [.f 24, .t 12], none⟩,
  ⟨some 14, .op (.mov), [.t 1], none⟩,
  ⟨some 15, .op (.bst [.str [], .bool false] [(0, 1), (1, 1)] [0, 1]), [.t 13, .t 14], none⟩,
  ⟨some 16, .op (.box 68), [.t 15], none⟩,
  ⟨some 4, .op (.mov), [.t 16], none⟩,
  ⟨some 5, .op (.mov), [.c (.int .i64 0)], none⟩]
abbrev c11 : IC := (IC.seq (IC.reg r11_0) (IC.seq (IC.seq (IC.reg r11_1) (IC.seq (IC.reg r11_2) (IC.cond (.t 10) (IC.seq (IC.reg r11_3) IC.ret) IC.skip))) (IC.seq (IC.reg r11_4) IC.ret)))
abbrev g11 : FC := ⟨c11, 17, [.t 4, .t 5]⟩
theorem comp11 : compF Go.Proofs.Try.prog (fun _ => 0) 11 = some g11 := by kernel_rfl

-- (*outlaw/nfa.Nfa).Pattern
abbrev r12_0 : List IOp := [⟨some 2, .op (.mov), [.c (.str [])], none⟩,
  ⟨some 3, .op (.mov), [.c (.bool false)], none⟩]
abbrev r12_1 : List IOp := [⟨some 4, .op (.mov), [.t 0], none⟩,
  ⟨some 5, .op (.bin .eql .ptr), [.t 4, .c (.nilp)], none⟩]
abbrev r12_2 : List IOp := [⟨some 2, .op (.mov), [.c (.str [])], none⟩,
  ⟨some 3, .op (.mov), [.c (.bool false)], none⟩]
abbrev r12_3 : List IOp := [⟨some 6, .op (.mov), [.t 0], none⟩,
  ⟨some 7, .op (.nilchk), [.t 6], none⟩,
  ⟨some 8, .op (.faddr 0), [.t 7], none⟩,
  ⟨some 9, .op (.load none), [.t 8], none⟩,
  ⟨some 10, .op (.mov), [.t 0], none⟩,
  ⟨some 11, .op (.nilchk), [.t 10], none⟩,
  ⟨some 12, .op (.faddr 1), [.t 11], none⟩,
  ⟨some 13, .op (.load none), [.t 12], none⟩,
  ⟨some 2, .op (.mov), [.t 9], none⟩,
  ⟨some 3, .op (.mov), [.t 13], none⟩]
abbrev c12 : IC := (IC.seq (IC.reg r12_0) (IC.seq (IC.seq (IC.reg r12_1) (IC.cond (.t 5) (IC.seq (IC.reg r12_2) IC.ret) IC.skip)) (IC.seq (IC.regD .wild r12_3 (.take 0 (.take 1 (.take 2 (.take 3 (.take 4 (.take 5 (.take 6 (.take 7 (.take 8 (.take 9 (.done)))))))))))) IC.ret)))
abbrev g12 : FC := ⟨c12, 14, [.t 2, .t 3]⟩
theorem comp12 : compF Go.Proofs.Try.prog (hintL [(3, 6)]) 12 = some g12 := by kernel_rfl

-- outlaw/dfa.classes
abbrev r13_0 : List IOp := [⟨some 4, .op (.alloc 42 [.int .i64 0, .int .i64 0, .int .i64 0, .int .i64 0, .int .i64 0, .int .i64 0, .int .i64 0, .int .i64 0, .int .i64 0, .int .i64 0, .int .i64 0, .int .i64 0, .int .i64 0, .int .i64 0, .int .i64 0, .int .i64 0, .int .i64 0, .int .i64 0, .int .i64 0, .int .i64 0, .int .i64 0, .int .i64 0, .int .i64 0, .int .i64 0, .int .i64 0, .int .i64 0, .int .i64 0, .int .i64 0, .int .i64 0, .int .i64 0, .int .i64 0, .int .i64 0, .int .i64 0, .int .i64 0, .int .i64 0, .int .i64 0, .int .i64 0, .int .i64 0, .int .i64 0, .int .i64 0, .int .i64 0, .int .i64 0, .int .i64 0, .int .i64 0, .int .i64 0, .int .i64 0, .int .i64 0, .int .i64 0, .int .i64 0, .int .i64 0, .int .i64 0, .int .i64 0, .int .i64 0, .int .i64 0, .int .i64 0, .int .i64 0, .int .i64 0, .int .i64 0, .int .i64 0, .int .i64 0, .int .i64 0, .int .i64 0, .int .i64 0, .int .i64 0, .int .i64 0, .int .i64 0, .int .i64 0, .int .i64 0, .int .i64 0, .int .i64 0, .int .i64 0, .int .i64 0, .int .i64 0, .int .i64 0, .int .i64 0, .int .i64 0, .int .i64 0, .int .i64 0, .int .i64 0, .int .i64 0, .int .i64 0, .int .i64 0, .int .i64 0, .int .i64 0, .int .i64 0, .int .i64 0, .int .i64 0, .int .i64 0, .int .i64 0, .int .i64 0, .int .i64 0, .int .i64 0, .int .i64 0, .int .i64 0, .int .i64 0, .int .i64 0, .int .i64 0, .int .i64 0, .int .i64 0, .int .i64 0, .int .i64 0, .int .i64 0, .int .i64 0, .int .i64 0, .int .i64 0, .int .i64 0, .int .i64 0, .int .i64 0, .int .i64 0, .int .i64 0, .int .i64 0, .int .i64 0, .int .i64 0, .int .i64 0, .int .i64 0, .int .i64 0, .int .i64 0, .int .i64 0, .int .i64 0, .int .i64 0, .int .i64 0, .int .i64 0, .int .i64 0, .int .i64 0, .int .i64 0, .int .i64 0, .int .i64 0, .int .i64 0, .int .i64 0, .int .i64 0, .int .i64 0, .int .i64 0, .int .i64 0, .int .i64 0, .int .i64 0, .int .i64 0, .int .i64 0, .int .i64 0, .int .i64 0, .int .i64 0, .int .i64 0, .int .i64 0, .int .i64 0, .int .i64 0, .int .i64 0, .int .i64 0, .int .i64 0, .int .i64 0, .int .i64 0, .int .i64 0, .int .i64 0, .int .i64 0, .int .i64 0, .int .i64 0, .int .i64 0, .int .i64 0, .int .i64 0, .int .i64 0, .int .i64 0, .int .i64 0, .int .i64 0, .int .i64 0, .int .i64 0, .int .i64 0, .int .i64 0, .int .i64 0, .int .i64 0, .int .i64 0, .int .i64 0, .int .i64 0, .int .i64 0, .int .i64 0, .int .i64 0, .int .i64 0, .int .i64 0, .int .i64 0, .int .i64 0, .int .i64 0, .int .i64 0, .int .i64 0, .int .i64 0, .int .i64 0, .int .i64 0, .int .i64 0, .int .i64 0, .int .i64 0, .int .i64 0, .int .i64 0, .int .i64 0, .int .i64 0, .int .i64 0, .int .i64 0, .int .i64 0, .int .i64 0, .int .i64 0, .int .i64 0, .int .i64 0, .int .i64 0, .int .i64 0, .int .i64 0, .int .i64 0, .int .i64 0, .int .i64 0, .int .i64 0, .int .i64 0, .int .i64 0, .int .i64 0, .int .i64 0, .int .i64 0, .int .i64 0, .int .i64 0, .int .i64 0, .int .i64 0, .int .i64 0, .int .i64 0, .int .i64 0, .int .i64 0, .int .i64 0, .int .i64 0, .int .i64 0, .int .i64 0, .int .i64 0, .int .i64 0, .int .i64 0, .int .i64 0, .int .i64 0, .int .i64 0, .int .i64 0, .int .i64 0, .int .i64 0, .int .i64 0, .int .i64 0, .int .i64 0, .int .i64 0, .int .i64 0, .int .i64 0, .int .i64 0, .int .i64 0, .int .i64 0, .int .i64 0, .int .i64 0, .int .i64 0, .int .i64 0, .int .i64 0, .int .i64 0, .int .i64 0, .int .i64 0, .int .i64 0, .int .i64 0, .int .i64 0, .int .i64 0, .int .i64 0, .int .i64 0, .int .i64 0, .int .i64 0, .int .i64 0]), [], none⟩,
  ⟨some 5, .op (.mov), [.c (.nils)], none⟩]
abbrev r13_1 : List IOp := [⟨some 6, .op (.mov), [.f 25], none⟩]
abbrev r13_2 : List IOp := [⟨some 16, .op (.mov), [.t 1], none⟩]
abbrev r13_3 : List IOp := [⟨some 6, .op (.mov), [.f 26], none⟩]
abbrev r13_4 : List IOp := [⟨some 7, .op (.mov), [.c (.nils)], none⟩]
abbrev r13_5 : List IOp := [⟨some 17, .op (.mov), [.t 0], none⟩,
  ⟨some 18, .op (.len .str), [.t 17], none⟩,
  ⟨some 19, .op (.mov), [.c (.int .i64 0)], none⟩]
abbrev r13_6 : List IOp := [⟨some 20, .op (.bin .lss .prim), [.t 19, .t 18], none⟩]
abbrev r13_7 : List IOp := [⟨some 21, .op (.mov), [.t 19], none⟩,
  ⟨some 8, .op (.mov), [.t 21], none⟩]
abbrev r13_8 : List IOp := [⟨some 22, .op (.mov), [.t 0], none⟩,
  ⟨some 23, .op (.mov), [.t 8], none⟩,
  ⟨some 24, .op (.idxs), [.t 22, .t 23], none⟩,
  ⟨some 25, .op (.bin .neq .prim), [.t 24, .c (.int .u8 42)], none⟩,
  ⟨some 26, .op (.mov), [.t 25], none⟩,
  ⟨some 27, .op (.mov), [.t 0], some (26, true)⟩,
  ⟨some 28, .op (.mov), [.t 8], some (26, true)⟩,
  ⟨some 29, .op (.idxs), [.t 27, .t 28], some (26, true)⟩,
  ⟨some 30, .op (.bin .neq .prim), [.t 29, .c (.int .u8 63)], some (26, true)⟩,
  ⟨some 31, .op (.pick), [.t 26, .t 30, .c (.bool false)], none⟩]
abbrev r13_9 : List IOp := [⟨some 32, .op (.mov), [.t 7], none⟩,
  ⟨some 33, .op (.mov), [.t 6], none⟩,
  ⟨some 34, .op (.mov), [.t 0], none⟩,
  ⟨some 35, .op (.mov), [.t 8], none⟩,
  ⟨some 36, .op (.idxs), [.t 34, .t 35], none⟩,
  ⟨some 37, .call none, [.t 33, .t 36], none⟩,
  ⟨some 38, .op (.bsl 5 1 false), [.t 37], none⟩,
  ⟨some 39, .op (.app 5 1 1), [.t 32, .t 38], none⟩,
  ⟨some 7, .op (.mov), [.t 39], none⟩]
abbrev r13_10 : List IOp := [⟨some 40, .op (.bin .add .prim), [.t 19, .c (.int .i64 1)], none⟩,
  ⟨some 19, .op (.mov), [.t 40], none⟩]
abbrev b13_0 : IC := (IC.seq (IC.reg r13_6) (IC.seq (IC.cond (.t 20) IC.skip (IC.exit 0)) (IC.seq (IC.block 1 (IC.seq (IC.reg r13_7) (IC.seq (IC.reg r13_8) (IC.cond (.t 31) (IC.reg r13_9) IC.skip)))) (IC.reg r13_10))))
abbrev r13_11 : List IOp := [⟨some 41, .op (.mov), [.t 7], none⟩,
  ⟨some 42, .call none, [.f 28, .t 41], none⟩]
abbrev r13_12 : List IOp := [⟨some 43, .op (.mov), [.t 7], none⟩,
  ⟨some 44, .call none, [.f 29, .t 43], none⟩,
  ⟨some 7, .op (.mov), [.t 44], none⟩]
abbrev r13_13 : List IOp := [⟨some 9, .op (.alloc 42 [.int .i64 0, .int .i64 0, .int .i64 0, .int .i64 0, .int .i64 0, .int .i64 0, .int .i64 0, .int .i64 0, .int .i64 0, .int .i64 0, .int .i64 0, .int .i64 0, .int .i64 0, .int .i64 0, .int .i64 0, .int .i64 0, .int .i64 0, .int .i64 0, .int .i64 0, .int .i64 0, .int .i64 0, .int .i64 0, .int .i64 0, .int .i64 0, .int .i64 0, .int .i64 0, .int .i64 0, .int .i64 0, .int .i64 0, .int .i64 0, .int .i64 0, .int .i64 0, .int .i64 0, .int .i64 0, .int .i64 0, .int .i64 0, .int .i64 0, .int .i64 0, .int .i64 0, .int .i64 0, .int .i64 0, .int .i64 0, .int .i64 0, .int .i64 0, .int .i64 0, .int .i64 0, .int .i64 0, .int .i64 0, .int .i64 0, .int .i64 0, .int .i64 0, .int .i64 0, .int .i64 0, .int .i64 0, .int .i64 0, .int .i64 0, .int .i64 0, .int .i64 0, .int .i64 0, .int .i64 0, .int .i64 0, .int .i64 0, .int .i64 0, .int .i64 0, .int .i64 0, .int .i64 0, .int .i64 0, .int .i64 0, .int .i64 0, .int .i64 0, .int .i64 0, .int .i64 0, .int .i64 0, .int .i64 0, .int .i64 0, .int .i64 0, .int .i64 0, .int .i64 0, .int .i64 0, .int .i64 0, .int .i64 0, .int .i64 0, .int .i64 0, .int .i64 0, .int .i64 0, .int .i64 0, .int .i64 0, .int .i64 0, .int .i64 0, .int .i64 0, .int .i64 0, .int .i64 0, .int .i64 0, .int .i64 0, .int .i64 0, .int .i64 0, .int .i64 0, .int .i64 0, .int .i64 0, .int .i64 0, .int .i64 0, .int .i64 0, .int .i64 0, .int .i64 0, .int .i64 0, .int .i64 0, .int .i64 0, .int .i64 0, .int .i64 0, .int .i64 0, .int .i64 0, .int .i64 0, .int .i64 0, .int .i64 0, .int .i64 0, .int .i64 0, .int .i64 0, .int .i64 0, .int .i64 0, .int .i64 0, .int .i64 0, .int .i64 0, .int .i64 0, .int .i64 0, .int .i64 0, .int .i64 0, .int .i64 0, .int .i64 0, .int .i64 0, .int .i64 0, .int .i64 0, .int .i64 0, .int .i64 0, .int .i64 0, .int .i64 0, .int .i64 0, .int .i64 0, .int .i64 0, .int .i64 0, .int .i64 0, .int .i64 0, .int .i64 0, .int .i64 0, .int .i64 0, .int .i64 0, .int .i64 0, .int .i64 0, .int .i64 0, .int .i64 0, .int .i64 0, .int .i64 0, .int .i64 0, .int .i64 0, .int .i64 0, .int .i64 0, .int .i64 0, .int .i64 0, .int .i64 0, .int .i64 0, .int .i64 0, .int .i64 0, .int .i64 0, .int .i64 0, .int .i64 0, .int .i64 0, .int .i64 0, .int .i64 0, .int .i64 0, .int .i64 0, .int .i64 0, .int .i64 0, .int .i64 0, .int .i64 0, .int .i64 0, .int .i64 0, .int .i64 0, .int .i64 0, .int .i64 0, .int .i64 0, .int .i64 0, .int .i64 0, .int .i64 0, .int .i64 0, .int .i64 0, .int .i64 0, .int .i64 0, .int .i64 0, .int .i64 0, .int .i64 0, .int .i64 0, .int .i64 0, .int .i64 0, .int .i64 0, .int .i64 0, .int .i64 0, .int .i64 0, .int .i64 0, .int .i64 0, .int .i64 0, .int .i64 0, .int .i64 0, .int .i64 0, .int .i64 0, .int .i64 0, .int .i64 0, .int .i64 0, .int .i64 0, .int .i64 0, .int .i64 0, .int .i64 0, .int .i64 0, .int .i64 0, .int .i64 0, .int .i64 0, .int .i64 0, .int .i64 0, .int .i64 0, .int .i64 0, .int .i64 0, .int .i64 0, .int .i64 0, .int .i64 0, .int .i64 0, .int .i64 0, .int .i64 0, .int .i64 0, .int .i64 0, .int .i64 0, .int .i64 0, .int .i64 0, .int .i64 0, .int .i64 0, .int .i64 0, .int .i64 0, .int .i64 0, .int .i64 0, .int .i64 0, .int .i64 0, .int .i64 0, .int .i64 0, .int .i64 0, .int .i64 0, .int .i64 0, .int .i64 0, .int .i64 0, .int .i64 0, .int .i64 0, .int .i64 0, .int .i64 0, .int .i64 0, .int .i64 0, .int .i64 0, .int .i64 0, .int .i64 0, .int .i64 0, .int .i64 0]), [], none⟩]
abbrev r13_14 : List IOp := [⟨some 45, .op (.bsl 3 1 false), [.c (.int .i64 (-1))], none⟩,
  ⟨some 10, .op (.mov), [.t 45], none⟩]
abbrev r13_15 : List IOp := [⟨some 46, .op (.mov), [.t 7], none⟩,
  ⟨some 47, .op (.len .slice), [.t 46], none⟩,
  ⟨some 48, .op (.mov), [.c (.int .i64 0)], none⟩]
abbrev r13_16 : List IOp := [⟨some 49, .op (.bin .lss .prim), [.t 48, .t 47], none⟩]
abbrev r13_17 : List IOp := [⟨some 50, .op (.iaddr 1), [.t 46, .t 48], none⟩,
  ⟨some 51, .op (.load none), [.t 50], none⟩,
  ⟨some 12, .op (.mov), [.t 51], none⟩]
abbrev r13_18 : List IOp := [⟨some 52, .op (.mov), [.t 10], none⟩,
  ⟨some 53, .op (.mov), [.t 12], none⟩,
  ⟨some 54, .op (.toInt .i64), [.t 53], none⟩,
  ⟨some 55, .op (.bsl 3 1 false), [.t 54], none⟩,
  ⟨some 56, .op (.app 3 1 8), [.t 52, .t 55], none⟩,
  ⟨some 10, .op (.mov), [.t 56], none⟩]
abbrev r13_19 : List IOp := [⟨some 57, .op (.bin .add .prim), [.t 48, .c (.int .i64 1)], none⟩,
  ⟨some 48, .op (.mov), [.t 57], none⟩]
abbrev b13_1 : IC := (IC.seq (IC.reg r13_16) (IC.seq (IC.cond (.t 49) IC.skip (IC.exit 2)) (IC.seq (IC.block 3 (IC.seq (IC.reg r13_17) (IC.reg r13_18))) (IC.reg r13_19))))
abbrev r13_20 : List IOp := [⟨some 58, .op (.mov), [.c (.int .i64 0)], none⟩]
abbrev r13_21 : List IOp := [⟨some 59, .op (.bin .lss .prim), [.t 58, .c (.int .i64 256)], none⟩]
abbrev r13_22 : List IOp := [⟨some 60, .op (.mov), [.t 58], none⟩,
  ⟨some 13, .op (.mov), [.t 60], none⟩]
abbrev r13_23 : List IOp := [⟨some 62, .op (.mov), [.t 7], none⟩,
  ⟨some 63, .op (.mov), [.t 6], none⟩,
  ⟨some 64, .op (.mov), [.t 13], none⟩,
  ⟨some 65, .op (.toInt .u8), [.t 64], none⟩,
  ⟨some 66, .call none, [.t 63, .t 65], none⟩,
  ⟨some 67, .call none, [.f 30, .t 62, .t 66], none⟩,
  ⟨some 61, .op (.mov), [.t 67], none⟩,
  ⟨some 68, .op (.extract 0), [.t 61], none⟩,
  ⟨some 69, .op (.extract 1), [.t 61], none⟩,
  ⟨some 14, .op (.mov), [.t 68], none⟩,
  ⟨some 15, .op (.mov), [.t 69], none⟩]
abbrev r13_24 : List IOp := [⟨some 70, .op (.mov), [.t 15], none⟩]
abbrev r13_25 : List IOp := [⟨some 71, .op (.mov), [.t 13], none⟩,
  ⟨some 72, .op (.mov), [.t 14], none⟩,
  ⟨some 73, .op (.bin .add .prim), [.t 72, .c (.int .i64 1)], none⟩,
  ⟨some 74, .op (.aaddr 256 1), [.t 9, .t 71], none⟩,
  ⟨none, .op (.store 1), [.t 74, .t 73], none⟩]
abbrev r13_26 : List IOp := [⟨some 75, .op (.mov), [.t 10], none⟩,
  ⟨some 76, .op (.mov), [.t 13], none⟩,
  ⟨some 77, .op (.iaddr 1), [.t 75, .c (.int .i64 0)], none⟩,
  ⟨none, .op (.store 1), [.t 77, .t 76], none⟩]
abbrev r13_27 : List IOp := [⟨some 78, .op (.bin .add .prim), [.t 58, .c (.int .i64 1)], none⟩,
  ⟨some 58, .op (.mov), [.t 78], none⟩]
abbrev b13_2 : IC := (IC.seq (IC.reg r13_21) (IC.seq (IC.cond (.t 59) IC.skip (IC.exit 4)) (IC.seq (IC.block 5 (IC.seq (IC.reg r13_22) (IC.seq (IC.reg r13_23) (IC.seq (IC.reg r13_24) (IC.cond (.t 70) (IC.reg r13_25) (IC.reg r13_26)))))) (IC.reg r13_27))))
abbrev r13_28 : List IOp := [⟨some 79, .op (.load (some 256)), [.t 9], none⟩,
  ⟨some 80, .op (.mov), [.t 10], none⟩,
  ⟨none, .op (.store 256), [.t 4, .t 79], none⟩,
  ⟨some 5, .op (.mov), [.t 80], none⟩]
abbrev c13 : IC := (IC.seq (IC.reg r13_0) (IC.seq (IC.reg r13_1) (IC.seq (IC.seq (IC.reg r13_2) (IC.cond (.t 16) (IC.reg r13_3) IC.skip)) (IC.seq (IC.reg r13_4) (IC.seq (IC.seq (IC.reg r13_5) (IC.block 0 (IC.loop b13_0))) (IC.seq (IC.reg r13_11) (IC.seq (IC.reg r13_12) (IC.seq (IC.reg r13_13) (IC.seq (IC.reg r13_14) (IC.seq (IC.seq (IC.reg r13_15) (IC.block 2 (IC.loop b13_1))) (IC.seq (IC.seq (IC.reg r13_20) (IC.block 4 (IC.loop b13_2))) (IC.seq (IC.reg r13_28) IC.ret))))))))))))
abbrev g13 : FC := ⟨c13, 81, [.cell 4 (some 256), .t 5]⟩
theorem comp13 : compF Go.Proofs.Try.prog (fun _ => 0) 13 = some g13 := by kernel_rfl

-- outlaw/dfa.Build$1
abbrev r14_0 : List IOp := [⟨some 4, .op (.mov), [.c (.int .i64 0)], none⟩]
abbrev r14_1 : List IOp := [⟨some 8, .op (.load none), [.t 1], none⟩,
  ⟨some 9, .op (.mov), [.t 0], none⟩,
  ⟨some 10, .call none, [.f 15, .t 9], none⟩,
  ⟨some 11, .op (.look .str (.agg [.int .i64 0]) true), [.t 8, .t 10], none⟩,
  ⟨some 7, .op (.mov), [.t 11], none⟩,
  ⟨some 12, .op (.extract 0), [.t 7], none⟩,
  ⟨some 13, .op (.extract 1), [.t 7], none⟩,
  ⟨some 5, .op (.alloc 47 [.int .i64 0]), [], none⟩,
  ⟨none, .op (.store 1), [.t 5, .t 12], none⟩,
  ⟨some 6, .op (.mov), [.t 13], none⟩]
abbrev r14_2 : List IOp := [⟨some 14, .op (.mov), [.t 6], none⟩,
  ⟨some 15, .op (.un .not), [.t 14], none⟩]
abbrev r14_3 : List IOp := [⟨some 16, .op (.load none), [.t 2], none⟩,
  ⟨some 17, .op (.len .slice), [.t 16], none⟩,
  ⟨some 18, .op (.bst [.int .i64 0] [(0, 1)] [0]), [.t 17], none⟩,
  ⟨none, .op (.store 1), [.t 5, .t 18], none⟩]
abbrev r14_4 : List IOp := [⟨some 19, .op (.load none), [.t 1], none⟩,
  ⟨some 20, .op (.mov), [.t 0], none⟩,
  ⟨some 21, .call none, [.f 15, .t 20], none⟩,
  ⟨some 22, .op (.load (some 1)), [.t 5], none⟩,
  ⟨none, .op (.mapup .str), [.t 19, .t 21, .t 22], none⟩]
abbrev r14_5 : List IOp := [⟨some 23, .op (.load none), [.t 2], none⟩,
  ⟨some 24, .op (.mov), [.t 0], none⟩,
  ⟨some 25, .op (.bsl 22 1 false), [.t 24], none⟩,
  ⟨some 26, .op (.app 22 1 24), [.t 23, .t 25], none⟩,
  ⟨none, .op (.store 1), [.t 2, .t 26], none⟩]
abbrev r14_6 : List IOp := [⟨some 27, .op (.faddr 0), [.t 5], none⟩,
  ⟨some 28, .op (.load none), [.t 27], none⟩,
  ⟨some 4, .op (.mov), [.t 28], none⟩]
abbrev c14 : IC := (IC.seq (IC.reg r14_0) (IC.seq (IC.regD .wild r14_1 (.take 1 (.fork [(0, .fork [(2, .take 3 (.take 4 (.take 5 (.take 6 (.take 7 (.take 8 (.take 9 (.done)))))))), (7, .take 2 (.take 3 (.take 4 (.take 5 (.take 6 (.take 8 (.take 9 (.done))))))))]), (2, .take 0 (.take 3 (.take 4 (.take 5 (.take 6 (.take 7 (.take 8 (.take 9 (.done))))))))), (7, .fork [(0, .take 2 (.take 3 (.take 4 (.take 5 (.take 6 (.take 8 (.take 9 (.done)))))))), (2, .take 0 (.take 3 (.take 4 (.take 5 (.take 6 (.take 8 (.take 9 (.done))))))))])]))) (IC.seq (IC.seq (IC.reg r14_2) (IC.cond (.t 15) (IC.seq (IC.reg r14_3) (IC.seq (IC.regD .alloc r14_4 (.take 0 (.take 1 (.take 3 (.take 2 (.take 4 (.done))))))) (IC.reg r14_5))) IC.skip)) (IC.seq (IC.reg r14_6) IC.ret))))
abbrev g14 : FC := ⟨c14, 29, [.t 4]⟩
theorem comp14 : compF Go.Proofs.Try.prog (hintL [(1, 6), (4, 7)]) 14 = some g14 := by kernel_rfl

-- (*outlaw/nfa.Nfa).Start
abbrev r16_0 : List IOp := [⟨some 2, .op (.mov), [.c (.nils)], none⟩]
abbrev r16_1 : List IOp := [⟨some 3, .op (.mov), [.t 0], none⟩,
  ⟨some 4, .call none, [.f 31, .t 3], none⟩,
  ⟨some 5, .call none, [.f 32, .t 4], none⟩,
  ⟨some 2, .op (.mov), [.t 5], none⟩]
abbrev c16 : IC := (IC.seq (IC.reg r16_0) (IC.seq (IC.reg r16_1) IC.ret))
abbrev g16 : FC := ⟨c16, 6, [.t 2]⟩
theorem comp16 : compF Go.Proofs.Try.prog (fun _ => 0) 16 = some g16 := by kernel_rfl

-- (*outlaw/nfa.Nfa).Step
abbrev r17_0 : List IOp := [⟨some 6, .op (.mov), [.c (.nils)], none⟩]
abbrev r17_1 : List IOp := [⟨some 7, .op (.mov), [.t 0], none⟩,
  ⟨some 8, .op (.mov), [.t 0], none⟩,
  ⟨some 9, .op (.mov), [.t 1], none⟩,
  ⟨some 10, .call none, [.f 34, .t 8, .t 9], none⟩,
  ⟨some 11, .op (.mov), [.t 2], none⟩,
  ⟨some 12, .call none, [.f 33, .t 7, .t 10, .t 11], none⟩,
  ⟨some 13, .call none, [.f 32, .t 12], none⟩,
  ⟨some 6, .op (.mov), [.t 13], none⟩]
abbrev c17 : IC := (IC.seq (IC.reg r17_0) (IC.seq (IC.reg r17_1) IC.ret))
abbrev g17 : FC := ⟨c17, 14, [.t 6]⟩
theorem comp17 : compF Go.Proofs.Try.prog (fun _ => 0) 17 = some g17 := by kernel_rfl

-- (*outlaw/nfa.Nfa).Accepts
abbrev r18_0 : List IOp := [⟨some 4, .op (.mov), [.c (.bool false)], none⟩]
abbrev r18_1 : List IOp := [⟨some 6, .op (.mov), [.t 0], none⟩,
  ⟨some 7, .op (.mov), [.t 1], none⟩,
  ⟨some 8, .call none, [.f 34, .t 6, .t 7], none⟩,
  ⟨some 5, .op (.mov), [.t 8], none⟩]
abbrev r18_2 : List IOp := [⟨some 9, .op (.mov), [.t 5], none⟩,
  ⟨some 10, .op (.len .slice), [.t 9], none⟩,
  ⟨some 11, .op (.bin .gtr .prim), [.t 10, .c (.int .i64 0)], none⟩,
  ⟨some 12, .op (.mov), [.t 11], none⟩,
  ⟨some 13, .op (.mov), [.t 5], some (12, true)⟩,
  ⟨some 14, .op (.mov), [.t 5], some (12, true)⟩,
  ⟨some 15, .op (.len .slice), [.t 14], some (12, true)⟩,
  ⟨some 16, .op (.bin .sub .prim), [.t 15, .c (.int .i64 1)], some (12, true)⟩,
  ⟨some 17, .op (.iaddr 1), [.t 13, .t 16], some (12, true)⟩,
  ⟨some 18, .op (.load none), [.t 17], some (12, true)⟩,
  ⟨some 19, .op (.pick), [.t 12, .t 18, .c (.bool false)], none⟩,
  ⟨some 4, .op (.mov), [.t 19], none⟩]
abbrev c18 : IC := (IC.seq (IC.reg r18_0) (IC.seq (IC.reg r18_1) (IC.seq (IC.reg r18_2) IC.ret)))
abbrev g18 : FC := ⟨c18, 20, [.t 4]⟩
theorem comp18 : compF Go.Proofs.Try.prog (fun _ => 0) 18 = some g18 := by kernel_rfl

-- outlaw/dfa.Run
abbrev r19_0 : List IOp := [⟨some 2, .op (.box 26), [.t 0], none⟩,
  ⟨some 4, .op (.mov), [.c (.bool false)], none⟩]
abbrev r19_1 : List IOp := [⟨some 5, .op (.load (some 3)), [.t 2], none⟩,
  ⟨some 6, .call none, [.f 7, .t 5], none⟩,
  ⟨some 7, .op (.bin .eql .prim), [.t 6, .c (.int .i64 0)], none⟩,
  ⟨some 8, .op (.mov), [.t 7], none⟩,
  ⟨some 9, .op (.load (some 3)), [.t 2], some (8, true)⟩,
  ⟨some 10, .op (.mov), [.t 1], some (8, true)⟩,
  ⟨some 11, .call none, [.f 35, .t 9, .t 10], some (8, true)⟩,
  ⟨some 12, .op (.pick), [.t 8, .t 11, .c (.bool false)], none⟩,
  ⟨some 4, .op (.mov), [.t 12], none⟩]
abbrev c19 : IC := (IC.seq (IC.reg r19_0) (IC.seq (IC.reg r19_1) IC.ret))
abbrev g19 : FC := ⟨c19, 13, [.t 4]⟩
theorem comp19 : compF Go.Proofs.Try.prog (fun _ => 0) 19 = some g19 := by kernel_rfl

-- outlaw/dfa.Check$1
abbrev r21_0 : List IOp := [⟨some 3, .op (.mov), [.c (.bool false)], none⟩]
abbrev r21_1 : List IOp := [⟨some 4, .op (.mov), [.t 0], none⟩,
  ⟨some 5, .op (.bin .lss .prim), [.t 4, .c (.int .i64 0)], none⟩,
  ⟨some 6, .op (.mov), [.t 5], none⟩,
  ⟨some 7, .op (.mov), [.t 0], some (6, false)⟩,
  ⟨some 8, .op (.load none), [.t 1], some (6, false)⟩,
  ⟨some 9, .op (.bin .geq .prim), [.t 7, .t 8], some (6, false)⟩,
  ⟨some 10, .op (.pick), [.t 6, .c (.bool true), .t 9], none⟩,
  ⟨some 3, .op (.mov), [.t 10], none⟩]
abbrev c21 : IC := (IC.seq (IC.reg r21_0) (IC.seq (IC.reg r21_1) IC.ret))
abbrev g21 : FC := ⟨c21, 11, [.t 3]⟩
theorem comp21 : compF Go.Proofs.Try.prog (fun _ => 0) 21 = some g21 := by kernel_rfl

-- slices.ContainsFunc[[]int,int]
abbrev r20_0 : List IOp := [⟨some 4, .op (.mov), [.c (.bool false)], none⟩]
abbrev r20_1 : List IOp := [⟨some 5, .op (.mov), [.t 0], none⟩,
  ⟨some 6, .op (.mov), [.t 1], none⟩,
  ⟨some 7, .call none, [.f 36, .t 5, .t 6], none⟩,
  ⟨some 8, .op (.bin .geq .prim), [.t 7, .c (.int .i64 0)], none⟩,
  ⟨some 4, .op (.mov), [.t 8], none⟩]
abbrev c20 : IC := (IC.seq (IC.reg r20_0) (IC.seq (IC.reg r20_1) IC.ret))
abbrev g20 : FC := ⟨c20, 9, [.t 4]⟩
theorem comp20 : compF Go.Proofs.Try.prog (fun _ => 0) 20 = some g20 := by kernel_rfl

-- outlaw/dfa.Check$2
abbrev r22_0 : List IOp := [⟨some 3, .op (.mov), [.c (.bool false)], none⟩]
abbrev r22_1 : List IOp := [⟨some 4, .op (.mov), [.t 0], none⟩,
  ⟨some 5, .op (.bin .lss .prim), [.t 4, .c (.int .i64 0)], none⟩,
  ⟨some 6, .op (.mov), [.t 5], none⟩,
  ⟨some 7, .op (.mov), [.t 0], some (6, false)⟩,
  ⟨some 8, .op (.faddr 1), [.t 1], some (6, false)⟩,
  ⟨some 9, .op (.load none), [.t 8], some (6, false)⟩,
  ⟨some 10, .op (.len .slice), [.t 9], some (6, false)⟩,
  ⟨some 11, .op (.bin .geq .prim), [.t 7, .t 10], some (6, false)⟩,
  ⟨some 12, .op (.pick), [.t 6, .c (.bool true), .t 11], none⟩,
  ⟨some 3, .op (.mov), [.t 12], none⟩]
abbrev c22 : IC := (IC.seq (IC.reg r22_0) (IC.seq (IC.reg r22_1) IC.ret))
abbrev g22 : FC := ⟨c22, 13, [.t 3]⟩
theorem comp22 : compF Go.Proofs.Try.prog (fun _ => 0) 22 = some g22 := by kernel_rfl

-- (outlaw/dfa.table).states
abbrev r96_0 : List IOp := [⟨some 1, .op (.box 55), [.t 0], none⟩,
  ⟨some 2, .op (.mov), [.c (.int .i64 0)], none⟩]
abbrev r96_1 : List IOp := [⟨some 3, .op (.faddr 0), [.t 1], none⟩,
  ⟨some 4, .op (.faddr 1), [.t 3], none⟩,
  ⟨some 5, .op (.load none), [.t 4], none⟩,
  ⟨some 6, .op (.len .slice), [.t 5], none⟩,
  ⟨some 2, .op (.mov), [.t 6], none⟩]
abbrev c96 : IC := (IC.seq (IC.reg r96_0) (IC.seq (IC.reg r96_1) IC.ret))
abbrev g96 : FC := ⟨c96, 7, [.t 2]⟩
theorem comp96 : compF Go.Proofs.Try.prog (fun _ => 0) 96 = some g96 := by kernel_rfl

-- (outlaw/dfa.rows).states
abbrev r98_0 : List IOp := [⟨some 1, .op (.box 61), [.t 0], none⟩,
  ⟨some 2, .op (.mov), [.c (.int .i64 0)], none⟩]
abbrev r98_1 : List IOp := [⟨some 2, .op (.mov), [.c (.int .i64 0)], none⟩]
abbrev c98 : IC := (IC.seq (IC.reg r98_0) (IC.seq (IC.reg r98_1) IC.ret))
abbrev g98 : FC := ⟨c98, 3, [.t 2]⟩
theorem comp98 : compF Go.Proofs.Try.prog (fun _ => 0) 98 = some g98 := by kernel_rfl

-- (outlaw/dfa.table).match
abbrev r95_0 : List IOp := [⟨some 2, .op (.box 55), [.t 0], none⟩,
  ⟨some 4, .op (.mov), [.c (.bool false)], none⟩]
abbrev r95_1 : List IOp := [⟨some 5, .op (.faddr 0), [.t 2], none⟩,
  ⟨some 6, .op (.load (some 3)), [.t 5], none⟩,
  ⟨some 7, .op (.mov), [.t 1], none⟩,
  ⟨some 8, .call none, [.f 35, .t 6, .t 7], none⟩,
  ⟨some 4, .op (.mov), [.t 8], none⟩]
abbrev c95 : IC := (IC.seq (IC.reg r95_0) (IC.seq (IC.reg r95_1) IC.ret))
abbrev g95 : FC := ⟨c95, 9, [.t 4]⟩
theorem comp95 : compF Go.Proofs.Try.prog (fun _ => 0) 95 = some g95 := by kernel_rfl

-- (outlaw/dfa.rows).match
abbrev r97_0 : List IOp := [⟨some 2, .op (.box 61), [.t 0], none⟩,
  ⟨some 4, .op (.mov), [.c (.bool false)], none⟩]
abbrev r97_1 : List IOp := [⟨some 5, .op (.faddr 0), [.t 2], none⟩,
  ⟨some 6, .op (.load none), [.t 5], none⟩,
  ⟨some 7, .op (.mov), [.t 1], none⟩,
  ⟨some 8, .call none, [.f 99, .t 6, .t 7], none⟩,
  ⟨some 4, .op (.mov), [.t 8], none⟩]
abbrev c97 : IC := (IC.seq (IC.reg r97_0) (IC.seq (IC.reg r97_1) IC.ret))
abbrev g97 : FC := ⟨c97, 9, [.t 4]⟩
theorem comp97 : compF Go.Proofs.Try.prog (fun _ => 0) 97 = some g97 := by kernel_rfl

-- outlaw/glob.Check
abbrev r23_0 : List IOp := [⟨some 2, .op (.mov), [.c (.int .i64 0)], none⟩]
abbrev r23_1 : List IOp := [⟨some 4, .op (.mov), [.t 0], none⟩,
  ⟨some 5, .op (.bin .eql .prim), [.t 4, .c (.str [])], none⟩,
  ⟨some 3, .op (.mov), [.t 5], none⟩]
abbrev r23_2 : List IOp := [⟨some 2, .op (.mov), [.c (.int .i64 2)], none⟩]
abbrev r23_3 : List IOp := [⟨some 7, .op (.mov), [.t 0], none⟩,
  ⟨some 8, .op (.len .str), [.t 7], none⟩,
  ⟨some 9, .op (.bin .gtr .prim), [.t 8, .c (.int .i64 255)], none⟩,
  ⟨some 6, .op (.mov), [.t 9], none⟩]
abbrev r23_4 : List IOp := [⟨some 2, .op (.mov), [.c (.int .i64 4)], none⟩]
abbrev r23_5 : List IOp := [⟨some 2, .op (.mov), [.c (.int .i64 0)], none⟩]
abbrev c23 : IC := (IC.seq (IC.reg r23_0) (IC.seq (IC.block 0 (IC.seq (IC.reg r23_1) (IC.cond (.t 3) (IC.seq (IC.reg r23_2) IC.ret) (IC.seq (IC.reg r23_3) (IC.cond (.t 6) (IC.seq (IC.reg r23_4) IC.ret) IC.skip))))) (IC.seq (IC.reg r23_5) IC.ret)))
abbrev g23 : FC := ⟨c23, 10, [.t 2]⟩
theorem comp23 : compF Go.Proofs.Try.prog (fun _ => 0) 23 = some g23 := by kernel_rfl

-- outlaw/glob.Norm
abbrev r24_0 : List IOp := [⟨some 2, .op (.mov), [.c (.str [])], none⟩]
abbrev r24_1 : List IOp := [⟨some 3, .op (.mov), [.c (.nils)], none⟩]
abbrev r24_2 : List IOp := [⟨some 4, .op (.mov), [.c (.int .i64 0)], none⟩]
abbrev r24_3 : List IOp := [⟨some 7, .op (.mov), [.t 4], none⟩,
  ⟨some 8, .op (.mov), [.t 0], none⟩,
  ⟨some 9, .op (.len .str), [.t 8], none⟩,
  ⟨some 10, .op (.bin .lss .prim), [.t 7, .t 9], none⟩]
abbrev r24_4 : List IOp := [⟨some 11, .op (.mov), [.t 4], none⟩,
  ⟨some 5, .op (.mov), [.t 11], none⟩]
abbrev r24_5 : List IOp := [⟨some 12, .op (.mov), [.t 5], none⟩,
  ⟨some 13, .op (.mov), [.t 0], none⟩,
  ⟨some 14, .op (.len .str), [.t 13], none⟩,
  ⟨some 15, .op (.bin .lss .prim), [.t 12, .t 14], none⟩,
  ⟨some 16, .op (.mov), [.t 15], none⟩,
  ⟨some 17, .op (.mov), [.t 0], some (16, true)⟩,
  ⟨some 18, .op (.mov), [.t 5], some (16, true)⟩,
  ⟨some 19, .op (.idxs), [.t 17, .t 18], some (16, true)⟩,
  ⟨some 20, .op (.bin .eql .prim), [.t 19, .c (.int .u8 42)], some (16, true)⟩,
  ⟨some 21, .op (.mov), [.t 20], some (16, true)⟩,
  ⟨some 22, .op (.mov), [.t 0], some (21, false)⟩,
  ⟨some 23, .op (.mov), [.t 5], some (21, false)⟩,
  ⟨some 24, .op (.idxs), [.t 22, .t 23], some (21, false)⟩,
  ⟨some 25, .op (.bin .eql .prim), [.t 24, .c (.int .u8 63)], some (21, false)⟩,
  ⟨some 26, .op (.pick), [.t 21, .c (.bool true), .t 25], some (16, true)⟩,
  ⟨some 27, .op (.pick), [.t 16, .t 26, .c (.bool false)], none⟩]
abbrev r24_6 : List IOp := [⟨some 28, .op (.mov), [.t 5], none⟩,
  ⟨some 29, .op (.bin .add .prim), [.t 28, .c (.int .i64 1)], none⟩,
  ⟨some 5, .op (.mov), [.t 29], none⟩]
abbrev b24_0 : IC := (IC.seq (IC.seq (IC.reg r24_5) (IC.cond (.t 27) IC.skip (IC.exit 2))) (IC.block 3 (IC.reg r24_6)))
abbrev r24_7 : List IOp := [⟨some 30, .op (.mov), [.t 5], none⟩,
  ⟨some 31, .op (.mov), [.t 4], none⟩,
  ⟨some 32, .op (.bin .eql .prim), [.t 30, .t 31], none⟩]
abbrev r24_8 : List IOp := [⟨some 33, .op (.mov), [.t 3], none⟩,
  ⟨some 34, .op (.mov), [.t 0], none⟩,
  ⟨some 35, .op (.mov), [.t 4], none⟩,
  ⟨some 36, .op (.idxs), [.t 34, .t 35], none⟩,
  ⟨some 37, .op (.bsl 5 1 false), [.t 36], none⟩,
  ⟨some 38, .op (.app 5 1 1), [.t 33, .t 37], none⟩,
  ⟨some 3, .op (.mov), [.t 38], none⟩]
abbrev r24_9 : List IOp := [⟨some 39, .op (.mov), [.t 4], none⟩,
  ⟨some 40, .op (.bin .add .prim), [.t 39, .c (.int .i64 1)], none⟩,
  ⟨some 4, .op (.mov), [.t 40], none⟩]
abbrev r24_10 : List IOp := [⟨some 41, .op (.mov), [.t 0], none⟩,
  ⟨some 42, .op (.mov), [.t 4], none⟩,
  ⟨some 43, .op (.mov), [.t 5], none⟩,
  ⟨some 44, .op (.sslice true true false), [.t 41, .t 42, .t 43], none⟩,
  ⟨some 45, .op (.s2b 5), [.t 44], none⟩,
  ⟨some 46, .op (.bsl 5 1 false), [.c (.int .u8 63)], none⟩,
  ⟨some 47, .op (.cvs), [.t 46], none⟩,
  ⟨some 48, .call none, [.f 37, .t 45, .t 47], none⟩,
  ⟨some 6, .op (.mov), [.t 48], none⟩]
abbrev r24_11 : List IOp := [⟨some 49, .op (.mov), [.t 3], none⟩,
  ⟨some 50, .op (.bsl 5 1 false), [.c (.int .u8 63)], none⟩,
  ⟨some 51, .op (.cvs), [.t 50], none⟩,
  ⟨some 52, .op (.mov), [.t 6], none⟩,
  ⟨some 53, .call none, [.f 38, .t 51, .t 52], none⟩,
  ⟨some 54, .op (.app 5 1 1), [.t 49, .t 53], none⟩,
  ⟨some 3, .op (.mov), [.t 54], none⟩]
abbrev r24_12 : List IOp := [⟨some 55, .op (.mov), [.t 6], none⟩,
  ⟨some 56, .op (.mov), [.t 5], none⟩,
  ⟨some 57, .op (.mov), [.t 4], none⟩,
  ⟨some 58, .op (.bin .sub .prim), [.t 56, .t 57], none⟩,
  ⟨some 59, .op (.bin .lss .prim), [.t 55, .t 58], none⟩]
abbrev r24_13 : List IOp := [⟨some 60, .op (.mov), [.t 3], none⟩,
  ⟨some 61, .op (.bsl 5 1 false), [.c (.int .u8 42)], none⟩,
  ⟨some 62, .op (.app 5 1 1), [.t 60, .t 61], none⟩,
  ⟨some 3, .op (.mov), [.t 62], none⟩]
abbrev r24_14 : List IOp := [⟨some 63, .op (.mov), [.t 5], none⟩,
  ⟨some 4, .op (.mov), [.t 63], none⟩]
abbrev b24_1 : IC := (IC.seq (IC.seq (IC.reg r24_3) (IC.cond (.t 10) IC.skip (IC.exit 0))) (IC.block 1 (IC.seq (IC.reg r24_4) (IC.seq (IC.block 2 (IC.loop b24_0)) (IC.seq (IC.seq (IC.reg r24_7) (IC.cond (.t 32) (IC.seq (IC.reg r24_8) (IC.seq (IC.reg r24_9) (IC.exit 1))) IC.skip)) (IC.seq (IC.reg r24_10) (IC.seq (IC.reg r24_11) (IC.seq (IC.seq (IC.reg r24_12) (IC.cond (.t 59) (IC.reg r24_13) IC.skip)) (IC.reg r24_14)))))))))
abbrev r24_15 : List IOp := [⟨some 64, .op (.mov), [.t 3], none⟩,
  ⟨some 65, .op (.b2s), [.t 64], none⟩,
  ⟨some 2, .op (.mov), [.t 65], none⟩]
abbrev c24 : IC := (IC.seq (IC.reg r24_0) (IC.seq (IC.reg r24_1) (IC.seq (IC.seq (IC.reg r24_2) (IC.block 0 (IC.loop b24_1))) (IC.seq (IC.reg r24_15) IC.ret))))
abbrev g24 : FC := ⟨c24, 66, [.t 2]⟩
theorem comp24 : compF Go.Proofs.Try.prog (fun _ => 0) 24 = some g24 := by kernel_rfl

-- outlaw/dfa.classes$1
abbrev r25_0 : List IOp := [⟨some 2, .op (.mov), [.c (.int .u8 0)], none⟩]
abbrev r25_1 : List IOp := [⟨some 3, .op (.mov), [.t 0], none⟩,
  ⟨some 2, .op (.mov), [.t 3], none⟩]
abbrev c25 : IC := (IC.seq (IC.reg r25_0) (IC.seq (IC.reg r25_1) IC.ret))
abbrev g25 : FC := ⟨c25, 4, [.t 2]⟩
theorem comp25 : compF Go.Proofs.Try.prog (fun _ => 0) 25 = some g25 := by kernel_rfl

-- outlaw/dfa.classes$2
abbrev r26_0 : List IOp := [⟨some 2, .op (.mov), [.c (.int .u8 0)], none⟩]
abbrev r26_1 : List IOp := [⟨some 3, .op (.mov), [.t 0], none⟩,
  ⟨some 4, .op (.bsl 5 1 false), [.t 3], none⟩,
  ⟨some 5, .op (.b2s), [.t 4], none⟩,
  ⟨some 6, .call none, [.f 27, .t 5], none⟩,
  ⟨some 7, .op (.idxs), [.t 6, .c (.int .i64 0)], none⟩,
  ⟨some 2, .op (.mov), [.t 7], none⟩]
abbrev c26 : IC := (IC.seq (IC.reg r26_0) (IC.seq (IC.reg r26_1) IC.ret))
abbrev g26 : FC := ⟨c26, 8, [.t 2]⟩
theorem comp26 : compF Go.Proofs.Try.prog (fun _ => 0) 26 = some g26 := by kernel_rfl

-- slices.Sort[[]byte,byte]
abbrev r28_0 : List IOp := [⟨some 3, .op (.mov), [.t 0], none⟩,
  ⟨some 4, .op (.len .slice), [.t 3], none⟩,
  ⟨some 2, .op (.mov), [.t 4], none⟩]
abbrev r28_1 : List IOp := [⟨some 5, .op (.mov), [.t 0], none⟩,
  ⟨some 6, .op (.mov), [.t 2], none⟩,
  ⟨some 7, .op (.mov), [.t 2], none⟩,
  ⟨some 8, .op (.toInt .u64), [.t 7], none⟩,
  ⟨some 9, .call none, [.f 41, .t 8], none⟩,
  ⟨some 10, .call none, [.f 40, .t 5, .c (.int .i64 0), .t 6, .t 9], none⟩]
abbrev c28 : IC := (IC.seq (IC.reg r28_0) (IC.reg r28_1))
abbrev g28 : FC := ⟨c28, 11, []⟩
theorem comp28 : compF Go.Proofs.Try.prog (fun _ => 0) 28 = some g28 := by kernel_rfl

-- slices.Compact[[]byte,byte]
abbrev r29_0 : List IOp := [⟨some 2, .op (.mov), [.c (.nils)], none⟩]
abbrev r29_1 : List IOp := [⟨some 6, .op (.mov), [.t 0], none⟩,
  ⟨some 7, .op (.len .slice), [.t 6], none⟩,
  ⟨some 8, .op (.bin .lss .prim), [.t 7, .c (.int .i64 2)], none⟩]
abbrev r29_2 : List IOp := [⟨some 9, .op (.mov), [.t 0], none⟩,
  ⟨some 2, .op (.mov), [.t 9], none⟩]
abbrev r29_3 : List IOp := [⟨some 3, .op (.mov), [.c (.int .i64 1)], none⟩]
abbrev r29_4 : List IOp := [⟨some 10, .op (.mov), [.t 3], none⟩,
  ⟨some 11, .op (.mov), [.t 0], none⟩,
  ⟨some 12, .op (.len .slice), [.t 11], none⟩,
  ⟨some 13, .op (.bin .lss .prim), [.t 10, .t 12], none⟩]
abbrev r29_5 : List IOp := [⟨some 16, .op (.mov), [.t 0], none⟩,
  ⟨some 17, .op (.mov), [.t 3], none⟩,
  ⟨some 18, .op (.iaddr 1), [.t 16, .t 17], none⟩,
  ⟨some 19, .op (.load none), [.t 18], none⟩,
  ⟨some 20, .op (.mov), [.t 0], none⟩,
  ⟨some 21, .op (.mov), [.t 3], none⟩,
  ⟨some 22, .op (.bin .sub .prim), [.t 21, .c (.int .i64 1)], none⟩,
  ⟨some 23, .op (.iaddr 1), [.t 20, .t 22], none⟩,
  ⟨some 24, .op (.load none), [.t 23], none⟩,
  ⟨some 25, .op (.bin .eql .prim), [.t 19, .t 24], none⟩]
abbrev r29_6 : List IOp := [⟨some 26, .op (.mov), [.t 0], none⟩,
  ⟨some 27, .op (.mov), [.t 3], none⟩,
  ⟨some 28, .op (.slice 1 true false false), [.t 26, .t 27], none⟩,
  ⟨some 4, .op (.mov), [.t 28], none⟩]
abbrev r29_7 : List IOp := [⟨some 5, .op (.mov), [.c (.int .i64 1)], none⟩]
abbrev r29_8 : List IOp := [⟨some 29, .op (.mov), [.t 5], none⟩,
  ⟨some 30, .op (.mov), [.t 4], none⟩,
  ⟨some 31, .op (.len .slice), [.t 30], none⟩,
  ⟨some 32, .op (.bin .lss .prim), [.t 29, .t 31], none⟩]
abbrev r29_9 : List IOp := [⟨some 35, .op (.mov), [.t 4], none⟩,
  ⟨some 36, .op (.mov), [.t 5], none⟩,
  ⟨some 37, .op (.iaddr 1), [.t 35, .t 36], none⟩,
  ⟨some 38, .op (.load none), [.t 37], none⟩,
  ⟨some 39, .op (.mov), [.t 4], none⟩,
  ⟨some 40, .op (.mov), [.t 5], none⟩,
  ⟨some 41, .op (.bin .sub .prim), [.t 40, .c (.int .i64 1)], none⟩,
  ⟨some 42, .op (.iaddr 1), [.t 39, .t 41], none⟩,
  ⟨some 43, .op (.load none), [.t 42], none⟩,
  ⟨some 44, .op (.bin .neq .prim), [.t 38, .t 43], none⟩]
abbrev r29_10 : List IOp := [⟨some 45, .op (.mov), [.t 0], none⟩,
  ⟨some 46, .op (.mov), [.t 3], none⟩,
  ⟨some 47, .op (.mov), [.t 4], none⟩,
  ⟨some 48, .op (.mov), [.t 5], none⟩,
  ⟨some 49, .op (.iaddr 1), [.t 47, .t 48], none⟩,
  ⟨some 50, .op (.load none), [.t 49], none⟩,
  ⟨some 51, .op (.iaddr 1), [.t 45, .t 46], none⟩,
  ⟨none, .op (.store 1), [.t 51, .t 50], none⟩]
abbrev r29_11 : List IOp := [⟨some 52, .op (.mov), [.t 3], none⟩,
  ⟨some 53, .op (.bin .add .prim), [.t 52, .c (.int .i64 1)], none⟩,
  ⟨some 3, .op (.mov), [.t 53], none⟩]
abbrev r29_12 : List IOp := [⟨some 33, .op (.mov), [.t 5], none⟩,
  ⟨some 34, .op (.bin .add .prim), [.t 33, .c (.int .i64 1)], none⟩,
  ⟨some 5, .op (.mov), [.t 34], none⟩]
abbrev b29_0 : IC := (IC.seq (IC.seq (IC.reg r29_8) (IC.cond (.t 32) IC.skip (IC.exit 2))) (IC.seq (IC.block 3 (IC.seq (IC.regD .wild r29_9 (.take 0 (.take 1 (.take 2 (.take 3 (.take 4 (.take 5 (.take 6 (.take 7 (.take 8 (.take 9 (.done)))))))))))) (IC.cond (.t 44) (IC.seq (IC.reg r29_10) (IC.reg r29_11)) IC.skip))) (IC.reg r29_12)))
abbrev r29_13 : List IOp := [⟨some 54, .op (.mov), [.t 0], none⟩,
  ⟨some 55, .op (.mov), [.t 3], none⟩,
  ⟨some 56, .op (.slice 1 true false false), [.t 54, .t 55], none⟩,
  ⟨none, .op (.clear [.int .u8 0]), [.t 56], none⟩]
abbrev r29_14 : List IOp := [⟨some 57, .op (.mov), [.t 0], none⟩,
  ⟨some 58, .op (.mov), [.t 3], none⟩,
  ⟨some 59, .op (.slice 1 false true false), [.t 57, .t 58], none⟩,
  ⟨some 2, .op (.mov), [.t 59], none⟩]
abbrev r29_15 : List IOp := [⟨some 14, .op (.mov), [.t 3], none⟩,
  ⟨some 15, .op (.bin .add .prim), [.t 14, .c (.int .i64 1)], none⟩,
  ⟨some 3, .op (.mov), [.t 15], none⟩]
abbrev b29_1 : IC := (IC.seq (IC.seq (IC.reg r29_4) (IC.cond (.t 13) IC.skip (IC.exit 0))) (IC.seq (IC.block 1 (IC.seq (IC.regD .wild r29_5 (.take 0 (.take 1 (.take 2 (.take 3 (.take 4 (.take 5 (.take 6 (.take 7 (.take 8 (.take 9 (.done)))))))))))) (IC.cond (.t 25) (IC.seq (IC.reg r29_6) (IC.seq (IC.seq (IC.reg r29_7) (IC.block 2 (IC.loop b29_0))) (IC.seq (IC.reg r29_13) (IC.seq (IC.reg r29_14) IC.ret)))) IC.skip))) (IC.reg r29_15)))
abbrev r29_16 : List IOp := [⟨some 60, .op (.mov), [.t 0], none⟩,
  ⟨some 2, .op (.mov), [.t 60], none⟩]
abbrev c29 : IC := (IC.seq (IC.reg r29_0) (IC.seq (IC.seq (IC.reg r29_1) (IC.cond (.t 8) (IC.seq (IC.reg r29_2) IC.ret) IC.skip)) (IC.seq (IC.seq (IC.reg r29_3) (IC.block 0 (IC.loop b29_1))) (IC.seq (IC.reg r29_16) IC.ret))))
abbrev g29 : FC := ⟨c29, 61, [.t 2]⟩
theorem comp29 : compF Go.Proofs.Try.prog (hintL [(6, 6), (11, 6)]) 29 = some g29 := by kernel_rfl

-- slices.BinarySearch[[]byte,byte]
abbrev r30_0 : List IOp := [⟨some 4, .op (.mov), [.c (.int .i64 0)], none⟩,
  ⟨some 5, .op (.mov), [.c (.bool false)], none⟩]
abbrev r30_1 : List IOp := [⟨some 10, .op (.mov), [.t 0], none⟩,
  ⟨some 11, .op (.len .slice), [.t 10], none⟩,
  ⟨some 6, .op (.mov), [.t 11], none⟩]
abbrev r30_2 : List IOp := [⟨some 12, .op (.mov), [.t 6], none⟩,
  ⟨some 7, .op (.mov), [.c (.int .i64 0)], none⟩,
  ⟨some 8, .op (.mov), [.t 12], none⟩]
abbrev r30_3 : List IOp := [⟨some 13, .op (.mov), [.t 7], none⟩,
  ⟨some 14, .op (.mov), [.t 8], none⟩,
  ⟨some 15, .op (.bin .lss .prim), [.t 13, .t 14], none⟩]
abbrev r30_4 : List IOp := [⟨some 16, .op (.mov), [.t 7], none⟩,
  ⟨some 17, .op (.mov), [.t 8], none⟩,
  ⟨some 18, .op (.bin .add .prim), [.t 16, .t 17], none⟩,
  ⟨some 19, .op (.toInt .u64), [.t 18], none⟩,
  ⟨some 20, .op (.bin .shr .prim), [.t 19, .c (.int .u64 1)], none⟩,
  ⟨some 21, .op (.toInt .i64), [.t 20], none⟩,
  ⟨some 9, .op (.mov), [.t 21], none⟩]
abbrev r30_5 : List IOp := [⟨some 22, .op (.mov), [.t 0], none⟩,
  ⟨some 23, .op (.mov), [.t 9], none⟩,
  ⟨some 24, .op (.iaddr 1), [.t 22, .t 23], none⟩,
  ⟨some 25, .op (.load none), [.t 24], none⟩,
  ⟨some 26, .op (.mov), [.t 1], none⟩,
  ⟨some 27, .call none, [.f 42, .t 25, .t 26], none⟩]
abbrev r30_6 : List IOp := [⟨some 28, .op (.mov), [.t 9], none⟩,
  ⟨some 29, .op (.bin .add .prim), [.t 28, .c (.int .i64 1)], none⟩,
  ⟨some 7, .op (.mov), [.t 29], none⟩]
abbrev r30_7 : List IOp := [⟨some 30, .op (.mov), [.t 9], none⟩,
  ⟨some 8, .op (.mov), [.t 30], none⟩]
abbrev b30_0 : IC := (IC.seq (IC.seq (IC.reg r30_3) (IC.cond (.t 15) IC.skip (IC.exit 0))) (IC.block 1 (IC.seq (IC.reg r30_4) (IC.seq (IC.reg r30_5) (IC.cond (.t 27) (IC.reg r30_6) (IC.reg r30_7))))))
abbrev r30_8 : List IOp := [⟨some 31, .op (.mov), [.t 7], none⟩,
  ⟨some 32, .op (.mov), [.t 7], none⟩,
  ⟨some 33, .op (.mov), [.t 6], none⟩,
  ⟨some 34, .op (.bin .lss .prim), [.t 32, .t 33], none⟩,
  ⟨some 35, .op (.mov), [.t 34], none⟩,
  ⟨some 36, .op (.mov), [.t 0], some (35, true)⟩,
  ⟨some 37, .op (.mov), [.t 7], some (35, true)⟩,
  ⟨some 38, .op (.iaddr 1), [.t 36, .t 37], some (35, true)⟩,
  ⟨some 39, .op (.load none), [.t 38], some (35, true)⟩,
  ⟨some 40, .op (.mov), [.t 1], some (35, true)⟩,
  ⟨some 41, .op (.bin .eql .prim), [.t 39, .t 40], some (35, true)⟩,
  ⟨some 42, .op (.mov), [.t 41], some (35, true)⟩,
  ⟨some 43, .op (.mov), [.t 0], some (42, false)⟩,
  ⟨some 44, .op (.mov), [.t 7], some (42, false)⟩,
  ⟨some 45, .op (.iaddr 1), [.t 43, .t 44], some (42, false)⟩,
  ⟨some 46, .op (.load none), [.t 45], some (42, false)⟩,
  ⟨some 47, .call none, [.f 43, .t 46], some (42, false)⟩,
  ⟨some 48, .op (.mov), [.t 47], some (42, false)⟩,
  ⟨some 49, .op (.mov), [.t 1], some (48, true)⟩,
  ⟨some 50, .call none, [.f 43, .t 49], some (48, true)⟩,
  ⟨some 51, .op (.pick), [.t 48, .t 50, .c (.bool false)], some (42, false)⟩,
  ⟨some 52, .op (.pick), [.t 42, .c (.bool true), .t 51], some (35, true)⟩,
  ⟨some 53, .op (.pick), [.t 35, .t 52, .c (.bool false)], none⟩,
  ⟨some 4, .op (.mov), [.t 31], none⟩,
  ⟨some 5, .op (.mov), [.t 53], none⟩]
abbrev c30 : IC := (IC.seq (IC.reg r30_0) (IC.seq (IC.reg r30_1) (IC.seq (IC.reg r30_2) (IC.seq (IC.block 0 (IC.loop b30_0)) (IC.seq (IC.reg r30_8) IC.ret)))))
abbrev g30 : FC := ⟨c30, 54, [.t 4, .t 5]⟩
theorem comp30 : compF Go.Proofs.Try.prog (fun _ => 0) 30 = some g30 := by kernel_rfl

-- outlaw/dfa.key
abbrev r15_0 : List IOp := [⟨some 2, .op (.mov), [.c (.str [])], none⟩]
abbrev r15_1 : List IOp := [⟨some 3, .op (.mov), [.c (.nils)], none⟩]
abbrev r15_2 : List IOp := [⟨some 6, .op (.mov), [.t 0], none⟩,
  ⟨some 7, .op (.len .slice), [.t 6], none⟩,
  ⟨some 8, .op (.mov), [.c (.int .i64 0)], none⟩]
abbrev r15_3 : List IOp := [⟨some 9, .op (.bin .lss .prim), [.t 8, .t 7], none⟩]
abbrev r15_4 : List IOp := [⟨some 10, .op (.iaddr 1), [.t 6, .t 8], none⟩,
  ⟨some 11, .op (.load none), [.t 10], none⟩,
  ⟨some 5, .op (.mov), [.t 11], none⟩]
abbrev r15_5 : List IOp := [⟨some 12, .op (.mov), [.t 3], none⟩,
  ⟨some 13, .op (.mov), [.t 5], none⟩,
  ⟨some 14, .op (.toInt .u8), [.t 13], none⟩,
  ⟨some 15, .op (.bsl 5 1 false), [.t 14], none⟩,
  ⟨some 16, .op (.app 5 1 1), [.t 12, .t 15], none⟩,
  ⟨some 3, .op (.mov), [.t 16], none⟩]
abbrev r15_6 : List IOp := [⟨some 17, .op (.bin .add .prim), [.t 8, .c (.int .i64 1)], none⟩,
  ⟨some 8, .op (.mov), [.t 17], none⟩]
abbrev b15_0 : IC := (IC.seq (IC.reg r15_3) (IC.seq (IC.cond (.t 9) IC.skip (IC.exit 0)) (IC.seq (IC.block 1 (IC.seq (IC.reg r15_4) (IC.reg r15_5))) (IC.reg r15_6))))
abbrev r15_7 : List IOp := [⟨some 18, .op (.mov), [.t 3], none⟩,
  ⟨some 19, .op (.b2s), [.t 18], none⟩,
  ⟨some 2, .op (.mov), [.t 19], none⟩]
abbrev c15 : IC := (IC.seq (IC.reg r15_0) (IC.seq (IC.reg r15_1) (IC.seq (IC.seq (IC.reg r15_2) (IC.block 0 (IC.loop b15_0))) (IC.seq (IC.reg r15_7) IC.ret))))
abbrev g15 : FC := ⟨c15, 20, [.t 2]⟩
theorem comp15 : compF Go.Proofs.Try.prog (fun _ => 0) 15 = some g15 := by kernel_rfl

-- (*outlaw/nfa.Nfa).start
abbrev r31_0 : List IOp := [⟨some 2, .op (.mov), [.c (.nils)], none⟩]
abbrev r31_1 : List IOp := [⟨some 4, .op (.mov), [.t 0], none⟩,
  ⟨some 5, .call none, [.f 44, .t 4], none⟩,
  ⟨some 6, .op (.make 4 [.bool false] 1), [.t 5, .t 5], none⟩,
  ⟨some 3, .op (.mov), [.t 6], none⟩]
abbrev r31_2 : List IOp := [⟨some 7, .op (.mov), [.t 3], none⟩,
  ⟨some 8, .op (.len .slice), [.t 7], none⟩,
  ⟨some 9, .op (.bin .gtr .prim), [.t 8, .c (.int .i64 0)], none⟩]
abbrev r31_3 : List IOp := [⟨some 10, .op (.mov), [.t 0], none⟩,
  ⟨some 11, .op (.mov), [.t 3], none⟩,
  ⟨some 12, .call none, [.f 45, .t 10, .t 11, .c (.int .i64 0)], none⟩]
abbrev r31_4 : List IOp := [⟨some 13, .op (.mov), [.t 3], none⟩,
  ⟨some 2, .op (.mov), [.t 13], none⟩]
abbrev c31 : IC := (IC.seq (IC.reg r31_0) (IC.seq (IC.reg r31_1) (IC.seq (IC.seq (IC.reg r31_2) (IC.cond (.t 9) (IC.reg r31_3) IC.skip)) (IC.seq (IC.reg r31_4) IC.ret))))
abbrev g31 : FC := ⟨c31, 14, [.t 2]⟩
theorem comp31 : compF Go.Proofs.Try.prog (fun _ => 0) 31 = some g31 := by kernel_rfl

-- (outlaw/nfa.row).list
abbrev r32_0 : List IOp := [⟨some 2, .op (.mov), [.c (.nils)], none⟩]
abbrev r32_1 : List IOp := [⟨some 3, .op (.alloc 22 [.nils]), [], none⟩]
abbrev r32_2 : List IOp := [⟨some 5, .op (.mov), [.t 0], none⟩,
  ⟨some 6, .call none, [.f 46, .t 5], none⟩]
abbrev r32_3 : List IOp := [⟨some 12, .op (.load none), [.t 3], none⟩,
  ⟨some 2, .op (.mov), [.t 12], none⟩]
abbrev r32_4 : List IOp := [⟨some 4, .op (.mov), [.t 7], none⟩]
abbrev r32_5 : List IOp := [⟨some 8, .op (.load none), [.t 3], none⟩,
  ⟨some 9, .op (.mov), [.t 4], none⟩,
  ⟨some 10, .op (.bsl 3 1 false), [.t 9], none⟩,
  ⟨some 11, .op (.app 3 1 8), [.t 8, .t 10], none⟩,
  ⟨none, .op (.store 1), [.t 3, .t 11], none⟩]
abbrev c32 : IC := (IC.seq (IC.reg r32_0) (IC.seq (IC.reg r32_1) (IC.seq (IC.seq (IC.reg r32_2) (IC.block 0 (IC.rangeF 32000 13 (.t 6)))) (IC.seq (IC.reg r32_3) IC.ret))))
abbrev g32 : FC := ⟨c32, 13, [.t 2]⟩
theorem comp32 : compF Go.Proofs.Try.prog (hintL [(1000003, 32000), (2000003, 13)]) 32 = some g32 := by kernel_rfl
abbrev li32000 : LI := ⟨13, [7], (IC.reg r32_4), (IC.block 1 (IC.reg r32_5))⟩
theorem keys32 : KeysF Go.Proofs.Try.prog (hintL [(1000003, 32000), (2000003, 13)]) 32 := keysF_of (by kernel_rfl)
theorem lok32000 : LOk Go.Proofs.Try.prog 32000 li32000 := ⟨hintL [(1000003, 32000), (2000003, 13)], by kernel_rfl, by kernel_rfl, by kernel_rfl, by kernel_rfl, by decide⟩

-- (*outlaw/nfa.Nfa).of
abbrev r34_0 : List IOp := [⟨some 4, .op (.mov), [.c (.nils)], none⟩]
abbrev r34_1 : List IOp := [⟨some 8, .op (.mov), [.t 0], none⟩,
  ⟨some 9, .call none, [.f 44, .t 8], none⟩,
  ⟨some 10, .op (.make 4 [.bool false] 1), [.t 9, .t 9], none⟩,
  ⟨some 5, .op (.mov), [.t 10], none⟩]
abbrev r34_2 : List IOp := [⟨some 11, .op (.mov), [.t 1], none⟩,
  ⟨some 12, .op (.len .slice), [.t 11], none⟩,
  ⟨some 13, .op (.mov), [.c (.int .i64 0)], none⟩]
abbrev r34_3 : List IOp := [⟨some 14, .op (.bin .lss .prim), [.t 13, .t 12], none⟩]
abbrev r34_4 : List IOp := [⟨some 15, .op (.iaddr 1), [.t 11, .t 13], none⟩,
  ⟨some 16, .op (.load none), [.t 15], none⟩,
  ⟨some 7, .op (.mov), [.t 16], none⟩]
abbrev r34_5 : List IOp := [⟨some 17, .op (.mov), [.t 7], none⟩,
  ⟨some 18, .op (.bin .geq .prim), [.t 17, .c (.int .i64 0)], none⟩,
  ⟨some 19, .op (.mov), [.t 18], none⟩,
  ⟨some 20, .op (.mov), [.t 7], some (19, true)⟩,
  ⟨some 21, .op (.mov), [.t 5], some (19, true)⟩,
  ⟨some 22, .op (.len .slice), [.t 21], some (19, true)⟩,
  ⟨some 23, .op (.bin .lss .prim), [.t 20, .t 22], some (19, true)⟩,
  ⟨some 24, .op (.pick), [.t 19, .t 23, .c (.bool false)], none⟩]
abbrev r34_6 : List IOp := [⟨some 25, .op (.mov), [.t 5], none⟩,
  ⟨some 26, .op (.mov), [.t 7], none⟩,
  ⟨some 27, .op (.iaddr 1), [.t 25, .t 26], none⟩,
  ⟨none, .op (.store 1), [.t 27, .c (.bool true)], none⟩]
abbrev r34_7 : List IOp := [⟨some 28, .op (.bin .add .prim), [.t 13, .c (.int .i64 1)], none⟩,
  ⟨some 13, .op (.mov), [.t 28], none⟩]
abbrev b34_0 : IC := (IC.seq (IC.reg r34_3) (IC.seq (IC.cond (.t 14) IC.skip (IC.exit 0)) (IC.seq (IC.block 1 (IC.seq (IC.reg r34_4) (IC.seq (IC.reg r34_5) (IC.cond (.t 24) (IC.reg r34_6) IC.skip)))) (IC.reg r34_7))))
abbrev r34_8 : List IOp := [⟨some 29, .op (.mov), [.t 5], none⟩,
  ⟨some 4, .op (.mov), [.t 29], none⟩]
abbrev c34 : IC := (IC.seq (IC.reg r34_0) (IC.seq (IC.reg r34_1) (IC.seq (IC.seq (IC.reg r34_2) (IC.block 0 (IC.loop b34_0))) (IC.seq (IC.reg r34_8) IC.ret))))
abbrev g34 : FC := ⟨c34, 30, [.t 4]⟩
theorem comp34 : compF Go.Proofs.Try.prog (fun _ => 0) 34 = some g34 := by kernel_rfl

-- (*outlaw/nfa.Nfa).step
abbrev r33_0 : List IOp := [⟨some 3, .op (.box 37), [.t 0], none⟩,
  ⟨some 5, .op (.box 5), [.t 2], none⟩,
  ⟨some 6, .op (.mov), [.c (.nils)], none⟩]
abbrev r33_1 : List IOp := [⟨some 10, .op (.mov), [.t 1], none⟩,
  ⟨some 11, .op (.len .slice), [.t 10], none⟩,
  ⟨some 12, .op (.make 4 [.bool false] 1), [.t 11, .t 11], none⟩,
  ⟨some 7, .op (.alloc 75 [.nils]), [], none⟩,
  ⟨none, .op (.store 1), [.t 7, .t 12], none⟩]
abbrev r33_2 : List IOp := [⟨some 13, .op (.mov), [.t 1], none⟩,
  ⟨some 14, .call none, [.f 46, .t 13], none⟩]
abbrev r33_3 : List IOp := [⟨some 62, .op (.load none), [.t 7], none⟩,
  ⟨some 6, .op (.mov), [.t 62], none⟩]
abbrev r33_4 : List IOp := [⟨some 8, .op (.mov), [.t 15], none⟩]
abbrev r33_5 : List IOp := [⟨some 16, .op (.mov), [.t 8], none⟩,
  ⟨some 17, .op (.load none), [.t 3], none⟩,
  ⟨some 18, .op (.nilchk), [.t 17], none⟩,
  ⟨some 19, .op (.faddr 0), [.t 18], none⟩,
  ⟨some 20, .op (.load none), [.t 19], none⟩,
  ⟨some 21, .op (.len .str), [.t 20], none⟩,
  ⟨some 22, .op (.bin .eql .prim), [.t 16, .t 21], none⟩]
abbrev r33_6 : List IOp := [⟨some 23, .op (.load none), [.t 3], none⟩,
  ⟨some 24, .op (.nilchk), [.t 23], none⟩,
  ⟨some 25, .op (.faddr 0), [.t 24], none⟩,
  ⟨some 26, .op (.load none), [.t 25], none⟩,
  ⟨some 27, .op (.mov), [.t 8], none⟩,
  ⟨some 28, .op (.idxs), [.t 26, .t 27], none⟩,
  ⟨some 9, .op (.mov), [.t 28], none⟩]
abbrev r33_7 : List IOp := [⟨some 30, .op (.mov), [.t 9], none⟩,
  ⟨some 31, .op (.bin .eql .prim), [.t 30, .c (.int .u8 42)], none⟩,
  ⟨some 29, .op (.mov), [.t 31], none⟩]
abbrev r33_8 : List IOp := [⟨some 32, .op (.load none), [.t 3], none⟩,
  ⟨some 33, .op (.load none), [.t 7], none⟩,
  ⟨some 34, .op (.mov), [.t 8], none⟩,
  ⟨some 35, .call none, [.f 45, .t 32, .t 33, .t 34], none⟩]
abbrev r33_9 : List IOp := [⟨some 37, .op (.mov), [.t 9], none⟩,
  ⟨some 38, .op (.bin .eql .prim), [.t 37, .c (.int .u8 63)], none⟩,
  ⟨some 36, .op (.mov), [.t 38], none⟩]
abbrev r33_10 : List IOp := [⟨some 39, .op (.mov), [.t 9], none⟩,
  ⟨some 40, .op (.load none), [.t 5], none⟩,
  ⟨some 41, .op (.bin .eql .prim), [.t 39, .t 40], none⟩,
  ⟨some 36, .op (.mov), [.t 41], none⟩]
abbrev r33_11 : List IOp := [⟨some 42, .op (.load none), [.t 3], none⟩,
  ⟨some 43, .op (.nilchk), [.t 42], none⟩,
  ⟨some 44, .op (.faddr 1), [.t 43], none⟩,
  ⟨some 45, .op (.load none), [.t 44], none⟩,
  ⟨some 46, .op (.mov), [.t 45], none⟩,
  ⟨some 47, .op (.mov), [.t 9], some (46, true)⟩,
  ⟨some 48, .op (.bsl 5 1 true), [.t 47], some (46, true)⟩,
  ⟨some 49, .op (.b2s), [.t 48], some (46, true)⟩,
  ⟨some 50, .call none, [.f 27, .t 49], some (46, true)⟩,
  ⟨some 51, .op (.load none), [.t 5], some (46, true)⟩,
  ⟨some 52, .op (.bsl 5 1 true), [.t 51], some (46, true)⟩,
  ⟨some 53, .op (.b2s), [.t 52], some (46, true)⟩,
  ⟨some 54, .call none, [.f 27, .t 53], some (46, true)⟩,
  ⟨some 55, .op (.bin .eql .prim), [.t 50, .t 54], some (46, true)⟩,
  ⟨some 56, .op (.pick), [.t 46, .t 55, .c (.bool false)], none⟩,
  ⟨some 36, .op (.mov), [.t 56], none⟩]
abbrev r33_12 : List IOp := [⟨some 57, .op (.load none), [.t 3], none⟩,
  ⟨some 58, .op (.load none), [.t 7], none⟩,
  ⟨some 59, .op (.mov), [.t 8], none⟩,
  ⟨some 60, .op (.bin .add .prim), [.t 59, .c (.int .i64 1)], none⟩,
  ⟨some 61, .call none, [.f 45, .t 57, .t 58, .t 60], none⟩]
abbrev c33 : IC := (IC.seq (IC.reg r33_0) (IC.seq (IC.reg r33_1) (IC.seq (IC.seq (IC.reg r33_2) (IC.block 0 (IC.rangeF 33000 63 (.t 14)))) (IC.seq (IC.reg r33_3) IC.ret))))
abbrev g33 : FC := ⟨c33, 63, [.t 6]⟩
theorem comp33 : compF Go.Proofs.Try.prog (hintL [(10, 3), (1000003, 33000), (2000003, 63)]) 33 = some g33 := by kernel_rfl
abbrev li33000 : LI := ⟨63, [15], (IC.reg r33_4), (IC.block 1 (IC.seq (IC.seq (IC.reg r33_5) (IC.cond (.t 22) (IC.exit 0) IC.skip)) (IC.seq (IC.reg r33_6) (IC.block 2 (IC.seq (IC.reg r33_7) (IC.cond (.t 29) (IC.reg r33_8) (IC.seq (IC.seq (IC.reg r33_9) (IC.cond (.t 36) IC.skip (IC.seq (IC.reg r33_10) (IC.cond (.t 36) IC.skip (IC.regD .alloc r33_11 (.take 0 (.take 1 (.take 2 (.take 3 (.take 4 (.take 5 (.take 6 (.take 7 (.take 9 (.take 10 (.take 11 (.take 8 (.take 12 (.take 13 (.take 14 (.take 15 (.done)))))))))))))))))))))) (IC.cond (.t 36) (IC.reg r33_12) IC.skip))))))))⟩
theorem keys33 : KeysF Go.Proofs.Try.prog (hintL [(10, 3), (1000003, 33000), (2000003, 63)]) 33 := keysF_of (by kernel_rfl)
theorem lok33000 : LOk Go.Proofs.Try.prog 33000 li33000 := ⟨hintL [(10, 3), (1000003, 33000), (2000003, 63)], by kernel_rfl, by kernel_rfl, by kernel_rfl, by kernel_rfl, by decide⟩

-- outlaw/dfa.through
abbrev r35_0 : List IOp := [⟨some 2, .op (.box 26), [.t 0], none⟩,
  ⟨some 4, .op (.mov), [.c (.bool false)], none⟩]
abbrev r35_1 : List IOp := [⟨some 5, .op (.mov), [.c (.int .i64 0)], none⟩]
abbrev r35_2 : List IOp := [⟨some 7, .op (.mov), [.t 1], none⟩,
  ⟨some 8, .op (.len .str), [.t 7], none⟩,
  ⟨some 9, .op (.mov), [.c (.int .i64 0)], none⟩]
abbrev r35_3 : List IOp := [⟨some 10, .op (.bin .lss .prim), [.t 9, .t 8], none⟩]
abbrev r35_4 : List IOp := [⟨some 11, .op (.mov), [.t 9], none⟩,
  ⟨some 6, .op (.mov), [.t 11], none⟩]
abbrev r35_5 : List IOp := [⟨some 12, .op (.faddr 1), [.t 2], none⟩,
  ⟨some 13, .op (.load none), [.t 12], none⟩,
  ⟨some 14, .op (.mov), [.t 5], none⟩,
  ⟨some 15, .op (.iaddr 1), [.t 13, .t 14], none⟩,
  ⟨some 16, .op (.load none), [.t 15], none⟩,
  ⟨some 17, .op (.faddr 0), [.t 2], none⟩,
  ⟨some 18, .op (.load none), [.t 17], none⟩,
  ⟨some 19, .op (.mov), [.t 1], none⟩,
  ⟨some 20, .op (.mov), [.t 6], none⟩,
  ⟨some 21, .op (.idxs), [.t 19, .t 20], none⟩,
  ⟨some 22, .op (.iaddr 1), [.t 18, .t 21], none⟩,
  ⟨some 23, .op (.load none), [.t 22], none⟩,
  ⟨some 24, .op (.iaddr 1), [.t 16, .t 23], none⟩,
  ⟨some 25, .op (.load none), [.t 24], none⟩,
  ⟨some 5, .op (.mov), [.t 25], none⟩]
abbrev r35_6 : List IOp := [⟨some 26, .op (.bin .add .prim), [.t 9, .c (.int .i64 1)], none⟩,
  ⟨some 9, .op (.mov), [.t 26], none⟩]
abbrev b35_0 : IC := (IC.seq (IC.reg r35_3) (IC.seq (IC.cond (.t 10) IC.skip (IC.exit 0)) (IC.seq (IC.block 1 (IC.seq (IC.reg r35_4) (IC.regD .wild r35_5 (.take 0 (.take 1 (.take 2 (.take 3 (.take 4 (.take 5 (.take 6 (.take 7 (.take 8 (.take 9 (.take 10 (.take 11 (.take 12 (.take 13 (.take 14 (.done))))))))))))))))))) (IC.reg r35_6))))
abbrev r35_7 : List IOp := [⟨some 27, .op (.faddr 2), [.t 2], none⟩,
  ⟨some 28, .op (.load none), [.t 27], none⟩,
  ⟨some 29, .op (.mov), [.t 5], none⟩,
  ⟨some 30, .op (.iaddr 1), [.t 28, .t 29], none⟩,
  ⟨some 31, .op (.load none), [.t 30], none⟩,
  ⟨some 4, .op (.mov), [.t 31], none⟩]
abbrev c35 : IC := (IC.seq (IC.reg r35_0) (IC.seq (IC.reg r35_1) (IC.seq (IC.seq (IC.reg r35_2) (IC.block 0 (IC.loop b35_0))) (IC.seq (IC.reg r35_7) IC.ret))))
abbrev g35 : FC := ⟨c35, 32, [.t 4]⟩
theorem comp35 : compF Go.Proofs.Try.prog (hintL [(5, 6)]) 35 = some g35 := by kernel_rfl

-- slices.IndexFunc[[]int,int]
abbrev r36_0 : List IOp := [⟨some 4, .op (.mov), [.c (.int .i64 0)], none⟩]
abbrev r36_1 : List IOp := [⟨some 6, .op (.mov), [.t 0], none⟩,
  ⟨some 7, .op (.len .slice), [.t 6], none⟩,
  ⟨some 8, .op (.mov), [.c (.int .i64 0)], none⟩]
abbrev r36_2 : List IOp := [⟨some 9, .op (.bin .lss .prim), [.t 8, .t 7], none⟩]
abbrev r36_3 : List IOp := [⟨some 10, .op (.mov), [.t 8], none⟩,
  ⟨some 5, .op (.mov), [.t 10], none⟩]
abbrev r36_4 : List IOp := [⟨some 11, .op (.mov), [.t 1], none⟩,
  ⟨some 12, .op (.mov), [.t 0], none⟩,
  ⟨some 13, .op (.mov), [.t 5], none⟩,
  ⟨some 14, .op (.iaddr 1), [.t 12, .t 13], none⟩,
  ⟨some 15, .op (.load none), [.t 14], none⟩,
  ⟨some 16, .call none, [.t 11, .t 15], none⟩]
abbrev r36_5 : List IOp := [⟨some 17, .op (.mov), [.t 5], none⟩,
  ⟨some 4, .op (.mov), [.t 17], none⟩]
abbrev r36_6 : List IOp := [⟨some 18, .op (.bin .add .prim), [.t 8, .c (.int .i64 1)], none⟩,
  ⟨some 8, .op (.mov), [.t 18], none⟩]
abbrev b36_0 : IC := (IC.seq (IC.reg r36_2) (IC.seq (IC.cond (.t 9) IC.skip (IC.exit 0)) (IC.seq (IC.block 1 (IC.seq (IC.reg r36_3) (IC.seq (IC.reg r36_4) (IC.cond (.t 16) (IC.seq (IC.reg r36_5) IC.ret) IC.skip)))) (IC.reg r36_6))))
abbrev r36_7 : List IOp := [⟨some 4, .op (.mov), [.c (.int .i64 (-1))], none⟩]
abbrev c36 : IC := (IC.seq (IC.reg r36_0) (IC.seq (IC.seq (IC.reg r36_1) (IC.block 0 (IC.loop b36_0))) (IC.seq (IC.reg r36_7) IC.ret)))
abbrev g36 : FC := ⟨c36, 19, [.t 4]⟩
theorem comp36 : compF Go.Proofs.Try.prog (fun _ => 0) 36 = some g36 := by kernel_rfl

-- (*outlaw/nfa.Nfa).Run
abbrev r99_0 : List IOp := [⟨some 4, .op (.mov), [.c (.bool false)], none⟩]
abbrev r99_1 : List IOp := [⟨some 8, .op (.mov), [.t 0], none⟩,
  ⟨some 9, .op (.mkbound 33), [.t 8], none⟩,
  ⟨some 5, .op (.mov), [.t 9], none⟩]
abbrev r99_2 : List IOp := [⟨some 10, .op (.mov), [.t 0], none⟩,
  ⟨some 11, .call none, [.f 31, .t 10], none⟩,
  ⟨some 6, .op (.mov), [.t 11], none⟩]
abbrev r99_3 : List IOp := [⟨some 12, .op (.mov), [.t 1], none⟩,
  ⟨some 13, .op (.len .str), [.t 12], none⟩,
  ⟨some 14, .op (.mov), [.c (.int .i64 0)], none⟩]
abbrev r99_4 : List IOp := [⟨some 15, .op (.bin .lss .prim), [.t 14, .t 13], none⟩]
abbrev r99_5 : List IOp := [⟨some 16, .op (.mov), [.t 14], none⟩,
  ⟨some 7, .op (.mov), [.t 16], none⟩]
abbrev r99_6 : List IOp := [⟨some 17, .op (.mov), [.t 5], none⟩,
  ⟨some 18, .op (.mov), [.t 6], none⟩,
  ⟨some 19, .op (.mov), [.t 1], none⟩,
  ⟨some 20, .op (.mov), [.t 7], none⟩,
  ⟨some 21, .op (.idxs), [.t 19, .t 20], none⟩,
  ⟨some 22, .call none, [.t 17, .t 18, .t 21], none⟩,
  ⟨some 6, .op (.mov), [.t 22], none⟩]
abbrev r99_7 : List IOp := [⟨some 23, .op (.bin .add .prim), [.t 14, .c (.int .i64 1)], none⟩,
  ⟨some 14, .op (.mov), [.t 23], none⟩]
abbrev b99_0 : IC := (IC.seq (IC.reg r99_4) (IC.seq (IC.cond (.t 15) IC.skip (IC.exit 0)) (IC.seq (IC.block 1 (IC.seq (IC.reg r99_5) (IC.reg r99_6))) (IC.reg r99_7))))
abbrev r99_8 : List IOp := [⟨some 24, .op (.mov), [.t 6], none⟩,
  ⟨some 25, .op (.len .slice), [.t 24], none⟩,
  ⟨some 26, .op (.bin .gtr .prim), [.t 25, .c (.int .i64 0)], none⟩,
  ⟨some 27, .op (.mov), [.t 26], none⟩,
  ⟨some 28, .op (.mov), [.t 6], some (27, true)⟩,
  ⟨some 29, .op (.mov), [.t 6], some (27, true)⟩,
  ⟨some 30, .op (.len .slice), [.t 29], some (27, true)⟩,
  ⟨some 31, .op (.bin .sub .prim), [.t 30, .c (.int .i64 1)], some (27, true)⟩,
  ⟨some 32, .op (.iaddr 1), [.t 28, .t 31], some (27, true)⟩,
  ⟨some 33, .op (.load none), [.t 32], some (27, true)⟩,
  ⟨some 34, .op (.pick), [.t 27, .t 33, .c (.bool false)], none⟩,
  ⟨some 4, .op (.mov), [.t 34], none⟩]
abbrev c99 : IC := (IC.seq (IC.reg r99_0) (IC.seq (IC.reg r99_1) (IC.seq (IC.reg r99_2) (IC.seq (IC.seq (IC.reg r99_3) (IC.block 0 (IC.loop b99_0))) (IC.seq (IC.reg r99_8) IC.ret)))))
abbrev g99 : FC := ⟨c99, 35, [.t 4]⟩
theorem comp99 : compF Go.Proofs.Try.prog (fun _ => 0) 99 = some g99 := by kernel_rfl

-- bytes.Count
abbrev r37_0 : List IOp := [⟨some 4, .op (.mov), [.c (.int .i64 0)], none⟩]
abbrev r37_1 : List IOp := [⟨some 7, .op (.mov), [.t 1], none⟩,
  ⟨some 8, .op (.len .slice), [.t 7], none⟩,
  ⟨some 9, .op (.bin .eql .prim), [.t 8, .c (.int .i64 0)], none⟩]
abbrev r37_2 : List IOp := [⟨some 10, .op (.mov), [.t 0], none⟩,
  ⟨some 11, .call none, [.f 47, .t 10], none⟩,
  ⟨some 12, .op (.bin .add .prim), [.t 11, .c (.int .i64 1)], none⟩,
  ⟨some 4, .op (.mov), [.t 12], none⟩]
abbrev r37_3 : List IOp := [⟨some 13, .op (.mov), [.t 1], none⟩,
  ⟨some 14, .op (.len .slice), [.t 13], none⟩,
  ⟨some 15, .op (.bin .eql .prim), [.t 14, .c (.int .i64 1)], none⟩]
abbrev r37_4 : List IOp := [⟨some 16, .op (.mov), [.t 0], none⟩,
  ⟨some 17, .op (.mov), [.t 1], none⟩,
  ⟨some 18, .op (.iaddr 1), [.t 17, .c (.int .i64 0)], none⟩,
  ⟨some 19, .op (.load none), [.t 18], none⟩,
  ⟨some 20, .call none, [.f 48, .t 16, .t 19], none⟩,
  ⟨some 4, .op (.mov), [.t 20], none⟩]
abbrev r37_5 : List IOp := [⟨some 5, .op (.mov), [.c (.int .i64 0)], none⟩]
abbrev r37_6 : List IOp := [⟨some 21, .op (.mov), [.t 0], none⟩,
  ⟨some 22, .op (.mov), [.t 1], none⟩,
  ⟨some 23, .call none, [.f 49, .t 21, .t 22], none⟩,
  ⟨some 6, .op (.mov), [.t 23], none⟩]
abbrev r37_7 : List IOp := [⟨some 24, .op (.mov), [.t 6], none⟩,
  ⟨some 25, .op (.bin .eql .prim), [.t 24, .c (.int .i64 (-1))], none⟩]
abbrev r37_8 : List IOp := [⟨some 26, .op (.mov), [.t 5], none⟩,
  ⟨some 4, .op (.mov), [.t 26], none⟩]
abbrev r37_9 : List IOp := [⟨some 27, .op (.mov), [.t 5], none⟩,
  ⟨some 28, .op (.bin .add .prim), [.t 27, .c (.int .i64 1)], none⟩,
  ⟨some 5, .op (.mov), [.t 28], none⟩]
abbrev r37_10 : List IOp := [⟨some 29, .op (.mov), [.t 0], none⟩,
  ⟨some 30, .op (.mov), [.t 6], none⟩,
  ⟨some 31, .op (.mov), [.t 1], none⟩,
  ⟨some 32, .op (.len .slice), [.t 31], none⟩,
  ⟨some 33, .op (.bin .add .prim), [.t 30, .t 32], none⟩,
  ⟨some 34, .op (.slice 1 true false false), [.t 29, .t 33], none⟩,
  ⟨some 0, .op (.mov), [.t 34], none⟩]
abbrev b37_0 : IC := (IC.block 1 (IC.seq (IC.reg r37_6) (IC.seq (IC.seq (IC.reg r37_7) (IC.cond (.t 25) (IC.seq (IC.reg r37_8) IC.ret) IC.skip)) (IC.seq (IC.reg r37_9) (IC.reg r37_10)))))
abbrev c37 : IC := (IC.seq (IC.reg r37_0) (IC.seq (IC.seq (IC.reg r37_1) (IC.cond (.t 9) (IC.seq (IC.reg r37_2) IC.ret) IC.skip)) (IC.seq (IC.seq (IC.reg r37_3) (IC.cond (.t 15) (IC.seq (IC.reg r37_4) IC.ret) IC.skip)) (IC.seq (IC.reg r37_5) (IC.block 0 (IC.loop b37_0))))))
abbrev g37 : FC := ⟨c37, 35, [.t 4]⟩
theorem comp37 : compF Go.Proofs.Try.prog (fun _ => 0) 37 = some g37 := by kernel_rfl

-- bytes.Repeat
abbrev r38_0 : List IOp := [⟨some 4, .op (.mov), [.c (.nils)], none⟩]
abbrev r38_1 : List IOp := [⟨some 12, .op (.mov), [.t 1], none⟩,
  ⟨some 13, .op (.bin .eql .prim), [.t 12, .c (.int .i64 0)], none⟩]
abbrev r38_2 : List IOp := [⟨some 14, .op (.bsl 5 1 false), [], none⟩,
  ⟨some 4, .op (.mov), [.t 14], none⟩]
abbrev r38_3 : List IOp := [⟨some 15, .op (.mov), [.t 1], none⟩,
  ⟨some 16, .op (.bin .lss .prim), [.t 15, .c (.int .i64 0)], none⟩]
abbrev r38_4 : List IOp := [⟨some 17, .op (.mkif 9), [.c (.str [98, 121, 116, 101, 115, 58, 32, 110, 101, 103, 97, 116, 105, 118, 101, 32, 82, 101, 112, 101, 97, 116, 32, 99, 111, 117, 110, 116])], none⟩,
  ⟨none, .op (.never), [], none⟩]
abbrev r38_5 : List IOp := [⟨some 19, .op (.mov), [.t 0], none⟩,
  ⟨some 20, .op (.len .slice), [.t 19], none⟩,
  ⟨some 21, .op (.toInt .u64), [.t 20], none⟩,
  ⟨some 22, .op (.mov), [.t 1], none⟩,
  ⟨some 23, .op (.toInt .u64), [.t 22], none⟩,
  ⟨some 24, .call none, [.f 50, .t 21, .t 23], none⟩,
  ⟨some 18, .op (.mov), [.t 24], none⟩,
  ⟨some 25, .op (.extract 0), [.t 18], none⟩,
  ⟨some 26, .op (.extract 1), [.t 18], none⟩,
  ⟨some 5, .op (.mov), [.t 25], none⟩,
  ⟨some 6, .op (.mov), [.t 26], none⟩]
abbrev r38_6 : List IOp := [⟨some 27, .op (.mov), [.t 5], none⟩,
  ⟨some 28, .op (.bin .gtr .prim), [.t 27, .c (.int .u64 0)], none⟩,
  ⟨some 29, .op (.mov), [.t 28], none⟩,
  ⟨some 30, .op (.mov), [.t 6], some (29, false)⟩,
  ⟨some 31, .op (.bin .gtr .prim), [.t 30, .c (.int .u64 9223372036854775807)], some (29, false)⟩,
  ⟨some 32, .op (.pick), [.t 29, .c (.bool true), .t 31], none⟩]
abbrev r38_7 : List IOp := [⟨some 33, .op (.mkif 9), [.c (.str [98, 121, 116, 101, 115, 58, 32, 82, 101, 112, 101, 97, 116, 32, 111, 117, 116, 112, 117, 116, 32, 108, 101, 110, 103, 116, 104, 32, 111, 118, 101, 114, 102, 108, 111, 119])], none⟩,
  ⟨none, .op (.never), [], none⟩]
abbrev r38_8 : List IOp := [⟨some 34, .op (.mov), [.t 6], none⟩,
  ⟨some 35, .op (.toInt .i64), [.t 34], none⟩,
  ⟨some 7, .op (.mov), [.t 35], none⟩]
abbrev r38_9 : List IOp := [⟨some 36, .op (.mov), [.t 0], none⟩,
  ⟨some 37, .op (.len .slice), [.t 36], none⟩,
  ⟨some 38, .op (.bin .eql .prim), [.t 37, .c (.int .i64 0)], none⟩]
abbrev r38_10 : List IOp := [⟨some 39, .op (.bsl 5 1 false), [], none⟩,
  ⟨some 4, .op (.mov), [.t 39], none⟩]
abbrev r38_11 : List IOp := [⟨some 40, .op (.mov), [.t 7], none⟩,
  ⟨some 8, .op (.mov), [.t 40], none⟩]
abbrev r38_12 : List IOp := [⟨some 41, .op (.mov), [.t 8], none⟩,
  ⟨some 42, .op (.bin .gtr .prim), [.t 41, .c (.int .i64 8192)], none⟩]
abbrev r38_13 : List IOp := [⟨some 43, .op (.mov), [.t 0], none⟩,
  ⟨some 44, .op (.len .slice), [.t 43], none⟩,
  ⟨some 45, .op (.bin .quo .prim), [.c (.int .i64 8192), .t 44], none⟩,
  ⟨some 46, .op (.mov), [.t 0], none⟩,
  ⟨some 47, .op (.len .slice), [.t 46], none⟩,
  ⟨some 48, .op (.bin .mul .prim), [.t 45, .t 47], none⟩,
  ⟨some 8, .op (.mov), [.t 48], none⟩]
abbrev r38_14 : List IOp := [⟨some 49, .op (.mov), [.t 8], none⟩,
  ⟨some 50, .op (.bin .eql .prim), [.t 49, .c (.int .i64 0)], none⟩]
abbrev r38_15 : List IOp := [⟨some 51, .op (.mov), [.t 0], none⟩,
  ⟨some 52, .op (.len .slice), [.t 51], none⟩,
  ⟨some 8, .op (.mov), [.t 52], none⟩]
abbrev r38_16 : List IOp := [⟨some 53, .op (.mov), [.t 7], none⟩,
  ⟨some 54, .call none, [.f 51, .t 53], none⟩,
  ⟨some 55, .op (.mov), [.t 7], none⟩,
  ⟨some 56, .op (.mov), [.t 7], none⟩,
  ⟨some 57, .op (.slice 1 false true true), [.t 54, .t 55, .t 56], none⟩,
  ⟨some 9, .op (.mov), [.t 57], none⟩]
abbrev r38_17 : List IOp := [⟨some 58, .op (.mov), [.t 9], none⟩,
  ⟨some 59, .op (.mov), [.t 0], none⟩,
  ⟨some 60, .op (.cpy 1), [.t 58, .t 59], none⟩,
  ⟨some 10, .op (.mov), [.t 60], none⟩]
abbrev r38_18 : List IOp := [⟨some 61, .op (.mov), [.t 10], none⟩,
  ⟨some 62, .op (.mov), [.t 7], none⟩,
  ⟨some 63, .op (.bin .lss .prim), [.t 61, .t 62], none⟩]
abbrev r38_19 : List IOp := [⟨some 64, .op (.mov), [.t 10], none⟩,
  ⟨some 65, .op (.mov), [.t 8], none⟩,
  ⟨some 66, .op (.min), [.t 64, .t 65], none⟩,
  ⟨some 11, .op (.mov), [.t 66], none⟩]
abbrev r38_20 : List IOp := [⟨some 67, .op (.mov), [.t 10], none⟩,
  ⟨some 68, .op (.mov), [.t 9], none⟩,
  ⟨some 69, .op (.mov), [.t 10], none⟩,
  ⟨some 70, .op (.slice 1 true false false), [.t 68, .t 69], none⟩,
  ⟨some 71, .op (.mov), [.t 9], none⟩,
  ⟨some 72, .op (.mov), [.t 11], none⟩,
  ⟨some 73, .op (.slice 1 false true false), [.t 71, .t 72], none⟩,
  ⟨some 74, .op (.cpy 1), [.t 70, .t 73], none⟩,
  ⟨some 75, .op (.bin .add .prim), [.t 67, .t 74], none⟩,
  ⟨some 10, .op (.mov), [.t 75], none⟩]
abbrev b38_0 : IC := (IC.seq (IC.seq (IC.reg r38_18) (IC.cond (.t 63) IC.skip (IC.exit 0))) (IC.block 1 (IC.seq (IC.reg r38_19) (IC.regD .wild r38_20 (.take 0 (.take 1 (.take 2 (.take 3 (.take 4 (.take 5 (.take 6 (.take 7 (.take 8 (.take 9 (.done)))))))))))))))
abbrev r38_21 : List IOp := [⟨some 76, .op (.mov), [.t 9], none⟩,
  ⟨some 4, .op (.mov), [.t 76], none⟩]
abbrev c38 : IC := (IC.seq (IC.reg r38_0) (IC.seq (IC.seq (IC.reg r38_1) (IC.cond (.t 13) (IC.seq (IC.reg r38_2) IC.ret) IC.skip)) (IC.seq (IC.seq (IC.reg r38_3) (IC.cond (.t 16) (IC.reg r38_4) IC.skip)) (IC.seq (IC.reg r38_5) (IC.seq (IC.seq (IC.reg r38_6) (IC.cond (.t 32) (IC.reg r38_7) IC.skip)) (IC.seq (IC.reg r38_8) (IC.seq (IC.seq (IC.reg r38_9) (IC.cond (.t 38) (IC.seq (IC.reg r38_10) IC.ret) IC.skip)) (IC.seq (IC.reg r38_11) (IC.seq (IC.seq (IC.reg r38_12) (IC.cond (.t 42) (IC.seq (IC.reg r38_13) (IC.seq (IC.reg r38_14) (IC.cond (.t 50) (IC.reg r38_15) IC.skip))) IC.skip)) (IC.seq (IC.reg r38_16) (IC.seq (IC.reg r38_17) (IC.seq (IC.block 0 (IC.loop b38_0)) (IC.seq (IC.reg r38_21) IC.ret)))))))))))))
abbrev g38 : FC := ⟨c38, 77, [.t 4]⟩
theorem comp38 : compF Go.Proofs.Try.prog (hintL [(20, 6)]) 38 = some g38 := by kernel_rfl

-- outlaw/glob.Fold
abbrev r27_0 : List IOp := [⟨some 2, .op (.mov), [.c (.str [])], none⟩]
abbrev r27_1 : List IOp := [⟨some 5, .op (.mov), [.t 0], none⟩,
  ⟨some 6, .op (.s2b 5), [.t 5], none⟩,
  ⟨some 3, .op (.mov), [.t 6], none⟩]
abbrev r27_2 : List IOp := [⟨some 7, .op (.mov), [.t 3], none⟩,
  ⟨some 8, .op (.len .slice), [.t 7], none⟩,
  ⟨some 9, .op (.mov), [.c (.int .i64 0)], none⟩]
abbrev r27_3 : List IOp := [⟨some 10, .op (.bin .lss .prim), [.t 9, .t 8], none⟩]
abbrev r27_4 : List IOp := [⟨some 11, .op (.mov), [.t 9], none⟩,
  ⟨some 4, .op (.mov), [.t 11], none⟩]
abbrev r27_5 : List IOp := [⟨some 12, .op (.mov), [.t 3], none⟩,
  ⟨some 13, .op (.mov), [.t 4], none⟩,
  ⟨some 14, .op (.mov), [.t 3], none⟩,
  ⟨some 15, .op (.mov), [.t 4], none⟩,
  ⟨some 16, .op (.iaddr 1), [.t 14, .t 15], none⟩,
  ⟨some 17, .op (.load none), [.t 16], none⟩,
  ⟨some 18, .call none, [.f 39, .t 17], none⟩,
  ⟨some 19, .op (.iaddr 1), [.t 12, .t 13], none⟩,
  ⟨none, .op (.store 1), [.t 19, .t 18], none⟩]
abbrev r27_6 : List IOp := [⟨some 20, .op (.bin .add .prim), [.t 9, .c (.int .i64 1)], none⟩,
  ⟨some 9, .op (.mov), [.t 20], none⟩]
abbrev b27_0 : IC := (IC.seq (IC.reg r27_3) (IC.seq (IC.cond (.t 10) IC.skip (IC.exit 0)) (IC.seq (IC.block 1 (IC.seq (IC.reg r27_4) (IC.reg r27_5))) (IC.reg r27_6))))
abbrev r27_7 : List IOp := [⟨some 21, .op (.mov), [.t 3], none⟩,
  ⟨some 22, .op (.b2s), [.t 21], none⟩,
  ⟨some 2, .op (.mov), [.t 22], none⟩]
abbrev c27 : IC := (IC.seq (IC.reg r27_0) (IC.seq (IC.reg r27_1) (IC.seq (IC.seq (IC.reg r27_2) (IC.block 0 (IC.loop b27_0))) (IC.seq (IC.reg r27_7) IC.ret))))
abbrev g27 : FC := ⟨c27, 23, [.t 2]⟩
theorem comp27 : compF Go.Proofs.Try.prog (fun _ => 0) 27 = some g27 := by kernel_rfl

-- math/bits.Len
abbrev r41_0 : List IOp := [⟨some 2, .op (.mov), [.c (.int .i64 0)], none⟩]
abbrev r41_1 : List IOp := [⟨some 3, .op (.mov), [.t 0], none⟩,
  ⟨some 4, .op (.toInt .u32), [.t 3], none⟩,
  ⟨some 5, .call none, [.f 60, .t 4], none⟩,
  ⟨some 2, .op (.mov), [.t 5], none⟩]
abbrev r41_2 : List IOp := [⟨some 6, .op (.mov), [.t 0], none⟩,
  ⟨some 7, .call none, [.f 61, .t 6], none⟩,
  ⟨some 2, .op (.mov), [.t 7], none⟩]
abbrev c41 : IC := (IC.seq (IC.reg r41_0) (IC.seq (IC.cond (.c (.bool false)) (IC.seq (IC.reg r41_1) IC.ret) IC.skip) (IC.seq (IC.reg r41_2) IC.ret)))
abbrev g41 : FC := ⟨c41, 8, [.t 2]⟩
theorem comp41 : compF Go.Proofs.Try.prog (fun _ => 0) 41 = some g41 := by kernel_rfl

-- slices.pdqsortOrdered[byte]
abbrev r40_0 : List IOp := [⟨some 8, .op (.mov), [.c (.bool true)], none⟩]
abbrev r40_1 : List IOp := [⟨some 9, .op (.mov), [.c (.bool true)], none⟩]
abbrev r40_2 : List IOp := [⟨some 19, .op (.mov), [.t 2], none⟩,
  ⟨some 20, .op (.mov), [.t 1], none⟩,
  ⟨some 21, .op (.bin .sub .prim), [.t 19, .t 20], none⟩,
  ⟨some 10, .op (.mov), [.t 21], none⟩]
abbrev r40_3 : List IOp := [⟨some 22, .op (.mov), [.t 10], none⟩,
  ⟨some 23, .op (.bin .leq .prim), [.t 22, .c (.int .i64 12)], none⟩]
abbrev r40_4 : List IOp := [⟨some 24, .op (.mov), [.t 0], none⟩,
  ⟨some 25, .op (.mov), [.t 1], none⟩,
  ⟨some 26, .op (.mov), [.t 2], none⟩,
  ⟨some 27, .call none, [.f 52, .t 24, .t 25, .t 26], none⟩]
abbrev r40_5 : List IOp := [⟨some 28, .op (.mov), [.t 3], none⟩,
  ⟨some 29, .op (.bin .eql .prim), [.t 28, .c (.int .i64 0)], none⟩]
abbrev r40_6 : List IOp := [⟨some 30, .op (.mov), [.t 0], none⟩,
  ⟨some 31, .op (.mov), [.t 1], none⟩,
  ⟨some 32, .op (.mov), [.t 2], none⟩,
  ⟨some 33, .call none, [.f 53, .t 30, .t 31, .t 32], none⟩]
abbrev r40_7 : List IOp := [⟨some 34, .op (.mov), [.t 8], none⟩,
  ⟨some 35, .op (.un .not), [.t 34], none⟩]
abbrev r40_8 : List IOp := [⟨some 36, .op (.mov), [.t 0], none⟩,
  ⟨some 37, .op (.mov), [.t 1], none⟩,
  ⟨some 38, .op (.mov), [.t 2], none⟩,
  ⟨some 39, .call none, [.f 54, .t 36, .t 37, .t 38], none⟩]
abbrev r40_9 : List IOp := [⟨some 40, .op (.mov), [.t 3], none⟩,
  ⟨some 41, .op (.bin .sub .prim), [.t 40, .c (.int .i64 1)], none⟩,
  ⟨some 3, .op (.mov), [.t 41], none⟩]
abbrev r40_10 : List IOp := [⟨some 43, .op (.mov), [.t 0], none⟩,
  ⟨some 44, .op (.mov), [.t 1], none⟩,
  ⟨some 45, .op (.mov), [.t 2], none⟩,
  ⟨some 46, .call none, [.f 55, .t 43, .t 44, .t 45], none⟩,
  ⟨some 42, .op (.mov), [.t 46], none⟩,
  ⟨some 47, .op (.extract 0), [.t 42], none⟩,
  ⟨some 48, .op (.extract 1), [.t 42], none⟩,
  ⟨some 11, .op (.mov), [.t 47], none⟩,
  ⟨some 12, .op (.mov), [.t 48], none⟩]
abbrev r40_11 : List IOp := [⟨some 49, .op (.mov), [.t 12], none⟩,
  ⟨some 50, .op (.bin .eql .prim), [.t 49, .c (.int .i64 2)], none⟩]
abbrev r40_12 : List IOp := [⟨some 51, .op (.mov), [.t 0], none⟩,
  ⟨some 52, .op (.mov), [.t 1], none⟩,
  ⟨some 53, .op (.mov), [.t 2], none⟩,
  ⟨some 54, .call none, [.f 56, .t 51, .t 52, .t 53], none⟩]
abbrev r40_13 : List IOp := [⟨some 55, .op (.mov), [.t 2], none⟩,
  ⟨some 56, .op (.bin .sub .prim), [.t 55, .c (.int .i64 1)], none⟩,
  ⟨some 57, .op (.mov), [.t 11], none⟩,
  ⟨some 58, .op (.mov), [.t 1], none⟩,
  ⟨some 59, .op (.bin .sub .prim), [.t 57, .t 58], none⟩,
  ⟨some 60, .op (.bin .sub .prim), [.t 56, .t 59], none⟩,
  ⟨some 11, .op (.mov), [.t 60], none⟩]
abbrev r40_14 : List IOp := [⟨some 12, .op (.mov), [.c (.int .i64 1)], none⟩]
abbrev r40_15 : List IOp := [⟨some 61, .op (.mov), [.t 8], none⟩,
  ⟨some 62, .op (.mov), [.t 61], none⟩,
  ⟨some 63, .op (.mov), [.t 9], some (62, true)⟩,
  ⟨some 64, .op (.pick), [.t 62, .t 63, .c (.bool false)], none⟩,
  ⟨some 65, .op (.mov), [.t 64], none⟩,
  ⟨some 66, .op (.mov), [.t 12], some (65, true)⟩,
  ⟨some 67, .op (.bin .eql .prim), [.t 66, .c (.int .i64 1)], some (65, true)⟩,
  ⟨some 68, .op (.pick), [.t 65, .t 67, .c (.bool false)], none⟩]
abbrev r40_16 : List IOp := [⟨some 69, .op (.mov), [.t 0], none⟩,
  ⟨some 70, .op (.mov), [.t 1], none⟩,
  ⟨some 71, .op (.mov), [.t 2], none⟩,
  ⟨some 72, .call none, [.f 57, .t 69, .t 70, .t 71], none⟩]
abbrev r40_17 : List IOp := [⟨some 73, .op (.mov), [.t 1], none⟩,
  ⟨some 74, .op (.bin .gtr .prim), [.t 73, .c (.int .i64 0)], none⟩,
  ⟨some 75, .op (.mov), [.t 74], none⟩,
  ⟨some 76, .op (.mov), [.t 0], some (75, true)⟩,
  ⟨some 77, .op (.mov), [.t 1], some (75, true)⟩,
  ⟨some 78, .op (.bin .sub .prim), [.t 77, .c (.int .i64 1)], some (75, true)⟩,
  ⟨some 79, .op (.iaddr 1), [.t 76, .t 78], some (75, true)⟩,
  ⟨some 80, .op (.load none), [.t 79], some (75, true)⟩,
  ⟨some 81, .op (.mov), [.t 0], some (75, true)⟩,
  ⟨some 82, .op (.mov), [.t 11], some (75, true)⟩,
  ⟨some 83, .op (.iaddr 1), [.t 81, .t 82], some (75, true)⟩,
  ⟨some 84, .op (.load none), [.t 83], some (75, true)⟩,
  ⟨some 85, .call none, [.f 42, .t 80, .t 84], some (75, true)⟩,
  ⟨some 86, .op (.un .not), [.t 85], some (75, true)⟩,
  ⟨some 87, .op (.pick), [.t 75, .t 86, .c (.bool false)], none⟩]
abbrev r40_18 : List IOp := [⟨some 88, .op (.mov), [.t 0], none⟩,
  ⟨some 89, .op (.mov), [.t 1], none⟩,
  ⟨some 90, .op (.mov), [.t 2], none⟩,
  ⟨some 91, .op (.mov), [.t 11], none⟩,
  ⟨some 92, .call none, [.f 58, .t 88, .t 89, .t 90, .t 91], none⟩,
  ⟨some 13, .op (.mov), [.t 92], none⟩]
abbrev r40_19 : List IOp := [⟨some 93, .op (.mov), [.t 13], none⟩,
  ⟨some 1, .op (.mov), [.t 93], none⟩]
abbrev r40_20 : List IOp := [⟨some 95, .op (.mov), [.t 0], none⟩,
  ⟨some 96, .op (.mov), [.t 1], none⟩,
  ⟨some 97, .op (.mov), [.t 2], none⟩,
  ⟨some 98, .op (.mov), [.t 11], none⟩,
  ⟨some 99, .call none, [.f 59, .t 95, .t 96, .t 97, .t 98], none⟩,
  ⟨some 94, .op (.mov), [.t 99], none⟩,
  ⟨some 100, .op (.extract 0), [.t 94], none⟩,
  ⟨some 101, .op (.extract 1), [.t 94], none⟩,
  ⟨some 14, .op (.mov), [.t 100], none⟩,
  ⟨some 15, .op (.mov), [.t 101], none⟩]
abbrev r40_21 : List IOp := [⟨some 102, .op (.mov), [.t 15], none⟩,
  ⟨some 9, .op (.mov), [.t 102], none⟩]
abbrev r40_22 : List IOp := [⟨some 103, .op (.mov), [.t 14], none⟩,
  ⟨some 104, .op (.mov), [.t 1], none⟩,
  ⟨some 105, .op (.bin .sub .prim), [.t 103, .t 104], none⟩,
  ⟨some 106, .op (.mov), [.t 2], none⟩,
  ⟨some 107, .op (.mov), [.t 14], none⟩,
  ⟨some 108, .op (.bin .sub .prim), [.t 106, .t 107], none⟩,
  ⟨some 16, .op (.mov), [.t 105], none⟩,
  ⟨some 17, .op (.mov), [.t 108], none⟩]
abbrev r40_23 : List IOp := [⟨some 109, .op (.mov), [.t 10], none⟩,
  ⟨some 110, .op (.bin .quo .prim), [.t 109, .c (.int .i64 8)], none⟩,
  ⟨some 18, .op (.mov), [.t 110], none⟩]
abbrev r40_24 : List IOp := [⟨some 111, .op (.mov), [.t 16], none⟩,
  ⟨some 112, .op (.mov), [.t 17], none⟩,
  ⟨some 113, .op (.bin .lss .prim), [.t 111, .t 112], none⟩]
abbrev r40_25 : List IOp := [⟨some 114, .op (.mov), [.t 16], none⟩,
  ⟨some 115, .op (.mov), [.t 18], none⟩,
  ⟨some 116, .op (.bin .geq .prim), [.t 114, .t 115], none⟩,
  ⟨some 8, .op (.mov), [.t 116], none⟩]
abbrev r40_26 : List IOp := [⟨some 117, .op (.mov), [.t 0], none⟩,
  ⟨some 118, .op (.mov), [.t 1], none⟩,
  ⟨some 119, .op (.mov), [.t 14], none⟩,
  ⟨some 120, .op (.mov), [.t 3], none⟩,
  ⟨some 121, .call none, [.f 40, .t 117, .t 118, .t 119, .t 120], none⟩]
abbrev r40_27 : List IOp := [⟨some 122, .op (.mov), [.t 14], none⟩,
  ⟨some 123, .op (.bin .add .prim), [.t 122, .c (.int .i64 1)], none⟩,
  ⟨some 1, .op (.mov), [.t 123], none⟩]
abbrev r40_28 : List IOp := [⟨some 124, .op (.mov), [.t 17], none⟩,
  ⟨some 125, .op (.mov), [.t 18], none⟩,
  ⟨some 126, .op (.bin .geq .prim), [.t 124, .t 125], none⟩,
  ⟨some 8, .op (.mov), [.t 126], none⟩]
abbrev r40_29 : List IOp := [⟨some 127, .op (.mov), [.t 0], none⟩,
  ⟨some 128, .op (.mov), [.t 14], none⟩,
  ⟨some 129, .op (.bin .add .prim), [.t 128, .c (.int .i64 1)], none⟩,
  ⟨some 130, .op (.mov), [.t 2], none⟩,
  ⟨some 131, .op (.mov), [.t 3], none⟩,
  ⟨some 132, .call none, [.f 40, .t 127, .t 129, .t 130, .t 131], none⟩]
abbrev r40_30 : List IOp := [⟨some 133, .op (.mov), [.t 14], none⟩,
  ⟨some 2, .op (.mov), [.t 133], none⟩]
abbrev b40_0 : IC := (IC.block 1 (IC.seq (IC.reg r40_2) (IC.seq (IC.seq (IC.reg r40_3) (IC.cond (.t 23) (IC.seq (IC.reg r40_4) IC.ret) IC.skip)) (IC.seq (IC.seq (IC.reg r40_5) (IC.cond (.t 29) (IC.seq (IC.reg r40_6) IC.ret) IC.skip)) (IC.seq (IC.seq (IC.reg r40_7) (IC.cond (.t 35) (IC.seq (IC.reg r40_8) (IC.reg r40_9)) IC.skip)) (IC.seq (IC.reg r40_10) (IC.seq (IC.seq (IC.reg r40_11) (IC.cond (.t 50) (IC.seq (IC.reg r40_12) (IC.seq (IC.reg r40_13) (IC.reg r40_14))) IC.skip)) (IC.seq (IC.seq (IC.reg r40_15) (IC.cond (.t 68) (IC.seq (IC.reg r40_16) (IC.cond (.t 72) IC.ret IC.skip)) IC.skip)) (IC.seq (IC.seq (IC.regD .wild r40_17 (.take 0 (.take 1 (.take 2 (.take 3 (.take 4 (.take 5 (.take 6 (.take 7 (.take 8 (.take 9 (.take 10 (.take 11 (.take 12 (.take 13 (.take 14 (.done))))))))))))))))) (IC.cond (.t 87) (IC.seq (IC.reg r40_18) (IC.seq (IC.reg r40_19) (IC.exit 1))) IC.skip)) (IC.seq (IC.reg r40_20) (IC.seq (IC.reg r40_21) (IC.seq (IC.reg r40_22) (IC.seq (IC.reg r40_23) (IC.seq (IC.reg r40_24) (IC.cond (.t 113) (IC.seq (IC.reg r40_25) (IC.seq (IC.reg r40_26) (IC.reg r40_27))) (IC.seq (IC.reg r40_28) (IC.seq (IC.reg r40_29) (IC.reg r40_30))))))))))))))))))
abbrev c40 : IC := (IC.seq (IC.reg r40_0) (IC.seq (IC.reg r40_1) (IC.block 0 (IC.loop b40_0))))
abbrev g40 : FC := ⟨c40, 134, []⟩
theorem comp40 : compF Go.Proofs.Try.prog (hintL [(17, 6)]) 40 = some g40 := by kernel_rfl

-- cmp.Less[byte]
abbrev r42_0 : List IOp := [⟨some 4, .op (.mov), [.c (.bool false)], none⟩]
abbrev r42_1 : List IOp := [⟨some 5, .op (.mov), [.t 0], none⟩,
  ⟨some 6, .call none, [.f 62, .t 5], none⟩,
  ⟨some 7, .op (.mov), [.t 6], none⟩,
  ⟨some 8, .op (.mov), [.t 1], some (7, true)⟩,
  ⟨some 9, .call none, [.f 62, .t 8], some (7, true)⟩,
  ⟨some 10, .op (.un .not), [.t 9], some (7, true)⟩,
  ⟨some 11, .op (.pick), [.t 7, .t 10, .c (.bool false)], none⟩,
  ⟨some 12, .op (.mov), [.t 11], none⟩,
  ⟨some 13, .op (.mov), [.t 0], some (12, false)⟩,
  ⟨some 14, .op (.mov), [.t 1], some (12, false)⟩,
  ⟨some 15, .op (.bin .lss .prim), [.t 13, .t 14], some (12, false)⟩,
  ⟨some 16, .op (.pick), [.t 12, .c (.bool true), .t 15], none⟩,
  ⟨some 4, .op (.mov), [.t 16], none⟩]
abbrev c42 : IC := (IC.seq (IC.reg r42_0) (IC.seq (IC.reg r42_1) IC.ret))
abbrev g42 : FC := ⟨c42, 17, [.t 4]⟩
theorem comp42 : compF Go.Proofs.Try.prog (fun _ => 0) 42 = some g42 := by kernel_rfl

-- slices.isNaN[byte]
abbrev r43_0 : List IOp := [⟨some 2, .op (.mov), [.c (.bool false)], none⟩]
abbrev r43_1 : List IOp := [⟨some 3, .op (.mov), [.t 0], none⟩,
  ⟨some 4, .op (.mov), [.t 0], none⟩,
  ⟨some 5, .op (.bin .neq .prim), [.t 3, .t 4], none⟩,
  ⟨some 2, .op (.mov), [.t 5], none⟩]
abbrev c43 : IC := (IC.seq (IC.reg r43_0) (IC.seq (IC.reg r43_1) IC.ret))
abbrev g43 : FC := ⟨c43, 6, [.t 2]⟩
theorem comp43 : compF Go.Proofs.Try.prog (fun _ => 0) 43 = some g43 := by kernel_rfl

-- (*outlaw/nfa.Nfa).States
abbrev r44_0 : List IOp := [⟨some 2, .op (.mov), [.c (.int .i64 0)], none⟩]
abbrev r44_1 : List IOp := [⟨some 3, .op (.mov), [.t 0], none⟩,
  ⟨some 4, .op (.bin .eql .ptr), [.t 3, .c (.nilp)], none⟩,
  ⟨some 5, .op (.mov), [.t 4], none⟩,
  ⟨some 6, .op (.mov), [.t 0], some (5, false)⟩,
  ⟨some 7, .op (.nilchk), [.t 6], some (5, false)⟩,
  ⟨some 8, .op (.faddr 0), [.t 7], some (5, false)⟩,
  ⟨some 9, .op (.load none), [.t 8], some (5, false)⟩,
  ⟨some 10, .op (.bin .eql .prim), [.t 9, .c (.str [])], some (5, false)⟩,
  ⟨some 11, .op (.pick), [.t 5, .c (.bool true), .t 10], none⟩]
abbrev r44_2 : List IOp := [⟨some 2, .op (.mov), [.c (.int .i64 0)], none⟩]
abbrev r44_3 : List IOp := [⟨some 12, .op (.mov), [.t 0], none⟩,
  ⟨some 13, .op (.nilchk), [.t 12], none⟩,
  ⟨some 14, .op (.faddr 0), [.t 13], none⟩,
  ⟨some 15, .op (.load none), [.t 14], none⟩,
  ⟨some 16, .op (.len .str), [.t 15], none⟩,
  ⟨some 17, .op (.bin .add .prim), [.t 16, .c (.int .i64 1)], none⟩,
  ⟨some 2, .op (.mov), [.t 17], none⟩]
abbrev c44 : IC := (IC.seq (IC.reg r44_0) (IC.seq (IC.seq (IC.reg r44_1) (IC.cond (.t 11) (IC.seq (IC.reg r44_2) IC.ret) IC.skip)) (IC.seq (IC.reg r44_3) IC.ret)))
abbrev g44 : FC := ⟨c44, 18, [.t 2]⟩
theorem comp44 : compF Go.Proofs.Try.prog (fun _ => 0) 44 = some g44 := by kernel_rfl

-- (*outlaw/nfa.Nfa).come
abbrev r45_0 : List IOp := [⟨some 6, .op (.mov), [.t 1], none⟩,
  ⟨some 7, .op (.mov), [.t 2], none⟩,
  ⟨some 8, .op (.iaddr 1), [.t 6, .t 7], none⟩,
  ⟨none, .op (.store 1), [.t 8, .c (.bool true)], none⟩]
abbrev r45_1 : List IOp := [⟨some 9, .op (.mov), [.t 2], none⟩,
  ⟨some 10, .op (.mov), [.t 0], none⟩,
  ⟨some 11, .op (.nilchk), [.t 10], none⟩,
  ⟨some 12, .op (.faddr 0), [.t 11], none⟩,
  ⟨some 13, .op (.load none), [.t 12], none⟩,
  ⟨some 14, .op (.len .str), [.t 13], none⟩,
  ⟨some 15, .op (.bin .lss .prim), [.t 9, .t 14], none⟩,
  ⟨some 16, .op (.mov), [.t 15], none⟩,
  ⟨some 17, .op (.mov), [.t 0], some (16, true)⟩,
  ⟨some 18, .op (.nilchk), [.t 17], some (16, true)⟩,
  ⟨some 19, .op (.faddr 0), [.t 18], some (16, true)⟩,
  ⟨some 20, .op (.load none), [.t 19], some (16, true)⟩,
  ⟨some 21, .op (.mov), [.t 2], some (16, true)⟩,
  ⟨some 22, .op (.idxs), [.t 20, .t 21], some (16, true)⟩,
  ⟨some 23, .op (.bin .eql .prim), [.t 22, .c (.int .u8 42)], some (16, true)⟩,
  ⟨some 24, .op (.pick), [.t 16, .t 23, .c (.bool false)], none⟩]
abbrev r45_2 : List IOp := [⟨some 28, .op (.mov), [.t 2], none⟩,
  ⟨some 29, .op (.bin .add .prim), [.t 28, .c (.int .i64 1)], none⟩,
  ⟨some 2, .op (.mov), [.t 29], none⟩]
abbrev r45_3 : List IOp := [⟨some 25, .op (.mov), [.t 1], none⟩,
  ⟨some 26, .op (.mov), [.t 2], none⟩,
  ⟨some 27, .op (.iaddr 1), [.t 25, .t 26], none⟩,
  ⟨none, .op (.store 1), [.t 27, .c (.bool true)], none⟩]
abbrev b45_0 : IC := (IC.seq (IC.seq (IC.reg r45_1) (IC.cond (.t 24) IC.skip (IC.exit 0))) (IC.seq (IC.block 1 (IC.reg r45_2)) (IC.reg r45_3)))
abbrev c45 : IC := (IC.seq (IC.reg r45_0) (IC.block 0 (IC.loop b45_0)))
abbrev g45 : FC := ⟨c45, 30, []⟩
theorem comp45 : compF Go.Proofs.Try.prog (fun _ => 0) 45 = some g45 := by kernel_rfl

-- (outlaw/nfa.row).all
abbrev r46_0 : List IOp := [⟨some 1, .op (.box 75), [.t 0], none⟩,
  ⟨some 2, .op (.mov), [.c (.nilf)], none⟩]
abbrev r46_1 : List IOp := [⟨some 3, .op (.mkfn 63), [.t 1], none⟩,
  ⟨some 2, .op (.mov), [.t 3], none⟩]
abbrev c46 : IC := (IC.seq (IC.reg r46_0) (IC.seq (IC.reg r46_1) IC.ret))
abbrev g46 : FC := ⟨c46, 4, [.t 2]⟩
theorem comp46 : compF Go.Proofs.Try.prog (fun _ => 0) 46 = some g46 := by kernel_rfl

-- unicode/utf8.RuneCount
abbrev r47_0 : List IOp := [⟨some 2, .op (.mov), [.c (.int .i64 0)], none⟩]
abbrev r47_1 : List IOp := [⟨some 6, .op (.mov), [.t 0], none⟩,
  ⟨some 7, .op (.len .slice), [.t 6], none⟩,
  ⟨some 3, .op (.mov), [.t 7], none⟩]
abbrev r47_2 : List IOp := [⟨some 4, .op (.mov), [.c (.int .i64 0)], none⟩]
abbrev r47_3 : List IOp := [⟨some 8, .op (.mov), [.t 4], none⟩,
  ⟨some 9, .op (.mov), [.t 3], none⟩,
  ⟨some 10, .op (.bin .lss .prim), [.t 8, .t 9], none⟩]
abbrev r47_4 : List IOp := [⟨some 13, .op (.mov), [.t 0], none⟩,
  ⟨some 14, .op (.mov), [.t 4], none⟩,
  ⟨some 15, .op (.iaddr 1), [.t 13, .t 14], none⟩,
  ⟨some 16, .op (.load none), [.t 15], none⟩,
  ⟨some 5, .op (.mov), [.t 16], none⟩]
abbrev r47_5 : List IOp := [⟨some 17, .op (.mov), [.t 5], none⟩,
  ⟨some 18, .op (.bin .geq .prim), [.t 17, .c (.int .u8 128)], none⟩]
abbrev r47_6 : List IOp := [⟨some 19, .op (.mov), [.t 4], none⟩,
  ⟨some 20, .op (.mov), [.t 0], none⟩,
  ⟨some 21, .op (.mov), [.t 4], none⟩,
  ⟨some 22, .op (.slice 1 true false false), [.t 20, .t 21], none⟩,
  ⟨some 23, .op (.b2s), [.t 22], none⟩,
  ⟨some 24, .call none, [.f 64, .t 23], none⟩,
  ⟨some 25, .op (.bin .add .prim), [.t 19, .t 24], none⟩,
  ⟨some 2, .op (.mov), [.t 25], none⟩]
abbrev r47_7 : List IOp := [⟨some 11, .op (.mov), [.t 4], none⟩,
  ⟨some 12, .op (.bin .add .prim), [.t 11, .c (.int .i64 1)], none⟩,
  ⟨some 4, .op (.mov), [.t 12], none⟩]
abbrev b47_0 : IC := (IC.seq (IC.seq (IC.reg r47_3) (IC.cond (.t 10) IC.skip (IC.exit 0))) (IC.seq (IC.block 1 (IC.seq (IC.reg r47_4) (IC.seq (IC.reg r47_5) (IC.cond (.t 18) (IC.seq (IC.reg r47_6) IC.ret) IC.skip)))) (IC.reg r47_7)))
abbrev r47_8 : List IOp := [⟨some 26, .op (.mov), [.t 4], none⟩,
  ⟨some 2, .op (.mov), [.t 26], none⟩]
abbrev c47 : IC := (IC.seq (IC.reg r47_0) (IC.seq (IC.reg r47_1) (IC.seq (IC.reg r47_2) (IC.seq (IC.block 0 (IC.loop b47_0)) (IC.seq (IC.reg r47_8) IC.ret)))))
abbrev g47 : FC := ⟨c47, 27, [.t 2]⟩
theorem comp47 : compF Go.Proofs.Try.prog (fun _ => 0) 47 = some g47 := by kernel_rfl


-- bytes.Index
abbrev r49_0 : List IOp := [⟨some 4, .op (.mov), [.c (.int .i64 0)], none⟩]
abbrev r49_1 : List IOp := [⟨some 20, .op (.mov), [.t 1], none⟩,
  ⟨some 21, .op (.len .slice), [.t 20], none⟩,
  ⟨some 5, .op (.mov), [.t 21], none⟩]
abbrev r49_2 : List IOp := [⟨some 23, .op (.mov), [.t 5], none⟩,
  ⟨some 24, .op (.bin .eql .prim), [.t 23, .c (.int .i64 0)], none⟩,
  ⟨some 22, .op (.mov), [.t 24], none⟩]
abbrev r49_3 : List IOp := [⟨some 4, .op (.mov), [.c (.int .i64 0)], none⟩]
abbrev r49_4 : List IOp := [⟨some 26, .op (.mov), [.t 5], none⟩,
  ⟨some 27, .op (.bin .eql .prim), [.t 26, .c (.int .i64 1)], none⟩,
  ⟨some 25, .op (.mov), [.t 27], none⟩]
abbrev r49_5 : List IOp := [⟨some 28, .op (.mov), [.t 0], none⟩,
  ⟨some 29, .op (.mov), [.t 1], none⟩,
  ⟨some 30, .op (.iaddr 1), [.t 29, .c (.int .i64 0)], none⟩,
  ⟨some 31, .op (.load none), [.t 30], none⟩,
  ⟨some 32, .call none, [.f 65, .t 28, .t 31], none⟩,
  ⟨some 4, .op (.mov), [.t 32], none⟩]
abbrev r49_6 : List IOp := [⟨some 34, .op (.mov), [.t 5], none⟩,
  ⟨some 35, .op (.mov), [.t 0], none⟩,
  ⟨some 36, .op (.len .slice), [.t 35], none⟩,
  ⟨some 37, .op (.bin .eql .prim), [.t 34, .t 36], none⟩,
  ⟨some 33, .op (.mov), [.t 37], none⟩]
abbrev r49_7 : List IOp := [⟨some 38, .op (.mov), [.t 1], none⟩,
  ⟨some 39, .op (.mov), [.t 0], none⟩,
  ⟨some 40, .call none, [.f 66, .t 38, .t 39], none⟩]
abbrev r49_8 : List IOp := [⟨some 4, .op (.mov), [.c (.int .i64 0)], none⟩]
abbrev r49_9 : List IOp := [⟨some 4, .op (.mov), [.c (.int .i64 (-1))], none⟩]
abbrev r49_10 : List IOp := [⟨some 42, .op (.mov), [.t 5], none⟩,
  ⟨some 43, .op (.mov), [.t 0], none⟩,
  ⟨some 44, .op (.len .slice), [.t 43], none⟩,
  ⟨some 45, .op (.bin .gtr .prim), [.t 42, .t 44], none⟩,
  ⟨some 41, .op (.mov), [.t 45], none⟩]
abbrev r49_11 : List IOp := [⟨some 4, .op (.mov), [.c (.int .i64 (-1))], none⟩]
abbrev r49_12 : List IOp := [⟨some 47, .op (.mov), [.t 5], none⟩,
  ⟨some 48, .op (.never), [], none⟩,
  ⟨some 49, .op (.bin .leq .prim), [.t 47, .t 48], none⟩,
  ⟨some 46, .op (.mov), [.t 49], none⟩]
abbrev r49_13 : List IOp := [⟨some 50, .op (.mov), [.t 0], none⟩,
  ⟨some 51, .op (.len .slice), [.t 50], none⟩,
  ⟨some 52, .op (.bin .leq .prim), [.t 51, .c (.int .i64 64)], none⟩]
abbrev r49_14 : List IOp := [⟨some 53, .op (.mov), [.t 0], none⟩,
  ⟨some 54, .op (.mov), [.t 1], none⟩,
  ⟨some 55, .call none, [.f 67, .t 53, .t 54], none⟩,
  ⟨some 4, .op (.mov), [.t 55], none⟩]
abbrev r49_15 : List IOp := [⟨some 56, .op (.mov), [.t 1], none⟩,
  ⟨some 57, .op (.iaddr 1), [.t 56, .c (.int .i64 0)], none⟩,
  ⟨some 58, .op (.load none), [.t 57], none⟩,
  ⟨some 6, .op (.mov), [.t 58], none⟩]
abbrev r49_16 : List IOp := [⟨some 59, .op (.mov), [.t 1], none⟩,
  ⟨some 60, .op (.iaddr 1), [.t 59, .c (.int .i64 1)], none⟩,
  ⟨some 61, .op (.load none), [.t 60], none⟩,
  ⟨some 7, .op (.mov), [.t 61], none⟩]
abbrev r49_17 : List IOp := [⟨some 8, .op (.mov), [.c (.int .i64 0)], none⟩]
abbrev r49_18 : List IOp := [⟨some 62, .op (.mov), [.t 0], none⟩,
  ⟨some 63, .op (.len .slice), [.t 62], none⟩,
  ⟨some 64, .op (.mov), [.t 5], none⟩,
  ⟨some 65, .op (.bin .sub .prim), [.t 63, .t 64], none⟩,
  ⟨some 66, .op (.bin .add .prim), [.t 65, .c (.int .i64 1)], none⟩,
  ⟨some 9, .op (.mov), [.t 66], none⟩]
abbrev r49_19 : List IOp := [⟨some 10, .op (.mov), [.c (.int .i64 0)], none⟩]
abbrev r49_20 : List IOp := [⟨some 67, .op (.mov), [.t 8], none⟩,
  ⟨some 68, .op (.mov), [.t 9], none⟩,
  ⟨some 69, .op (.bin .lss .prim), [.t 67, .t 68], none⟩]
abbrev r49_21 : List IOp := [⟨some 70, .op (.mov), [.t 0], none⟩,
  ⟨some 71, .op (.mov), [.t 8], none⟩,
  ⟨some 72, .op (.iaddr 1), [.t 70, .t 71], none⟩,
  ⟨some 73, .op (.load none), [.t 72], none⟩,
  ⟨some 74, .op (.mov), [.t 6], none⟩,
  ⟨some 75, .op (.bin .neq .prim), [.t 73, .t 74], none⟩]
abbrev r49_22 : List IOp := [⟨some 76, .op (.mov), [.t 0], none⟩,
  ⟨some 77, .op (.mov), [.t 8], none⟩,
  ⟨some 78, .op (.bin .add .prim), [.t 77, .c (.int .i64 1)], none⟩,
  ⟨some 79, .op (.mov), [.t 9], none⟩,
  ⟨some 80, .op (.slice 1 true true false), [.t 76, .t 78, .t 79], none⟩,
  ⟨some 81, .op (.mov), [.t 6], none⟩,
  ⟨some 82, .call none, [.f 65, .t 80, .t 81], none⟩,
  ⟨some 11, .op (.mov), [.t 82], none⟩]
abbrev r49_23 : List IOp := [⟨some 83, .op (.mov), [.t 11], none⟩,
  ⟨some 84, .op (.bin .lss .prim), [.t 83, .c (.int .i64 0)], none⟩]
abbrev r49_24 : List IOp := [⟨some 4, .op (.mov), [.c (.int .i64 (-1))], none⟩]
abbrev r49_25 : List IOp := [⟨some 85, .op (.mov), [.t 8], none⟩,
  ⟨some 86, .op (.mov), [.t 11], none⟩,
  ⟨some 87, .op (.bin .add .prim), [.t 86, .c (.int .i64 1)], none⟩,
  ⟨some 88, .op (.bin .add .prim), [.t 85, .t 87], none⟩,
  ⟨some 8, .op (.mov), [.t 88], none⟩]
abbrev r49_26 : List IOp := [⟨some 89, .op (.mov), [.t 0], none⟩,
  ⟨some 90, .op (.mov), [.t 8], none⟩,
  ⟨some 91, .op (.bin .add .prim), [.t 90, .c (.int .i64 1)], none⟩,
  ⟨some 92, .op (.iaddr 1), [.t 89, .t 91], none⟩,
  ⟨some 93, .op (.load none), [.t 92], none⟩,
  ⟨some 94, .op (.mov), [.t 7], none⟩,
  ⟨some 95, .op (.bin .eql .prim), [.t 93, .t 94], none⟩,
  ⟨some 96, .op (.mov), [.t 95], none⟩,
  ⟨some 97, .op (.mov), [.t 0], some (96, true)⟩,
  ⟨some 98, .op (.mov), [.t 8], some (96, true)⟩,
  ⟨some 99, .op (.mov), [.t 8], some (96, true)⟩,
  ⟨some 100, .op (.mov), [.t 5], some (96, true)⟩,
  ⟨some 101, .op (.bin .add .prim), [.t 99, .t 100], some (96, true)⟩,
  ⟨some 102, .op (.slice 1 true true false), [.t 97, .t 98, .t 101], some (96, true)⟩,
  ⟨some 103, .op (.mov), [.t 1], some (96, true)⟩,
  ⟨some 104, .call none, [.f 66, .t 102, .t 103], some (96, true)⟩,
  ⟨some 105, .op (.pick), [.t 96, .t 104, .c (.bool false)], none⟩]
abbrev r49_27 : List IOp := [⟨some 106, .op (.mov), [.t 8], none⟩,
  ⟨some 4, .op (.mov), [.t 106], none⟩]
abbrev r49_28 : List IOp := [⟨some 107, .op (.mov), [.t 10], none⟩,
  ⟨some 108, .op (.bin .add .prim), [.t 107, .c (.int .i64 1)], none⟩,
  ⟨some 10, .op (.mov), [.t 108], none⟩]
abbrev r49_29 : List IOp := [⟨some 109, .op (.mov), [.t 8], none⟩,
  ⟨some 110, .op (.bin .add .prim), [.t 109, .c (.int .i64 1)], none⟩,
  ⟨some 8, .op (.mov), [.t 110], none⟩]
abbrev r49_30 : List IOp := [⟨some 111, .op (.mov), [.t 10], none⟩,
  ⟨some 112, .op (.mov), [.t 8], none⟩,
  ⟨some 113, .call none, [.f 68, .t 112], none⟩,
  ⟨some 114, .op (.bin .gtr .prim), [.t 111, .t 113], none⟩]
abbrev r49_31 : List IOp := [⟨some 115, .op (.mov), [.t 0], none⟩,
  ⟨some 116, .op (.mov), [.t 8], none⟩,
  ⟨some 117, .op (.slice 1 true false false), [.t 115, .t 116], none⟩,
  ⟨some 118, .op (.mov), [.t 1], none⟩,
  ⟨some 119, .call none, [.f 67, .t 117, .t 118], none⟩,
  ⟨some 12, .op (.mov), [.t 119], none⟩]
abbrev r49_32 : List IOp := [⟨some 120, .op (.mov), [.t 12], none⟩,
  ⟨some 121, .op (.bin .geq .prim), [.t 120, .c (.int .i64 0)], none⟩]
abbrev r49_33 : List IOp := [⟨some 122, .op (.mov), [.t 12], none⟩,
  ⟨some 123, .op (.mov), [.t 8], none⟩,
  ⟨some 124, .op (.bin .add .prim), [.t 122, .t 123], none⟩,
  ⟨some 4, .op (.mov), [.t 124], none⟩]
abbrev r49_34 : List IOp := [⟨some 4, .op (.mov), [.c (.int .i64 (-1))], none⟩]
abbrev b49_0 : IC := (IC.seq (IC.seq (IC.reg r49_20) (IC.cond (.t 69) IC.skip (IC.exit 1))) (IC.block 2 (IC.seq (IC.seq (IC.reg r49_21) (IC.cond (.t 75) (IC.seq (IC.reg r49_22) (IC.seq (IC.seq (IC.reg r49_23) (IC.cond (.t 84) (IC.seq (IC.reg r49_24) IC.ret) IC.skip)) (IC.reg r49_25))) IC.skip)) (IC.seq (IC.seq (IC.reg r49_26) (IC.cond (.t 105) (IC.seq (IC.reg r49_27) IC.ret) IC.skip)) (IC.seq (IC.reg r49_28) (IC.seq (IC.reg r49_29) (IC.seq (IC.reg r49_30) (IC.cond (.t 114) (IC.seq (IC.reg r49_31) (IC.seq (IC.seq (IC.reg r49_32) (IC.cond (.t 121) (IC.seq (IC.reg r49_33) IC.ret) IC.skip)) (IC.seq (IC.reg r49_34) IC.ret))) IC.skip))))))))
abbrev r49_35 : List IOp := [⟨some 4, .op (.mov), [.c (.int .i64 (-1))], none⟩]
abbrev r49_36 : List IOp := [⟨some 125, .op (.mov), [.t 1], none⟩,
  ⟨some 126, .op (.iaddr 1), [.t 125, .c (.int .i64 0)], none⟩,
  ⟨some 127, .op (.load none), [.t 126], none⟩,
  ⟨some 13, .op (.mov), [.t 127], none⟩]
abbrev r49_37 : List IOp := [⟨some 128, .op (.mov), [.t 1], none⟩,
  ⟨some 129, .op (.iaddr 1), [.t 128, .c (.int .i64 1)], none⟩,
  ⟨some 130, .op (.load none), [.t 129], none⟩,
  ⟨some 14, .op (.mov), [.t 130], none⟩]
abbrev r49_38 : List IOp := [⟨some 15, .op (.mov), [.c (.int .i64 0)], none⟩]
abbrev r49_39 : List IOp := [⟨some 16, .op (.mov), [.c (.int .i64 0)], none⟩]
abbrev r49_40 : List IOp := [⟨some 131, .op (.mov), [.t 0], none⟩,
  ⟨some 132, .op (.len .slice), [.t 131], none⟩,
  ⟨some 133, .op (.mov), [.t 5], none⟩,
  ⟨some 134, .op (.bin .sub .prim), [.t 132, .t 133], none⟩,
  ⟨some 135, .op (.bin .add .prim), [.t 134, .c (.int .i64 1)], none⟩,
  ⟨some 17, .op (.mov), [.t 135], none⟩]
abbrev r49_41 : List IOp := [⟨some 136, .op (.mov), [.t 15], none⟩,
  ⟨some 137, .op (.mov), [.t 17], none⟩,
  ⟨some 138, .op (.bin .lss .prim), [.t 136, .t 137], none⟩]
abbrev r49_42 : List IOp := [⟨some 139, .op (.mov), [.t 0], none⟩,
  ⟨some 140, .op (.mov), [.t 15], none⟩,
  ⟨some 141, .op (.iaddr 1), [.t 139, .t 140], none⟩,
  ⟨some 142, .op (.load none), [.t 141], none⟩,
  ⟨some 143, .op (.mov), [.t 13], none⟩,
  ⟨some 144, .op (.bin .neq .prim), [.t 142, .t 143], none⟩]
abbrev r49_43 : List IOp := [⟨some 145, .op (.mov), [.t 0], none⟩,
  ⟨some 146, .op (.mov), [.t 15], none⟩,
  ⟨some 147, .op (.bin .add .prim), [.t 146, .c (.int .i64 1)], none⟩,
  ⟨some 148, .op (.mov), [.t 17], none⟩,
  ⟨some 149, .op (.slice 1 true true false), [.t 145, .t 147, .t 148], none⟩,
  ⟨some 150, .op (.mov), [.t 13], none⟩,
  ⟨some 151, .call none, [.f 65, .t 149, .t 150], none⟩,
  ⟨some 18, .op (.mov), [.t 151], none⟩]
abbrev r49_44 : List IOp := [⟨some 152, .op (.mov), [.t 18], none⟩,
  ⟨some 153, .op (.bin .lss .prim), [.t 152, .c (.int .i64 0)], none⟩]
abbrev r49_45 : List IOp := [⟨some 154, .op (.mov), [.t 15], none⟩,
  ⟨some 155, .op (.mov), [.t 18], none⟩,
  ⟨some 156, .op (.bin .add .prim), [.t 155, .c (.int .i64 1)], none⟩,
  ⟨some 157, .op (.bin .add .prim), [.t 154, .t 156], none⟩,
  ⟨some 15, .op (.mov), [.t 157], none⟩]
abbrev r49_46 : List IOp := [⟨some 158, .op (.mov), [.t 0], none⟩,
  ⟨some 159, .op (.mov), [.t 15], none⟩,
  ⟨some 160, .op (.bin .add .prim), [.t 159, .c (.int .i64 1)], none⟩,
  ⟨some 161, .op (.iaddr 1), [.t 158, .t 160], none⟩,
  ⟨some 162, .op (.load none), [.t 161], none⟩,
  ⟨some 163, .op (.mov), [.t 14], none⟩,
  ⟨some 164, .op (.bin .eql .prim), [.t 162, .t 163], none⟩,
  ⟨some 165, .op (.mov), [.t 164], none⟩,
  ⟨some 166, .op (.mov), [.t 0], some (165, true)⟩,
  ⟨some 167, .op (.mov), [.t 15], some (165, true)⟩,
  ⟨some 168, .op (.mov), [.t 15], some (165, true)⟩,
  ⟨some 169, .op (.mov), [.t 5], some (165, true)⟩,
  ⟨some 170, .op (.bin .add .prim), [.t 168, .t 169], some (165, true)⟩,
  ⟨some 171, .op (.slice 1 true true false), [.t 166, .t 167, .t 170], some (165, true)⟩,
  ⟨some 172, .op (.mov), [.t 1], some (165, true)⟩,
  ⟨some 173, .call none, [.f 66, .t 171, .t 172], some (165, true)⟩,
  ⟨some 174, .op (.pick), [.t 165, .t 173, .c (.bool false)], none⟩]
abbrev r49_47 : List IOp := [⟨some 175, .op (.mov), [.t 15], none⟩,
  ⟨some 4, .op (.mov), [.t 175], none⟩]
abbrev r49_48 : List IOp := [⟨some 176, .op (.mov), [.t 15], none⟩,
  ⟨some 177, .op (.bin .add .prim), [.t 176, .c (.int .i64 1)], none⟩,
  ⟨some 15, .op (.mov), [.t 177], none⟩]
abbrev r49_49 : List IOp := [⟨some 178, .op (.mov), [.t 16], none⟩,
  ⟨some 179, .op (.bin .add .prim), [.t 178, .c (.int .i64 1)], none⟩,
  ⟨some 16, .op (.mov), [.t 179], none⟩]
abbrev r49_50 : List IOp := [⟨some 180, .op (.mov), [.t 16], none⟩,
  ⟨some 181, .op (.mov), [.t 15], none⟩,
  ⟨some 182, .op (.bin .shr .prim), [.t 181, .c (.int .u64 4)], none⟩,
  ⟨some 183, .op (.bin .add .prim), [.c (.int .i64 4), .t 182], none⟩,
  ⟨some 184, .op (.bin .geq .prim), [.t 180, .t 183], none⟩,
  ⟨some 185, .op (.mov), [.t 184], none⟩,
  ⟨some 186, .op (.mov), [.t 15], some (185, true)⟩,
  ⟨some 187, .op (.mov), [.t 17], some (185, true)⟩,
  ⟨some 188, .op (.bin .lss .prim), [.t 186, .t 187], some (185, true)⟩,
  ⟨some 189, .op (.pick), [.t 185, .t 188, .c (.bool false)], none⟩]
abbrev r49_51 : List IOp := [⟨some 190, .op (.mov), [.t 0], none⟩,
  ⟨some 191, .op (.mov), [.t 15], none⟩,
  ⟨some 192, .op (.slice 1 true false false), [.t 190, .t 191], none⟩,
  ⟨some 193, .op (.mov), [.t 1], none⟩,
  ⟨some 194, .call none, [.f 69, .t 192, .t 193], none⟩,
  ⟨some 19, .op (.mov), [.t 194], none⟩]
abbrev r49_52 : List IOp := [⟨some 195, .op (.mov), [.t 19], none⟩,
  ⟨some 196, .op (.bin .lss .prim), [.t 195, .c (.int .i64 0)], none⟩]
abbrev r49_53 : List IOp := [⟨some 4, .op (.mov), [.c (.int .i64 (-1))], none⟩]
abbrev r49_54 : List IOp := [⟨some 197, .op (.mov), [.t 15], none⟩,
  ⟨some 198, .op (.mov), [.t 19], none⟩,
  ⟨some 199, .op (.bin .add .prim), [.t 197, .t 198], none⟩,
  ⟨some 4, .op (.mov), [.t 199], none⟩]
abbrev b49_1 : IC := (IC.seq (IC.seq (IC.reg r49_41) (IC.cond (.t 138) IC.skip (IC.exit 3))) (IC.block 4 (IC.seq (IC.seq (IC.reg r49_42) (IC.cond (.t 144) (IC.seq (IC.reg r49_43) (IC.seq (IC.seq (IC.reg r49_44) (IC.cond (.t 153) (IC.exit 3) IC.skip)) (IC.reg r49_45))) IC.skip)) (IC.seq (IC.seq (IC.reg r49_46) (IC.cond (.t 174) (IC.seq (IC.reg r49_47) IC.ret) IC.skip)) (IC.seq (IC.reg r49_48) (IC.seq (IC.reg r49_49) (IC.seq (IC.reg r49_50) (IC.cond (.t 189) (IC.seq (IC.reg r49_51) (IC.seq (IC.seq (IC.reg r49_52) (IC.cond (.t 196) (IC.seq (IC.reg r49_53) IC.ret) IC.skip)) (IC.seq (IC.reg r49_54) IC.ret))) IC.skip))))))))
abbrev r49_55 : List IOp := [⟨some 4, .op (.mov), [.c (.int .i64 (-1))], none⟩]
abbrev c49 : IC := (IC.seq (IC.reg r49_0) (IC.seq (IC.reg r49_1) (IC.seq (IC.block 0 (IC.seq (IC.reg r49_2) (IC.cond (.t 22) (IC.seq (IC.reg r49_3) IC.ret) (IC.seq (IC.reg r49_4) (IC.cond (.t 25) (IC.seq (IC.reg r49_5) IC.ret) (IC.seq (IC.reg r49_6) (IC.cond (.t 33) (IC.seq (IC.seq (IC.reg r49_7) (IC.cond (.t 40) (IC.seq (IC.reg r49_8) IC.ret) IC.skip)) (IC.seq (IC.reg r49_9) IC.ret)) (IC.seq (IC.reg r49_10) (IC.cond (.t 41) (IC.seq (IC.reg r49_11) IC.ret) (IC.seq (IC.reg r49_12) (IC.cond (.t 46) (IC.seq (IC.seq (IC.reg r49_13) (IC.cond (.t 52) (IC.seq (IC.reg r49_14) IC.ret) IC.skip)) (IC.seq (IC.reg r49_15) (IC.seq (IC.reg r49_16) (IC.seq (IC.reg r49_17) (IC.seq (IC.reg r49_18) (IC.seq (IC.reg r49_19) (IC.seq (IC.block 1 (IC.loop b49_0)) (IC.seq (IC.reg r49_35) IC.ret)))))))) IC.skip))))))))))) (IC.seq (IC.reg r49_36) (IC.seq (IC.reg r49_37) (IC.seq (IC.reg r49_38) (IC.seq (IC.reg r49_39) (IC.seq (IC.reg r49_40) (IC.seq (IC.block 3 (IC.loop b49_1)) (IC.seq (IC.reg r49_55) IC.ret))))))))))
abbrev g49 : FC := ⟨c49, 200, [.t 4]⟩
theorem comp49 : compF Go.Proofs.Try.prog (fun _ => 0) 49 = some g49 := by kernel_rfl

-- math/bits.Mul
abbrev r50_0 : List IOp := [⟨some 4, .op (.mov), [.c (.int .u64 0)], none⟩,
  ⟨some 5, .op (.mov), [.c (.int .u64 0)], none⟩]
abbrev r50_1 : List IOp := [⟨some 11, .op (.mov), [.t 0], none⟩,
  ⟨some 12, .op (.toInt .u32), [.t 11], none⟩,
  ⟨some 13, .op (.mov), [.t 1], none⟩,
  ⟨some 14, .op (.toInt .u32), [.t 13], none⟩,
  ⟨some 15, .call none, [.f 70, .t 12, .t 14], none⟩,
  ⟨some 10, .op (.mov), [.t 15], none⟩,
  ⟨some 16, .op (.extract 0), [.t 10], none⟩,
  ⟨some 17, .op (.extract 1), [.t 10], none⟩,
  ⟨some 6, .op (.mov), [.t 16], none⟩,
  ⟨some 7, .op (.mov), [.t 17], none⟩]
abbrev r50_2 : List IOp := [⟨some 18, .op (.mov), [.t 6], none⟩,
  ⟨some 19, .op (.toInt .u64), [.t 18], none⟩,
  ⟨some 20, .op (.mov), [.t 7], none⟩,
  ⟨some 21, .op (.toInt .u64), [.t 20], none⟩,
  ⟨some 4, .op (.mov), [.t 19], none⟩,
  ⟨some 5, .op (.mov), [.t 21], none⟩]
abbrev r50_3 : List IOp := [⟨some 23, .op (.mov), [.t 0], none⟩,
  ⟨some 24, .op (.mov), [.t 1], none⟩,
  ⟨some 25, .call none, [.f 71, .t 23, .t 24], none⟩,
  ⟨some 22, .op (.mov), [.t 25], none⟩,
  ⟨some 26, .op (.extract 0), [.t 22], none⟩,
  ⟨some 27, .op (.extract 1), [.t 22], none⟩,
  ⟨some 8, .op (.mov), [.t 26], none⟩,
  ⟨some 9, .op (.mov), [.t 27], none⟩]
abbrev r50_4 : List IOp := [⟨some 28, .op (.mov), [.t 8], none⟩,
  ⟨some 29, .op (.mov), [.t 9], none⟩,
  ⟨some 4, .op (.mov), [.t 28], none⟩,
  ⟨some 5, .op (.mov), [.t 29], none⟩]
abbrev c50 : IC := (IC.seq (IC.reg r50_0) (IC.seq (IC.cond (.c (.bool false)) (IC.seq (IC.reg r50_1) (IC.seq (IC.reg r50_2) IC.ret)) IC.skip) (IC.seq (IC.reg r50_3) (IC.seq (IC.reg r50_4) IC.ret))))
abbrev g50 : FC := ⟨c50, 30, [.t 4, .t 5]⟩
theorem comp50 : compF Go.Proofs.Try.prog (fun _ => 0) 50 = some g50 := by kernel_rfl


-- outlaw/glob.fold
abbrev r39_0 : List IOp := [⟨some 2, .op (.mov), [.c (.int .u8 0)], none⟩]
abbrev r39_1 : List IOp := [⟨some 3, .op (.mov), [.t 0], none⟩,
  ⟨some 4, .op (.bin .geq .prim), [.t 3, .c (.int .u8 65)], none⟩,
  ⟨some 5, .op (.mov), [.t 4], none⟩,
  ⟨some 6, .op (.mov), [.t 0], some (5, true)⟩,
  ⟨some 7, .op (.bin .leq .prim), [.t 6, .c (.int .u8 90)], some (5, true)⟩,
  ⟨some 8, .op (.pick), [.t 5, .t 7, .c (.bool false)], none⟩]
abbrev r39_2 : List IOp := [⟨some 9, .op (.mov), [.t 0], none⟩,
  ⟨some 10, .op (.bin .add .prim), [.t 9, .c (.int .u8 32)], none⟩,
  ⟨some 2, .op (.mov), [.t 10], none⟩]
abbrev r39_3 : List IOp := [⟨some 11, .op (.mov), [.t 0], none⟩,
  ⟨some 2, .op (.mov), [.t 11], none⟩]
abbrev c39 : IC := (IC.seq (IC.reg r39_0) (IC.seq (IC.seq (IC.reg r39_1) (IC.cond (.t 8) (IC.seq (IC.reg r39_2) IC.ret) IC.skip)) (IC.seq (IC.reg r39_3) IC.ret)))
abbrev g39 : FC := ⟨c39, 12, [.t 2]⟩
theorem comp39 : compF Go.Proofs.Try.prog (fun _ => 0) 39 = some g39 := by kernel_rfl

-- math/bits.Len32
abbrev r60_0 : List IOp := [⟨some 2, .op (.mov), [.c (.int .i64 0)], none⟩]
abbrev r60_1 : List IOp := [⟨some 3, .op (.mov), [.t 0], none⟩,
  ⟨some 4, .op (.bin .geq .prim), [.t 3, .c (.int .u32 65536)], none⟩]
abbrev r60_2 : List IOp := [⟨some 5, .op (.mov), [.t 0], none⟩,
  ⟨some 6, .op (.bin .shr .prim), [.t 5, .c (.int .u64 16)], none⟩,
  ⟨some 0, .op (.mov), [.t 6], none⟩]
abbrev r60_3 : List IOp := [⟨some 2, .op (.mov), [.c (.int .i64 16)], none⟩]
abbrev r60_4 : List IOp := [⟨some 7, .op (.mov), [.t 0], none⟩,
  ⟨some 8, .op (.bin .geq .prim), [.t 7, .c (.int .u32 256)], none⟩]
abbrev r60_5 : List IOp := [⟨some 9, .op (.mov), [.t 0], none⟩,
  ⟨some 10, .op (.bin .shr .prim), [.t 9, .c (.int .u64 8)], none⟩,
  ⟨some 0, .op (.mov), [.t 10], none⟩]
abbrev r60_6 : List IOp := [⟨some 11, .op (.mov), [.t 2], none⟩,
  ⟨some 12, .op (.bin .add .prim), [.t 11, .c (.int .i64 8)], none⟩,
  ⟨some 2, .op (.mov), [.t 12], none⟩]
abbrev r60_7 : List IOp := [⟨some 13, .op (.mov), [.t 2], none⟩,
  ⟨some 14, .op (.mov), [.t 0], none⟩,
  ⟨some 15, .op (.toInt .u8), [.t 14], none⟩,
  ⟨some 16, .op (.idxs), [.c (.str [0, 1, 2, 2, 3, 3, 3, 3, 4, 4, 4, 4, 4, 4, 4, 4, 5, 5, 5, 5, 5, 5, 5, 5, 5, 5, 5, 5, 5, 5, 5, 5, 6, 6, 6, 6, 6, 6, 6, 6, 6, 6, 6, 6, 6, 6, 6, 6, 6, 6, 6, 6, 6, 6, 6, 6, 6, 6, 6, 6, 6, 6, 6, 6, 7, 7, 7, 7, 7, 7, 7, 7, 7, 7, 7, 7, 7, 7, 7, 7, 7, 7, 7, 7, 7, 7, 7, 7, 7, 7, 7, 7, 7, 7, 7, 7, 7, 7, 7, 7, 7, 7, 7, 7, 7, 7, 7, 7, 7, 7, 7, 7, 7, 7, 7, 7, 7, 7, 7, 7, 7, 7, 7, 7, 7, 7, 7, 7, 8, 8, 8, 8, 8, 8, 8, 8, 8, 8, 8, 8, 8, 8, 8, 8, 8, 8, 8, 8, 8, 8, 8, 8, 8, 8, 8, 8, 8, 8, 8, 8, 8, 8, 8, 8, 8, 8, 8, 8, 8, 8, 8, 8, 8, 8, 8, 8, 8, 8, 8, 8, 8, 8, 8, 8, 8, 8, 8, 8, 8, 8, 8, 8, 8, 8, 8, 8, 8, 8, 8, 8, 8, 8, 8, 8, 8, 8, 8, 8, 8, 8, 8, 8, 8, 8, 8, 8, 8, 8, 8, 8, 8, 8, 8, 8, 8, 8, 8, 8, 8, 8, 8, 8, 8, 8, 8, 8, 8, 8, 8, 8, 8, 8, 8, 8, 8, 8, 8, 8, 8, 8, 8, 8, 8, 8, 8, 8]), .t 15], none⟩,
  ⟨some 17, .op (.toInt .i64), [.t 16], none⟩,
  ⟨some 18, .op (.bin .add .prim), [.t 13, .t 17], none⟩,
  ⟨some 2, .op (.mov), [.t 18], none⟩]
abbrev c60 : IC := (IC.seq (IC.reg r60_0) (IC.seq (IC.seq (IC.reg r60_1) (IC.cond (.t 4) (IC.seq (IC.reg r60_2) (IC.reg r60_3)) IC.skip)) (IC.seq (IC.seq (IC.reg r60_4) (IC.cond (.t 8) (IC.seq (IC.reg r60_5) (IC.reg r60_6)) IC.skip)) (IC.seq (IC.reg r60_7) IC.ret))))
abbrev g60 : FC := ⟨c60, 19, [.t 2]⟩
theorem comp60 : compF Go.Proofs.Try.prog (fun _ => 0) 60 = some g60 := by kernel_rfl

-- math/bits.Len64
abbrev r61_0 : List IOp := [⟨some 2, .op (.mov), [.c (.int .i64 0)], none⟩]
abbrev r61_1 : List IOp := [⟨some 3, .op (.mov), [.t 0], none⟩,
  ⟨some 4, .op (.bin .geq .prim), [.t 3, .c (.int .u64 4294967296)], none⟩]
abbrev r61_2 : List IOp := [⟨some 5, .op (.mov), [.t 0], none⟩,
  ⟨some 6, .op (.bin .shr .prim), [.t 5, .c (.int .u64 32)], none⟩,
  ⟨some 0, .op (.mov), [.t 6], none⟩]
abbrev r61_3 : List IOp := [⟨some 2, .op (.mov), [.c (.int .i64 32)], none⟩]
abbrev r61_4 : List IOp := [⟨some 7, .op (.mov), [.t 0], none⟩,
  ⟨some 8, .op (.bin .geq .prim), [.t 7, .c (.int .u64 65536)], none⟩]
abbrev r61_5 : List IOp := [⟨some 9, .op (.mov), [.t 0], none⟩,
  ⟨some 10, .op (.bin .shr .prim), [.t 9, .c (.int .u64 16)], none⟩,
  ⟨some 0, .op (.mov), [.t 10], none⟩]
abbrev r61_6 : List IOp := [⟨some 11, .op (.mov), [.t 2], none⟩,
  ⟨some 12, .op (.bin .add .prim), [.t 11, .c (.int .i64 16)], none⟩,
  ⟨some 2, .op (.mov), [.t 12], none⟩]
abbrev r61_7 : List IOp := [⟨some 13, .op (.mov), [.t 0], none⟩,
  ⟨some 14, .op (.bin .geq .prim), [.t 13, .c (.int .u64 256)], none⟩]
abbrev r61_8 : List IOp := [⟨some 15, .op (.mov), [.t 0], none⟩,
  ⟨some 16, .op (.bin .shr .prim), [.t 15, .c (.int .u64 8)], none⟩,
  ⟨some 0, .op (.mov), [.t 16], none⟩]
abbrev r61_9 : List IOp := [⟨some 17, .op (.mov), [.t 2], none⟩,
  ⟨some 18, .op (.bin .add .prim), [.t 17, .c (.int .i64 8)], none⟩,
  ⟨some 2, .op (.mov), [.t 18], none⟩]
abbrev r61_10 : List IOp := [⟨some 19, .op (.mov), [.t 2], none⟩,
  ⟨some 20, .op (.mov), [.t 0], none⟩,
  ⟨some 21, .op (.toInt .u8), [.t 20], none⟩,
  ⟨some 22, .op (.idxs), [.c (.str [0, 1, 2, 2, 3, 3, 3, 3, 4, 4, 4, 4, 4, 4, 4, 4, 5, 5, 5, 5, 5, 5, 5, 5, 5, 5, 5, 5, 5, 5, 5, 5, 6, 6, 6, 6, 6, 6, 6, 6, 6, 6, 6, 6, 6, 6, 6, 6, 6, 6, 6, 6, 6, 6, 6, 6, 6, 6, 6, 6, 6, 6, 6, 6, 7, 7, 7, 7, 7, 7, 7, 7, 7, 7, 7, 7, 7, 7, 7, 7, 7, 7, 7, 7, 7, 7, 7, 7, 7, 7, 7, 7, 7, 7, 7, 7, 7, 7, 7, 7, 7, 7, 7, 7, 7, 7, 7, 7, 7, 7, 7, 7, 7, 7, 7, 7, 7, 7, 7, 7, 7, 7, 7, 7, 7, 7, 7, 7, 8, 8, 8, 8, 8, 8, 8, 8, 8, 8, 8, 8, 8, 8, 8, 8, 8, 8, 8, 8, 8, 8, 8, 8, 8, 8, 8, 8, 8, 8, 8, 8, 8, 8, 8, 8, 8, 8, 8, 8, 8, 8, 8, 8, 8, 8, 8, 8, 8, 8, 8, 8, 8, 8, 8, 8, 8, 8, 8, 8, 8, 8, 8, 8, 8, 8, 8, 8, 8, 8, 8, 8, 8, 8, 8, 8, 8, 8, 8, 8, 8, 8, 8, 8, 8, 8, 8, 8, 8, 8, 8, 8, 8, 8, 8, 8, 8, 8, 8, 8, 8, 8, 8, 8, 8, 8, 8, 8, 8, 8, 8, 8, 8, 8, 8, 8, 8, 8, 8, 8, 8, 8, 8, 8, 8, 8, 8, 8]), .t 21], none⟩,
  ⟨some 23, .op (.toInt .i64), [.t 22], none⟩,
  ⟨some 24, .op (.bin .add .prim), [.t 19, .t 23], none⟩,
  ⟨some 2, .op (.mov), [.t 24], none⟩]
abbrev c61 : IC := (IC.seq (IC.reg r61_0) (IC.seq (IC.seq (IC.reg r61_1) (IC.cond (.t 4) (IC.seq (IC.reg r61_2) (IC.reg r61_3)) IC.skip)) (IC.seq (IC.seq (IC.reg r61_4) (IC.cond (.t 8) (IC.seq (IC.reg r61_5) (IC.reg r61_6)) IC.skip)) (IC.seq (IC.seq (IC.reg r61_7) (IC.cond (.t 14) (IC.seq (IC.reg r61_8) (IC.reg r61_9)) IC.skip)) (IC.seq (IC.reg r61_10) IC.ret)))))
abbrev g61 : FC := ⟨c61, 25, [.t 2]⟩
theorem comp61 : compF Go.Proofs.Try.prog (fun _ => 0) 61 = some g61 := by kernel_rfl

-- slices.insertionSortOrdered[byte]
abbrev r52_0 : List IOp := [⟨some 8, .op (.mov), [.t 1], none⟩,
  ⟨some 9, .op (.bin .add .prim), [.t 8, .c (.int .i64 1)], none⟩,
  ⟨some 6, .op (.mov), [.t 9], none⟩]
abbrev r52_1 : List IOp := [⟨some 10, .op (.mov), [.t 6], none⟩,
  ⟨some 11, .op (.mov), [.t 2], none⟩,
  ⟨some 12, .op (.bin .lss .prim), [.t 10, .t 11], none⟩]
abbrev r52_2 : List IOp := [⟨some 15, .op (.mov), [.t 6], none⟩,
  ⟨some 7, .op (.mov), [.t 15], none⟩]
abbrev r52_3 : List IOp := [⟨some 16, .op (.mov), [.t 7], none⟩,
  ⟨some 17, .op (.mov), [.t 1], none⟩,
  ⟨some 18, .op (.bin .gtr .prim), [.t 16, .t 17], none⟩,
  ⟨some 19, .op (.mov), [.t 18], none⟩,
  ⟨some 20, .op (.mov), [.t 0], some (19, true)⟩,
  ⟨some 21, .op (.mov), [.t 7], some (19, true)⟩,
  ⟨some 22, .op (.iaddr 1), [.t 20, .t 21], some (19, true)⟩,
  ⟨some 23, .op (.load none), [.t 22], some (19, true)⟩,
  ⟨some 24, .op (.mov), [.t 0], some (19, true)⟩,
  ⟨some 25, .op (.mov), [.t 7], some (19, true)⟩,
  ⟨some 26, .op (.bin .sub .prim), [.t 25, .c (.int .i64 1)], some (19, true)⟩,
  ⟨some 27, .op (.iaddr 1), [.t 24, .t 26], some (19, true)⟩,
  ⟨some 28, .op (.load none), [.t 27], some (19, true)⟩,
  ⟨some 29, .call none, [.f 42, .t 23, .t 28], some (19, true)⟩,
  ⟨some 30, .op (.pick), [.t 19, .t 29, .c (.bool false)], none⟩]
abbrev r52_4 : List IOp := [⟨some 33, .op (.mov), [.t 0], none⟩,
  ⟨some 34, .op (.mov), [.t 7], none⟩,
  ⟨some 35, .op (.mov), [.t 0], none⟩,
  ⟨some 36, .op (.mov), [.t 7], none⟩,
  ⟨some 37, .op (.bin .sub .prim), [.t 36, .c (.int .i64 1)], none⟩,
  ⟨some 38, .op (.mov), [.t 0], none⟩,
  ⟨some 39, .op (.mov), [.t 7], none⟩,
  ⟨some 40, .op (.bin .sub .prim), [.t 39, .c (.int .i64 1)], none⟩,
  ⟨some 41, .op (.iaddr 1), [.t 38, .t 40], none⟩,
  ⟨some 42, .op (.load none), [.t 41], none⟩,
  ⟨some 43, .op (.mov), [.t 0], none⟩,
  ⟨some 44, .op (.mov), [.t 7], none⟩,
  ⟨some 45, .op (.iaddr 1), [.t 43, .t 44], none⟩,
  ⟨some 46, .op (.load none), [.t 45], none⟩,
  ⟨some 47, .op (.iaddr 1), [.t 33, .t 34], none⟩,
  ⟨none, .op (.store 1), [.t 47, .t 42], none⟩,
  ⟨some 48, .op (.iaddr 1), [.t 35, .t 37], none⟩,
  ⟨none, .op (.store 1), [.t 48, .t 46], none⟩]
abbrev r52_5 : List IOp := [⟨some 31, .op (.mov), [.t 7], none⟩,
  ⟨some 32, .op (.bin .sub .prim), [.t 31, .c (.int .i64 1)], none⟩,
  ⟨some 7, .op (.mov), [.t 32], none⟩]
abbrev b52_0 : IC := (IC.seq (IC.seq (IC.regD .wild r52_3 (.take 0 (.take 1 (.take 2 (.take 3 (.take 4 (.take 5 (.take 6 (.take 7 (.take 8 (.take 9 (.take 10 (.take 11 (.take 12 (.take 13 (.take 14 (.done))))))))))))))))) (IC.cond (.t 30) IC.skip (IC.exit 2))) (IC.seq (IC.block 3 (IC.regD .wild r52_4 (.take 0 (.take 1 (.take 2 (.take 3 (.take 4 (.take 5 (.take 6 (.take 7 (.take 8 (.take 9 (.take 10 (.take 11 (.take 12 (.take 13 (.take 14 (.take 15 (.take 16 (.take 17 (.done))))))))))))))))))))) (IC.reg r52_5)))
abbrev r52_6 : List IOp := [⟨some 13, .op (.mov), [.t 6], none⟩,
  ⟨some 14, .op (.bin .add .prim), [.t 13, .c (.int .i64 1)], none⟩,
  ⟨some 6, .op (.mov), [.t 14], none⟩]
abbrev b52_1 : IC := (IC.seq (IC.seq (IC.reg r52_1) (IC.cond (.t 12) IC.skip (IC.exit 0))) (IC.seq (IC.block 1 (IC.seq (IC.reg r52_2) (IC.block 2 (IC.loop b52_0)))) (IC.reg r52_6)))
abbrev c52 : IC := (IC.seq (IC.reg r52_0) (IC.block 0 (IC.loop b52_1)))
abbrev g52 : FC := ⟨c52, 49, []⟩
theorem comp52 : compF Go.Proofs.Try.prog (hintL [(4, 6), (6, 6)]) 52 = some g52 := by kernel_rfl

-- slices.heapSortOrdered[byte]
abbrev r53_0 : List IOp := [⟨some 11, .op (.mov), [.t 1], none⟩,
  ⟨some 6, .op (.mov), [.t 11], none⟩]
abbrev r53_1 : List IOp := [⟨some 7, .op (.mov), [.c (.int .i64 0)], none⟩]
abbrev r53_2 : List IOp := [⟨some 12, .op (.mov), [.t 2], none⟩,
  ⟨some 13, .op (.mov), [.t 1], none⟩,
  ⟨some 14, .op (.bin .sub .prim), [.t 12, .t 13], none⟩,
  ⟨some 8, .op (.mov), [.t 14], none⟩]
abbrev r53_3 : List IOp := [⟨some 15, .op (.mov), [.t 8], none⟩,
  ⟨some 16, .op (.bin .sub .prim), [.t 15, .c (.int .i64 1)], none⟩,
  ⟨some 17, .op (.bin .quo .prim), [.t 16, .c (.int .i64 2)], none⟩,
  ⟨some 9, .op (.mov), [.t 17], none⟩]
abbrev r53_4 : List IOp := [⟨some 18, .op (.mov), [.t 9], none⟩,
  ⟨some 19, .op (.bin .geq .prim), [.t 18, .c (.int .i64 0)], none⟩]
abbrev r53_5 : List IOp := [⟨some 22, .op (.mov), [.t 0], none⟩,
  ⟨some 23, .op (.mov), [.t 9], none⟩,
  ⟨some 24, .op (.mov), [.t 8], none⟩,
  ⟨some 25, .op (.mov), [.t 6], none⟩,
  ⟨some 26, .call none, [.f 72, .t 22, .t 23, .t 24, .t 25], none⟩]
abbrev r53_6 : List IOp := [⟨some 20, .op (.mov), [.t 9], none⟩,
  ⟨some 21, .op (.bin .sub .prim), [.t 20, .c (.int .i64 1)], none⟩,
  ⟨some 9, .op (.mov), [.t 21], none⟩]
abbrev b53_0 : IC := (IC.seq (IC.seq (IC.reg r53_4) (IC.cond (.t 19) IC.skip (IC.exit 0))) (IC.seq (IC.block 1 (IC.reg r53_5)) (IC.reg r53_6)))
abbrev r53_7 : List IOp := [⟨some 27, .op (.mov), [.t 8], none⟩,
  ⟨some 28, .op (.bin .sub .prim), [.t 27, .c (.int .i64 1)], none⟩,
  ⟨some 10, .op (.mov), [.t 28], none⟩]
abbrev r53_8 : List IOp := [⟨some 29, .op (.mov), [.t 10], none⟩,
  ⟨some 30, .op (.bin .geq .prim), [.t 29, .c (.int .i64 0)], none⟩]
abbrev r53_9 : List IOp := [⟨some 33, .op (.mov), [.t 0], none⟩,
  ⟨some 34, .op (.mov), [.t 6], none⟩,
  ⟨some 35, .op (.mov), [.t 0], none⟩,
  ⟨some 36, .op (.mov), [.t 6], none⟩,
  ⟨some 37, .op (.mov), [.t 10], none⟩,
  ⟨some 38, .op (.bin .add .prim), [.t 36, .t 37], none⟩,
  ⟨some 39, .op (.mov), [.t 0], none⟩,
  ⟨some 40, .op (.mov), [.t 6], none⟩,
  ⟨some 41, .op (.mov), [.t 10], none⟩,
  ⟨some 42, .op (.bin .add .prim), [.t 40, .t 41], none⟩,
  ⟨some 43, .op (.iaddr 1), [.t 39, .t 42], none⟩,
  ⟨some 44, .op (.load none), [.t 43], none⟩,
  ⟨some 45, .op (.mov), [.t 0], none⟩,
  ⟨some 46, .op (.mov), [.t 6], none⟩,
  ⟨some 47, .op (.iaddr 1), [.t 45, .t 46], none⟩,
  ⟨some 48, .op (.load none), [.t 47], none⟩,
  ⟨some 49, .op (.iaddr 1), [.t 33, .t 34], none⟩,
  ⟨none, .op (.store 1), [.t 49, .t 44], none⟩,
  ⟨some 50, .op (.iaddr 1), [.t 35, .t 38], none⟩,
  ⟨none, .op (.store 1), [.t 50, .t 48], none⟩]
abbrev r53_10 : List IOp := [⟨some 51, .op (.mov), [.t 0], none⟩,
  ⟨some 52, .op (.mov), [.t 7], none⟩,
  ⟨some 53, .op (.mov), [.t 10], none⟩,
  ⟨some 54, .op (.mov), [.t 6], none⟩,
  ⟨some 55, .call none, [.f 72, .t 51, .t 52, .t 53, .t 54], none⟩]
abbrev r53_11 : List IOp := [⟨some 31, .op (.mov), [.t 10], none⟩,
  ⟨some 32, .op (.bin .sub .prim), [.t 31, .c (.int .i64 1)], none⟩,
  ⟨some 10, .op (.mov), [.t 32], none⟩]
abbrev b53_1 : IC := (IC.seq (IC.seq (IC.reg r53_8) (IC.cond (.t 30) IC.skip (IC.exit 2))) (IC.seq (IC.block 3 (IC.seq (IC.regD .wild r53_9 (.take 0 (.take 1 (.take 2 (.take 3 (.take 4 (.take 5 (.take 6 (.take 7 (.take 8 (.take 9 (.take 10 (.take 11 (.take 12 (.take 13 (.take 14 (.take 15 (.take 16 (.take 17 (.take 18 (.take 19 (.done)))))))))))))))))))))) (IC.reg r53_10))) (IC.reg r53_11)))
abbrev c53 : IC := (IC.seq (IC.reg r53_0) (IC.seq (IC.reg r53_1) (IC.seq (IC.reg r53_2) (IC.seq (IC.seq (IC.reg r53_3) (IC.block 0 (IC.loop b53_0))) (IC.seq (IC.reg r53_7) (IC.block 2 (IC.loop b53_1)))))))
abbrev g53 : FC := ⟨c53, 56, []⟩
theorem comp53 : compF Go.Proofs.Try.prog (hintL [(10, 6)]) 53 = some g53 := by kernel_rfl

-- slices.breakPatternsOrdered[byte]
abbrev r54_0 : List IOp := [⟨some 11, .op (.mov), [.t 2], none⟩,
  ⟨some 12, .op (.mov), [.t 1], none⟩,
  ⟨some 13, .op (.bin .sub .prim), [.t 11, .t 12], none⟩,
  ⟨some 6, .op (.mov), [.t 13], none⟩]
abbrev r54_1 : List IOp := [⟨some 14, .op (.mov), [.t 6], none⟩,
  ⟨some 15, .op (.bin .geq .prim), [.t 14, .c (.int .i64 8)], none⟩]
abbrev r54_2 : List IOp := [⟨some 16, .op (.mov), [.t 6], none⟩,
  ⟨some 17, .op (.toInt .u64), [.t 16], none⟩,
  ⟨some 7, .op (.alloc 114 [.int .u64 0]), [], none⟩,
  ⟨none, .op (.store 1), [.t 7, .t 17], none⟩]
abbrev r54_3 : List IOp := [⟨some 18, .op (.mov), [.t 6], none⟩,
  ⟨some 19, .call none, [.f 73, .t 18], none⟩,
  ⟨some 8, .op (.mov), [.t 19], none⟩]
abbrev r54_4 : List IOp := [⟨some 20, .op (.mov), [.t 1], none⟩,
  ⟨some 21, .op (.mov), [.t 6], none⟩,
  ⟨some 22, .op (.bin .quo .prim), [.t 21, .c (.int .i64 4)], none⟩,
  ⟨some 23, .op (.bin .mul .prim), [.t 22, .c (.int .i64 2)], none⟩,
  ⟨some 24, .op (.bin .add .prim), [.t 20, .t 23], none⟩,
  ⟨some 25, .op (.bin .sub .prim), [.t 24, .c (.int .i64 1)], none⟩,
  ⟨some 9, .op (.mov), [.t 25], none⟩]
abbrev r54_5 : List IOp := [⟨some 26, .op (.mov), [.t 9], none⟩,
  ⟨some 27, .op (.mov), [.t 1], none⟩,
  ⟨some 28, .op (.mov), [.t 6], none⟩,
  ⟨some 29, .op (.bin .quo .prim), [.t 28, .c (.int .i64 4)], none⟩,
  ⟨some 30, .op (.bin .mul .prim), [.t 29, .c (.int .i64 2)], none⟩,
  ⟨some 31, .op (.bin .add .prim), [.t 27, .t 30], none⟩,
  ⟨some 32, .op (.bin .add .prim), [.t 31, .c (.int .i64 1)], none⟩,
  ⟨some 33, .op (.bin .leq .prim), [.t 26, .t 32], none⟩]
abbrev r54_6 : List IOp := [⟨some 36, .call none, [.f 74, .t 7], none⟩,
  ⟨some 37, .op (.mov), [.t 8], none⟩,
  ⟨some 38, .op (.bin .sub .prim), [.t 37, .c (.int .u64 1)], none⟩,
  ⟨some 39, .op (.bin .and .prim), [.t 36, .t 38], none⟩,
  ⟨some 40, .op (.toInt .i64), [.t 39], none⟩,
  ⟨some 10, .op (.mov), [.t 40], none⟩]
abbrev r54_7 : List IOp := [⟨some 41, .op (.mov), [.t 10], none⟩,
  ⟨some 42, .op (.mov), [.t 6], none⟩,
  ⟨some 43, .op (.bin .geq .prim), [.t 41, .t 42], none⟩]
abbrev r54_8 : List IOp := [⟨some 44, .op (.mov), [.t 10], none⟩,
  ⟨some 45, .op (.mov), [.t 6], none⟩,
  ⟨some 46, .op (.bin .sub .prim), [.t 44, .t 45], none⟩,
  ⟨some 10, .op (.mov), [.t 46], none⟩]
abbrev r54_9 : List IOp := [⟨some 47, .op (.mov), [.t 0], none⟩,
  ⟨some 48, .op (.mov), [.t 9], none⟩,
  ⟨some 49, .op (.mov), [.t 0], none⟩,
  ⟨some 50, .op (.mov), [.t 1], none⟩,
  ⟨some 51, .op (.mov), [.t 10], none⟩,
  ⟨some 52, .op (.bin .add .prim), [.t 50, .t 51], none⟩,
  ⟨some 53, .op (.mov), [.t 0], none⟩,
  ⟨some 54, .op (.mov), [.t 1], none⟩,
  ⟨some 55, .op (.mov), [.t 10], none⟩,
  ⟨some 56, .op (.bin .add .prim), [.t 54, .t 55], none⟩,
  ⟨some 57, .op (.iaddr 1), [.t 53, .t 56], none⟩,
  ⟨some 58, .op (.load none), [.t 57], none⟩,
  ⟨some 59, .op (.mov), [.t 0], none⟩,
  ⟨some 60, .op (.mov), [.t 9], none⟩,
  ⟨some 61, .op (.iaddr 1), [.t 59, .t 60], none⟩,
  ⟨some 62, .op (.load none), [.t 61], none⟩,
  ⟨some 63, .op (.iaddr 1), [.t 47, .t 48], none⟩,
  ⟨none, .op (.store 1), [.t 63, .t 58], none⟩,
  ⟨some 64, .op (.iaddr 1), [.t 49, .t 52], none⟩,
  ⟨none, .op (.store 1), [.t 64, .t 62], none⟩]
abbrev r54_10 : List IOp := [⟨some 34, .op (.mov), [.t 9], none⟩,
  ⟨some 35, .op (.bin .add .prim), [.t 34, .c (.int .i64 1)], none⟩,
  ⟨some 9, .op (.mov), [.t 35], none⟩]
abbrev b54_0 : IC := (IC.seq (IC.seq (IC.reg r54_5) (IC.cond (.t 33) IC.skip (IC.exit 0))) (IC.seq (IC.block 1 (IC.seq (IC.reg r54_6) (IC.seq (IC.seq (IC.reg r54_7) (IC.cond (.t 43) (IC.reg r54_8) IC.skip)) (IC.regD .wild r54_9 (.take 0 (.take 1 (.take 2 (.take 3 (.take 4 (.take 5 (.take 6 (.take 7 (.take 8 (.take 9 (.take 10 (.take 11 (.take 12 (.take 13 (.take 14 (.take 15 (.take 16 (.take 17 (.take 18 (.take 19 (.done))))))))))))))))))))))))) (IC.reg r54_10)))
abbrev c54 : IC := (IC.seq (IC.reg r54_0) (IC.seq (IC.reg r54_1) (IC.cond (.t 15) (IC.seq (IC.reg r54_2) (IC.seq (IC.reg r54_3) (IC.seq (IC.reg r54_4) (IC.block 0 (IC.loop b54_0))))) IC.skip)))
abbrev g54 : FC := ⟨c54, 65, []⟩
theorem comp54 : compF Go.Proofs.Try.prog (hintL [(10, 6)]) 54 = some g54 := by kernel_rfl

-- slices.choosePivotOrdered[byte]
abbrev r55_0 : List IOp := [⟨some 6, .op (.mov), [.c (.int .i64 0)], none⟩,
  ⟨some 7, .op (.mov), [.c (.int .i64 0)], none⟩]
abbrev r55_1 : List IOp := [⟨some 13, .op (.mov), [.t 2], none⟩,
  ⟨some 14, .op (.mov), [.t 1], none⟩,
  ⟨some 15, .op (.bin .sub .prim), [.t 13, .t 14], none⟩,
  ⟨some 8, .op (.mov), [.t 15], none⟩]
abbrev r55_2 : List IOp := [⟨some 9, .op (.alloc 3 [.int .i64 0]), [], none⟩]
abbrev r55_3 : List IOp := [⟨some 16, .op (.mov), [.t 1], none⟩,
  ⟨some 17, .op (.mov), [.t 8], none⟩,
  ⟨some 18, .op (.bin .quo .prim), [.t 17, .c (.int .i64 4)], none⟩,
  ⟨some 19, .op (.bin .mul .prim), [.t 18, .c (.int .i64 1)], none⟩,
  ⟨some 20, .op (.bin .add .prim), [.t 16, .t 19], none⟩,
  ⟨some 10, .op (.mov), [.t 20], none⟩]
abbrev r55_4 : List IOp := [⟨some 21, .op (.mov), [.t 1], none⟩,
  ⟨some 22, .op (.mov), [.t 8], none⟩,
  ⟨some 23, .op (.bin .quo .prim), [.t 22, .c (.int .i64 4)], none⟩,
  ⟨some 24, .op (.bin .mul .prim), [.t 23, .c (.int .i64 2)], none⟩,
  ⟨some 25, .op (.bin .add .prim), [.t 21, .t 24], none⟩,
  ⟨some 11, .op (.mov), [.t 25], none⟩]
abbrev r55_5 : List IOp := [⟨some 26, .op (.mov), [.t 1], none⟩,
  ⟨some 27, .op (.mov), [.t 8], none⟩,
  ⟨some 28, .op (.bin .quo .prim), [.t 27, .c (.int .i64 4)], none⟩,
  ⟨some 29, .op (.bin .mul .prim), [.t 28, .c (.int .i64 3)], none⟩,
  ⟨some 30, .op (.bin .add .prim), [.t 26, .t 29], none⟩,
  ⟨some 12, .op (.mov), [.t 30], none⟩]
abbrev r55_6 : List IOp := [⟨some 31, .op (.mov), [.t 8], none⟩,
  ⟨some 32, .op (.bin .geq .prim), [.t 31, .c (.int .i64 8)], none⟩]
abbrev r55_7 : List IOp := [⟨some 33, .op (.mov), [.t 8], none⟩,
  ⟨some 34, .op (.bin .geq .prim), [.t 33, .c (.int .i64 50)], none⟩]
abbrev r55_8 : List IOp := [⟨some 35, .op (.mov), [.t 0], none⟩,
  ⟨some 36, .op (.mov), [.t 10], none⟩,
  ⟨some 37, .call none, [.f 75, .t 35, .t 36, .t 9], none⟩,
  ⟨some 10, .op (.mov), [.t 37], none⟩]
abbrev r55_9 : List IOp := [⟨some 38, .op (.mov), [.t 0], none⟩,
  ⟨some 39, .op (.mov), [.t 11], none⟩,
  ⟨some 40, .call none, [.f 75, .t 38, .t 39, .t 9], none⟩,
  ⟨some 11, .op (.mov), [.t 40], none⟩]
abbrev r55_10 : List IOp := [⟨some 41, .op (.mov), [.t 0], none⟩,
  ⟨some 42, .op (.mov), [.t 12], none⟩,
  ⟨some 43, .call none, [.f 75, .t 41, .t 42, .t 9], none⟩,
  ⟨some 12, .op (.mov), [.t 43], none⟩]
abbrev r55_11 : List IOp := [⟨some 44, .op (.mov), [.t 0], none⟩,
  ⟨some 45, .op (.mov), [.t 10], none⟩,
  ⟨some 46, .op (.mov), [.t 11], none⟩,
  ⟨some 47, .op (.mov), [.t 12], none⟩,
  ⟨some 48, .call none, [.f 76, .t 44, .t 45, .t 46, .t 47, .t 9], none⟩,
  ⟨some 11, .op (.mov), [.t 48], none⟩]
abbrev r55_12 : List IOp := [⟨some 49, .op (.load none), [.t 9], none⟩]
abbrev r55_13 : List IOp := [⟨some 52, .op (.bin .eql .prim), [.t 49, .c (.int .i64 0)], none⟩,
  ⟨some 51, .op (.mov), [.t 52], none⟩]
abbrev r55_14 : List IOp := [⟨some 53, .op (.mov), [.t 11], none⟩,
  ⟨some 6, .op (.mov), [.t 53], none⟩,
  ⟨some 7, .op (.mov), [.c (.int .i64 1)], none⟩]
abbrev r55_15 : List IOp := [⟨some 55, .op (.bin .eql .prim), [.t 49, .c (.int .i64 12)], none⟩,
  ⟨some 54, .op (.mov), [.t 55], none⟩]
abbrev r55_16 : List IOp := [⟨some 56, .op (.mov), [.t 11], none⟩,
  ⟨some 6, .op (.mov), [.t 56], none⟩,
  ⟨some 7, .op (.mov), [.c (.int .i64 2)], none⟩]
abbrev r55_17 : List IOp := [⟨some 50, .op (.mov), [.t 11], none⟩,
  ⟨some 6, .op (.mov), [.t 50], none⟩,
  ⟨some 7, .op (.mov), [.c (.int .i64 0)], none⟩]
abbrev c55 : IC := (IC.seq (IC.reg r55_0) (IC.seq (IC.reg r55_1) (IC.seq (IC.reg r55_2) (IC.seq (IC.reg r55_3) (IC.seq (IC.reg r55_4) (IC.seq (IC.reg r55_5) (IC.seq (IC.seq (IC.reg r55_6) (IC.cond (.t 32) (IC.seq (IC.seq (IC.reg r55_7) (IC.cond (.t 34) (IC.seq (IC.reg r55_8) (IC.seq (IC.reg r55_9) (IC.reg r55_10))) IC.skip)) (IC.reg r55_11)) IC.skip)) (IC.seq (IC.reg r55_12) (IC.block 0 (IC.seq (IC.reg r55_13) (IC.cond (.t 51) (IC.seq (IC.reg r55_14) IC.ret) (IC.seq (IC.reg r55_15) (IC.cond (.t 54) (IC.seq (IC.reg r55_16) IC.ret) (IC.seq (IC.reg r55_17) IC.ret))))))))))))))
abbrev g55 : FC := ⟨c55, 57, [.t 6, .t 7]⟩
theorem comp55 : compF Go.Proofs.Try.prog (fun _ => 0) 55 = some g55 := by kernel_rfl

-- slices.reverseRangeOrdered[byte]
abbrev r56_0 : List IOp := [⟨some 8, .op (.mov), [.t 1], none⟩,
  ⟨some 6, .op (.mov), [.t 8], none⟩]
abbrev r56_1 : List IOp := [⟨some 9, .op (.mov), [.t 2], none⟩,
  ⟨some 10, .op (.bin .sub .prim), [.t 9, .c (.int .i64 1)], none⟩,
  ⟨some 7, .op (.mov), [.t 10], none⟩]
abbrev r56_2 : List IOp := [⟨some 11, .op (.mov), [.t 6], none⟩,
  ⟨some 12, .op (.mov), [.t 7], none⟩,
  ⟨some 13, .op (.bin .lss .prim), [.t 11, .t 12], none⟩]
abbrev r56_3 : List IOp := [⟨some 14, .op (.mov), [.t 0], none⟩,
  ⟨some 15, .op (.mov), [.t 6], none⟩,
  ⟨some 16, .op (.mov), [.t 0], none⟩,
  ⟨some 17, .op (.mov), [.t 7], none⟩,
  ⟨some 18, .op (.mov), [.t 0], none⟩,
  ⟨some 19, .op (.mov), [.t 7], none⟩,
  ⟨some 20, .op (.iaddr 1), [.t 18, .t 19], none⟩,
  ⟨some 21, .op (.load none), [.t 20], none⟩,
  ⟨some 22, .op (.mov), [.t 0], none⟩,
  ⟨some 23, .op (.mov), [.t 6], none⟩,
  ⟨some 24, .op (.iaddr 1), [.t 22, .t 23], none⟩,
  ⟨some 25, .op (.load none), [.t 24], none⟩,
  ⟨some 26, .op (.iaddr 1), [.t 14, .t 15], none⟩,
  ⟨none, .op (.store 1), [.t 26, .t 21], none⟩,
  ⟨some 27, .op (.iaddr 1), [.t 16, .t 17], none⟩,
  ⟨none, .op (.store 1), [.t 27, .t 25], none⟩]
abbrev r56_4 : List IOp := [⟨some 28, .op (.mov), [.t 6], none⟩,
  ⟨some 29, .op (.bin .add .prim), [.t 28, .c (.int .i64 1)], none⟩,
  ⟨some 6, .op (.mov), [.t 29], none⟩]
abbrev r56_5 : List IOp := [⟨some 30, .op (.mov), [.t 7], none⟩,
  ⟨some 31, .op (.bin .sub .prim), [.t 30, .c (.int .i64 1)], none⟩,
  ⟨some 7, .op (.mov), [.t 31], none⟩]
abbrev b56_0 : IC := (IC.seq (IC.seq (IC.reg r56_2) (IC.cond (.t 13) IC.skip (IC.exit 0))) (IC.block 1 (IC.seq (IC.regD .wild r56_3 (.take 0 (.take 1 (.take 2 (.take 3 (.take 4 (.take 5 (.take 6 (.take 7 (.take 8 (.take 9 (.take 10 (.take 11 (.take 12 (.take 13 (.take 14 (.take 15 (.done)))))))))))))))))) (IC.seq (IC.reg r56_4) (IC.reg r56_5)))))
abbrev c56 : IC := (IC.seq (IC.reg r56_0) (IC.seq (IC.reg r56_1) (IC.block 0 (IC.loop b56_0))))
abbrev g56 : FC := ⟨c56, 32, []⟩
theorem comp56 : compF Go.Proofs.Try.prog (hintL [(3, 6)]) 56 = some g56 := by kernel_rfl

-- slices.partialInsertionSortOrdered[byte]
abbrev r57_0 : List IOp := [⟨some 6, .op (.mov), [.c (.bool false)], none⟩]
abbrev r57_1 : List IOp := [⟨some 11, .op (.mov), [.t 1], none⟩,
  ⟨some 12, .op (.bin .add .prim), [.t 11, .c (.int .i64 1)], none⟩,
  ⟨some 7, .op (.mov), [.t 12], none⟩]
abbrev r57_2 : List IOp := [⟨some 8, .op (.mov), [.c (.int .i64 0)], none⟩]
abbrev r57_3 : List IOp := [⟨some 13, .op (.mov), [.t 8], none⟩,
  ⟨some 14, .op (.bin .lss .prim), [.t 13, .c (.int .i64 5)], none⟩]
abbrev r57_4 : List IOp := [⟨some 17, .op (.mov), [.t 7], none⟩,
  ⟨some 18, .op (.mov), [.t 2], none⟩,
  ⟨some 19, .op (.bin .lss .prim), [.t 17, .t 18], none⟩,
  ⟨some 20, .op (.mov), [.t 19], none⟩,
  ⟨some 21, .op (.mov), [.t 0], some (20, true)⟩,
  ⟨some 22, .op (.mov), [.t 7], some (20, true)⟩,
  ⟨some 23, .op (.iaddr 1), [.t 21, .t 22], some (20, true)⟩,
  ⟨some 24, .op (.load none), [.t 23], some (20, true)⟩,
  ⟨some 25, .op (.mov), [.t 0], some (20, true)⟩,
  ⟨some 26, .op (.mov), [.t 7], some (20, true)⟩,
  ⟨some 27, .op (.bin .sub .prim), [.t 26, .c (.int .i64 1)], some (20, true)⟩,
  ⟨some 28, .op (.iaddr 1), [.t 25, .t 27], some (20, true)⟩,
  ⟨some 29, .op (.load none), [.t 28], some (20, true)⟩,
  ⟨some 30, .call none, [.f 42, .t 24, .t 29], some (20, true)⟩,
  ⟨some 31, .op (.un .not), [.t 30], some (20, true)⟩,
  ⟨some 32, .op (.pick), [.t 20, .t 31, .c (.bool false)], none⟩]
abbrev r57_5 : List IOp := [⟨some 33, .op (.mov), [.t 7], none⟩,
  ⟨some 34, .op (.bin .add .prim), [.t 33, .c (.int .i64 1)], none⟩,
  ⟨some 7, .op (.mov), [.t 34], none⟩]
abbrev b57_0 : IC := (IC.seq (IC.seq (IC.regD .wild r57_4 (.take 0 (.take 1 (.take 2 (.take 3 (.take 4 (.take 5 (.take 6 (.take 7 (.take 8 (.take 9 (.take 10 (.take 11 (.take 12 (.take 13 (.take 14 (.take 15 (.done)))))))))))))))))) (IC.cond (.t 32) IC.skip (IC.exit 2))) (IC.block 3 (IC.reg r57_5)))
abbrev r57_6 : List IOp := [⟨some 35, .op (.mov), [.t 7], none⟩,
  ⟨some 36, .op (.mov), [.t 2], none⟩,
  ⟨some 37, .op (.bin .eql .prim), [.t 35, .t 36], none⟩]
abbrev r57_7 : List IOp := [⟨some 6, .op (.mov), [.c (.bool true)], none⟩]
abbrev r57_8 : List IOp := [⟨some 38, .op (.mov), [.t 2], none⟩,
  ⟨some 39, .op (.mov), [.t 1], none⟩,
  ⟨some 40, .op (.bin .sub .prim), [.t 38, .t 39], none⟩,
  ⟨some 41, .op (.bin .lss .prim), [.t 40, .c (.int .i64 50)], none⟩]
abbrev r57_9 : List IOp := [⟨some 6, .op (.mov), [.c (.bool false)], none⟩]
abbrev r57_10 : List IOp := [⟨some 42, .op (.mov), [.t 0], none⟩,
  ⟨some 43, .op (.mov), [.t 7], none⟩,
  ⟨some 44, .op (.mov), [.t 0], none⟩,
  ⟨some 45, .op (.mov), [.t 7], none⟩,
  ⟨some 46, .op (.bin .sub .prim), [.t 45, .c (.int .i64 1)], none⟩,
  ⟨some 47, .op (.mov), [.t 0], none⟩,
  ⟨some 48, .op (.mov), [.t 7], none⟩,
  ⟨some 49, .op (.bin .sub .prim), [.t 48, .c (.int .i64 1)], none⟩,
  ⟨some 50, .op (.iaddr 1), [.t 47, .t 49], none⟩,
  ⟨some 51, .op (.load none), [.t 50], none⟩,
  ⟨some 52, .op (.mov), [.t 0], none⟩,
  ⟨some 53, .op (.mov), [.t 7], none⟩,
  ⟨some 54, .op (.iaddr 1), [.t 52, .t 53], none⟩,
  ⟨some 55, .op (.load none), [.t 54], none⟩,
  ⟨some 56, .op (.iaddr 1), [.t 42, .t 43], none⟩,
  ⟨none, .op (.store 1), [.t 56, .t 51], none⟩,
  ⟨some 57, .op (.iaddr 1), [.t 44, .t 46], none⟩,
  ⟨none, .op (.store 1), [.t 57, .t 55], none⟩]
abbrev r57_11 : List IOp := [⟨some 58, .op (.mov), [.t 7], none⟩,
  ⟨some 59, .op (.mov), [.t 1], none⟩,
  ⟨some 60, .op (.bin .sub .prim), [.t 58, .t 59], none⟩,
  ⟨some 61, .op (.bin .geq .prim), [.t 60, .c (.int .i64 2)], none⟩]
abbrev r57_12 : List IOp := [⟨some 62, .op (.mov), [.t 7], none⟩,
  ⟨some 63, .op (.bin .sub .prim), [.t 62, .c (.int .i64 1)], none⟩,
  ⟨some 9, .op (.mov), [.t 63], none⟩]
abbrev r57_13 : List IOp := [⟨some 64, .op (.mov), [.t 9], none⟩,
  ⟨some 65, .op (.bin .geq .prim), [.t 64, .c (.int .i64 1)], none⟩]
abbrev r57_14 : List IOp := [⟨some 68, .op (.mov), [.t 0], none⟩,
  ⟨some 69, .op (.mov), [.t 9], none⟩,
  ⟨some 70, .op (.iaddr 1), [.t 68, .t 69], none⟩,
  ⟨some 71, .op (.load none), [.t 70], none⟩,
  ⟨some 72, .op (.mov), [.t 0], none⟩,
  ⟨some 73, .op (.mov), [.t 9], none⟩,
  ⟨some 74, .op (.bin .sub .prim), [.t 73, .c (.int .i64 1)], none⟩,
  ⟨some 75, .op (.iaddr 1), [.t 72, .t 74], none⟩,
  ⟨some 76, .op (.load none), [.t 75], none⟩,
  ⟨some 77, .call none, [.f 42, .t 71, .t 76], none⟩,
  ⟨some 78, .op (.un .not), [.t 77], none⟩]
abbrev r57_15 : List IOp := [⟨some 79, .op (.mov), [.t 0], none⟩,
  ⟨some 80, .op (.mov), [.t 9], none⟩,
  ⟨some 81, .op (.mov), [.t 0], none⟩,
  ⟨some 82, .op (.mov), [.t 9], none⟩,
  ⟨some 83, .op (.bin .sub .prim), [.t 82, .c (.int .i64 1)], none⟩,
  ⟨some 84, .op (.mov), [.t 0], none⟩,
  ⟨some 85, .op (.mov), [.t 9], none⟩,
  ⟨some 86, .op (.bin .sub .prim), [.t 85, .c (.int .i64 1)], none⟩,
  ⟨some 87, .op (.iaddr 1), [.t 84, .t 86], none⟩,
  ⟨some 88, .op (.load none), [.t 87], none⟩,
  ⟨some 89, .op (.mov), [.t 0], none⟩,
  ⟨some 90, .op (.mov), [.t 9], none⟩,
  ⟨some 91, .op (.iaddr 1), [.t 89, .t 90], none⟩,
  ⟨some 92, .op (.load none), [.t 91], none⟩,
  ⟨some 93, .op (.iaddr 1), [.t 79, .t 80], none⟩,
  ⟨none, .op (.store 1), [.t 93, .t 88], none⟩,
  ⟨some 94, .op (.iaddr 1), [.t 81, .t 83], none⟩,
  ⟨none, .op (.store 1), [.t 94, .t 92], none⟩]
abbrev r57_16 : List IOp := [⟨some 66, .op (.mov), [.t 9], none⟩,
  ⟨some 67, .op (.bin .sub .prim), [.t 66, .c (.int .i64 1)], none⟩,
  ⟨some 9, .op (.mov), [.t 67], none⟩]
abbrev b57_1 : IC := (IC.seq (IC.seq (IC.reg r57_13) (IC.cond (.t 65) IC.skip (IC.exit 4))) (IC.seq (IC.block 5 (IC.seq (IC.seq (IC.regD .wild r57_14 (.take 0 (.take 1 (.take 2 (.take 3 (.take 4 (.take 5 (.take 6 (.take 7 (.take 8 (.take 9 (.take 10 (.done))))))))))))) (IC.cond (.t 78) (IC.exit 4) IC.skip)) (IC.regD .wild r57_15 (.take 0 (.take 1 (.take 2 (.take 3 (.take 4 (.take 5 (.take 6 (.take 7 (.take 8 (.take 9 (.take 10 (.take 11 (.take 12 (.take 13 (.take 14 (.take 15 (.take 16 (.take 17 (.done)))))))))))))))))))))) (IC.reg r57_16)))
abbrev r57_17 : List IOp := [⟨some 95, .op (.mov), [.t 2], none⟩,
  ⟨some 96, .op (.mov), [.t 7], none⟩,
  ⟨some 97, .op (.bin .sub .prim), [.t 95, .t 96], none⟩,
  ⟨some 98, .op (.bin .geq .prim), [.t 97, .c (.int .i64 2)], none⟩]
abbrev r57_18 : List IOp := [⟨some 99, .op (.mov), [.t 7], none⟩,
  ⟨some 100, .op (.bin .add .prim), [.t 99, .c (.int .i64 1)], none⟩,
  ⟨some 10, .op (.mov), [.t 100], none⟩]
abbrev r57_19 : List IOp := [⟨some 101, .op (.mov), [.t 10], none⟩,
  ⟨some 102, .op (.mov), [.t 2], none⟩,
  ⟨some 103, .op (.bin .lss .prim), [.t 101, .t 102], none⟩]
abbrev r57_20 : List IOp := [⟨some 106, .op (.mov), [.t 0], none⟩,
  ⟨some 107, .op (.mov), [.t 10], none⟩,
  ⟨some 108, .op (.iaddr 1), [.t 106, .t 107], none⟩,
  ⟨some 109, .op (.load none), [.t 108], none⟩,
  ⟨some 110, .op (.mov), [.t 0], none⟩,
  ⟨some 111, .op (.mov), [.t 10], none⟩,
  ⟨some 112, .op (.bin .sub .prim), [.t 111, .c (.int .i64 1)], none⟩,
  ⟨some 113, .op (.iaddr 1), [.t 110, .t 112], none⟩,
  ⟨some 114, .op (.load none), [.t 113], none⟩,
  ⟨some 115, .call none, [.f 42, .t 109, .t 114], none⟩,
  ⟨some 116, .op (.un .not), [.t 115], none⟩]
abbrev r57_21 : List IOp := [⟨some 117, .op (.mov), [.t 0], none⟩,
  ⟨some 118, .op (.mov), [.t 10], none⟩,
  ⟨some 119, .op (.mov), [.t 0], none⟩,
  ⟨some 120, .op (.mov), [.t 10], none⟩,
  ⟨some 121, .op (.bin .sub .prim), [.t 120, .c (.int .i64 1)], none⟩,
  ⟨some 122, .op (.mov), [.t 0], none⟩,
  ⟨some 123, .op (.mov), [.t 10], none⟩,
  ⟨some 124, .op (.bin .sub .prim), [.t 123, .c (.int .i64 1)], none⟩,
  ⟨some 125, .op (.iaddr 1), [.t 122, .t 124], none⟩,
  ⟨some 126, .op (.load none), [.t 125], none⟩,
  ⟨some 127, .op (.mov), [.t 0], none⟩,
  ⟨some 128, .op (.mov), [.t 10], none⟩,
  ⟨some 129, .op (.iaddr 1), [.t 127, .t 128], none⟩,
  ⟨some 130, .op (.load none), [.t 129], none⟩,
  ⟨some 131, .op (.iaddr 1), [.t 117, .t 118], none⟩,
  ⟨none, .op (.store 1), [.t 131, .t 126], none⟩,
  ⟨some 132, .op (.iaddr 1), [.t 119, .t 121], none⟩,
  ⟨none, .op (.store 1), [.t 132, .t 130], none⟩]
abbrev r57_22 : List IOp := [⟨some 104, .op (.mov), [.t 10], none⟩,
  ⟨some 105, .op (.bin .add .prim), [.t 104, .c (.int .i64 1)], none⟩,
  ⟨some 10, .op (.mov), [.t 105], none⟩]
abbrev b57_2 : IC := (IC.seq (IC.seq (IC.reg r57_19) (IC.cond (.t 103) IC.skip (IC.exit 6))) (IC.seq (IC.block 7 (IC.seq (IC.seq (IC.regD .wild r57_20 (.take 0 (.take 1 (.take 2 (.take 3 (.take 4 (.take 5 (.take 6 (.take 7 (.take 8 (.take 9 (.take 10 (.done))))))))))))) (IC.cond (.t 116) (IC.exit 6) IC.skip)) (IC.regD .wild r57_21 (.take 0 (.take 1 (.take 2 (.take 3 (.take 4 (.take 5 (.take 6 (.take 7 (.take 8 (.take 9 (.take 10 (.take 11 (.take 12 (.take 13 (.take 14 (.take 15 (.take 16 (.take 17 (.done)))))))))))))))))))))) (IC.reg r57_22)))
abbrev r57_23 : List IOp := [⟨some 15, .op (.mov), [.t 8], none⟩,
  ⟨some 16, .op (.bin .add .prim), [.t 15, .c (.int .i64 1)], none⟩,
  ⟨some 8, .op (.mov), [.t 16], none⟩]
abbrev b57_3 : IC := (IC.seq (IC.seq (IC.reg r57_3) (IC.cond (.t 14) IC.skip (IC.exit 0))) (IC.seq (IC.block 1 (IC.seq (IC.block 2 (IC.loop b57_0)) (IC.seq (IC.seq (IC.reg r57_6) (IC.cond (.t 37) (IC.seq (IC.reg r57_7) IC.ret) IC.skip)) (IC.seq (IC.seq (IC.reg r57_8) (IC.cond (.t 41) (IC.seq (IC.reg r57_9) IC.ret) IC.skip)) (IC.seq (IC.regD .wild r57_10 (.take 0 (.take 1 (.take 2 (.take 3 (.take 4 (.take 5 (.take 6 (.take 7 (.take 8 (.take 9 (.take 10 (.take 11 (.take 12 (.take 13 (.take 14 (.take 15 (.take 16 (.take 17 (.done)))))))))))))))))))) (IC.seq (IC.seq (IC.reg r57_11) (IC.cond (.t 61) (IC.seq (IC.reg r57_12) (IC.block 4 (IC.loop b57_1))) IC.skip)) (IC.seq (IC.reg r57_17) (IC.cond (.t 98) (IC.seq (IC.reg r57_18) (IC.block 6 (IC.loop b57_2))) IC.skip)))))))) (IC.reg r57_23)))
abbrev r57_24 : List IOp := [⟨some 6, .op (.mov), [.c (.bool false)], none⟩]
abbrev c57 : IC := (IC.seq (IC.reg r57_0) (IC.seq (IC.reg r57_1) (IC.seq (IC.seq (IC.reg r57_2) (IC.block 0 (IC.loop b57_3))) (IC.seq (IC.reg r57_24) IC.ret))))
abbrev g57 : FC := ⟨c57, 133, [.t 6]⟩
theorem comp57 : compF Go.Proofs.Try.prog (hintL [(5, 6), (11, 6), (16, 6), (17, 6), (22, 6), (23, 6)]) 57 = some g57 := by kernel_rfl

-- slices.partitionEqualOrdered[byte]
abbrev r58_0 : List IOp := [⟨some 8, .op (.mov), [.c (.int .i64 0)], none⟩]
abbrev r58_1 : List IOp := [⟨some 11, .op (.mov), [.t 0], none⟩,
  ⟨some 12, .op (.mov), [.t 1], none⟩,
  ⟨some 13, .op (.mov), [.t 0], none⟩,
  ⟨some 14, .op (.mov), [.t 3], none⟩,
  ⟨some 15, .op (.mov), [.t 0], none⟩,
  ⟨some 16, .op (.mov), [.t 3], none⟩,
  ⟨some 17, .op (.iaddr 1), [.t 15, .t 16], none⟩,
  ⟨some 18, .op (.load none), [.t 17], none⟩,
  ⟨some 19, .op (.mov), [.t 0], none⟩,
  ⟨some 20, .op (.mov), [.t 1], none⟩,
  ⟨some 21, .op (.iaddr 1), [.t 19, .t 20], none⟩,
  ⟨some 22, .op (.load none), [.t 21], none⟩,
  ⟨some 23, .op (.iaddr 1), [.t 11, .t 12], none⟩,
  ⟨none, .op (.store 1), [.t 23, .t 18], none⟩,
  ⟨some 24, .op (.iaddr 1), [.t 13, .t 14], none⟩,
  ⟨none, .op (.store 1), [.t 24, .t 22], none⟩]
abbrev r58_2 : List IOp := [⟨some 25, .op (.mov), [.t 1], none⟩,
  ⟨some 26, .op (.bin .add .prim), [.t 25, .c (.int .i64 1)], none⟩,
  ⟨some 27, .op (.mov), [.t 2], none⟩,
  ⟨some 28, .op (.bin .sub .prim), [.t 27, .c (.int .i64 1)], none⟩,
  ⟨some 9, .op (.mov), [.t 26], none⟩,
  ⟨some 10, .op (.mov), [.t 28], none⟩]
abbrev r58_3 : List IOp := [⟨some 29, .op (.mov), [.t 9], none⟩,
  ⟨some 30, .op (.mov), [.t 10], none⟩,
  ⟨some 31, .op (.bin .leq .prim), [.t 29, .t 30], none⟩,
  ⟨some 32, .op (.mov), [.t 31], none⟩,
  ⟨some 33, .op (.mov), [.t 0], some (32, true)⟩,
  ⟨some 34, .op (.mov), [.t 1], some (32, true)⟩,
  ⟨some 35, .op (.iaddr 1), [.t 33, .t 34], some (32, true)⟩,
  ⟨some 36, .op (.load none), [.t 35], some (32, true)⟩,
  ⟨some 37, .op (.mov), [.t 0], some (32, true)⟩,
  ⟨some 38, .op (.mov), [.t 9], some (32, true)⟩,
  ⟨some 39, .op (.iaddr 1), [.t 37, .t 38], some (32, true)⟩,
  ⟨some 40, .op (.load none), [.t 39], some (32, true)⟩,
  ⟨some 41, .call none, [.f 42, .t 36, .t 40], some (32, true)⟩,
  ⟨some 42, .op (.un .not), [.t 41], some (32, true)⟩,
  ⟨some 43, .op (.pick), [.t 32, .t 42, .c (.bool false)], none⟩]
abbrev r58_4 : List IOp := [⟨some 44, .op (.mov), [.t 9], none⟩,
  ⟨some 45, .op (.bin .add .prim), [.t 44, .c (.int .i64 1)], none⟩,
  ⟨some 9, .op (.mov), [.t 45], none⟩]
abbrev b58_0 : IC := (IC.seq (IC.seq (IC.regD .wild r58_3 (.take 0 (.take 1 (.take 2 (.take 3 (.take 4 (.take 5 (.take 6 (.take 7 (.take 8 (.take 9 (.take 10 (.take 11 (.take 12 (.take 13 (.take 14 (.done))))))))))))))))) (IC.cond (.t 43) IC.skip (IC.exit 2))) (IC.block 3 (IC.reg r58_4)))
abbrev r58_5 : List IOp := [⟨some 46, .op (.mov), [.t 9], none⟩,
  ⟨some 47, .op (.mov), [.t 10], none⟩,
  ⟨some 48, .op (.bin .leq .prim), [.t 46, .t 47], none⟩,
  ⟨some 49, .op (.mov), [.t 48], none⟩,
  ⟨some 50, .op (.mov), [.t 0], some (49, true)⟩,
  ⟨some 51, .op (.mov), [.t 1], some (49, true)⟩,
  ⟨some 52, .op (.iaddr 1), [.t 50, .t 51], some (49, true)⟩,
  ⟨some 53, .op (.load none), [.t 52], some (49, true)⟩,
  ⟨some 54, .op (.mov), [.t 0], some (49, true)⟩,
  ⟨some 55, .op (.mov), [.t 10], some (49, true)⟩,
  ⟨some 56, .op (.iaddr 1), [.t 54, .t 55], some (49, true)⟩,
  ⟨some 57, .op (.load none), [.t 56], some (49, true)⟩,
  ⟨some 58, .call none, [.f 42, .t 53, .t 57], some (49, true)⟩,
  ⟨some 59, .op (.pick), [.t 49, .t 58, .c (.bool false)], none⟩]
abbrev r58_6 : List IOp := [⟨some 60, .op (.mov), [.t 10], none⟩,
  ⟨some 61, .op (.bin .sub .prim), [.t 60, .c (.int .i64 1)], none⟩,
  ⟨some 10, .op (.mov), [.t 61], none⟩]
abbrev b58_1 : IC := (IC.seq (IC.seq (IC.regD .wild r58_5 (.take 0 (.take 1 (.take 2 (.take 3 (.take 4 (.take 5 (.take 6 (.take 7 (.take 8 (.take 9 (.take 10 (.take 11 (.take 12 (.take 13 (.done)))))))))))))))) (IC.cond (.t 59) IC.skip (IC.exit 4))) (IC.block 5 (IC.reg r58_6)))
abbrev r58_7 : List IOp := [⟨some 62, .op (.mov), [.t 9], none⟩,
  ⟨some 63, .op (.mov), [.t 10], none⟩,
  ⟨some 64, .op (.bin .gtr .prim), [.t 62, .t 63], none⟩]
abbrev r58_8 : List IOp := [⟨some 65, .op (.mov), [.t 0], none⟩,
  ⟨some 66, .op (.mov), [.t 9], none⟩,
  ⟨some 67, .op (.mov), [.t 0], none⟩,
  ⟨some 68, .op (.mov), [.t 10], none⟩,
  ⟨some 69, .op (.mov), [.t 0], none⟩,
  ⟨some 70, .op (.mov), [.t 10], none⟩,
  ⟨some 71, .op (.iaddr 1), [.t 69, .t 70], none⟩,
  ⟨some 72, .op (.load none), [.t 71], none⟩,
  ⟨some 73, .op (.mov), [.t 0], none⟩,
  ⟨some 74, .op (.mov), [.t 9], none⟩,
  ⟨some 75, .op (.iaddr 1), [.t 73, .t 74], none⟩,
  ⟨some 76, .op (.load none), [.t 75], none⟩,
  ⟨some 77, .op (.iaddr 1), [.t 65, .t 66], none⟩,
  ⟨none, .op (.store 1), [.t 77, .t 72], none⟩,
  ⟨some 78, .op (.iaddr 1), [.t 67, .t 68], none⟩,
  ⟨none, .op (.store 1), [.t 78, .t 76], none⟩]
abbrev r58_9 : List IOp := [⟨some 79, .op (.mov), [.t 9], none⟩,
  ⟨some 80, .op (.bin .add .prim), [.t 79, .c (.int .i64 1)], none⟩,
  ⟨some 9, .op (.mov), [.t 80], none⟩]
abbrev r58_10 : List IOp := [⟨some 81, .op (.mov), [.t 10], none⟩,
  ⟨some 82, .op (.bin .sub .prim), [.t 81, .c (.int .i64 1)], none⟩,
  ⟨some 10, .op (.mov), [.t 82], none⟩]
abbrev b58_2 : IC := (IC.block 1 (IC.seq (IC.block 2 (IC.loop b58_0)) (IC.seq (IC.block 4 (IC.loop b58_1)) (IC.seq (IC.seq (IC.reg r58_7) (IC.cond (.t 64) (IC.exit 0) IC.skip)) (IC.seq (IC.regD .wild r58_8 (.take 0 (.take 1 (.take 2 (.take 3 (.take 4 (.take 5 (.take 6 (.take 7 (.take 8 (.take 9 (.take 10 (.take 11 (.take 12 (.take 13 (.take 14 (.take 15 (.done)))))))))))))))))) (IC.seq (IC.reg r58_9) (IC.reg r58_10)))))))
abbrev r58_11 : List IOp := [⟨some 83, .op (.mov), [.t 9], none⟩,
  ⟨some 8, .op (.mov), [.t 83], none⟩]
abbrev c58 : IC := (IC.seq (IC.reg r58_0) (IC.seq (IC.regD .wild r58_1 (.take 0 (.take 1 (.take 2 (.take 3 (.take 4 (.take 5 (.take 6 (.take 7 (.take 8 (.take 9 (.take 10 (.take 11 (.take 12 (.take 13 (.take 14 (.take 15 (.done)))))))))))))))))) (IC.seq (IC.reg r58_2) (IC.seq (IC.block 0 (IC.loop b58_2)) (IC.seq (IC.reg r58_11) IC.ret)))))
abbrev g58 : FC := ⟨c58, 84, [.t 8]⟩
theorem comp58 : compF Go.Proofs.Try.prog (hintL [(1, 6), (3, 6), (5, 6), (8, 6)]) 58 = some g58 := by kernel_rfl

-- slices.partitionOrdered[byte]
abbrev r59_0 : List IOp := [⟨some 8, .op (.mov), [.c (.int .i64 0)], none⟩,
  ⟨some 9, .op (.mov), [.c (.bool false)], none⟩]
abbrev r59_1 : List IOp := [⟨some 12, .op (.mov), [.t 0], none⟩,
  ⟨some 13, .op (.mov), [.t 1], none⟩,
  ⟨some 14, .op (.mov), [.t 0], none⟩,
  ⟨some 15, .op (.mov), [.t 3], none⟩,
  ⟨some 16, .op (.mov), [.t 0], none⟩,
  ⟨some 17, .op (.mov), [.t 3], none⟩,
  ⟨some 18, .op (.iaddr 1), [.t 16, .t 17], none⟩,
  ⟨some 19, .op (.load none), [.t 18], none⟩,
  ⟨some 20, .op (.mov), [.t 0], none⟩,
  ⟨some 21, .op (.mov), [.t 1], none⟩,
  ⟨some 22, .op (.iaddr 1), [.t 20, .t 21], none⟩,
  ⟨some 23, .op (.load none), [.t 22], none⟩,
  ⟨some 24, .op (.iaddr 1), [.t 12, .t 13], none⟩,
  ⟨none, .op (.store 1), [.t 24, .t 19], none⟩,
  ⟨some 25, .op (.iaddr 1), [.t 14, .t 15], none⟩,
  ⟨none, .op (.store 1), [.t 25, .t 23], none⟩]
abbrev r59_2 : List IOp := [⟨some 26, .op (.mov), [.t 1], none⟩,
  ⟨some 27, .op (.bin .add .prim), [.t 26, .c (.int .i64 1)], none⟩,
  ⟨some 28, .op (.mov), [.t 2], none⟩,
  ⟨some 29, .op (.bin .sub .prim), [.t 28, .c (.int .i64 1)], none⟩,
  ⟨some 10, .op (.mov), [.t 27], none⟩,
  ⟨some 11, .op (.mov), [.t 29], none⟩]
abbrev r59_3 : List IOp := [⟨some 30, .op (.mov), [.t 10], none⟩,
  ⟨some 31, .op (.mov), [.t 11], none⟩,
  ⟨some 32, .op (.bin .leq .prim), [.t 30, .t 31], none⟩,
  ⟨some 33, .op (.mov), [.t 32], none⟩,
  ⟨some 34, .op (.mov), [.t 0], some (33, true)⟩,
  ⟨some 35, .op (.mov), [.t 10], some (33, true)⟩,
  ⟨some 36, .op (.iaddr 1), [.t 34, .t 35], some (33, true)⟩,
  ⟨some 37, .op (.load none), [.t 36], some (33, true)⟩,
  ⟨some 38, .op (.mov), [.t 0], some (33, true)⟩,
  ⟨some 39, .op (.mov), [.t 1], some (33, true)⟩,
  ⟨some 40, .op (.iaddr 1), [.t 38, .t 39], some (33, true)⟩,
  ⟨some 41, .op (.load none), [.t 40], some (33, true)⟩,
  ⟨some 42, .call none, [.f 42, .t 37, .t 41], some (33, true)⟩,
  ⟨some 43, .op (.pick), [.t 33, .t 42, .c (.bool false)], none⟩]
abbrev r59_4 : List IOp := [⟨some 44, .op (.mov), [.t 10], none⟩,
  ⟨some 45, .op (.bin .add .prim), [.t 44, .c (.int .i64 1)], none⟩,
  ⟨some 10, .op (.mov), [.t 45], none⟩]
abbrev b59_0 : IC := (IC.seq (IC.seq (IC.regD .wild r59_3 (.take 0 (.take 1 (.take 2 (.take 3 (.take 4 (.take 5 (.take 6 (.take 7 (.take 8 (.take 9 (.take 10 (.take 11 (.take 12 (.take 13 (.done)))))))))))))))) (IC.cond (.t 43) IC.skip (IC.exit 0))) (IC.block 1 (IC.reg r59_4)))
abbrev r59_5 : List IOp := [⟨some 46, .op (.mov), [.t 10], none⟩,
  ⟨some 47, .op (.mov), [.t 11], none⟩,
  ⟨some 48, .op (.bin .leq .prim), [.t 46, .t 47], none⟩,
  ⟨some 49, .op (.mov), [.t 48], none⟩,
  ⟨some 50, .op (.mov), [.t 0], some (49, true)⟩,
  ⟨some 51, .op (.mov), [.t 11], some (49, true)⟩,
  ⟨some 52, .op (.iaddr 1), [.t 50, .t 51], some (49, true)⟩,
  ⟨some 53, .op (.load none), [.t 52], some (49, true)⟩,
  ⟨some 54, .op (.mov), [.t 0], some (49, true)⟩,
  ⟨some 55, .op (.mov), [.t 1], some (49, true)⟩,
  ⟨some 56, .op (.iaddr 1), [.t 54, .t 55], some (49, true)⟩,
  ⟨some 57, .op (.load none), [.t 56], some (49, true)⟩,
  ⟨some 58, .call none, [.f 42, .t 53, .t 57], some (49, true)⟩,
  ⟨some 59, .op (.un .not), [.t 58], some (49, true)⟩,
  ⟨some 60, .op (.pick), [.t 49, .t 59, .c (.bool false)], none⟩]
abbrev r59_6 : List IOp := [⟨some 61, .op (.mov), [.t 11], none⟩,
  ⟨some 62, .op (.bin .sub .prim), [.t 61, .c (.int .i64 1)], none⟩,
  ⟨some 11, .op (.mov), [.t 62], none⟩]
abbrev b59_1 : IC := (IC.seq (IC.seq (IC.regD .wild r59_5 (.take 0 (.take 1 (.take 2 (.take 3 (.take 4 (.take 5 (.take 6 (.take 7 (.take 8 (.take 9 (.take 10 (.take 11 (.take 12 (.take 13 (.take 14 (.done))))))))))))))))) (IC.cond (.t 60) IC.skip (IC.exit 2))) (IC.block 3 (IC.reg r59_6)))
abbrev r59_7 : List IOp := [⟨some 63, .op (.mov), [.t 10], none⟩,
  ⟨some 64, .op (.mov), [.t 11], none⟩,
  ⟨some 65, .op (.bin .gtr .prim), [.t 63, .t 64], none⟩]
abbrev r59_8 : List IOp := [⟨some 66, .op (.mov), [.t 0], none⟩,
  ⟨some 67, .op (.mov), [.t 11], none⟩,
  ⟨some 68, .op (.mov), [.t 0], none⟩,
  ⟨some 69, .op (.mov), [.t 1], none⟩,
  ⟨some 70, .op (.mov), [.t 0], none⟩,
  ⟨some 71, .op (.mov), [.t 1], none⟩,
  ⟨some 72, .op (.iaddr 1), [.t 70, .t 71], none⟩,
  ⟨some 73, .op (.load none), [.t 72], none⟩,
  ⟨some 74, .op (.mov), [.t 0], none⟩,
  ⟨some 75, .op (.mov), [.t 11], none⟩,
  ⟨some 76, .op (.iaddr 1), [.t 74, .t 75], none⟩,
  ⟨some 77, .op (.load none), [.t 76], none⟩,
  ⟨some 78, .op (.iaddr 1), [.t 66, .t 67], none⟩,
  ⟨none, .op (.store 1), [.t 78, .t 73], none⟩,
  ⟨some 79, .op (.iaddr 1), [.t 68, .t 69], none⟩,
  ⟨none, .op (.store 1), [.t 79, .t 77], none⟩]
abbrev r59_9 : List IOp := [⟨some 80, .op (.mov), [.t 11], none⟩,
  ⟨some 8, .op (.mov), [.t 80], none⟩,
  ⟨some 9, .op (.mov), [.c (.bool true)], none⟩]
abbrev r59_10 : List IOp := [⟨some 81, .op (.mov), [.t 0], none⟩,
  ⟨some 82, .op (.mov), [.t 10], none⟩,
  ⟨some 83, .op (.mov), [.t 0], none⟩,
  ⟨some 84, .op (.mov), [.t 11], none⟩,
  ⟨some 85, .op (.mov), [.t 0], none⟩,
  ⟨some 86, .op (.mov), [.t 11], none⟩,
  ⟨some 87, .op (.iaddr 1), [.t 85, .t 86], none⟩,
  ⟨some 88, .op (.load none), [.t 87], none⟩,
  ⟨some 89, .op (.mov), [.t 0], none⟩,
  ⟨some 90, .op (.mov), [.t 10], none⟩,
  ⟨some 91, .op (.iaddr 1), [.t 89, .t 90], none⟩,
  ⟨some 92, .op (.load none), [.t 91], none⟩,
  ⟨some 93, .op (.iaddr 1), [.t 81, .t 82], none⟩,
  ⟨none, .op (.store 1), [.t 93, .t 88], none⟩,
  ⟨some 94, .op (.iaddr 1), [.t 83, .t 84], none⟩,
  ⟨none, .op (.store 1), [.t 94, .t 92], none⟩]
abbrev r59_11 : List IOp := [⟨some 95, .op (.mov), [.t 10], none⟩,
  ⟨some 96, .op (.bin .add .prim), [.t 95, .c (.int .i64 1)], none⟩,
  ⟨some 10, .op (.mov), [.t 96], none⟩]
abbrev r59_12 : List IOp := [⟨some 97, .op (.mov), [.t 11], none⟩,
  ⟨some 98, .op (.bin .sub .prim), [.t 97, .c (.int .i64 1)], none⟩,
  ⟨some 11, .op (.mov), [.t 98], none⟩]
abbrev r59_13 : List IOp := [⟨some 99, .op (.mov), [.t 10], none⟩,
  ⟨some 100, .op (.mov), [.t 11], none⟩,
  ⟨some 101, .op (.bin .leq .prim), [.t 99, .t 100], none⟩,
  ⟨some 102, .op (.mov), [.t 101], none⟩,
  ⟨some 103, .op (.mov), [.t 0], some (102, true)⟩,
  ⟨some 104, .op (.mov), [.t 10], some (102, true)⟩,
  ⟨some 105, .op (.iaddr 1), [.t 103, .t 104], some (102, true)⟩,
  ⟨some 106, .op (.load none), [.t 105], some (102, true)⟩,
  ⟨some 107, .op (.mov), [.t 0], some (102, true)⟩,
  ⟨some 108, .op (.mov), [.t 1], some (102, true)⟩,
  ⟨some 109, .op (.iaddr 1), [.t 107, .t 108], some (102, true)⟩,
  ⟨some 110, .op (.load none), [.t 109], some (102, true)⟩,
  ⟨some 111, .call none, [.f 42, .t 106, .t 110], some (102, true)⟩,
  ⟨some 112, .op (.pick), [.t 102, .t 111, .c (.bool false)], none⟩]
abbrev r59_14 : List IOp := [⟨some 113, .op (.mov), [.t 10], none⟩,
  ⟨some 114, .op (.bin .add .prim), [.t 113, .c (.int .i64 1)], none⟩,
  ⟨some 10, .op (.mov), [.t 114], none⟩]
abbrev b59_2 : IC := (IC.seq (IC.seq (IC.regD .wild r59_13 (.take 0 (.take 1 (.take 2 (.take 3 (.take 4 (.take 5 (.take 6 (.take 7 (.take 8 (.take 9 (.take 10 (.take 11 (.take 12 (.take 13 (.done)))))))))))))))) (IC.cond (.t 112) IC.skip (IC.exit 6))) (IC.block 7 (IC.reg r59_14)))
abbrev r59_15 : List IOp := [⟨some 115, .op (.mov), [.t 10], none⟩,
  ⟨some 116, .op (.mov), [.t 11], none⟩,
  ⟨some 117, .op (.bin .leq .prim), [.t 115, .t 116], none⟩,
  ⟨some 118, .op (.mov), [.t 117], none⟩,
  ⟨some 119, .op (.mov), [.t 0], some (118, true)⟩,
  ⟨some 120, .op (.mov), [.t 11], some (118, true)⟩,
  ⟨some 121, .op (.iaddr 1), [.t 119, .t 120], some (118, true)⟩,
  ⟨some 122, .op (.load none), [.t 121], some (118, true)⟩,
  ⟨some 123, .op (.mov), [.t 0], some (118, true)⟩,
  ⟨some 124, .op (.mov), [.t 1], some (118, true)⟩,
  ⟨some 125, .op (.iaddr 1), [.t 123, .t 124], some (118, true)⟩,
  ⟨some 126, .op (.load none), [.t 125], some (118, true)⟩,
  ⟨some 127, .call none, [.f 42, .t 122, .t 126], some (118, true)⟩,
  ⟨some 128, .op (.un .not), [.t 127], some (118, true)⟩,
  ⟨some 129, .op (.pick), [.t 118, .t 128, .c (.bool false)], none⟩]
abbrev r59_16 : List IOp := [⟨some 130, .op (.mov), [.t 11], none⟩,
  ⟨some 131, .op (.bin .sub .prim), [.t 130, .c (.int .i64 1)], none⟩,
  ⟨some 11, .op (.mov), [.t 131], none⟩]
abbrev b59_3 : IC := (IC.seq (IC.seq (IC.regD .wild r59_15 (.take 0 (.take 1 (.take 2 (.take 3 (.take 4 (.take 5 (.take 6 (.take 7 (.take 8 (.take 9 (.take 10 (.take 11 (.take 12 (.take 13 (.take 14 (.done))))))))))))))))) (IC.cond (.t 129) IC.skip (IC.exit 8))) (IC.block 9 (IC.reg r59_16)))
abbrev r59_17 : List IOp := [⟨some 132, .op (.mov), [.t 10], none⟩,
  ⟨some 133, .op (.mov), [.t 11], none⟩,
  ⟨some 134, .op (.bin .gtr .prim), [.t 132, .t 133], none⟩]
abbrev r59_18 : List IOp := [⟨some 135, .op (.mov), [.t 0], none⟩,
  ⟨some 136, .op (.mov), [.t 10], none⟩,
  ⟨some 137, .op (.mov), [.t 0], none⟩,
  ⟨some 138, .op (.mov), [.t 11], none⟩,
  ⟨some 139, .op (.mov), [.t 0], none⟩,
  ⟨some 140, .op (.mov), [.t 11], none⟩,
  ⟨some 141, .op (.iaddr 1), [.t 139, .t 140], none⟩,
  ⟨some 142, .op (.load none), [.t 141], none⟩,
  ⟨some 143, .op (.mov), [.t 0], none⟩,
  ⟨some 144, .op (.mov), [.t 10], none⟩,
  ⟨some 145, .op (.iaddr 1), [.t 143, .t 144], none⟩,
  ⟨some 146, .op (.load none), [.t 145], none⟩,
  ⟨some 147, .op (.iaddr 1), [.t 135, .t 136], none⟩,
  ⟨none, .op (.store 1), [.t 147, .t 142], none⟩,
  ⟨some 148, .op (.iaddr 1), [.t 137, .t 138], none⟩,
  ⟨none, .op (.store 1), [.t 148, .t 146], none⟩]
abbrev r59_19 : List IOp := [⟨some 149, .op (.mov), [.t 10], none⟩,
  ⟨some 150, .op (.bin .add .prim), [.t 149, .c (.int .i64 1)], none⟩,
  ⟨some 10, .op (.mov), [.t 150], none⟩]
abbrev r59_20 : List IOp := [⟨some 151, .op (.mov), [.t 11], none⟩,
  ⟨some 152, .op (.bin .sub .prim), [.t 151, .c (.int .i64 1)], none⟩,
  ⟨some 11, .op (.mov), [.t 152], none⟩]
abbrev b59_4 : IC := (IC.block 5 (IC.seq (IC.block 6 (IC.loop b59_2)) (IC.seq (IC.block 8 (IC.loop b59_3)) (IC.seq (IC.seq (IC.reg r59_17) (IC.cond (.t 134) (IC.exit 4) IC.skip)) (IC.seq (IC.regD .wild r59_18 (.take 0 (.take 1 (.take 2 (.take 3 (.take 4 (.take 5 (.take 6 (.take 7 (.take 8 (.take 9 (.take 10 (.take 11 (.take 12 (.take 13 (.take 14 (.take 15 (.done)))))))))))))))))) (IC.seq (IC.reg r59_19) (IC.reg r59_20)))))))
abbrev r59_21 : List IOp := [⟨some 153, .op (.mov), [.t 0], none⟩,
  ⟨some 154, .op (.mov), [.t 11], none⟩,
  ⟨some 155, .op (.mov), [.t 0], none⟩,
  ⟨some 156, .op (.mov), [.t 1], none⟩,
  ⟨some 157, .op (.mov), [.t 0], none⟩,
  ⟨some 158, .op (.mov), [.t 1], none⟩,
  ⟨some 159, .op (.iaddr 1), [.t 157, .t 158], none⟩,
  ⟨some 160, .op (.load none), [.t 159], none⟩,
  ⟨some 161, .op (.mov), [.t 0], none⟩,
  ⟨some 162, .op (.mov), [.t 11], none⟩,
  ⟨some 163, .op (.iaddr 1), [.t 161, .t 162], none⟩,
  ⟨some 164, .op (.load none), [.t 163], none⟩,
  ⟨some 165, .op (.iaddr 1), [.t 153, .t 154], none⟩,
  ⟨none, .op (.store 1), [.t 165, .t 160], none⟩,
  ⟨some 166, .op (.iaddr 1), [.t 155, .t 156], none⟩,
  ⟨none, .op (.store 1), [.t 166, .t 164], none⟩]
abbrev r59_22 : List IOp := [⟨some 167, .op (.mov), [.t 11], none⟩,
  ⟨some 8, .op (.mov), [.t 167], none⟩,
  ⟨some 9, .op (.mov), [.c (.bool false)], none⟩]
abbrev c59 : IC := (IC.seq (IC.reg r59_0) (IC.seq (IC.regD .wild r59_1 (.take 0 (.take 1 (.take 2 (.take 3 (.take 4 (.take 5 (.take 6 (.take 7 (.take 8 (.take 9 (.take 10 (.take 11 (.take 12 (.take 13 (.take 14 (.take 15 (.done)))))))))))))))))) (IC.seq (IC.reg r59_2) (IC.seq (IC.block 0 (IC.loop b59_0)) (IC.seq (IC.block 2 (IC.loop b59_1)) (IC.seq (IC.seq (IC.reg r59_7) (IC.cond (.t 65) (IC.seq (IC.regD .wild r59_8 (.take 0 (.take 1 (.take 2 (.take 3 (.take 4 (.take 5 (.take 6 (.take 7 (.take 8 (.take 9 (.take 10 (.take 11 (.take 12 (.take 13 (.take 14 (.take 15 (.done)))))))))))))))))) (IC.seq (IC.reg r59_9) IC.ret)) IC.skip)) (IC.seq (IC.regD .wild r59_10 (.take 0 (.take 1 (.take 2 (.take 3 (.take 4 (.take 5 (.take 6 (.take 7 (.take 8 (.take 9 (.take 10 (.take 11 (.take 12 (.take 13 (.take 14 (.take 15 (.done)))))))))))))))))) (IC.seq (IC.reg r59_11) (IC.seq (IC.reg r59_12) (IC.seq (IC.block 4 (IC.loop b59_4)) (IC.seq (IC.regD .wild r59_21 (.take 0 (.take 1 (.take 2 (.take 3 (.take 4 (.take 5 (.take 6 (.take 7 (.take 8 (.take 9 (.take 10 (.take 11 (.take 12 (.take 13 (.take 14 (.take 15 (.done)))))))))))))))))) (IC.seq (IC.reg r59_22) IC.ret))))))))))))
abbrev g59 : FC := ⟨c59, 168, [.t 8, .t 9]⟩
theorem comp59 : compF Go.Proofs.Try.prog (hintL [(1, 6), (3, 6), (5, 6), (8, 6), (10, 6), (13, 6), (15, 6), (18, 6), (21, 6)]) 59 = some g59 := by kernel_rfl

-- cmp.isNaN[byte]
abbrev r62_0 : List IOp := [⟨some 2, .op (.mov), [.c (.bool false)], none⟩]
abbrev r62_1 : List IOp := [⟨some 3, .op (.mov), [.t 0], none⟩,
  ⟨some 4, .op (.mov), [.t 0], none⟩,
  ⟨some 5, .op (.bin .neq .prim), [.t 3, .t 4], none⟩,
  ⟨some 2, .op (.mov), [.t 5], none⟩]
abbrev c62 : IC := (IC.seq (IC.reg r62_0) (IC.seq (IC.reg r62_1) IC.ret))
abbrev g62 : FC := ⟨c62, 6, [.t 2]⟩
theorem comp62 : compF Go.Proofs.Try.prog (fun _ => 0) 62 = some g62 := by kernel_rfl

-- (outlaw/nfa.row).all$1
abbrev r63_0 : List IOp := [⟨some 5, .op (.load none), [.t 1], none⟩,
  ⟨some 6, .op (.len .slice), [.t 5], none⟩,
  ⟨some 7, .op (.mov), [.c (.int .i64 0)], none⟩]
abbrev r63_1 : List IOp := [⟨some 8, .op (.bin .lss .prim), [.t 7, .t 6], none⟩]
abbrev r63_2 : List IOp := [⟨some 9, .op (.mov), [.t 7], none⟩,
  ⟨some 10, .op (.iaddr 1), [.t 5, .t 7], none⟩,
  ⟨some 11, .op (.load none), [.t 10], none⟩,
  ⟨some 3, .op (.mov), [.t 9], none⟩,
  ⟨some 4, .op (.mov), [.t 11], none⟩]
abbrev r63_3 : List IOp := [⟨some 12, .op (.mov), [.t 4], none⟩,
  ⟨some 13, .op (.mov), [.t 12], none⟩,
  ⟨some 14, .op (.mov), [.t 0], some (13, true)⟩,
  ⟨some 15, .op (.mov), [.t 3], some (13, true)⟩,
  ⟨some 16, .call none, [.t 14, .t 15], some (13, true)⟩,
  ⟨some 17, .op (.un .not), [.t 16], some (13, true)⟩,
  ⟨some 18, .op (.pick), [.t 13, .t 17, .c (.bool false)], none⟩]
abbrev r63_4 : List IOp := [⟨some 19, .op (.bin .add .prim), [.t 7, .c (.int .i64 1)], none⟩,
  ⟨some 7, .op (.mov), [.t 19], none⟩]
abbrev b63_0 : IC := (IC.seq (IC.reg r63_1) (IC.seq (IC.cond (.t 8) IC.skip (IC.exit 0)) (IC.seq (IC.block 1 (IC.seq (IC.reg r63_2) (IC.seq (IC.reg r63_3) (IC.cond (.t 18) IC.ret IC.skip)))) (IC.reg r63_4))))
abbrev c63 : IC := (IC.seq (IC.reg r63_0) (IC.block 0 (IC.loop b63_0)))
abbrev g63 : FC := ⟨c63, 20, []⟩
theorem comp63 : compF Go.Proofs.Try.prog (fun _ => 0) 63 = some g63 := by kernel_rfl

-- unicode/utf8.RuneCountInString
abbrev r64_0 : List IOp := [⟨some 2, .op (.mov), [.c (.int .i64 0)], none⟩]
abbrev r64_1 : List IOp := [⟨some 3, .op (.mov), [.t 0], none⟩,
  ⟨some 4, .op (.never), [], none⟩]
abbrev r64_2 : List IOp := [⟨some 5, .op (.never), [], none⟩,
  ⟨some 6, .op (.extract 0), [.t 5], none⟩]
abbrev r64_3 : List IOp := [⟨some 7, .op (.mov), [.t 2], none⟩,
  ⟨some 8, .op (.bin .add .prim), [.t 7, .c (.int .i64 1)], none⟩,
  ⟨some 2, .op (.mov), [.t 8], none⟩]
abbrev b64_0 : IC := (IC.seq (IC.reg r64_2) (IC.seq (IC.cond (.t 6) IC.skip (IC.exit 0)) (IC.block 1 (IC.reg r64_3))))
abbrev r64_4 : List IOp := [⟨some 9, .op (.mov), [.t 2], none⟩,
  ⟨some 2, .op (.mov), [.t 9], none⟩]
abbrev c64 : IC := (IC.seq (IC.reg r64_0) (IC.seq (IC.seq (IC.reg r64_1) (IC.block 0 (IC.loop b64_0))) (IC.seq (IC.reg r64_4) IC.ret)))
abbrev g64 : FC := ⟨c64, 10, [.t 2]⟩
theorem comp64 : compF Go.Proofs.Try.prog (fun _ => 0) 64 = some g64 := by kernel_rfl

-- bytes.IndexByte
abbrev r65_0 : List IOp := [⟨some 4, .op (.mov), [.c (.int .i64 0)], none⟩]
abbrev r65_1 : List IOp := [⟨some 5, .op (.mov), [.t 0], none⟩,
  ⟨some 6, .op (.mov), [.t 1], none⟩,
  ⟨some 7, .call none, [.f 77, .t 5, .t 6], none⟩,
  ⟨some 4, .op (.mov), [.t 7], none⟩]
abbrev c65 : IC := (IC.seq (IC.reg r65_0) (IC.seq (IC.reg r65_1) IC.ret))
abbrev g65 : FC := ⟨c65, 8, [.t 4]⟩
theorem comp65 : compF Go.Proofs.Try.prog (fun _ => 0) 65 = some g65 := by kernel_rfl

-- bytes.Equal
abbrev r66_0 : List IOp := [⟨some 4, .op (.mov), [.c (.bool false)], none⟩]
abbrev r66_1 : List IOp := [⟨some 5, .op (.mov), [.t 0], none⟩,
  ⟨some 6, .op (.b2s), [.t 5], none⟩,
  ⟨some 7, .op (.mov), [.t 1], none⟩,
  ⟨some 8, .op (.b2s), [.t 7], none⟩,
  ⟨some 9, .op (.bin .eql .prim), [.t 6, .t 8], none⟩,
  ⟨some 4, .op (.mov), [.t 9], none⟩]
abbrev c66 : IC := (IC.seq (IC.reg r66_0) (IC.seq (IC.reg r66_1) IC.ret))
abbrev g66 : FC := ⟨c66, 10, [.t 4]⟩
theorem comp66 : compF Go.Proofs.Try.prog (fun _ => 0) 66 = some g66 := by kernel_rfl


-- internal/bytealg.Cutover
abbrev r68_0 : List IOp := [⟨some 2, .op (.mov), [.c (.int .i64 0)], none⟩]
abbrev r68_1 : List IOp := [⟨some 3, .op (.mov), [.t 0], none⟩,
  ⟨some 4, .op (.bin .add .prim), [.t 3, .c (.int .i64 16)], none⟩,
  ⟨some 5, .op (.bin .quo .prim), [.t 4, .c (.int .i64 8)], none⟩,
  ⟨some 2, .op (.mov), [.t 5], none⟩]
abbrev c68 : IC := (IC.seq (IC.reg r68_0) (IC.seq (IC.reg r68_1) IC.ret))
abbrev g68 : FC := ⟨c68, 6, [.t 2]⟩
theorem comp68 : compF Go.Proofs.Try.prog (fun _ => 0) 68 = some g68 := by kernel_rfl

-- internal/bytealg.IndexRabinKarp[[]byte]
abbrev r69_0 : List IOp := [⟨some 4, .op (.mov), [.c (.int .i64 0)], none⟩]
abbrev r69_1 : List IOp := [⟨some 12, .op (.mov), [.t 1], none⟩,
  ⟨some 13, .call none, [.f 78, .t 12], none⟩,
  ⟨some 11, .op (.mov), [.t 13], none⟩,
  ⟨some 14, .op (.extract 0), [.t 11], none⟩,
  ⟨some 15, .op (.extract 1), [.t 11], none⟩,
  ⟨some 5, .op (.mov), [.t 14], none⟩,
  ⟨some 6, .op (.mov), [.t 15], none⟩]
abbrev r69_2 : List IOp := [⟨some 16, .op (.mov), [.t 1], none⟩,
  ⟨some 17, .op (.len .slice), [.t 16], none⟩,
  ⟨some 7, .op (.mov), [.t 17], none⟩]
abbrev r69_3 : List IOp := [⟨some 8, .op (.mov), [.c (.int .u32 0)], none⟩]
abbrev r69_4 : List IOp := [⟨some 9, .op (.mov), [.c (.int .i64 0)], none⟩]
abbrev r69_5 : List IOp := [⟨some 18, .op (.mov), [.t 9], none⟩,
  ⟨some 19, .op (.mov), [.t 7], none⟩,
  ⟨some 20, .op (.bin .lss .prim), [.t 18, .t 19], none⟩]
abbrev r69_6 : List IOp := [⟨some 23, .op (.mov), [.t 8], none⟩,
  ⟨some 24, .op (.bin .mul .prim), [.t 23, .c (.int .u32 16777619)], none⟩,
  ⟨some 25, .op (.mov), [.t 0], none⟩,
  ⟨some 26, .op (.mov), [.t 9], none⟩,
  ⟨some 27, .op (.iaddr 1), [.t 25, .t 26], none⟩,
  ⟨some 28, .op (.load none), [.t 27], none⟩,
  ⟨some 29, .op (.toInt .u32), [.t 28], none⟩,
  ⟨some 30, .op (.bin .add .prim), [.t 24, .t 29], none⟩,
  ⟨some 8, .op (.mov), [.t 30], none⟩]
abbrev r69_7 : List IOp := [⟨some 21, .op (.mov), [.t 9], none⟩,
  ⟨some 22, .op (.bin .add .prim), [.t 21, .c (.int .i64 1)], none⟩,
  ⟨some 9, .op (.mov), [.t 22], none⟩]
abbrev b69_0 : IC := (IC.seq (IC.seq (IC.reg r69_5) (IC.cond (.t 20) IC.skip (IC.exit 0))) (IC.seq (IC.block 1 (IC.reg r69_6)) (IC.reg r69_7)))
abbrev r69_8 : List IOp := [⟨some 31, .op (.mov), [.t 8], none⟩,
  ⟨some 32, .op (.mov), [.t 5], none⟩,
  ⟨some 33, .op (.bin .eql .prim), [.t 31, .t 32], none⟩,
  ⟨some 34, .op (.mov), [.t 33], none⟩,
  ⟨some 35, .op (.mov), [.t 0], some (34, true)⟩,
  ⟨some 36, .op (.mov), [.t 7], some (34, true)⟩,
  ⟨some 37, .op (.slice 1 false true false), [.t 35, .t 36], some (34, true)⟩,
  ⟨some 38, .op (.b2s), [.t 37], some (34, true)⟩,
  ⟨some 39, .op (.mov), [.t 1], some (34, true)⟩,
  ⟨some 40, .op (.b2s), [.t 39], some (34, true)⟩,
  ⟨some 41, .op (.bin .eql .prim), [.t 38, .t 40], some (34, true)⟩,
  ⟨some 42, .op (.pick), [.t 34, .t 41, .c (.bool false)], none⟩]
abbrev r69_9 : List IOp := [⟨some 4, .op (.mov), [.c (.int .i64 0)], none⟩]
abbrev r69_10 : List IOp := [⟨some 43, .op (.mov), [.t 7], none⟩,
  ⟨some 10, .op (.mov), [.t 43], none⟩]
abbrev r69_11 : List IOp := [⟨some 44, .op (.mov), [.t 10], none⟩,
  ⟨some 45, .op (.mov), [.t 0], none⟩,
  ⟨some 46, .op (.len .slice), [.t 45], none⟩,
  ⟨some 47, .op (.bin .lss .prim), [.t 44, .t 46], none⟩]
abbrev r69_12 : List IOp := [⟨some 48, .op (.mov), [.t 8], none⟩,
  ⟨some 49, .op (.bin .mul .prim), [.t 48, .c (.int .u32 16777619)], none⟩,
  ⟨some 8, .op (.mov), [.t 49], none⟩]
abbrev r69_13 : List IOp := [⟨some 50, .op (.mov), [.t 8], none⟩,
  ⟨some 51, .op (.mov), [.t 0], none⟩,
  ⟨some 52, .op (.mov), [.t 10], none⟩,
  ⟨some 53, .op (.iaddr 1), [.t 51, .t 52], none⟩,
  ⟨some 54, .op (.load none), [.t 53], none⟩,
  ⟨some 55, .op (.toInt .u32), [.t 54], none⟩,
  ⟨some 56, .op (.bin .add .prim), [.t 50, .t 55], none⟩,
  ⟨some 8, .op (.mov), [.t 56], none⟩]
abbrev r69_14 : List IOp := [⟨some 57, .op (.mov), [.t 8], none⟩,
  ⟨some 58, .op (.mov), [.t 6], none⟩,
  ⟨some 59, .op (.mov), [.t 0], none⟩,
  ⟨some 60, .op (.mov), [.t 10], none⟩,
  ⟨some 61, .op (.mov), [.t 7], none⟩,
  ⟨some 62, .op (.bin .sub .prim), [.t 60, .t 61], none⟩,
  ⟨some 63, .op (.iaddr 1), [.t 59, .t 62], none⟩,
  ⟨some 64, .op (.load none), [.t 63], none⟩,
  ⟨some 65, .op (.toInt .u32), [.t 64], none⟩,
  ⟨some 66, .op (.bin .mul .prim), [.t 58, .t 65], none⟩,
  ⟨some 67, .op (.bin .sub .prim), [.t 57, .t 66], none⟩,
  ⟨some 8, .op (.mov), [.t 67], none⟩]
abbrev r69_15 : List IOp := [⟨some 68, .op (.mov), [.t 10], none⟩,
  ⟨some 69, .op (.bin .add .prim), [.t 68, .c (.int .i64 1)], none⟩,
  ⟨some 10, .op (.mov), [.t 69], none⟩]
abbrev r69_16 : List IOp := [⟨some 70, .op (.mov), [.t 8], none⟩,
  ⟨some 71, .op (.mov), [.t 5], none⟩,
  ⟨some 72, .op (.bin .eql .prim), [.t 70, .t 71], none⟩,
  ⟨some 73, .op (.mov), [.t 72], none⟩,
  ⟨some 74, .op (.mov), [.t 0], some (73, true)⟩,
  ⟨some 75, .op (.mov), [.t 10], some (73, true)⟩,
  ⟨some 76, .op (.mov), [.t 7], some (73, true)⟩,
  ⟨some 77, .op (.bin .sub .prim), [.t 75, .t 76], some (73, true)⟩,
  ⟨some 78, .op (.mov), [.t 10], some (73, true)⟩,
  ⟨some 79, .op (.slice 1 true true false), [.t 74, .t 77, .t 78], some (73, true)⟩,
  ⟨some 80, .op (.b2s), [.t 79], some (73, true)⟩,
  ⟨some 81, .op (.mov), [.t 1], some (73, true)⟩,
  ⟨some 82, .op (.b2s), [.t 81], some (73, true)⟩,
  ⟨some 83, .op (.bin .eql .prim), [.t 80, .t 82], some (73, true)⟩,
  ⟨some 84, .op (.pick), [.t 73, .t 83, .c (.bool false)], none⟩]
abbrev r69_17 : List IOp := [⟨some 85, .op (.mov), [.t 10], none⟩,
  ⟨some 86, .op (.mov), [.t 7], none⟩,
  ⟨some 87, .op (.bin .sub .prim), [.t 85, .t 86], none⟩,
  ⟨some 4, .op (.mov), [.t 87], none⟩]
abbrev b69_1 : IC := (IC.seq (IC.seq (IC.reg r69_11) (IC.cond (.t 47) IC.skip (IC.exit 2))) (IC.block 3 (IC.seq (IC.reg r69_12) (IC.seq (IC.reg r69_13) (IC.seq (IC.reg r69_14) (IC.seq (IC.reg r69_15) (IC.seq (IC.regD .wild r69_16 (.take 0 (.take 1 (.take 2 (.take 3 (.take 4 (.take 5 (.take 6 (.take 7 (.take 8 (.take 9 (.take 10 (.take 11 (.take 12 (.take 13 (.take 14 (.done))))))))))))))))) (IC.cond (.t 84) (IC.seq (IC.reg r69_17) IC.ret) IC.skip))))))))
abbrev r69_18 : List IOp := [⟨some 4, .op (.mov), [.c (.int .i64 (-1))], none⟩]
abbrev c69 : IC := (IC.seq (IC.reg r69_0) (IC.seq (IC.reg r69_1) (IC.seq (IC.reg r69_2) (IC.seq (IC.reg r69_3) (IC.seq (IC.seq (IC.reg r69_4) (IC.block 0 (IC.loop b69_0))) (IC.seq (IC.seq (IC.regD .wild r69_8 (.take 0 (.take 1 (.take 2 (.take 3 (.take 4 (.take 5 (.take 6 (.take 7 (.take 8 (.take 9 (.take 10 (.take 11 (.done)))))))))))))) (IC.cond (.t 42) (IC.seq (IC.reg r69_9) IC.ret) IC.skip)) (IC.seq (IC.seq (IC.reg r69_10) (IC.block 2 (IC.loop b69_1))) (IC.seq (IC.reg r69_18) IC.ret))))))))
abbrev g69 : FC := ⟨c69, 88, [.t 4]⟩
theorem comp69 : compF Go.Proofs.Try.prog (hintL [(8, 6), (16, 6)]) 69 = some g69 := by kernel_rfl

-- math/bits.Mul32
abbrev r70_0 : List IOp := [⟨some 4, .op (.mov), [.c (.int .u32 0)], none⟩,
  ⟨some 5, .op (.mov), [.c (.int .u32 0)], none⟩]
abbrev r70_1 : List IOp := [⟨some 7, .op (.mov), [.t 0], none⟩,
  ⟨some 8, .op (.toInt .u64), [.t 7], none⟩,
  ⟨some 9, .op (.mov), [.t 1], none⟩,
  ⟨some 10, .op (.toInt .u64), [.t 9], none⟩,
  ⟨some 11, .op (.bin .mul .prim), [.t 8, .t 10], none⟩,
  ⟨some 6, .op (.mov), [.t 11], none⟩]
abbrev r70_2 : List IOp := [⟨some 12, .op (.mov), [.t 6], none⟩,
  ⟨some 13, .op (.bin .shr .prim), [.t 12, .c (.int .u64 32)], none⟩,
  ⟨some 14, .op (.toInt .u32), [.t 13], none⟩,
  ⟨some 15, .op (.mov), [.t 6], none⟩,
  ⟨some 16, .op (.toInt .u32), [.t 15], none⟩,
  ⟨some 4, .op (.mov), [.t 14], none⟩,
  ⟨some 5, .op (.mov), [.t 16], none⟩]
abbrev c70 : IC := (IC.seq (IC.reg r70_0) (IC.seq (IC.reg r70_1) (IC.seq (IC.reg r70_2) IC.ret)))
abbrev g70 : FC := ⟨c70, 17, [.t 4, .t 5]⟩
theorem comp70 : compF Go.Proofs.Try.prog (fun _ => 0) 70 = some g70 := by kernel_rfl

-- math/bits.Mul64
abbrev r71_0 : List IOp := [⟨some 4, .op (.mov), [.c (.int .u64 0)], none⟩,
  ⟨some 5, .op (.mov), [.c (.int .u64 0)], none⟩]
abbrev r71_1 : List IOp := [⟨some 14, .op (.mov), [.t 0], none⟩,
  ⟨some 15, .op (.bin .and .prim), [.t 14, .c (.int .u64 4294967295)], none⟩,
  ⟨some 6, .op (.mov), [.t 15], none⟩]
abbrev r71_2 : List IOp := [⟨some 16, .op (.mov), [.t 0], none⟩,
  ⟨some 17, .op (.bin .shr .prim), [.t 16, .c (.int .u64 32)], none⟩,
  ⟨some 7, .op (.mov), [.t 17], none⟩]
abbrev r71_3 : List IOp := [⟨some 18, .op (.mov), [.t 1], none⟩,
  ⟨some 19, .op (.bin .and .prim), [.t 18, .c (.int .u64 4294967295)], none⟩,
  ⟨some 8, .op (.mov), [.t 19], none⟩]
abbrev r71_4 : List IOp := [⟨some 20, .op (.mov), [.t 1], none⟩,
  ⟨some 21, .op (.bin .shr .prim), [.t 20, .c (.int .u64 32)], none⟩,
  ⟨some 9, .op (.mov), [.t 21], none⟩]
abbrev r71_5 : List IOp := [⟨some 22, .op (.mov), [.t 6], none⟩,
  ⟨some 23, .op (.mov), [.t 8], none⟩,
  ⟨some 24, .op (.bin .mul .prim), [.t 22, .t 23], none⟩,
  ⟨some 10, .op (.mov), [.t 24], none⟩]
abbrev r71_6 : List IOp := [⟨some 25, .op (.mov), [.t 7], none⟩,
  ⟨some 26, .op (.mov), [.t 8], none⟩,
  ⟨some 27, .op (.bin .mul .prim), [.t 25, .t 26], none⟩,
  ⟨some 28, .op (.mov), [.t 10], none⟩,
  ⟨some 29, .op (.bin .shr .prim), [.t 28, .c (.int .u64 32)], none⟩,
  ⟨some 30, .op (.bin .add .prim), [.t 27, .t 29], none⟩,
  ⟨some 11, .op (.mov), [.t 30], none⟩]
abbrev r71_7 : List IOp := [⟨some 31, .op (.mov), [.t 11], none⟩,
  ⟨some 32, .op (.bin .and .prim), [.t 31, .c (.int .u64 4294967295)], none⟩,
  ⟨some 12, .op (.mov), [.t 32], none⟩]
abbrev r71_8 : List IOp := [⟨some 33, .op (.mov), [.t 11], none⟩,
  ⟨some 34, .op (.bin .shr .prim), [.t 33, .c (.int .u64 32)], none⟩,
  ⟨some 13, .op (.mov), [.t 34], none⟩]
abbrev r71_9 : List IOp := [⟨some 35, .op (.mov), [.t 12], none⟩,
  ⟨some 36, .op (.mov), [.t 6], none⟩,
  ⟨some 37, .op (.mov), [.t 9], none⟩,
  ⟨some 38, .op (.bin .mul .prim), [.t 36, .t 37], none⟩,
  ⟨some 39, .op (.bin .add .prim), [.t 35, .t 38], none⟩,
  ⟨some 12, .op (.mov), [.t 39], none⟩]
abbrev r71_10 : List IOp := [⟨some 40, .op (.mov), [.t 7], none⟩,
  ⟨some 41, .op (.mov), [.t 9], none⟩,
  ⟨some 42, .op (.bin .mul .prim), [.t 40, .t 41], none⟩,
  ⟨some 43, .op (.mov), [.t 13], none⟩,
  ⟨some 44, .op (.bin .add .prim), [.t 42, .t 43], none⟩,
  ⟨some 45, .op (.mov), [.t 12], none⟩,
  ⟨some 46, .op (.bin .shr .prim), [.t 45, .c (.int .u64 32)], none⟩,
  ⟨some 47, .op (.bin .add .prim), [.t 44, .t 46], none⟩,
  ⟨some 4, .op (.mov), [.t 47], none⟩]
abbrev r71_11 : List IOp := [⟨some 48, .op (.mov), [.t 0], none⟩,
  ⟨some 49, .op (.mov), [.t 1], none⟩,
  ⟨some 50, .op (.bin .mul .prim), [.t 48, .t 49], none⟩,
  ⟨some 5, .op (.mov), [.t 50], none⟩]
abbrev c71 : IC := (IC.seq (IC.reg r71_0) (IC.seq (IC.reg r71_1) (IC.seq (IC.reg r71_2) (IC.seq (IC.reg r71_3) (IC.seq (IC.reg r71_4) (IC.seq (IC.reg r71_5) (IC.seq (IC.reg r71_6) (IC.seq (IC.reg r71_7) (IC.seq (IC.reg r71_8) (IC.seq (IC.reg r71_9) (IC.seq (IC.reg r71_10) (IC.seq (IC.reg r71_11) IC.ret))))))))))))
abbrev g71 : FC := ⟨c71, 51, [.t 4, .t 5]⟩
theorem comp71 : compF Go.Proofs.Try.prog (fun _ => 0) 71 = some g71 := by kernel_rfl

-- slices.siftDownOrdered[byte]
abbrev r72_0 : List IOp := [⟨some 10, .op (.mov), [.t 1], none⟩,
  ⟨some 8, .op (.mov), [.t 10], none⟩]
abbrev r72_1 : List IOp := [⟨some 11, .op (.mov), [.t 8], none⟩,
  ⟨some 12, .op (.bin .mul .prim), [.c (.int .i64 2), .t 11], none⟩,
  ⟨some 13, .op (.bin .add .prim), [.t 12, .c (.int .i64 1)], none⟩,
  ⟨some 9, .op (.mov), [.t 13], none⟩]
abbrev r72_2 : List IOp := [⟨some 14, .op (.mov), [.t 9], none⟩,
  ⟨some 15, .op (.mov), [.t 2], none⟩,
  ⟨some 16, .op (.bin .geq .prim), [.t 14, .t 15], none⟩]
abbrev r72_3 : List IOp := [⟨some 17, .op (.mov), [.t 9], none⟩,
  ⟨some 18, .op (.bin .add .prim), [.t 17, .c (.int .i64 1)], none⟩,
  ⟨some 19, .op (.mov), [.t 2], none⟩,
  ⟨some 20, .op (.bin .lss .prim), [.t 18, .t 19], none⟩,
  ⟨some 21, .op (.mov), [.t 20], none⟩,
  ⟨some 22, .op (.mov), [.t 0], some (21, true)⟩,
  ⟨some 23, .op (.mov), [.t 3], some (21, true)⟩,
  ⟨some 24, .op (.mov), [.t 9], some (21, true)⟩,
  ⟨some 25, .op (.bin .add .prim), [.t 23, .t 24], some (21, true)⟩,
  ⟨some 26, .op (.iaddr 1), [.t 22, .t 25], some (21, true)⟩,
  ⟨some 27, .op (.load none), [.t 26], some (21, true)⟩,
  ⟨some 28, .op (.mov), [.t 0], some (21, true)⟩,
  ⟨some 29, .op (.mov), [.t 3], some (21, true)⟩,
  ⟨some 30, .op (.mov), [.t 9], some (21, true)⟩,
  ⟨some 31, .op (.bin .add .prim), [.t 29, .t 30], some (21, true)⟩,
  ⟨some 32, .op (.bin .add .prim), [.t 31, .c (.int .i64 1)], some (21, true)⟩,
  ⟨some 33, .op (.iaddr 1), [.t 28, .t 32], some (21, true)⟩,
  ⟨some 34, .op (.load none), [.t 33], some (21, true)⟩,
  ⟨some 35, .call none, [.f 42, .t 27, .t 34], some (21, true)⟩,
  ⟨some 36, .op (.pick), [.t 21, .t 35, .c (.bool false)], none⟩]
abbrev r72_4 : List IOp := [⟨some 37, .op (.mov), [.t 9], none⟩,
  ⟨some 38, .op (.bin .add .prim), [.t 37, .c (.int .i64 1)], none⟩,
  ⟨some 9, .op (.mov), [.t 38], none⟩]
abbrev r72_5 : List IOp := [⟨some 39, .op (.mov), [.t 0], none⟩,
  ⟨some 40, .op (.mov), [.t 3], none⟩,
  ⟨some 41, .op (.mov), [.t 8], none⟩,
  ⟨some 42, .op (.bin .add .prim), [.t 40, .t 41], none⟩,
  ⟨some 43, .op (.iaddr 1), [.t 39, .t 42], none⟩,
  ⟨some 44, .op (.load none), [.t 43], none⟩,
  ⟨some 45, .op (.mov), [.t 0], none⟩,
  ⟨some 46, .op (.mov), [.t 3], none⟩,
  ⟨some 47, .op (.mov), [.t 9], none⟩,
  ⟨some 48, .op (.bin .add .prim), [.t 46, .t 47], none⟩,
  ⟨some 49, .op (.iaddr 1), [.t 45, .t 48], none⟩,
  ⟨some 50, .op (.load none), [.t 49], none⟩,
  ⟨some 51, .call none, [.f 42, .t 44, .t 50], none⟩,
  ⟨some 52, .op (.un .not), [.t 51], none⟩]
abbrev r72_6 : List IOp := [⟨some 53, .op (.mov), [.t 0], none⟩,
  ⟨some 54, .op (.mov), [.t 3], none⟩,
  ⟨some 55, .op (.mov), [.t 8], none⟩,
  ⟨some 56, .op (.bin .add .prim), [.t 54, .t 55], none⟩,
  ⟨some 57, .op (.mov), [.t 0], none⟩,
  ⟨some 58, .op (.mov), [.t 3], none⟩,
  ⟨some 59, .op (.mov), [.t 9], none⟩,
  ⟨some 60, .op (.bin .add .prim), [.t 58, .t 59], none⟩,
  ⟨some 61, .op (.mov), [.t 0], none⟩,
  ⟨some 62, .op (.mov), [.t 3], none⟩,
  ⟨some 63, .op (.mov), [.t 9], none⟩,
  ⟨some 64, .op (.bin .add .prim), [.t 62, .t 63], none⟩,
  ⟨some 65, .op (.iaddr 1), [.t 61, .t 64], none⟩,
  ⟨some 66, .op (.load none), [.t 65], none⟩,
  ⟨some 67, .op (.mov), [.t 0], none⟩,
  ⟨some 68, .op (.mov), [.t 3], none⟩,
  ⟨some 69, .op (.mov), [.t 8], none⟩,
  ⟨some 70, .op (.bin .add .prim), [.t 68, .t 69], none⟩,
  ⟨some 71, .op (.iaddr 1), [.t 67, .t 70], none⟩,
  ⟨some 72, .op (.load none), [.t 71], none⟩,
  ⟨some 73, .op (.iaddr 1), [.t 53, .t 56], none⟩,
  ⟨none, .op (.store 1), [.t 73, .t 66], none⟩,
  ⟨some 74, .op (.iaddr 1), [.t 57, .t 60], none⟩,
  ⟨none, .op (.store 1), [.t 74, .t 72], none⟩]
abbrev r72_7 : List IOp := [⟨some 75, .op (.mov), [.t 9], none⟩,
  ⟨some 8, .op (.mov), [.t 75], none⟩]
abbrev b72_0 : IC := (IC.block 1 (IC.seq (IC.reg r72_1) (IC.seq (IC.seq (IC.reg r72_2) (IC.cond (.t 16) (IC.exit 0) IC.skip)) (IC.seq (IC.seq (IC.regD .wild r72_3 (.take 0 (.take 1 (.take 2 (.take 3 (.take 4 (.take 5 (.take 6 (.take 7 (.take 8 (.take 9 (.take 10 (.take 11 (.take 12 (.take 13 (.take 14 (.take 15 (.take 16 (.take 17 (.take 18 (.take 19 (.done)))))))))))))))))))))) (IC.cond (.t 36) (IC.reg r72_4) IC.skip)) (IC.seq (IC.seq (IC.regD .wild r72_5 (.take 0 (.take 1 (.take 2 (.take 3 (.take 4 (.take 5 (.take 6 (.take 7 (.take 8 (.take 9 (.take 10 (.take 11 (.take 12 (.take 13 (.done)))))))))))))))) (IC.cond (.t 52) IC.ret IC.skip)) (IC.seq (IC.regD .wild r72_6 (.take 0 (.take 1 (.take 2 (.take 3 (.take 4 (.take 5 (.take 6 (.take 7 (.take 8 (.take 9 (.take 10 (.take 11 (.take 12 (.take 13 (.take 14 (.take 15 (.take 16 (.take 17 (.take 18 (.take 19 (.take 20 (.take 21 (.take 22 (.take 23 (.done)))))))))))))))))))))))))) (IC.reg r72_7)))))))
abbrev c72 : IC := (IC.seq (IC.reg r72_0) (IC.block 0 (IC.loop b72_0)))
abbrev g72 : FC := ⟨c72, 76, []⟩
theorem comp72 : compF Go.Proofs.Try.prog (hintL [(3, 6), (5, 6), (6, 6)]) 72 = some g72 := by kernel_rfl

-- slices.nextPowerOfTwo
abbrev r73_0 : List IOp := [⟨some 2, .op (.mov), [.c (.int .u64 0)], none⟩]
abbrev r73_1 : List IOp := [⟨some 3, .op (.mov), [.t 0], none⟩,
  ⟨some 4, .op (.toInt .u64), [.t 3], none⟩,
  ⟨some 5, .call none, [.f 41, .t 4], none⟩,
  ⟨some 6, .op (.bin .shl .prim), [.c (.int .u64 1), .t 5], none⟩,
  ⟨some 2, .op (.mov), [.t 6], none⟩]
abbrev c73 : IC := (IC.seq (IC.reg r73_0) (IC.seq (IC.reg r73_1) IC.ret))
abbrev g73 : FC := ⟨c73, 7, [.t 2]⟩
theorem comp73 : compF Go.Proofs.Try.prog (fun _ => 0) 73 = some g73 := by kernel_rfl

-- (*slices.xorshift).Next
abbrev r74_0 : List IOp := [⟨some 2, .op (.mov), [.c (.int .u64 0)], none⟩]
abbrev r74_1 : List IOp := [⟨some 3, .op (.mov), [.t 0], none⟩,
  ⟨some 4, .op (.nilchk), [.t 3], none⟩,
  ⟨some 5, .op (.load none), [.t 4], none⟩,
  ⟨some 6, .op (.mov), [.t 0], none⟩,
  ⟨some 7, .op (.nilchk), [.t 6], none⟩,
  ⟨some 8, .op (.load none), [.t 7], none⟩,
  ⟨some 9, .op (.bin .shl .prim), [.t 8, .c (.int .u64 13)], none⟩,
  ⟨some 10, .op (.bin .xor .prim), [.t 5, .t 9], none⟩,
  ⟨some 11, .op (.nilchk), [.t 3], none⟩,
  ⟨none, .op (.store 1), [.t 11, .t 10], none⟩]
abbrev r74_2 : List IOp := [⟨some 12, .op (.mov), [.t 0], none⟩,
  ⟨some 13, .op (.nilchk), [.t 12], none⟩,
  ⟨some 14, .op (.load none), [.t 13], none⟩,
  ⟨some 15, .op (.mov), [.t 0], none⟩,
  ⟨some 16, .op (.nilchk), [.t 15], none⟩,
  ⟨some 17, .op (.load none), [.t 16], none⟩,
  ⟨some 18, .op (.bin .shr .prim), [.t 17, .c (.int .u64 7)], none⟩,
  ⟨some 19, .op (.bin .xor .prim), [.t 14, .t 18], none⟩,
  ⟨some 20, .op (.nilchk), [.t 12], none⟩,
  ⟨none, .op (.store 1), [.t 20, .t 19], none⟩]
abbrev r74_3 : List IOp := [⟨some 21, .op (.mov), [.t 0], none⟩,
  ⟨some 22, .op (.nilchk), [.t 21], none⟩,
  ⟨some 23, .op (.load none), [.t 22], none⟩,
  ⟨some 24, .op (.mov), [.t 0], none⟩,
  ⟨some 25, .op (.nilchk), [.t 24], none⟩,
  ⟨some 26, .op (.load none), [.t 25], none⟩,
  ⟨some 27, .op (.bin .shl .prim), [.t 26, .c (.int .u64 17)], none⟩,
  ⟨some 28, .op (.bin .xor .prim), [.t 23, .t 27], none⟩,
  ⟨some 29, .op (.nilchk), [.t 21], none⟩,
  ⟨none, .op (.store 1), [.t 29, .t 28], none⟩]
abbrev r74_4 : List IOp := [⟨some 30, .op (.mov), [.t 0], none⟩,
  ⟨some 31, .op (.nilchk), [.t 30], none⟩,
  ⟨some 32, .op (.load none), [.t 31], none⟩,
  ⟨some 2, .op (.mov), [.t 32], none⟩]
abbrev c74 : IC := (IC.seq (IC.reg r74_0) (IC.seq (IC.regD .wild r74_1 (.take 0 (.take 1 (.take 2 (.take 3 (.take 4 (.take 5 (.take 6 (.take 7 (.take 8 (.take 9 (.done)))))))))))) (IC.seq (IC.regD .wild r74_2 (.take 0 (.take 1 (.take 2 (.take 3 (.take 4 (.take 5 (.take 6 (.take 7 (.take 8 (.take 9 (.done)))))))))))) (IC.seq (IC.regD .wild r74_3 (.take 0 (.take 1 (.take 2 (.take 3 (.take 4 (.take 5 (.take 6 (.take 7 (.take 8 (.take 9 (.done)))))))))))) (IC.seq (IC.reg r74_4) IC.ret)))))
abbrev g74 : FC := ⟨c74, 33, [.t 2]⟩
theorem comp74 : compF Go.Proofs.Try.prog (hintL [(1, 6), (2, 6), (3, 6)]) 74 = some g74 := by kernel_rfl

-- slices.medianAdjacentOrdered[byte]
abbrev r75_0 : List IOp := [⟨some 6, .op (.mov), [.c (.int .i64 0)], none⟩]
abbrev r75_1 : List IOp := [⟨some 7, .op (.mov), [.t 0], none⟩,
  ⟨some 8, .op (.mov), [.t 1], none⟩,
  ⟨some 9, .op (.bin .sub .prim), [.t 8, .c (.int .i64 1)], none⟩,
  ⟨some 10, .op (.mov), [.t 1], none⟩,
  ⟨some 11, .op (.mov), [.t 1], none⟩,
  ⟨some 12, .op (.bin .add .prim), [.t 11, .c (.int .i64 1)], none⟩,
  ⟨some 13, .op (.mov), [.t 2], none⟩,
  ⟨some 14, .call none, [.f 76, .t 7, .t 9, .t 10, .t 12, .t 13], none⟩,
  ⟨some 6, .op (.mov), [.t 14], none⟩]
abbrev c75 : IC := (IC.seq (IC.reg r75_0) (IC.seq (IC.reg r75_1) IC.ret))
abbrev g75 : FC := ⟨c75, 15, [.t 6]⟩
theorem comp75 : compF Go.Proofs.Try.prog (fun _ => 0) 75 = some g75 := by kernel_rfl

-- slices.medianOrdered[byte]
abbrev r76_0 : List IOp := [⟨some 10, .op (.mov), [.c (.int .i64 0)], none⟩]
abbrev r76_1 : List IOp := [⟨some 12, .op (.mov), [.t 0], none⟩,
  ⟨some 13, .op (.mov), [.t 1], none⟩,
  ⟨some 14, .op (.mov), [.t 2], none⟩,
  ⟨some 15, .op (.mov), [.t 4], none⟩,
  ⟨some 16, .call none, [.f 79, .t 12, .t 13, .t 14, .t 15], none⟩,
  ⟨some 11, .op (.mov), [.t 16], none⟩,
  ⟨some 17, .op (.extract 0), [.t 11], none⟩,
  ⟨some 18, .op (.extract 1), [.t 11], none⟩,
  ⟨some 1, .op (.mov), [.t 17], none⟩,
  ⟨some 2, .op (.mov), [.t 18], none⟩]
abbrev r76_2 : List IOp := [⟨some 20, .op (.mov), [.t 0], none⟩,
  ⟨some 21, .op (.mov), [.t 2], none⟩,
  ⟨some 22, .op (.mov), [.t 3], none⟩,
  ⟨some 23, .op (.mov), [.t 4], none⟩,
  ⟨some 24, .call none, [.f 79, .t 20, .t 21, .t 22, .t 23], none⟩,
  ⟨some 19, .op (.mov), [.t 24], none⟩,
  ⟨some 25, .op (.extract 0), [.t 19], none⟩,
  ⟨some 26, .op (.extract 1), [.t 19], none⟩,
  ⟨some 2, .op (.mov), [.t 25], none⟩,
  ⟨some 3, .op (.mov), [.t 26], none⟩]
abbrev r76_3 : List IOp := [⟨some 28, .op (.mov), [.t 0], none⟩,
  ⟨some 29, .op (.mov), [.t 1], none⟩,
  ⟨some 30, .op (.mov), [.t 2], none⟩,
  ⟨some 31, .op (.mov), [.t 4], none⟩,
  ⟨some 32, .call none, [.f 79, .t 28, .t 29, .t 30, .t 31], none⟩,
  ⟨some 27, .op (.mov), [.t 32], none⟩,
  ⟨some 33, .op (.extract 0), [.t 27], none⟩,
  ⟨some 34, .op (.extract 1), [.t 27], none⟩,
  ⟨some 1, .op (.mov), [.t 33], none⟩,
  ⟨some 2, .op (.mov), [.t 34], none⟩]
abbrev r76_4 : List IOp := [⟨some 35, .op (.mov), [.t 2], none⟩,
  ⟨some 10, .op (.mov), [.t 35], none⟩]
abbrev c76 : IC := (IC.seq (IC.reg r76_0) (IC.seq (IC.reg r76_1) (IC.seq (IC.reg r76_2) (IC.seq (IC.reg r76_3) (IC.seq (IC.reg r76_4) IC.ret)))))
abbrev g76 : FC := ⟨c76, 36, [.t 10]⟩
theorem comp76 : compF Go.Proofs.Try.prog (fun _ => 0) 76 = some g76 := by kernel_rfl


-- internal/bytealg.hashStr[[]byte]
abbrev r78_0 : List IOp := [⟨some 2, .op (.mov), [.c (.int .u32 0)], none⟩,
  ⟨some 3, .op (.mov), [.c (.int .u32 0)], none⟩]
abbrev r78_1 : List IOp := [⟨some 4, .op (.mov), [.c (.int .u32 0)], none⟩]
abbrev r78_2 : List IOp := [⟨some 5, .op (.mov), [.c (.int .i64 0)], none⟩]
abbrev r78_3 : List IOp := [⟨some 9, .op (.mov), [.t 5], none⟩,
  ⟨some 10, .op (.mov), [.t 0], none⟩,
  ⟨some 11, .op (.len .slice), [.t 10], none⟩,
  ⟨some 12, .op (.bin .lss .prim), [.t 9, .t 11], none⟩]
abbrev r78_4 : List IOp := [⟨some 15, .op (.mov), [.t 4], none⟩,
  ⟨some 16, .op (.bin .mul .prim), [.t 15, .c (.int .u32 16777619)], none⟩,
  ⟨some 17, .op (.mov), [.t 0], none⟩,
  ⟨some 18, .op (.mov), [.t 5], none⟩,
  ⟨some 19, .op (.iaddr 1), [.t 17, .t 18], none⟩,
  ⟨some 20, .op (.load none), [.t 19], none⟩,
  ⟨some 21, .op (.toInt .u32), [.t 20], none⟩,
  ⟨some 22, .op (.bin .add .prim), [.t 16, .t 21], none⟩,
  ⟨some 4, .op (.mov), [.t 22], none⟩]
abbrev r78_5 : List IOp := [⟨some 13, .op (.mov), [.t 5], none⟩,
  ⟨some 14, .op (.bin .add .prim), [.t 13, .c (.int .i64 1)], none⟩,
  ⟨some 5, .op (.mov), [.t 14], none⟩]
abbrev b78_0 : IC := (IC.seq (IC.seq (IC.reg r78_3) (IC.cond (.t 12) IC.skip (IC.exit 0))) (IC.seq (IC.block 1 (IC.reg r78_4)) (IC.reg r78_5)))
abbrev r78_6 : List IOp := [⟨some 6, .op (.mov), [.c (.int .u32 1)], none⟩,
  ⟨some 7, .op (.mov), [.c (.int .u32 16777619)], none⟩]
abbrev r78_7 : List IOp := [⟨some 23, .op (.mov), [.t 0], none⟩,
  ⟨some 24, .op (.len .slice), [.t 23], none⟩,
  ⟨some 8, .op (.mov), [.t 24], none⟩]
abbrev r78_8 : List IOp := [⟨some 25, .op (.mov), [.t 8], none⟩,
  ⟨some 26, .op (.bin .gtr .prim), [.t 25, .c (.int .i64 0)], none⟩]
abbrev r78_9 : List IOp := [⟨some 29, .op (.mov), [.t 8], none⟩,
  ⟨some 30, .op (.bin .and .prim), [.t 29, .c (.int .i64 1)], none⟩,
  ⟨some 31, .op (.bin .neq .prim), [.t 30, .c (.int .i64 0)], none⟩]
abbrev r78_10 : List IOp := [⟨some 32, .op (.mov), [.t 6], none⟩,
  ⟨some 33, .op (.mov), [.t 7], none⟩,
  ⟨some 34, .op (.bin .mul .prim), [.t 32, .t 33], none⟩,
  ⟨some 6, .op (.mov), [.t 34], none⟩]
abbrev r78_11 : List IOp := [⟨some 35, .op (.mov), [.t 7], none⟩,
  ⟨some 36, .op (.mov), [.t 7], none⟩,
  ⟨some 37, .op (.bin .mul .prim), [.t 35, .t 36], none⟩,
  ⟨some 7, .op (.mov), [.t 37], none⟩]
abbrev r78_12 : List IOp := [⟨some 27, .op (.mov), [.t 8], none⟩,
  ⟨some 28, .op (.bin .shr .prim), [.t 27, .c (.int .u64 1)], none⟩,
  ⟨some 8, .op (.mov), [.t 28], none⟩]
abbrev b78_1 : IC := (IC.seq (IC.seq (IC.reg r78_8) (IC.cond (.t 26) IC.skip (IC.exit 2))) (IC.seq (IC.block 3 (IC.seq (IC.seq (IC.reg r78_9) (IC.cond (.t 31) (IC.reg r78_10) IC.skip)) (IC.reg r78_11))) (IC.reg r78_12)))
abbrev r78_13 : List IOp := [⟨some 38, .op (.mov), [.t 4], none⟩,
  ⟨some 39, .op (.mov), [.t 6], none⟩,
  ⟨some 2, .op (.mov), [.t 38], none⟩,
  ⟨some 3, .op (.mov), [.t 39], none⟩]
abbrev c78 : IC := (IC.seq (IC.reg r78_0) (IC.seq (IC.reg r78_1) (IC.seq (IC.seq (IC.reg r78_2) (IC.block 0 (IC.loop b78_0))) (IC.seq (IC.reg r78_6) (IC.seq (IC.seq (IC.reg r78_7) (IC.block 2 (IC.loop b78_1))) (IC.seq (IC.reg r78_13) IC.ret))))))
abbrev g78 : FC := ⟨c78, 40, [.t 2, .t 3]⟩
theorem comp78 : compF Go.Proofs.Try.prog (fun _ => 0) 78 = some g78 := by kernel_rfl

-- slices.order2Ordered[byte]
abbrev r79_0 : List IOp := [⟨some 8, .op (.mov), [.c (.int .i64 0)], none⟩,
  ⟨some 9, .op (.mov), [.c (.int .i64 0)], none⟩]
abbrev r79_1 : List IOp := [⟨some 10, .op (.mov), [.t 0], none⟩,
  ⟨some 11, .op (.mov), [.t 2], none⟩,
  ⟨some 12, .op (.iaddr 1), [.t 10, .t 11], none⟩,
  ⟨some 13, .op (.load none), [.t 12], none⟩,
  ⟨some 14, .op (.mov), [.t 0], none⟩,
  ⟨some 15, .op (.mov), [.t 1], none⟩,
  ⟨some 16, .op (.iaddr 1), [.t 14, .t 15], none⟩,
  ⟨some 17, .op (.load none), [.t 16], none⟩,
  ⟨some 18, .call none, [.f 42, .t 13, .t 17], none⟩]
abbrev r79_2 : List IOp := [⟨some 19, .op (.mov), [.t 3], none⟩,
  ⟨some 20, .op (.nilchk), [.t 19], none⟩,
  ⟨some 21, .op (.load none), [.t 20], none⟩,
  ⟨some 22, .op (.bin .add .prim), [.t 21, .c (.int .i64 1)], none⟩,
  ⟨some 23, .op (.nilchk), [.t 19], none⟩,
  ⟨none, .op (.store 1), [.t 23, .t 22], none⟩]
abbrev r79_3 : List IOp := [⟨some 24, .op (.mov), [.t 2], none⟩,
  ⟨some 25, .op (.mov), [.t 1], none⟩,
  ⟨some 8, .op (.mov), [.t 24], none⟩,
  ⟨some 9, .op (.mov), [.t 25], none⟩]
abbrev r79_4 : List IOp := [⟨some 26, .op (.mov), [.t 1], none⟩,
  ⟨some 27, .op (.mov), [.t 2], none⟩,
  ⟨some 8, .op (.mov), [.t 26], none⟩,
  ⟨some 9, .op (.mov), [.t 27], none⟩]
abbrev c79 : IC := (IC.seq (IC.reg r79_0) (IC.seq (IC.seq (IC.regD .wild r79_1 (.take 0 (.take 1 (.take 2 (.take 3 (.take 4 (.take 5 (.take 6 (.take 7 (.take 8 (.done))))))))))) (IC.cond (.t 18) (IC.seq (IC.reg r79_2) (IC.seq (IC.reg r79_3) IC.ret)) IC.skip)) (IC.seq (IC.reg r79_4) IC.ret)))
abbrev g79 : FC := ⟨c79, 28, [.t 8, .t 9]⟩
theorem comp79 : compF Go.Proofs.Try.prog (hintL [(1, 6)]) 79 = some g79 := by kernel_rfl

set_option maxRecDepth 100000 in
abbrev FT : FTr := (.node 42 g42 (.node 22 g22 (.node 12 g12 (.node 7 g7 (.node 5 g5 (.node 4 g4 (.node 3 g3 .nil .nil) .nil) (.node 6 g6 .nil .nil)) (.node 10 g10 (.node 9 g9 (.node 8 g8 .nil .nil) .nil) (.node 11 g11 .nil .nil))) (.node 17 g17 (.node 15 g15 (.node 14 g14 (.node 13 g13 .nil .nil) .nil) (.node 16 g16 .nil .nil)) (.node 20 g20 (.node 19 g19 (.node 18 g18 .nil .nil) .nil) (.node 21 g21 .nil .nil)))) (.node 32 g32 (.node 27 g27 (.node 25 g25 (.node 24 g24 (.node 23 g23 .nil .nil) .nil) (.node 26 g26 .nil .nil)) (.node 30 g30 (.node 29 g29 (.node 28 g28 .nil .nil) .nil) (.node 31 g31 .nil .nil))) (.node 37 g37 (.node 35 g35 (.node 34 g34 (.node 33 g33 .nil .nil) .nil) (.node 36 g36 .nil .nil)) (.node 40 g40 (.node 39 g39 (.node 38 g38 .nil .nil) .nil) (.node 41 g41 .nil .nil))))) (.node 64 g64 (.node 54 g54 (.node 47 g47 (.node 45 g45 (.node 44 g44 (.node 43 g43 .nil .nil) .nil) (.node 46 g46 .nil .nil)) (.node 52 g52 (.node 50 g50 (.node 49 g49 .nil .nil) .nil) (.node 53 g53 .nil .nil))) (.node 59 g59 (.node 57 g57 (.node 56 g56 (.node 55 g55 .nil .nil) .nil) (.node 58 g58 .nil .nil)) (.node 62 g62 (.node 61 g61 (.node 60 g60 .nil .nil) .nil) (.node 63 g63 .nil .nil)))) (.node 75 g75 (.node 70 g70 (.node 68 g68 (.node 66 g66 (.node 65 g65 .nil .nil) .nil) (.node 69 g69 .nil .nil)) (.node 73 g73 (.node 72 g72 (.node 71 g71 .nil .nil) .nil) (.node 74 g74 .nil .nil))) (.node 96 g96 (.node 79 g79 (.node 78 g78 (.node 76 g76 .nil .nil) .nil) (.node 95 g95 .nil .nil)) (.node 98 g98 (.node 97 g97 .nil .nil) (.node 99 g99 .nil .nil))))))
set_option maxRecDepth 100000 in
theorem FT_ok : FT.All (FOk Go.Proofs.Try.prog) := ⟨⟨_, comp42, by decide, .inl (by decide)⟩, ⟨⟨_, comp22, by decide, .inl (by decide)⟩, ⟨⟨_, comp12, by decide, .inl (by decide)⟩, ⟨⟨_, comp7, by decide, .inl (by decide)⟩, ⟨⟨_, comp5, by decide, .inl (by decide)⟩, ⟨⟨_, comp4, by decide, .inl (by decide)⟩, ⟨⟨_, comp3, by decide, .inl (by decide)⟩, trivial, trivial⟩, trivial⟩, ⟨⟨_, comp6, by decide, .inl (by decide)⟩, trivial, trivial⟩⟩, ⟨⟨_, comp10, by decide, .inl (by decide)⟩, ⟨⟨_, comp9, by decide, .inl (by decide)⟩, ⟨⟨_, comp8, by decide, .inl (by decide)⟩, trivial, trivial⟩, trivial⟩, ⟨⟨_, comp11, by decide, .inl (by decide)⟩, trivial, trivial⟩⟩⟩, ⟨⟨_, comp17, by decide, .inl (by decide)⟩, ⟨⟨_, comp15, by decide, .inl (by decide)⟩, ⟨⟨_, comp14, by decide, .inl (by decide)⟩, ⟨⟨_, comp13, by decide, .inl (by decide)⟩, trivial, trivial⟩, trivial⟩, ⟨⟨_, comp16, by decide, .inl (by decide)⟩, trivial, trivial⟩⟩, ⟨⟨_, comp20, by decide, .inl (by decide)⟩, ⟨⟨_, comp19, by decide, .inl (by decide)⟩, ⟨⟨_, comp18, by decide, .inl (by decide)⟩, trivial, trivial⟩, trivial⟩, ⟨⟨_, comp21, by decide, .inl (by decide)⟩, trivial, trivial⟩⟩⟩⟩, ⟨⟨_, comp32, by decide, .inr keys32⟩, ⟨⟨_, comp27, by decide, .inl (by decide)⟩, ⟨⟨_, comp25, by decide, .inl (by decide)⟩, ⟨⟨_, comp24, by decide, .inl (by decide)⟩, ⟨⟨_, comp23, by decide, .inl (by decide)⟩, trivial, trivial⟩, trivial⟩, ⟨⟨_, comp26, by decide, .inl (by decide)⟩, trivial, trivial⟩⟩, ⟨⟨_, comp30, by decide, .inl (by decide)⟩, ⟨⟨_, comp29, by decide, .inl (by decide)⟩, ⟨⟨_, comp28, by decide, .inl (by decide)⟩, trivial, trivial⟩, trivial⟩, ⟨⟨_, comp31, by decide, .inl (by decide)⟩, trivial, trivial⟩⟩⟩, ⟨⟨_, comp37, by decide, .inl (by decide)⟩, ⟨⟨_, comp35, by decide, .inl (by decide)⟩, ⟨⟨_, comp34, by decide, .inl (by decide)⟩, ⟨⟨_, comp33, by decide, .inr keys33⟩, trivial, trivial⟩, trivial⟩, ⟨⟨_, comp36, by decide, .inl (by decide)⟩, trivial, trivial⟩⟩, ⟨⟨_, comp40, by decide, .inl (by decide)⟩, ⟨⟨_, comp39, by decide, .inl (by decide)⟩, ⟨⟨_, comp38, by decide, .inl (by decide)⟩, trivial, trivial⟩, trivial⟩, ⟨⟨_, comp41, by decide, .inl (by decide)⟩, trivial, trivial⟩⟩⟩⟩⟩, ⟨⟨_, comp64, by decide, .inl (by decide)⟩, ⟨⟨_, comp54, by decide, .inl (by decide)⟩, ⟨⟨_, comp47, by decide, .inl (by decide)⟩, ⟨⟨_, comp45, by decide, .inl (by decide)⟩, ⟨⟨_, comp44, by decide, .inl (by decide)⟩, ⟨⟨_, comp43, by decide, .inl (by decide)⟩, trivial, trivial⟩, trivial⟩, ⟨⟨_, comp46, by decide, .inl (by decide)⟩, trivial, trivial⟩⟩, ⟨⟨_, comp52, by decide, .inl (by decide)⟩, ⟨⟨_, comp50, by decide, .inl (by decide)⟩, ⟨⟨_, comp49, by decide, .inl (by decide)⟩, trivial, trivial⟩, trivial⟩, ⟨⟨_, comp53, by decide, .inl (by decide)⟩, trivial, trivial⟩⟩⟩, ⟨⟨_, comp59, by decide, .inl (by decide)⟩, ⟨⟨_, comp57, by decide, .inl (by decide)⟩, ⟨⟨_, comp56, by decide, .inl (by decide)⟩, ⟨⟨_, comp55, by decide, .inl (by decide)⟩, trivial, trivial⟩, trivial⟩, ⟨⟨_, comp58, by decide, .inl (by decide)⟩, trivial, trivial⟩⟩, ⟨⟨_, comp62, by decide, .inl (by decide)⟩, ⟨⟨_, comp61, by decide, .inl (by decide)⟩, ⟨⟨_, comp60, by decide, .inl (by decide)⟩, trivial, trivial⟩, trivial⟩, ⟨⟨_, comp63, by decide, .inl (by decide)⟩, trivial, trivial⟩⟩⟩⟩, ⟨⟨_, comp75, by decide, .inl (by decide)⟩, ⟨⟨_, comp70, by decide, .inl (by decide)⟩, ⟨⟨_, comp68, by decide, .inl (by decide)⟩, ⟨⟨_, comp66, by decide, .inl (by decide)⟩, ⟨⟨_, comp65, by decide, .inl (by decide)⟩, trivial, trivial⟩, trivial⟩, ⟨⟨_, comp69, by decide, .inl (by decide)⟩, trivial, trivial⟩⟩, ⟨⟨_, comp73, by decide, .inl (by decide)⟩, ⟨⟨_, comp72, by decide, .inl (by decide)⟩, ⟨⟨_, comp71, by decide, .inl (by decide)⟩, trivial, trivial⟩, trivial⟩, ⟨⟨_, comp74, by decide, .inl (by decide)⟩, trivial, trivial⟩⟩⟩, ⟨⟨_, comp96, by decide, .inl (by decide)⟩, ⟨⟨_, comp79, by decide, .inl (by decide)⟩, ⟨⟨_, comp78, by decide, .inl (by decide)⟩, ⟨⟨_, comp76, by decide, .inl (by decide)⟩, trivial, trivial⟩, trivial⟩, ⟨⟨_, comp95, by decide, .inl (by decide)⟩, trivial, trivial⟩⟩, ⟨⟨_, comp98, by decide, .inl (by decide)⟩, ⟨⟨_, comp97, by decide, .inl (by decide)⟩, trivial, trivial⟩, ⟨⟨_, comp99, by decide, .inl (by decide)⟩, trivial, trivial⟩⟩⟩⟩⟩⟩
abbrev LT : List (Nat × LI) := [(32000, li32000), (33000, li33000)]
theorem LT_ok : LAll Go.Proofs.Try.prog LT := ⟨lok32000, ⟨lok33000, trivial⟩⟩
end Go.Gi
