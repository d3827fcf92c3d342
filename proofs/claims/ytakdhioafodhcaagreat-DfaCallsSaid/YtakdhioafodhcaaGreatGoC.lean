/- Functions of the program in the form of the abstract machine, printed by a program; each is checked against the translation. -/
import Derived.Test.YtakdhioafodhcaaGreatGiAU
import Derived.Test.YtakdhioafodhcaaGreatGiXA
import Derived.Test.YtakdhioafodhcaaGreatProg
import Derived.KernelRfl
set_option linter.unusedVariables false
set_option linter.unusedSimpArgs false
set_option linter.unusedSectionVars false
namespace Go.Gi
open Go
abbrev r3_0 : List IOp := [o1 9 (.box 26) [.t 3],
 o1 10 (.box 26) [.t 4],
 o1 12 (.mov) [.c (.bool false)]]
abbrev r3_1 : List IOp := [ca 17 [.f 4],
 o1 18 (.un .not) [.t 17]]
abbrev r3_2 : List IOp := [o1 12 (.mov) [.c (.bool false)]]
abbrev r3_3 : List IOp := [mv 19 0,
 mv 20 5,
 o1 21 (.bsl 9 1 false) [.t 20],
 ca 22 [.f 5, .t 19, .t 21],
 o1 23 (.un .not) [.t 22],
 mv 24 23,
 o2 25 (.load (some 3)) [.t 9] 24 false,
 ⟨some 26, .call none, [.f 6, .t 25], some (24, false)⟩,
 o2 27 (.un .not) [.t 26] 24 false,
 o1 28 (.pick) [.t 24, .c (.bool true), .t 27],
 mv 29 28,
 o2 30 (.load (some 3)) [.t 10] 29 false,
 ⟨some 31, .call none, [.f 6, .t 30], some (29, false)⟩,
 o2 32 (.un .not) [.t 31] 29 false,
 o1 33 (.pick) [.t 29, .c (.bool true), .t 32]]
abbrev r3_4 : List IOp := [o1 12 (.mov) [.c (.bool true)]]
abbrev r3_5 : List IOp := [mv 35 0,
 mv 36 1,
 mv 37 2,
 ca 38 [.f 7, .t 35, .t 36, .t 37],
 mv 34 38,
 o1 39 (.extract 0) [.t 34],
 o1 40 (.extract 1) [.t 34],
 o1 13 (.alloc 26 [.nils, .nils, .nils]) [],
 sr 3 [.t 13, .t 39],
 mv 14 40]
abbrev r3_6 : List IOp := [mv 42 0,
 mv 43 1,
 mv 44 2,
 ca 45 [.f 8, .t 42, .t 43, .t 44],
 mv 41 45,
 o1 46 (.extract 0) [.t 41],
 o1 47 (.extract 1) [.t 41],
 o1 15 (.alloc 26 [.nils, .nils, .nils]) [],
 sr 3 [.t 15, .t 46],
 mv 16 47]
abbrev r3_7 : List IOp := [o1 48 (.load (some 3)) [.t 13],
 o1 49 (.load (some 3)) [.t 15],
 ca 50 [.f 9, .t 48, .t 49],
 mv 51 50,
 o2 52 (.mov) [.t 14] 51 true,
 o2 53 (.mov) [.t 16] 51 true,
 o2 54 (.bin .eql .bool) [.t 52, .t 53] 51 true,
 o1 55 (.pick) [.t 51, .t 54, .c (.bool false)],
 mv 56 55,
 o2 57 (.load (some 3)) [.t 9] 56 true,
 ⟨some 58, .call none, [.f 10, .t 57], some (56, true)⟩,
 o2 59 (.load (some 3)) [.t 9] 56 true,
 ⟨some 60, .call none, [.f 11, .t 59], some (56, true)⟩,
 o2 61 (.bin .eql .prim) [.t 58, .t 60] 56 true,
 o1 62 (.pick) [.t 56, .t 61, .c (.bool false)],
 mv 63 62,
 o2 64 (.load (some 3)) [.t 9] 63 true,
 ⟨some 65, .call none, [.f 13, .t 64], some (63, true)⟩,
 o2 66 (.mov) [.t 5] 63 true,
 ⟨some 67, .call none, [.f 12, .t 65, .t 66], some (63, true)⟩,
 o2 68 (.load (some 3)) [.t 9] 63 true,
 o2 69 (.mov) [.t 5] 63 true,
 ⟨some 70, .call none, [.f 14, .t 68, .t 69], some (63, true)⟩,
 o2 71 (.bin .eql .bool) [.t 67, .t 70] 63 true,
 o1 72 (.pick) [.t 63, .t 71, .c (.bool false)],
 mv 73 72,
 o2 74 (.load (some 3)) [.t 9] 73 true,
 o2 75 (.load (some 3)) [.t 10] 73 true,
 ⟨some 76, .call none, [.f 15, .t 74, .t 75], some (73, true)⟩,
 o2 77 (.load (some 3)) [.t 9] 73 true,
 o2 78 (.load (some 3)) [.t 10] 73 true,
 ⟨some 79, .call none, [.f 9, .t 77, .t 78], some (73, true)⟩,
 o2 80 (.bin .eql .bool) [.t 76, .t 79] 73 true,
 o1 81 (.pick) [.t 73, .t 80, .c (.bool false)],
 mv 82 81,
 o2 83 (.load (some 3)) [.t 9] 82 true,
 o2 84 (.load (some 3)) [.t 9] 82 true,
 ⟨some 85, .call none, [.f 15, .t 83, .t 84], some (82, true)⟩,
 o1 86 (.pick) [.t 82, .t 85, .c (.bool false)],
 mv 12 86]
abbrev c3 : IC := (IC.seq (IC.reg r3_0) (IC.seq (IC.seq (IC.reg r3_1) (IC.cond (.t 18) (IC.seq (IC.reg r3_2) IC.ret) IC.skip)) (IC.seq (IC.seq (IC.reg r3_3) (IC.cond (.t 33) (IC.seq (IC.reg r3_4) IC.ret) IC.skip)) (IC.seq (IC.reg r3_5) (IC.seq (IC.reg r3_6) (IC.seq (IC.regD .alloc r3_7 (.take 0 (.take 1 (.take 2 (.take 3 (.take 4 (.take 5 (.take 6 (.take 7 (.take 8 (.take 9 (.take 11 (.take 10 (.take 12 (.take 13 (.take 14 (.take 15 (.take 16 (.take 18 (.take 20 (.take 17 (.take 19 (.take 21 (.take 22 (.take 23 (.take 24 (.take 25 (.take 26 (.take 27 (.take 29 (.take 30 (.take 28 (.take 31 (.take 32 (.take 33 (.take 34 (.take 35 (.take 36 (.take 37 (.take 38 (.take 39 (.done)))))))))))))))))))))))))))))))))))))))))) IC.ret))))))
abbrev g3 : FC := ⟨c3, 87, [.t 12]⟩
theorem comp3 : compF Go.Proofs.Tryz.prog (hintL [(7, 7)]) 3 = some g3 := by kernel_rfl
abbrev r4_0 : List IOp := [o1 0 (.mov) [.c (.bool false)]]
abbrev r4_1 : List IOp := [ca 4 [.f 7, .c (.str [97, 98]), .c (.bool false), .c (.int .i64 10)],
 mv 3 4,
 o1 5 (.extract 0) [.t 3],
 o1 6 (.extract 1) [.t 3],
 o1 1 (.alloc 26 [.nils, .nils, .nils]) [],
 sr 3 [.t 1, .t 5],
 mv 2 6]
abbrev r4_2 : List IOp := [mv 7 2,
 mv 8 7,
 o2 9 (.faddr 1) [.t 1] 8 true,
 o2 10 (.load none) [.t 9] 8 true,
 o2 11 (.len .slice) [.t 10] 8 true,
 o2 12 (.bin .eql .prim) [.t 11, .c (.int .i64 4)] 8 true,
 o1 13 (.pick) [.t 8, .t 12, .c (.bool false)],
 mv 14 13,
 o2 15 (.load (some 3)) [.t 1] 14 true,
 ⟨some 16, .call none, [.f 12, .t 15, .c (.str [97, 98])], some (14, true)⟩,
 o1 17 (.pick) [.t 14, .t 16, .c (.bool false)],
 mv 18 17,
 o2 19 (.load (some 3)) [.t 1] 18 true,
 ⟨some 20, .call none, [.f 12, .t 19, .c (.str [97])], some (18, true)⟩,
 o2 21 (.un .not) [.t 20] 18 true,
 o1 22 (.pick) [.t 18, .t 21, .c (.bool false)],
 mv 0 22]
abbrev c4 : IC := (IC.seq (IC.reg r4_0) (IC.seq (IC.reg r4_1) (IC.seq (IC.reg r4_2) IC.ret)))
abbrev g4 : FC := ⟨c4, 23, [.t 0]⟩
theorem comp4 : compF Go.Proofs.Tryz.prog (fun _ => 0) 4 = some g4 := by kernel_rfl
abbrev r5_0 : List IOp := [o1 4 (.mov) [.c (.bool false)]]
abbrev r5_1 : List IOp := [mv 5 0,
 o1 6 (.len .str) [.t 5],
 o1 7 (.bin .leq .prim) [.t 6, .c (.int .i64 60)],
 mv 8 7,
 o2 9 (.mov) [.t 1] 8 true,
 ⟨some 10, .call none, [.f 16, .t 9, .c (.int .i64 20), .c (.int .i64 200)], some (8, true)⟩,
 o1 11 (.pick) [.t 8, .t 10, .c (.bool false)],
 mv 4 11]
abbrev c5 : IC := (IC.seq (IC.reg r5_0) (IC.seq (IC.reg r5_1) IC.ret))
abbrev g5 : FC := ⟨c5, 12, [.t 4]⟩
theorem comp5 : compF Go.Proofs.Tryz.prog (fun _ => 0) 5 = some g5 := by kernel_rfl
abbrev r6_0 : List IOp := [o1 1 (.box 26) [.t 0],
 o1 2 (.mov) [.c (.bool false)]]
abbrev r6_1 : List IOp := [o1 3 (.mov) [.c (.int .i64 0)]]
abbrev r6_2 : List IOp := [mv 4 3,
 o1 5 (.faddr 1) [.t 1],
 o1 6 (.load none) [.t 5],
 o1 7 (.len .slice) [.t 6],
 o1 8 (.bin .lss .prim) [.t 4, .t 7]]
abbrev r6_3 : List IOp := [o1 11 (.faddr 1) [.t 1],
 o1 12 (.load none) [.t 11],
 mv 13 3,
 o1 14 (.iaddr 1) [.t 12, .t 13],
 o1 15 (.load none) [.t 14],
 o1 16 (.len .slice) [.t 15],
 o1 17 (.bin .gtr .prim) [.t 16, .c (.int .i64 300)]]
abbrev r6_4 : List IOp := [o1 2 (.mov) [.c (.bool false)]]
abbrev r6_5 : List IOp := [mv 9 3,
 o1 10 (.bin .add .prim) [.t 9, .c (.int .i64 1)],
 mv 3 10]
abbrev b6_0 : IC := (IC.seq (IC.seq (IC.reg r6_2) (IC.cond (.t 8) IC.skip (IC.exit 0))) (IC.seq (IC.block 1 (IC.seq (IC.reg r6_3) (IC.cond (.t 17) (IC.seq (IC.reg r6_4) IC.ret) IC.skip))) (IC.reg r6_5)))
abbrev r6_6 : List IOp := [o1 18 (.faddr 0) [.t 1],
 o1 19 (.load none) [.t 18],
 o1 20 (.len .slice) [.t 19],
 o1 21 (.bin .leq .prim) [.t 20, .c (.int .i64 300)],
 mv 22 21,
 o2 23 (.faddr 1) [.t 1] 22 true,
 o2 24 (.load none) [.t 23] 22 true,
 o2 25 (.len .slice) [.t 24] 22 true,
 o2 26 (.bin .leq .prim) [.t 25, .c (.int .i64 300)] 22 true,
 o1 27 (.pick) [.t 22, .t 26, .c (.bool false)],
 mv 28 27,
 o2 29 (.faddr 2) [.t 1] 28 true,
 o2 30 (.load none) [.t 29] 28 true,
 o2 31 (.len .slice) [.t 30] 28 true,
 o2 32 (.bin .leq .prim) [.t 31, .c (.int .i64 300)] 28 true,
 o1 33 (.pick) [.t 28, .t 32, .c (.bool false)],
 mv 2 33]
abbrev c6 : IC := (IC.seq (IC.reg r6_0) (IC.seq (IC.seq (IC.reg r6_1) (IC.block 0 (IC.loop b6_0))) (IC.seq (IC.reg r6_6) IC.ret)))
abbrev g6 : FC := ⟨c6, 34, [.t 2]⟩
theorem comp6 : compF Go.Proofs.Tryz.prog (fun _ => 0) 6 = some g6 := by kernel_rfl
abbrev r7_0 : List IOp := [o1 6 (.alloc 26 [.nils, .nils, .nils]) [],
 o1 7 (.mov) [.c (.bool false)]]
abbrev r7_1 : List IOp := [mv 23 0,
 mv 24 1,
 ca 25 [.f 17, .t 23, .t 24],
 mv 22 25,
 o1 26 (.extract 0) [.t 22],
 o1 27 (.extract 1) [.t 22],
 mv 8 26,
 mv 9 27]
abbrev r7_2 : List IOp := [mv 28 9,
 o1 29 (.bin .neq .prim) [.t 28, .c (.int .i64 0)],
 mv 30 29,
 o2 31 (.mov) [.t 2] 30 false,
 o2 32 (.bin .lss .prim) [.t 31, .c (.int .i64 1)] 30 false,
 o1 33 (.pick) [.t 30, .c (.bool true), .t 32],
 mv 34 33,
 o2 35 (.mov) [.t 2] 34 false,
 o2 36 (.bin .gtr .prim) [.t 35, .c (.int .i64 256)] 34 false,
 o1 37 (.pick) [.t 34, .c (.bool true), .t 36]]
abbrev r7_3 : List IOp := [o1 38 (.bst [.nils, .nils, .nils] [(0, 1), (1, 1), (2, 1)] []) [],
 sr 3 [.t 6, .t 38],
 o1 7 (.mov) [.c (.bool false)]]
abbrev r7_4 : List IOp := [mv 40 8,
 ca 41 [.f 18, .t 40],
 mv 39 41,
 o1 42 (.extract 0) [.t 39],
 o1 43 (.extract 1) [.t 39],
 mv 10 42,
 mv 11 43]
abbrev r7_5 : List IOp := [mv 45 10,
 mv 46 1,
 ca 47 [.f 19, .t 45, .t 46],
 mv 44 47,
 o1 48 (.extract 0) [.t 44],
 o1 49 (.extract 1) [.t 44],
 o1 12 (.alloc 45 [.int .i64 0, .int .i64 0, .int .i64 0, .int .i64 0, .int .i64 0, .int .i64 0, .int .i64 0, .int .i64 0, .int .i64 0, .int .i64 0, .int .i64 0, .int .i64 0, .int .i64 0, .int .i64 0, .int .i64 0, .int .i64 0, .int .i64 0, .int .i64 0, .int .i64 0, .int .i64 0, .int .i64 0, .int .i64 0, .int .i64 0, .int .i64 0, .int .i64 0, .int .i64 0, .int .i64 0, .int .i64 0, .int .i64 0, .int .i64 0, .int .i64 0, .int .i64 0, .int .i64 0, .int .i64 0, .int .i64 0, .int .i64 0, .int .i64 0, .int .i64 0, .int .i64 0, .int .i64 0, .int .i64 0, .int .i64 0, .int .i64 0, .int .i64 0, .int .i64 0, .int .i64 0, .int .i64 0, .int .i64 0, .int .i64 0, .int .i64 0, .int .i64 0, .int .i64 0, .int .i64 0, .int .i64 0, .int .i64 0, .int .i64 0, .int .i64 0, .int .i64 0, .int .i64 0, .int .i64 0, .int .i64 0, .int .i64 0, .int .i64 0, .int .i64 0, .int .i64 0, .int .i64 0, .int .i64 0, .int .i64 0, .int .i64 0, .int .i64 0, .int .i64 0, .int .i64 0, .int .i64 0, .int .i64 0, .int .i64 0, .int .i64 0, .int .i64 0, .int .i64 0, .int .i64 0, .int .i64 0, .int .i64 0, .int .i64 0, .int .i64 0, .int .i64 0, .int .i64 0, .int .i64 0, .int .i64 0, .int .i64 0, .int .i64 0, .int .i64 0, .int .i64 0, .int .i64 0, .int .i64 0, .int .i64 0, .int .i64 0, .int .i64 0, .int .i64 0, .int .i64 0, .int .i64 0, .int .i64 0, .int .i64 0, .int .i64 0, .int .i64 0, .int .i64 0, .int .i64 0, .int .i64 0, .int .i64 0, .int .i64 0, .int .i64 0, .int .i64 0, .int .i64 0, .int .i64 0, .int .i64 0, .int .i64 0, .int .i64 0, .int .i64 0, .int .i64 0, .int .i64 0, .int .i64 0, .int .i64 0, .int .i64 0, .int .i64 0, .int .i64 0, .int .i64 0, .int .i64 0, .int .i64 0, .int .i64 0, .int .i64 0, .int .i64 0, .int .i64 0, .int .i64 0, .int .i64 0, .int .i64 0, .int .i64 0, .int .i64 0, .int .i64 0, .int .i64 0, .int .i64 0, .int .i64 0, .int .i64 0, .int .i64 0, .int .i64 0, .int .i64 0, .int .i64 0, .int .i64 0, .int .i64 0, .int .i64 0, .int .i64 0, .int .i64 0, .int .i64 0, .int .i64 0, .int .i64 0, .int .i64 0, .int .i64 0, .int .i64 0, .int .i64 0, .int .i64 0, .int .i64 0, .int .i64 0, .int .i64 0, .int .i64 0, .int .i64 0, .int .i64 0, .int .i64 0, .int .i64 0, .int .i64 0, .int .i64 0, .int .i64 0, .int .i64 0, .int .i64 0, .int .i64 0, .int .i64 0, .int .i64 0, .int .i64 0, .int .i64 0, .int .i64 0, .int .i64 0, .int .i64 0, .int .i64 0, .int .i64 0, .int .i64 0, .int .i64 0, .int .i64 0, .int .i64 0, .int .i64 0, .int .i64 0, .int .i64 0, .int .i64 0, .int .i64 0, .int .i64 0, .int .i64 0, .int .i64 0, .int .i64 0, .int .i64 0, .int .i64 0, .int .i64 0, .int .i64 0, .int .i64 0, .int .i64 0, .int .i64 0, .int .i64 0, .int .i64 0, .int .i64 0, .int .i64 0, .int .i64 0, .int .i64 0, .int .i64 0, .int .i64 0, .int .i64 0, .int .i64 0, .int .i64 0, .int .i64 0, .int .i64 0, .int .i64 0, .int .i64 0, .int .i64 0, .int .i64 0, .int .i64 0, .int .i64 0, .int .i64 0, .int .i64 0, .int .i64 0, .int .i64 0, .int .i64 0, .int .i64 0, .int .i64 0, .int .i64 0, .int .i64 0, .int .i64 0, .int .i64 0, .int .i64 0, .int .i64 0, .int .i64 0, .int .i64 0, .int .i64 0, .int .i64 0, .int .i64 0, .int .i64 0, .int .i64 0, .int .i64 0, .int .i64 0, .int .i64 0, .int .i64 0, .int .i64 0, .int .i64 0, .int .i64 0, .int .i64 0, .int .i64 0, .int .i64 0, .int .i64 0, .int .i64 0, .int .i64 0, .int .i64 0, .int .i64 0, .int .i64 0, .int .i64 0]) [],
 sr 256 [.t 12, .t 48],
 mv 13 49]
abbrev r7_6 : List IOp := [o1 50 (.aslice 256 1 false false false) [.t 12],
 o1 51 (.bst [.nils, .nils, .nils] [(0, 1), (1, 1), (2, 1)] [0]) [.t 50],
 o1 14 (.alloc 26 [.nils, .nils, .nils]) [],
 sr 3 [.t 14, .t 51]]
abbrev r7_7 : List IOp := [o1 52 (.mkmap false) [],
 o1 15 (.alloc 48 [.nilm]) [],
 sr 1 [.t 15, .t 52]]
abbrev r7_8 : List IOp := [o1 16 (.alloc 23 [.nils]) []]
abbrev r7_9 : List IOp := [o1 53 (.mkfn 20) [.t 15, .t 16],
 mv 17 53]
abbrev r7_10 : List IOp := [mv 54 17,
 mv 55 8,
 ca 56 [.f 22, .t 55],
 ca 57 [.t 54, .t 56]]
abbrev r7_11 : List IOp := [o1 18 (.mov) [.c (.int .i64 0)]]
abbrev r7_12 : List IOp := [mv 58 18,
 o1 59 (.load none) [.t 16],
 o1 60 (.len .slice) [.t 59],
 o1 61 (.bin .lss .prim) [.t 58, .t 60]]
abbrev r7_13 : List IOp := [o1 64 (.load none) [.t 16],
 o1 65 (.len .slice) [.t 64],
 mv 66 2,
 o1 67 (.bin .gtr .prim) [.t 65, .t 66]]
abbrev r7_14 : List IOp := [o1 68 (.bst [.nils, .nils, .nils] [(0, 1), (1, 1), (2, 1)] []) [],
 sr 3 [.t 6, .t 68],
 o1 7 (.mov) [.c (.bool false)]]
abbrev r7_15 : List IOp := [o1 19 (.mov) [.c (.nils)]]
abbrev r7_16 : List IOp := [mv 69 13,
 o1 70 (.len .slice) [.t 69],
 o1 71 (.mov) [.c (.int .i64 0)]]
abbrev r7_17 : List IOp := [o1 72 (.bin .lss .prim) [.t 71, .t 70]]
abbrev r7_18 : List IOp := [o1 73 (.iaddr 1) [.t 69, .t 71],
 o1 74 (.load none) [.t 73],
 mv 21 74]
abbrev r7_19 : List IOp := [mv 75 21,
 o1 76 (.bin .lss .prim) [.t 75, .c (.int .i64 0)]]
abbrev r7_20 : List IOp := [mv 77 19,
 o1 78 (.bsl 3 1 false) [.c (.int .i64 0)],
 o1 79 (.app 3 1 8) [.t 77, .t 78],
 mv 19 79]
abbrev r7_21 : List IOp := [mv 80 19,
 mv 81 17,
 mv 82 8,
 o1 83 (.load none) [.t 16],
 mv 84 18,
 o1 85 (.iaddr 1) [.t 83, .t 84],
 o1 86 (.load none) [.t 85],
 mv 87 21,
 o1 88 (.toInt .u8) [.t 87],
 ca 89 [.f 23, .t 82, .t 86, .t 88],
 ca 90 [.t 81, .t 89],
 o1 91 (.bsl 3 1 false) [.t 90],
 o1 92 (.app 3 1 8) [.t 80, .t 91],
 mv 19 92]
abbrev r7_22 : List IOp := [o1 93 (.bin .add .prim) [.t 71, .c (.int .i64 1)],
 mv 71 93]
abbrev b7_0 : IC := (IC.seq (IC.reg r7_17) (IC.seq (IC.cond (.t 72) IC.skip (IC.exit 2)) (IC.seq (IC.block 3 (IC.seq (IC.reg r7_18) (IC.seq (IC.seq (IC.reg r7_19) (IC.cond (.t 76) (IC.seq (IC.reg r7_20) (IC.exit 3)) IC.skip)) (IC.reg r7_21)))) (IC.reg r7_22))))
abbrev r7_23 : List IOp := [o1 94 (.faddr 1) [.t 14],
 o1 95 (.load none) [.t 94],
 mv 96 19,
 o1 97 (.bsl 22 1 false) [.t 96],
 o1 98 (.app 22 1 24) [.t 95, .t 97],
 o1 99 (.faddr 1) [.t 14],
 sr 1 [.t 99, .t 98]]
abbrev r7_24 : List IOp := [o1 100 (.faddr 2) [.t 14],
 o1 101 (.load none) [.t 100],
 mv 102 8,
 o1 103 (.load none) [.t 16],
 mv 104 18,
 o1 105 (.iaddr 1) [.t 103, .t 104],
 o1 106 (.load none) [.t 105],
 ca 107 [.f 24, .t 102, .t 106],
 o1 108 (.bsl 4 1 false) [.t 107],
 o1 109 (.app 4 1 1) [.t 101, .t 108],
 o1 110 (.faddr 2) [.t 14],
 sr 1 [.t 110, .t 109]]
abbrev r7_25 : List IOp := [mv 62 18,
 o1 63 (.bin .add .prim) [.t 62, .c (.int .i64 1)],
 mv 18 63]
abbrev b7_1 : IC := (IC.seq (IC.seq (IC.reg r7_12) (IC.cond (.t 61) IC.skip (IC.exit 0))) (IC.seq (IC.block 1 (IC.seq (IC.seq (IC.reg r7_13) (IC.cond (.t 67) (IC.seq (IC.reg r7_14) IC.ret) IC.skip)) (IC.seq (IC.reg r7_15) (IC.seq (IC.seq (IC.reg r7_16) (IC.block 2 (IC.loop b7_0))) (IC.seq (IC.reg r7_23) (IC.regD .alloc r7_24 (.take 0 (.take 1 (.take 2 (.take 3 (.take 4 (.take 5 (.take 6 (.take 7 (.take 8 (.take 9 (.take 10 (.take 11 (.done))))))))))))))))))) (IC.reg r7_25)))
abbrev r7_26 : List IOp := [o1 111 (.load (some 3)) [.t 14],
 sr 3 [.t 6, .t 111],
 o1 7 (.mov) [.c (.bool true)]]
abbrev c7 : IC := (IC.seq (IC.reg r7_0) (IC.seq (IC.reg r7_1) (IC.seq (IC.seq (IC.reg r7_2) (IC.cond (.t 37) (IC.seq (IC.reg r7_3) IC.ret) IC.skip)) (IC.seq (IC.reg r7_4) (IC.seq (IC.reg r7_5) (IC.seq (IC.reg r7_6) (IC.seq (IC.reg r7_7) (IC.seq (IC.reg r7_8) (IC.seq (IC.reg r7_9) (IC.seq (IC.reg r7_10) (IC.seq (IC.seq (IC.reg r7_11) (IC.block 0 (IC.loop b7_1))) (IC.seq (IC.reg r7_26) IC.ret))))))))))))
abbrev g7 : FC := ⟨c7, 112, [.cell 6 (some 3), .t 7]⟩
theorem comp7 : compF Go.Proofs.Tryz.prog (hintL [(25, 7)]) 7 = some g7 := by kernel_rfl
abbrev r8_0 : List IOp := [o1 6 (.alloc 26 [.nils, .nils, .nils]) [],
 o1 7 (.mov) [.c (.bool false)]]
abbrev r8_1 : List IOp := [mv 20 0,
 mv 21 1,
 ca 22 [.f 25, .t 20, .t 21],
 mv 19 22,
 o1 23 (.extract 0) [.t 19],
 o1 24 (.extract 1) [.t 19],
 mv 8 23,
 mv 9 24]
abbrev r8_2 : List IOp := [mv 25 9,
 o1 26 (.bin .neq .prim) [.t 25, .c (.int .i64 0)],
 mv 27 26,
 o2 28 (.mov) [.t 2] 27 false,
 o2 29 (.bin .lss .prim) [.t 28, .c (.int .i64 1)] 27 false,
 o1 30 (.pick) [.t 27, .c (.bool true), .t 29],
 mv 31 30,
 o2 32 (.mov) [.t 2] 31 false,
 o2 33 (.bin .gtr .prim) [.t 32, .c (.int .i64 256)] 31 false,
 o1 34 (.pick) [.t 31, .c (.bool true), .t 33]]
abbrev r8_3 : List IOp := [o1 35 (.bst [.nils, .nils, .nils] [(0, 1), (1, 1), (2, 1)] []) [],
 sr 3 [.t 6, .t 35],
 o1 7 (.mov) [.c (.bool false)]]
abbrev r8_4 : List IOp := [mv 37 8,
 ca 38 [.f 26, .t 37],
 mv 36 38,
 o1 39 (.extract 0) [.t 36],
 o1 40 (.extract 1) [.t 36],
 mv 10 39,
 mv 11 40]
abbrev r8_5 : List IOp := [mv 41 10,
 o1 42 (.bst [.nils, .nils, .nils] [(0, 1), (1, 1), (2, 1)] [0]) [.t 41],
 o1 12 (.alloc 26 [.nils, .nils, .nils]) [],
 sr 3 [.t 12, .t 42]]
abbrev r8_6 : List IOp := [mv 43 8,
 ca 44 [.f 27, .t 43],
 o1 45 (.bsl 22 1 false) [.t 44],
 mv 13 45]
abbrev r8_7 : List IOp := [o1 14 (.mov) [.c (.int .i64 0)]]
abbrev r8_8 : List IOp := [mv 46 14,
 mv 47 13,
 o1 48 (.len .slice) [.t 47],
 o1 49 (.bin .lss .prim) [.t 46, .t 48]]
abbrev r8_9 : List IOp := [o1 15 (.mov) [.c (.nils)]]
abbrev r8_10 : List IOp := [o1 16 (.mov) [.c (.int .i64 0)]]
abbrev r8_11 : List IOp := [mv 52 16,
 mv 53 11,
 o1 54 (.len .slice) [.t 53],
 o1 55 (.bin .lss .prim) [.t 52, .t 54]]
abbrev r8_12 : List IOp := [mv 58 8,
 mv 59 13,
 mv 60 14,
 o1 61 (.iaddr 1) [.t 59, .t 60],
 o1 62 (.load none) [.t 61],
 mv 63 11,
 mv 64 16,
 o1 65 (.iaddr 1) [.t 63, .t 64],
 o1 66 (.load none) [.t 65],
 ca 67 [.f 28, .t 58, .t 62, .t 66],
 mv 17 67]
abbrev r8_13 : List IOp := [mv 68 13,
 mv 69 17,
 ca 70 [.f 29, .t 68, .t 69],
 mv 18 70]
abbrev r8_14 : List IOp := [mv 71 18,
 mv 72 13,
 o1 73 (.len .slice) [.t 72],
 o1 74 (.bin .eql .prim) [.t 71, .t 73]]
abbrev r8_15 : List IOp := [mv 75 13,
 mv 76 17,
 o1 77 (.bsl 22 1 false) [.t 76],
 o1 78 (.app 22 1 24) [.t 75, .t 77],
 mv 13 78]
abbrev r8_16 : List IOp := [mv 79 13,
 o1 80 (.len .slice) [.t 79],
 mv 81 2,
 o1 82 (.bin .gtr .prim) [.t 80, .t 81]]
abbrev r8_17 : List IOp := [o1 83 (.bst [.nils, .nils, .nils] [(0, 1), (1, 1), (2, 1)] []) [],
 sr 3 [.t 6, .t 83],
 o1 7 (.mov) [.c (.bool false)]]
abbrev r8_18 : List IOp := [mv 84 15,
 mv 85 18,
 o1 86 (.bsl 3 1 false) [.t 85],
 o1 87 (.app 3 1 8) [.t 84, .t 86],
 mv 15 87]
abbrev r8_19 : List IOp := [mv 56 16,
 o1 57 (.bin .add .prim) [.t 56, .c (.int .i64 1)],
 mv 16 57]
abbrev b8_0 : IC := (IC.seq (IC.seq (IC.reg r8_11) (IC.cond (.t 55) IC.skip (IC.exit 2))) (IC.seq (IC.block 3 (IC.seq (IC.regD .wild r8_12 (.take 0 (.take 1 (.take 2 (.take 3 (.take 4 (.take 5 (.take 6 (.take 7 (.take 8 (.take 9 (.take 10 (.done))))))))))))) (IC.seq (IC.reg r8_13) (IC.seq (IC.seq (IC.reg r8_14) (IC.cond (.t 74) (IC.reg r8_15) IC.skip)) (IC.seq (IC.seq (IC.reg r8_16) (IC.cond (.t 82) (IC.seq (IC.reg r8_17) IC.ret) IC.skip)) (IC.reg r8_18)))))) (IC.reg r8_19)))
abbrev r8_20 : List IOp := [o1 88 (.faddr 1) [.t 12],
 o1 89 (.load none) [.t 88],
 mv 90 15,
 o1 91 (.bsl 22 1 false) [.t 90],
 o1 92 (.app 22 1 24) [.t 89, .t 91],
 o1 93 (.faddr 2) [.t 12],
 o1 94 (.load none) [.t 93],
 mv 95 8,
 mv 96 13,
 mv 97 14,
 o1 98 (.iaddr 1) [.t 96, .t 97],
 o1 99 (.load none) [.t 98],
 ca 100 [.f 30, .t 95, .t 99],
 o1 101 (.bsl 4 1 false) [.t 100],
 o1 102 (.app 4 1 1) [.t 94, .t 101],
 o1 103 (.faddr 1) [.t 12],
 sr 1 [.t 103, .t 92],
 o1 104 (.faddr 2) [.t 12],
 sr 1 [.t 104, .t 102]]
abbrev r8_21 : List IOp := [mv 50 14,
 o1 51 (.bin .add .prim) [.t 50, .c (.int .i64 1)],
 mv 14 51]
abbrev b8_1 : IC := (IC.seq (IC.seq (IC.reg r8_8) (IC.cond (.t 49) IC.skip (IC.exit 0))) (IC.seq (IC.block 1 (IC.seq (IC.reg r8_9) (IC.seq (IC.seq (IC.reg r8_10) (IC.block 2 (IC.loop b8_0))) (IC.regD .alloc r8_20 (.take 0 (.take 1 (.take 2 (.take 5 (.take 7 (.take 8 (.take 9 (.take 10 (.fork [(3, .fork [(4, .take 6 (.take 11 (.take 12 (.take 13 (.take 14 (.take 15 (.take 16 (.take 17 (.take 18 (.done)))))))))), (6, .fork [(4, .take 11 (.take 12 (.take 13 (.take 14 (.take 15 (.take 16 (.take 17 (.take 18 (.done))))))))), (11, .take 4 (.take 12 (.take 13 (.take 14 (.take 15 (.take 16 (.take 17 (.take 18 (.done)))))))))]), (11, .fork [(4, .take 6 (.take 12 (.take 13 (.take 14 (.take 15 (.take 16 (.take 17 (.take 18 (.done))))))))), (6, .take 4 (.take 12 (.take 13 (.take 14 (.take 15 (.take 16 (.take 17 (.take 18 (.done)))))))))])]), (6, .fork [(3, .fork [(4, .take 11 (.take 12 (.take 13 (.take 14 (.take 15 (.take 16 (.take 17 (.take 18 (.done))))))))), (11, .take 4 (.take 12 (.take 13 (.take 14 (.take 15 (.take 16 (.take 17 (.take 18 (.done)))))))))]), (11, .take 3 (.take 4 (.take 12 (.take 13 (.take 14 (.take 15 (.take 16 (.take 17 (.take 18 (.done))))))))))]), (11, .fork [(3, .fork [(4, .take 6 (.take 12 (.take 13 (.take 14 (.take 15 (.take 16 (.take 17 (.take 18 (.done))))))))), (6, .take 4 (.take 12 (.take 13 (.take 14 (.take 15 (.take 16 (.take 17 (.take 18 (.done)))))))))]), (6, .take 3 (.take 4 (.take 12 (.take 13 (.take 14 (.take 15 (.take 16 (.take 17 (.take 18 (.done))))))))))])]))))))))))))) (IC.reg r8_21)))
abbrev r8_22 : List IOp := [o1 105 (.load (some 3)) [.t 12],
 sr 3 [.t 6, .t 105],
 o1 7 (.mov) [.c (.bool true)]]
abbrev c8 : IC := (IC.seq (IC.reg r8_0) (IC.seq (IC.reg r8_1) (IC.seq (IC.seq (IC.reg r8_2) (IC.cond (.t 34) (IC.seq (IC.reg r8_3) IC.ret) IC.skip)) (IC.seq (IC.reg r8_4) (IC.seq (IC.reg r8_5) (IC.seq (IC.reg r8_6) (IC.seq (IC.seq (IC.reg r8_7) (IC.block 0 (IC.loop b8_1))) (IC.seq (IC.reg r8_22) IC.ret))))))))
abbrev g8 : FC := ⟨c8, 106, [.cell 6 (some 3), .t 7]⟩
theorem comp8 : compF Go.Proofs.Tryz.prog (hintL [(14, 6), (21, 7)]) 8 = some g8 := by kernel_rfl
abbrev r9_0 : List IOp := [o1 2 (.box 26) [.t 0],
 o1 3 (.box 26) [.t 1],
 o1 4 (.mov) [.c (.bool false)]]
abbrev r9_1 : List IOp := [o1 7 (.faddr 0) [.t 2],
 o1 8 (.load none) [.t 7],
 o1 9 (.faddr 0) [.t 3],
 o1 10 (.load none) [.t 9],
 ca 11 [.f 31, .t 8, .t 10],
 o1 12 (.un .not) [.t 11],
 mv 13 12,
 o2 14 (.faddr 1) [.t 2] 13 false,
 o2 15 (.load none) [.t 14] 13 false,
 o2 16 (.len .slice) [.t 15] 13 false,
 o2 17 (.faddr 1) [.t 3] 13 false,
 o2 18 (.load none) [.t 17] 13 false,
 o2 19 (.len .slice) [.t 18] 13 false,
 o2 20 (.bin .neq .prim) [.t 16, .t 19] 13 false,
 o1 21 (.pick) [.t 13, .c (.bool true), .t 20],
 mv 22 21,
 o2 23 (.faddr 2) [.t 2] 22 false,
 o2 24 (.load none) [.t 23] 22 false,
 o2 25 (.len .slice) [.t 24] 22 false,
 o2 26 (.faddr 2) [.t 3] 22 false,
 o2 27 (.load none) [.t 26] 22 false,
 o2 28 (.len .slice) [.t 27] 22 false,
 o2 29 (.bin .neq .prim) [.t 25, .t 28] 22 false,
 o1 30 (.pick) [.t 22, .c (.bool true), .t 29]]
abbrev r9_2 : List IOp := [o1 4 (.mov) [.c (.bool false)]]
abbrev r9_3 : List IOp := [o1 5 (.mov) [.c (.int .i64 0)]]
abbrev r9_4 : List IOp := [mv 31 5,
 o1 32 (.faddr 1) [.t 2],
 o1 33 (.load none) [.t 32],
 o1 34 (.len .slice) [.t 33],
 o1 35 (.bin .lss .prim) [.t 31, .t 34]]
abbrev r9_5 : List IOp := [o1 38 (.faddr 1) [.t 2],
 o1 39 (.load none) [.t 38],
 mv 40 5,
 o1 41 (.iaddr 1) [.t 39, .t 40],
 o1 42 (.load none) [.t 41],
 o1 43 (.faddr 1) [.t 3],
 o1 44 (.load none) [.t 43],
 mv 45 5,
 o1 46 (.iaddr 1) [.t 44, .t 45],
 o1 47 (.load none) [.t 46],
 ca 48 [.f 31, .t 42, .t 47],
 o1 49 (.un .not) [.t 48]]
abbrev r9_6 : List IOp := [o1 4 (.mov) [.c (.bool false)]]
abbrev r9_7 : List IOp := [mv 36 5,
 o1 37 (.bin .add .prim) [.t 36, .c (.int .i64 1)],
 mv 5 37]
abbrev b9_0 : IC := (IC.seq (IC.seq (IC.reg r9_4) (IC.cond (.t 35) IC.skip (IC.exit 0))) (IC.seq (IC.block 1 (IC.seq (IC.regD .wild r9_5 (.take 0 (.take 1 (.take 2 (.take 3 (.take 4 (.take 5 (.take 6 (.take 7 (.take 8 (.take 9 (.take 10 (.take 11 (.done)))))))))))))) (IC.cond (.t 49) (IC.seq (IC.reg r9_6) IC.ret) IC.skip))) (IC.reg r9_7)))
abbrev r9_8 : List IOp := [o1 6 (.mov) [.c (.int .i64 0)]]
abbrev r9_9 : List IOp := [mv 50 6,
 o1 51 (.faddr 2) [.t 2],
 o1 52 (.load none) [.t 51],
 o1 53 (.len .slice) [.t 52],
 o1 54 (.bin .lss .prim) [.t 50, .t 53]]
abbrev r9_10 : List IOp := [o1 57 (.faddr 2) [.t 2],
 o1 58 (.load none) [.t 57],
 mv 59 6,
 o1 60 (.iaddr 1) [.t 58, .t 59],
 o1 61 (.load none) [.t 60],
 o1 62 (.faddr 2) [.t 3],
 o1 63 (.load none) [.t 62],
 mv 64 6,
 o1 65 (.iaddr 1) [.t 63, .t 64],
 o1 66 (.load none) [.t 65],
 o1 67 (.bin .neq .bool) [.t 61, .t 66]]
abbrev r9_11 : List IOp := [o1 4 (.mov) [.c (.bool false)]]
abbrev r9_12 : List IOp := [mv 55 6,
 o1 56 (.bin .add .prim) [.t 55, .c (.int .i64 1)],
 mv 6 56]
abbrev b9_1 : IC := (IC.seq (IC.seq (IC.reg r9_9) (IC.cond (.t 54) IC.skip (IC.exit 2))) (IC.seq (IC.block 3 (IC.seq (IC.regD .wild r9_10 (.take 0 (.take 1 (.take 2 (.take 3 (.take 4 (.take 5 (.take 6 (.take 7 (.take 8 (.take 9 (.take 10 (.done))))))))))))) (IC.cond (.t 67) (IC.seq (IC.reg r9_11) IC.ret) IC.skip))) (IC.reg r9_12)))
abbrev r9_13 : List IOp := [o1 4 (.mov) [.c (.bool true)]]
abbrev c9 : IC := (IC.seq (IC.reg r9_0) (IC.seq (IC.seq (IC.reg r9_1) (IC.cond (.t 30) (IC.seq (IC.reg r9_2) IC.ret) IC.skip)) (IC.seq (IC.seq (IC.reg r9_3) (IC.block 0 (IC.loop b9_0))) (IC.seq (IC.seq (IC.reg r9_8) (IC.block 2 (IC.loop b9_1))) (IC.seq (IC.reg r9_13) IC.ret)))))
abbrev g9 : FC := ⟨c9, 68, [.t 4]⟩
theorem comp9 : compF Go.Proofs.Tryz.prog (hintL [(6, 6), (11, 6)]) 9 = some g9 := by kernel_rfl
abbrev r10_0 : List IOp := [o1 1 (.box 26) [.t 0],
 o1 2 (.mov) [.c (.int .i64 0)]]
abbrev r10_1 : List IOp := [o1 6 (.faddr 0) [.t 1],
 o1 7 (.load none) [.t 6],
 o1 8 (.len .slice) [.t 7],
 o1 9 (.bin .neq .prim) [.t 8, .c (.int .i64 256)],
 mv 10 9,
 o2 11 (.faddr 1) [.t 1] 10 false,
 o2 12 (.load none) [.t 11] 10 false,
 o2 13 (.len .slice) [.t 12] 10 false,
 o2 14 (.bin .lss .prim) [.t 13, .c (.int .i64 1)] 10 false,
 o1 15 (.pick) [.t 10, .c (.bool true), .t 14],
 mv 16 15,
 o2 17 (.faddr 1) [.t 1] 16 false,
 o2 18 (.load none) [.t 17] 16 false,
 o2 19 (.len .slice) [.t 18] 16 false,
 o2 20 (.bin .gtr .prim) [.t 19, .c (.int .i64 256)] 16 false,
 o1 21 (.pick) [.t 16, .c (.bool true), .t 20],
 mv 22 21,
 o2 23 (.faddr 2) [.t 1] 22 false,
 o2 24 (.load none) [.t 23] 22 false,
 o2 25 (.len .slice) [.t 24] 22 false,
 o2 26 (.faddr 1) [.t 1] 22 false,
 o2 27 (.load none) [.t 26] 22 false,
 o2 28 (.len .slice) [.t 27] 22 false,
 o2 29 (.bin .neq .prim) [.t 25, .t 28] 22 false,
 o1 30 (.pick) [.t 22, .c (.bool true), .t 29],
 mv 31 30,
 o2 32 (.faddr 1) [.t 1] 31 false,
 o2 33 (.load none) [.t 32] 31 false,
 o2 34 (.iaddr 1) [.t 33, .c (.int .i64 0)] 31 false,
 o2 35 (.load none) [.t 34] 31 false,
 o2 36 (.len .slice) [.t 35] 31 false,
 o2 37 (.bin .lss .prim) [.t 36, .c (.int .i64 1)] 31 false,
 o1 38 (.pick) [.t 31, .c (.bool true), .t 37]]
abbrev r10_2 : List IOp := [o1 2 (.mov) [.c (.int .i64 2)]]
abbrev r10_3 : List IOp := [o1 39 (.faddr 1) [.t 1],
 o1 40 (.load none) [.t 39],
 o1 41 (.iaddr 1) [.t 40, .c (.int .i64 0)],
 o1 42 (.load none) [.t 41],
 o1 43 (.len .slice) [.t 42],
 o1 3 (.alloc 3 [.int .i64 0]) [],
 sr 1 [.t 3, .t 43]]
abbrev r10_4 : List IOp := [o1 44 (.faddr 0) [.t 1],
 o1 45 (.load none) [.t 44],
 o1 46 (.mkfn 33) [.t 3],
 ca 47 [.f 32, .t 45, .t 46]]
abbrev r10_5 : List IOp := [o1 2 (.mov) [.c (.int .i64 2)]]
abbrev r10_6 : List IOp := [o1 48 (.faddr 1) [.t 1],
 o1 49 (.load none) [.t 48],
 o1 50 (.len .slice) [.t 49],
 o1 51 (.mov) [.c (.int .i64 0)]]
abbrev r10_7 : List IOp := [o1 52 (.bin .lss .prim) [.t 51, .t 50]]
abbrev r10_8 : List IOp := [o1 53 (.iaddr 1) [.t 49, .t 51],
 o1 54 (.load none) [.t 53],
 mv 5 54]
abbrev r10_9 : List IOp := [mv 55 5,
 o1 56 (.len .slice) [.t 55],
 o1 57 (.load none) [.t 3],
 o1 58 (.bin .neq .prim) [.t 56, .t 57],
 mv 59 58,
 o2 60 (.mov) [.t 5] 59 false,
 o2 61 (.mkfn 34) [.t 1] 59 false,
 ⟨some 62, .call none, [.f 32, .t 60, .t 61], some (59, false)⟩,
 o1 63 (.pick) [.t 59, .c (.bool true), .t 62]]
abbrev r10_10 : List IOp := [o1 2 (.mov) [.c (.int .i64 2)]]
abbrev r10_11 : List IOp := [o1 64 (.bin .add .prim) [.t 51, .c (.int .i64 1)],
 mv 51 64]
abbrev b10_0 : IC := (IC.seq (IC.reg r10_7) (IC.seq (IC.cond (.t 52) IC.skip (IC.exit 0)) (IC.seq (IC.block 1 (IC.seq (IC.reg r10_8) (IC.seq (IC.reg r10_9) (IC.cond (.t 63) (IC.seq (IC.reg r10_10) IC.ret) IC.skip)))) (IC.reg r10_11))))
abbrev r10_12 : List IOp := [o1 2 (.mov) [.c (.int .i64 0)]]
abbrev c10 : IC := (IC.seq (IC.reg r10_0) (IC.seq (IC.seq (IC.reg r10_1) (IC.cond (.t 38) (IC.seq (IC.reg r10_2) IC.ret) IC.skip)) (IC.seq (IC.reg r10_3) (IC.seq (IC.seq (IC.reg r10_4) (IC.cond (.t 47) (IC.seq (IC.reg r10_5) IC.ret) IC.skip)) (IC.seq (IC.seq (IC.reg r10_6) (IC.block 0 (IC.loop b10_0))) (IC.seq (IC.reg r10_12) IC.ret))))))
abbrev g10 : FC := ⟨c10, 65, [.t 2]⟩
theorem comp10 : compF Go.Proofs.Tryz.prog (fun _ => 0) 10 = some g10 := by kernel_rfl
abbrev r11_0 : List IOp := [o1 1 (.box 26) [.t 0],
 o1 2 (.mov) [.c (.int .i64 0)]]
abbrev r11_1 : List IOp := [o1 3 (.load (some 3)) [.t 1],
 ca 4 [.f 35, .t 3],
 o1 5 (.un .not) [.t 4]]
abbrev r11_2 : List IOp := [o1 2 (.mov) [.c (.int .i64 2)]]
abbrev r11_3 : List IOp := [o1 2 (.mov) [.c (.int .i64 0)]]
abbrev c11 : IC := (IC.seq (IC.reg r11_0) (IC.seq (IC.seq (IC.reg r11_1) (IC.cond (.t 5) (IC.seq (IC.reg r11_2) IC.ret) IC.skip)) (IC.seq (IC.reg r11_3) IC.ret)))
abbrev g11 : FC := ⟨c11, 6, [.t 2]⟩
theorem comp11 : compF Go.Proofs.Tryz.prog (fun _ => 0) 11 = some g11 := by kernel_rfl
abbrev r13_0 : List IOp := [o1 1 (.box 26) [.t 0],
 o1 2 (.alloc 26 [.nils, .nils, .nils]) []]
abbrev r13_1 : List IOp := [o1 5 (.faddr 0) [.t 1],
 o1 6 (.load none) [.t 5],
 ca 7 [.f 37, .t 6],
 o1 8 (.faddr 2) [.t 1],
 o1 9 (.load none) [.t 8],
 ca 10 [.f 38, .t 9],
 o1 11 (.bst [.nils, .nils, .nils] [(0, 1), (1, 1), (2, 1)] [0, 2]) [.t 7, .t 10],
 o1 3 (.alloc 26 [.nils, .nils, .nils]) [],
 sr 3 [.t 3, .t 11]]
abbrev r13_2 : List IOp := [o1 4 (.mov) [.c (.int .i64 0)]]
abbrev r13_3 : List IOp := [mv 12 4,
 o1 13 (.faddr 1) [.t 1],
 o1 14 (.load none) [.t 13],
 o1 15 (.len .slice) [.t 14],
 o1 16 (.bin .lss .prim) [.t 12, .t 15]]
abbrev r13_4 : List IOp := [o1 19 (.faddr 1) [.t 3],
 o1 20 (.load none) [.t 19],
 o1 21 (.faddr 1) [.t 1],
 o1 22 (.load none) [.t 21],
 mv 23 4,
 o1 24 (.iaddr 1) [.t 22, .t 23],
 o1 25 (.load none) [.t 24],
 ca 26 [.f 37, .t 25],
 o1 27 (.bsl 22 1 false) [.t 26],
 o1 28 (.app 22 1 24) [.t 20, .t 27],
 o1 29 (.faddr 1) [.t 3],
 sr 1 [.t 29, .t 28]]
abbrev r13_5 : List IOp := [mv 17 4,
 o1 18 (.bin .add .prim) [.t 17, .c (.int .i64 1)],
 mv 4 18]
abbrev b13_0 : IC := (IC.seq (IC.seq (IC.reg r13_3) (IC.cond (.t 16) IC.skip (IC.exit 0))) (IC.seq (IC.block 1 (IC.regD .alloc r13_4 (.take 0 (.take 1 (.take 2 (.take 3 (.take 4 (.take 5 (.take 6 (.take 7 (.take 8 (.take 9 (.take 10 (.take 11 (.done))))))))))))))) (IC.reg r13_5)))
abbrev r13_6 : List IOp := [o1 30 (.load (some 3)) [.t 3],
 sr 3 [.t 2, .t 30]]
abbrev c13 : IC := (IC.seq (IC.reg r13_0) (IC.seq (IC.regD .wild r13_1 (.take 0 (.take 1 (.take 3 (.fork [(2, .take 4 (.fork [(5, .take 6 (.take 7 (.take 8 (.done)))), (7, .take 5 (.take 6 (.take 8 (.done))))])), (4, .fork [(2, .fork [(5, .take 6 (.take 7 (.take 8 (.done)))), (7, .take 5 (.take 6 (.take 8 (.done))))]), (7, .take 2 (.take 5 (.take 6 (.take 8 (.done)))))]), (7, .fork [(2, .take 4 (.take 5 (.take 6 (.take 8 (.done))))), (4, .take 2 (.take 5 (.take 6 (.take 8 (.done)))))])]))))) (IC.seq (IC.seq (IC.reg r13_2) (IC.block 0 (IC.loop b13_0))) (IC.seq (IC.reg r13_6) IC.ret))))
abbrev g13 : FC := ⟨c13, 31, [.cell 2 (some 3)]⟩
theorem comp13 : compF Go.Proofs.Tryz.prog (hintL [(1, 6), (5, 7)]) 13 = some g13 := by kernel_rfl
abbrev r12_0 : List IOp := [o1 2 (.box 26) [.t 0],
 o1 4 (.mov) [.c (.bool false)]]
abbrev r12_1 : List IOp := [o1 5 (.load (some 3)) [.t 2],
 ca 6 [.f 10, .t 5],
 o1 7 (.bin .eql .prim) [.t 6, .c (.int .i64 0)],
 mv 8 7,
 o2 9 (.load (some 3)) [.t 2] 8 true,
 o2 10 (.mov) [.t 1] 8 true,
 ⟨some 11, .call none, [.f 36, .t 9, .t 10], some (8, true)⟩,
 o1 12 (.pick) [.t 8, .t 11, .c (.bool false)],
 mv 4 12]
abbrev c12 : IC := (IC.seq (IC.reg r12_0) (IC.seq (IC.reg r12_1) IC.ret))
abbrev g12 : FC := ⟨c12, 13, [.t 4]⟩
theorem comp12 : compF Go.Proofs.Tryz.prog (fun _ => 0) 12 = some g12 := by kernel_rfl
abbrev r14_0 : List IOp := [o1 2 (.box 26) [.t 0],
 o1 4 (.mov) [.c (.bool false)]]
abbrev r14_1 : List IOp := [o1 7 (.load (some 3)) [.t 2],
 ca 8 [.f 35, .t 7],
 o1 9 (.un .not) [.t 8]]
abbrev r14_2 : List IOp := [o1 4 (.mov) [.c (.bool false)]]
abbrev r14_3 : List IOp := [o1 5 (.mov) [.c (.int .i64 0)]]
abbrev r14_4 : List IOp := [o1 6 (.mov) [.c (.int .i64 0)]]
abbrev r14_5 : List IOp := [mv 10 6,
 mv 11 1,
 o1 12 (.len .str) [.t 11],
 o1 13 (.bin .lss .prim) [.t 10, .t 12]]
abbrev r14_6 : List IOp := [o1 16 (.faddr 1) [.t 2],
 o1 17 (.load none) [.t 16],
 mv 18 5,
 o1 19 (.iaddr 1) [.t 17, .t 18],
 o1 20 (.load none) [.t 19],
 o1 21 (.faddr 0) [.t 2],
 o1 22 (.load none) [.t 21],
 mv 23 1,
 mv 24 6,
 o1 25 (.idxs) [.t 23, .t 24],
 o1 26 (.iaddr 1) [.t 22, .t 25],
 o1 27 (.load none) [.t 26],
 o1 28 (.iaddr 1) [.t 20, .t 27],
 o1 29 (.load none) [.t 28],
 mv 5 29]
abbrev r14_7 : List IOp := [mv 14 6,
 o1 15 (.bin .add .prim) [.t 14, .c (.int .i64 1)],
 mv 6 15]
abbrev b14_0 : IC := (IC.seq (IC.seq (IC.reg r14_5) (IC.cond (.t 13) IC.skip (IC.exit 0))) (IC.seq (IC.block 1 (IC.regD .wild r14_6 (.take 0 (.take 1 (.take 2 (.take 3 (.take 4 (.take 5 (.take 6 (.take 7 (.take 8 (.take 9 (.take 10 (.take 11 (.take 12 (.take 13 (.take 14 (.done)))))))))))))))))) (IC.reg r14_7)))
abbrev r14_8 : List IOp := [o1 30 (.faddr 2) [.t 2],
 o1 31 (.load none) [.t 30],
 mv 32 5,
 o1 33 (.iaddr 1) [.t 31, .t 32],
 o1 34 (.load none) [.t 33],
 mv 4 34]
abbrev c14 : IC := (IC.seq (IC.reg r14_0) (IC.seq (IC.seq (IC.reg r14_1) (IC.cond (.t 9) (IC.seq (IC.reg r14_2) IC.ret) IC.skip)) (IC.seq (IC.reg r14_3) (IC.seq (IC.seq (IC.reg r14_4) (IC.block 0 (IC.loop b14_0))) (IC.seq (IC.reg r14_8) IC.ret)))))
abbrev g14 : FC := ⟨c14, 35, [.t 4]⟩
theorem comp14 : compF Go.Proofs.Tryz.prog (hintL [(7, 6)]) 14 = some g14 := by kernel_rfl
abbrev r15_0 : List IOp := [o1 2 (.box 26) [.t 0],
 o1 3 (.box 26) [.t 1],
 o1 4 (.mov) [.c (.bool false)]]
abbrev r15_1 : List IOp := [o1 5 (.faddr 0) [.t 2],
 o1 6 (.load none) [.t 5],
 o1 7 (.faddr 0) [.t 3],
 o1 8 (.load none) [.t 7],
 ca 9 [.f 39, .t 6, .t 8],
 mv 10 9,
 o2 11 (.faddr 1) [.t 2] 10 true,
 o2 12 (.load none) [.t 11] 10 true,
 o2 13 (.faddr 1) [.t 3] 10 true,
 o2 14 (.load none) [.t 13] 10 true,
 ⟨some 15, .call none, [.f 40, .t 12, .t 14, .f 39], some (10, true)⟩,
 o1 16 (.pick) [.t 10, .t 15, .c (.bool false)],
 mv 17 16,
 o2 18 (.faddr 2) [.t 2] 17 true,
 o2 19 (.load none) [.t 18] 17 true,
 o2 20 (.faddr 2) [.t 3] 17 true,
 o2 21 (.load none) [.t 20] 17 true,
 ⟨some 22, .call none, [.f 41, .t 19, .t 21], some (17, true)⟩,
 o1 23 (.pick) [.t 17, .t 22, .c (.bool false)],
 mv 4 23]
abbrev c15 : IC := (IC.seq (IC.reg r15_0) (IC.seq (IC.reg r15_1) IC.ret))
abbrev g15 : FC := ⟨c15, 24, [.t 4]⟩
theorem comp15 : compF Go.Proofs.Tryz.prog (fun _ => 0) 15 = some g15 := by kernel_rfl
abbrev r16_0 : List IOp := [o1 6 (.mov) [.c (.bool false)]]
abbrev r16_1 : List IOp := [o1 7 (.mov) [.c (.int .i64 0)]]
abbrev r16_2 : List IOp := [mv 8 7,
 mv 9 0,
 o1 10 (.len .slice) [.t 9],
 o1 11 (.bin .lss .prim) [.t 8, .t 10]]
abbrev r16_3 : List IOp := [mv 14 0,
 mv 15 7,
 o1 16 (.iaddr 1) [.t 14, .t 15],
 o1 17 (.load none) [.t 16],
 o1 18 (.len .str) [.t 17],
 mv 19 2,
 o1 20 (.bin .gtr .prim) [.t 18, .t 19]]
abbrev r16_4 : List IOp := [o1 6 (.mov) [.c (.bool false)]]
abbrev r16_5 : List IOp := [mv 12 7,
 o1 13 (.bin .add .prim) [.t 12, .c (.int .i64 1)],
 mv 7 13]
abbrev b16_0 : IC := (IC.seq (IC.seq (IC.reg r16_2) (IC.cond (.t 11) IC.skip (IC.exit 0))) (IC.seq (IC.block 1 (IC.seq (IC.reg r16_3) (IC.cond (.t 20) (IC.seq (IC.reg r16_4) IC.ret) IC.skip))) (IC.reg r16_5)))
abbrev r16_6 : List IOp := [mv 21 0,
 o1 22 (.len .slice) [.t 21],
 mv 23 1,
 o1 24 (.bin .leq .prim) [.t 22, .t 23],
 mv 6 24]
abbrev c16 : IC := (IC.seq (IC.reg r16_0) (IC.seq (IC.seq (IC.reg r16_1) (IC.block 0 (IC.loop b16_0))) (IC.seq (IC.reg r16_6) IC.ret)))
abbrev g16 : FC := ⟨c16, 25, [.t 6]⟩
theorem comp16 : compF Go.Proofs.Tryz.prog (fun _ => 0) 16 = some g16 := by kernel_rfl
abbrev r17_0 : List IOp := [o1 4 (.mov) [.c (.nilp)],
 o1 5 (.mov) [.c (.int .i64 0)]]
abbrev r17_1 : List IOp := [mv 7 0,
 ca 8 [.f 42, .t 7],
 mv 6 8]
abbrev r17_2 : List IOp := [mv 9 6,
 o1 10 (.bin .neq .prim) [.t 9, .c (.int .i64 0)]]
abbrev r17_3 : List IOp := [mv 11 6,
 o1 4 (.mov) [.c (.nilp)],
 mv 5 11]
abbrev r17_4 : List IOp := [mv 12 0,
 ca 13 [.f 43, .t 12],
 mv 14 1,
 o1 15 (.bst [.str [], .bool false] [(0, 1), (1, 1)] [0, 1]) [.t 13, .t 14],
 o1 16 (.box 74) [.t 15],
 mv 4 16,
 o1 5 (.mov) [.c (.int .i64 0)]]
abbrev c17 : IC := (IC.seq (IC.reg r17_0) (IC.seq (IC.seq (IC.reg r17_1) (IC.seq (IC.reg r17_2) (IC.cond (.t 10) (IC.seq (IC.reg r17_3) IC.ret) IC.skip))) (IC.seq (IC.reg r17_4) IC.ret)))
abbrev g17 : FC := ⟨c17, 17, [.t 4, .t 5]⟩
theorem comp17 : compF Go.Proofs.Tryz.prog (fun _ => 0) 17 = some g17 := by kernel_rfl
abbrev r18_0 : List IOp := [⟨some 2, .op (.mov), [.c (.str [])], none⟩,
 o1 3 (.mov) [.c (.bool false)]]
abbrev r18_1 : List IOp := [mv 4 0,
 o1 5 (.bin .eql .ptr) [.t 4, .c (.nilp)]]
abbrev r18_2 : List IOp := [⟨some 2, .op (.mov), [.c (.str [])], none⟩,
 o1 3 (.mov) [.c (.bool false)]]
abbrev r18_3 : List IOp := [mv 6 0,
 o1 7 (.nilchk) [.t 6],
 o1 8 (.faddr 0) [.t 7],
 o1 9 (.load none) [.t 8],
 mv 10 0,
 o1 11 (.nilchk) [.t 10],
 o1 12 (.faddr 1) [.t 11],
 o1 13 (.load none) [.t 12],
 mv 2 9,
 mv 3 13]
abbrev c18 : IC := (IC.seq (IC.reg r18_0) (IC.seq (IC.seq (IC.reg r18_1) (IC.cond (.t 5) (IC.seq (IC.reg r18_2) IC.ret) IC.skip)) (IC.seq (IC.regD .wild r18_3 (.take 0 (.take 1 (.take 2 (.take 3 (.take 4 (.take 5 (.take 6 (.take 7 (.take 8 (.take 9 (.done)))))))))))) IC.ret)))
abbrev g18 : FC := ⟨c18, 14, [.t 2, .t 3]⟩
theorem comp18 : compF Go.Proofs.Tryz.prog (hintL [(3, 6)]) 18 = some g18 := by kernel_rfl
abbrev r19_0 : List IOp := [o1 4 (.alloc 45 [.int .i64 0, .int .i64 0, .int .i64 0, .int .i64 0, .int .i64 0, .int .i64 0, .int .i64 0, .int .i64 0, .int .i64 0, .int .i64 0, .int .i64 0, .int .i64 0, .int .i64 0, .int .i64 0, .int .i64 0, .int .i64 0, .int .i64 0, .int .i64 0, .int .i64 0, .int .i64 0, .int .i64 0, .int .i64 0, .int .i64 0, .int .i64 0, .int .i64 0, .int .i64 0, .int .i64 0, .int .i64 0, .int .i64 0, .int .i64 0, .int .i64 0, .int .i64 0, .int .i64 0, .int .i64 0, .int .i64 0, .int .i64 0, .int .i64 0, .int .i64 0, .int .i64 0, .int .i64 0, .int .i64 0, .int .i64 0, .int .i64 0, .int .i64 0, .int .i64 0, .int .i64 0, .int .i64 0, .int .i64 0, .int .i64 0, .int .i64 0, .int .i64 0, .int .i64 0, .int .i64 0, .int .i64 0, .int .i64 0, .int .i64 0, .int .i64 0, .int .i64 0, .int .i64 0, .int .i64 0, .int .i64 0, .int .i64 0, .int .i64 0, .int .i64 0, .int .i64 0, .int .i64 0, .int .i64 0, .int .i64 0, .int .i64 0, .int .i64 0, .int .i64 0, .int .i64 0, .int .i64 0, .int .i64 0, .int .i64 0, .int .i64 0, .int .i64 0, .int .i64 0, .int .i64 0, .int .i64 0, .int .i64 0, .int .i64 0, .int .i64 0, .int .i64 0, .int .i64 0, .int .i64 0, .int .i64 0, .int .i64 0, .int .i64 0, .int .i64 0, .int .i64 0, .int .i64 0, .int .i64 0, .int .i64 0, .int .i64 0, .int .i64 0, .int .i64 0, .int .i64 0, .int .i64 0, .int .i64 0, .int .i64 0, .int .i64 0, .int .i64 0, .int .i64 0, .int .i64 0, .int .i64 0, .int .i64 0, .int .i64 0, .int .i64 0, .int .i64 0, .int .i64 0, .int .i64 0, .int .i64 0, .int .i64 0, .int .i64 0, .int .i64 0, .int .i64 0, .int .i64 0, .int .i64 0, .int .i64 0, .int .i64 0, .int .i64 0, .int .i64 0, .int .i64 0, .int .i64 0, .int .i64 0, .int .i64 0, .int .i64 0, .int .i64 0, .int .i64 0, .int .i64 0, .int .i64 0, .int .i64 0, .int .i64 0, .int .i64 0, .int .i64 0, .int .i64 0, .int .i64 0, .int .i64 0, .int .i64 0, .int .i64 0, .int .i64 0, .int .i64 0, .int .i64 0, .int .i64 0, .int .i64 0, .int .i64 0, .int .i64 0, .int .i64 0, .int .i64 0, .int .i64 0, .int .i64 0, .int .i64 0, .int .i64 0, .int .i64 0, .int .i64 0, .int .i64 0, .int .i64 0, .int .i64 0, .int .i64 0, .int .i64 0, .int .i64 0, .int .i64 0, .int .i64 0, .int .i64 0, .int .i64 0, .int .i64 0, .int .i64 0, .int .i64 0, .int .i64 0, .int .i64 0, .int .i64 0, .int .i64 0, .int .i64 0, .int .i64 0, .int .i64 0, .int .i64 0, .int .i64 0, .int .i64 0, .int .i64 0, .int .i64 0, .int .i64 0, .int .i64 0, .int .i64 0, .int .i64 0, .int .i64 0, .int .i64 0, .int .i64 0, .int .i64 0, .int .i64 0, .int .i64 0, .int .i64 0, .int .i64 0, .int .i64 0, .int .i64 0, .int .i64 0, .int .i64 0, .int .i64 0, .int .i64 0, .int .i64 0, .int .i64 0, .int .i64 0, .int .i64 0, .int .i64 0, .int .i64 0, .int .i64 0, .int .i64 0, .int .i64 0, .int .i64 0, .int .i64 0, .int .i64 0, .int .i64 0, .int .i64 0, .int .i64 0, .int .i64 0, .int .i64 0, .int .i64 0, .int .i64 0, .int .i64 0, .int .i64 0, .int .i64 0, .int .i64 0, .int .i64 0, .int .i64 0, .int .i64 0, .int .i64 0, .int .i64 0, .int .i64 0, .int .i64 0, .int .i64 0, .int .i64 0, .int .i64 0, .int .i64 0, .int .i64 0, .int .i64 0, .int .i64 0, .int .i64 0, .int .i64 0, .int .i64 0, .int .i64 0, .int .i64 0, .int .i64 0, .int .i64 0, .int .i64 0, .int .i64 0, .int .i64 0, .int .i64 0, .int .i64 0, .int .i64 0, .int .i64 0, .int .i64 0, .int .i64 0, .int .i64 0, .int .i64 0, .int .i64 0, .int .i64 0]) [],
 o1 5 (.mov) [.c (.nils)]]
abbrev r19_1 : List IOp := [o1 6 (.mov) [.f 44]]
abbrev r19_2 : List IOp := [mv 16 1]
abbrev r19_3 : List IOp := [o1 6 (.mov) [.f 45]]
abbrev r19_4 : List IOp := [o1 7 (.mov) [.c (.nils)]]
abbrev r19_5 : List IOp := [mv 17 0,
 o1 18 (.len .str) [.t 17],
 o1 19 (.mov) [.c (.int .i64 0)]]
abbrev r19_6 : List IOp := [o1 20 (.bin .lss .prim) [.t 19, .t 18]]
abbrev r19_7 : List IOp := [mv 21 19,
 mv 8 21]
abbrev r19_8 : List IOp := [mv 22 0,
 mv 23 8,
 o1 24 (.idxs) [.t 22, .t 23],
 o1 25 (.bin .neq .prim) [.t 24, .c (.int .u8 42)],
 mv 26 25,
 o2 27 (.mov) [.t 0] 26 true,
 o2 28 (.mov) [.t 8] 26 true,
 o2 29 (.idxs) [.t 27, .t 28] 26 true,
 o2 30 (.bin .neq .prim) [.t 29, .c (.int .u8 63)] 26 true,
 o1 31 (.pick) [.t 26, .t 30, .c (.bool false)]]
abbrev r19_9 : List IOp := [mv 32 7,
 mv 33 6,
 mv 34 0,
 mv 35 8,
 o1 36 (.idxs) [.t 34, .t 35],
 ca 37 [.t 33, .t 36],
 o1 38 (.bsl 5 1 false) [.t 37],
 o1 39 (.app 5 1 1) [.t 32, .t 38],
 mv 7 39]
abbrev r19_10 : List IOp := [o1 40 (.bin .add .prim) [.t 19, .c (.int .i64 1)],
 mv 19 40]
abbrev b19_0 : IC := (IC.seq (IC.reg r19_6) (IC.seq (IC.cond (.t 20) IC.skip (IC.exit 0)) (IC.seq (IC.block 1 (IC.seq (IC.reg r19_7) (IC.seq (IC.reg r19_8) (IC.cond (.t 31) (IC.reg r19_9) IC.skip)))) (IC.reg r19_10))))
abbrev r19_11 : List IOp := [mv 41 7,
 ca 42 [.f 47, .t 41]]
abbrev r19_12 : List IOp := [mv 43 7,
 ca 44 [.f 48, .t 43],
 mv 7 44]
abbrev r19_13 : List IOp := [o1 9 (.alloc 45 [.int .i64 0, .int .i64 0, .int .i64 0, .int .i64 0, .int .i64 0, .int .i64 0, .int .i64 0, .int .i64 0, .int .i64 0, .int .i64 0, .int .i64 0, .int .i64 0, .int .i64 0, .int .i64 0, .int .i64 0, .int .i64 0, .int .i64 0, .int .i64 0, .int .i64 0, .int .i64 0, .int .i64 0, .int .i64 0, .int .i64 0, .int .i64 0, .int .i64 0, .int .i64 0, .int .i64 0, .int .i64 0, .int .i64 0, .int .i64 0, .int .i64 0, .int .i64 0, .int .i64 0, .int .i64 0, .int .i64 0, .int .i64 0, .int .i64 0, .int .i64 0, .int .i64 0, .int .i64 0, .int .i64 0, .int .i64 0, .int .i64 0, .int .i64 0, .int .i64 0, .int .i64 0, .int .i64 0, .int .i64 0, .int .i64 0, .int .i64 0, .int .i64 0, .int .i64 0, .int .i64 0, .int .i64 0, .int .i64 0, .int .i64 0, .int .i64 0, .int .i64 0, .int .i64 0, .int .i64 0, .int .i64 0, .int .i64 0, .int .i64 0, .int .i64 0, .int .i64 0, .int .i64 0, .int .i64 0, .int .i64 0, .int .i64 0, .int .i64 0, .int .i64 0, .int .i64 0, .int .i64 0, .int .i64 0, .int .i64 0, .int .i64 0, .int .i64 0, .int .i64 0, .int .i64 0, .int .i64 0, .int .i64 0, .int .i64 0, .int .i64 0, .int .i64 0, .int .i64 0, .int .i64 0, .int .i64 0, .int .i64 0, .int .i64 0, .int .i64 0, .int .i64 0, .int .i64 0, .int .i64 0, .int .i64 0, .int .i64 0, .int .i64 0, .int .i64 0, .int .i64 0, .int .i64 0, .int .i64 0, .int .i64 0, .int .i64 0, .int .i64 0, .int .i64 0, .int .i64 0, .int .i64 0, .int .i64 0, .int .i64 0, .int .i64 0, .int .i64 0, .int .i64 0, .int .i64 0, .int .i64 0, .int .i64 0, .int .i64 0, .int .i64 0, .int .i64 0, .int .i64 0, .int .i64 0, .int .i64 0, .int .i64 0, .int .i64 0, .int .i64 0, .int .i64 0, .int .i64 0, .int .i64 0, .int .i64 0, .int .i64 0, .int .i64 0, .int .i64 0, .int .i64 0, .int .i64 0, .int .i64 0, .int .i64 0, .int .i64 0, .int .i64 0, .int .i64 0, .int .i64 0, .int .i64 0, .int .i64 0, .int .i64 0, .int .i64 0, .int .i64 0, .int .i64 0, .int .i64 0, .int .i64 0, .int .i64 0, .int .i64 0, .int .i64 0, .int .i64 0, .int .i64 0, .int .i64 0, .int .i64 0, .int .i64 0, .int .i64 0, .int .i64 0, .int .i64 0, .int .i64 0, .int .i64 0, .int .i64 0, .int .i64 0, .int .i64 0, .int .i64 0, .int .i64 0, .int .i64 0, .int .i64 0, .int .i64 0, .int .i64 0, .int .i64 0, .int .i64 0, .int .i64 0, .int .i64 0, .int .i64 0, .int .i64 0, .int .i64 0, .int .i64 0, .int .i64 0, .int .i64 0, .int .i64 0, .int .i64 0, .int .i64 0, .int .i64 0, .int .i64 0, .int .i64 0, .int .i64 0, .int .i64 0, .int .i64 0, .int .i64 0, .int .i64 0, .int .i64 0, .int .i64 0, .int .i64 0, .int .i64 0, .int .i64 0, .int .i64 0, .int .i64 0, .int .i64 0, .int .i64 0, .int .i64 0, .int .i64 0, .int .i64 0, .int .i64 0, .int .i64 0, .int .i64 0, .int .i64 0, .int .i64 0, .int .i64 0, .int .i64 0, .int .i64 0, .int .i64 0, .int .i64 0, .int .i64 0, .int .i64 0, .int .i64 0, .int .i64 0, .int .i64 0, .int .i64 0, .int .i64 0, .int .i64 0, .int .i64 0, .int .i64 0, .int .i64 0, .int .i64 0, .int .i64 0, .int .i64 0, .int .i64 0, .int .i64 0, .int .i64 0, .int .i64 0, .int .i64 0, .int .i64 0, .int .i64 0, .int .i64 0, .int .i64 0, .int .i64 0, .int .i64 0, .int .i64 0, .int .i64 0, .int .i64 0, .int .i64 0, .int .i64 0, .int .i64 0, .int .i64 0, .int .i64 0, .int .i64 0, .int .i64 0, .int .i64 0, .int .i64 0, .int .i64 0, .int .i64 0, .int .i64 0, .int .i64 0, .int .i64 0, .int .i64 0, .int .i64 0, .int .i64 0]) []]
abbrev r19_14 : List IOp := [o1 45 (.bsl 3 1 false) [.c (.int .i64 (-1))],
 mv 10 45]
abbrev r19_15 : List IOp := [mv 46 7,
 o1 47 (.len .slice) [.t 46],
 o1 48 (.mov) [.c (.int .i64 0)]]
abbrev r19_16 : List IOp := [o1 49 (.bin .lss .prim) [.t 48, .t 47]]
abbrev r19_17 : List IOp := [o1 50 (.iaddr 1) [.t 46, .t 48],
 o1 51 (.load none) [.t 50],
 mv 12 51]
abbrev r19_18 : List IOp := [mv 52 10,
 mv 53 12,
 o1 54 (.toInt .i64) [.t 53],
 o1 55 (.bsl 3 1 false) [.t 54],
 o1 56 (.app 3 1 8) [.t 52, .t 55],
 mv 10 56]
abbrev r19_19 : List IOp := [o1 57 (.bin .add .prim) [.t 48, .c (.int .i64 1)],
 mv 48 57]
abbrev b19_1 : IC := (IC.seq (IC.reg r19_16) (IC.seq (IC.cond (.t 49) IC.skip (IC.exit 2)) (IC.seq (IC.block 3 (IC.seq (IC.reg r19_17) (IC.reg r19_18))) (IC.reg r19_19))))
abbrev r19_20 : List IOp := [o1 58 (.mov) [.c (.int .i64 0)]]
abbrev r19_21 : List IOp := [o1 59 (.bin .lss .prim) [.t 58, .c (.int .i64 256)]]
abbrev r19_22 : List IOp := [mv 60 58,
 mv 13 60]
abbrev r19_23 : List IOp := [mv 62 7,
 mv 63 6,
 mv 64 13,
 o1 65 (.toInt .u8) [.t 64],
 ca 66 [.t 63, .t 65],
 ca 67 [.f 49, .t 62, .t 66],
 mv 61 67,
 o1 68 (.extract 0) [.t 61],
 o1 69 (.extract 1) [.t 61],
 mv 14 68,
 mv 15 69]
abbrev r19_24 : List IOp := [mv 70 15]
abbrev r19_25 : List IOp := [mv 71 13,
 mv 72 14,
 o1 73 (.bin .add .prim) [.t 72, .c (.int .i64 1)],
 o1 74 (.aaddr 256 1) [.t 9, .t 71],
 sr 1 [.t 74, .t 73]]
abbrev r19_26 : List IOp := [mv 75 10,
 mv 76 13,
 o1 77 (.iaddr 1) [.t 75, .c (.int .i64 0)],
 sr 1 [.t 77, .t 76]]
abbrev r19_27 : List IOp := [o1 78 (.bin .add .prim) [.t 58, .c (.int .i64 1)],
 mv 58 78]
abbrev b19_2 : IC := (IC.seq (IC.reg r19_21) (IC.seq (IC.cond (.t 59) IC.skip (IC.exit 4)) (IC.seq (IC.block 5 (IC.seq (IC.reg r19_22) (IC.seq (IC.reg r19_23) (IC.seq (IC.reg r19_24) (IC.cond (.t 70) (IC.reg r19_25) (IC.reg r19_26)))))) (IC.reg r19_27))))
abbrev r19_28 : List IOp := [o1 79 (.load (some 256)) [.t 9],
 mv 80 10,
 sr 256 [.t 4, .t 79],
 mv 5 80]
abbrev c19 : IC := (IC.seq (IC.reg r19_0) (IC.seq (IC.reg r19_1) (IC.seq (IC.seq (IC.reg r19_2) (IC.cond (.t 16) (IC.reg r19_3) IC.skip)) (IC.seq (IC.reg r19_4) (IC.seq (IC.seq (IC.reg r19_5) (IC.block 0 (IC.loop b19_0))) (IC.seq (IC.reg r19_11) (IC.seq (IC.reg r19_12) (IC.seq (IC.reg r19_13) (IC.seq (IC.reg r19_14) (IC.seq (IC.seq (IC.reg r19_15) (IC.block 2 (IC.loop b19_1))) (IC.seq (IC.seq (IC.reg r19_20) (IC.block 4 (IC.loop b19_2))) (IC.seq (IC.reg r19_28) IC.ret))))))))))))
abbrev g19 : FC := ⟨c19, 81, [.cell 4 (some 256), .t 5]⟩
theorem comp19 : compF Go.Proofs.Tryz.prog (fun _ => 0) 19 = some g19 := by kernel_rfl
abbrev r20_0 : List IOp := [o1 4 (.mov) [.c (.int .i64 0)]]
abbrev r20_1 : List IOp := [o1 8 (.load none) [.t 1],
 mv 9 0,
 ca 10 [.f 21, .t 9],
 o1 11 (.look .str (.agg [.int .i64 0]) true) [.t 8, .t 10],
 mv 7 11,
 o1 12 (.extract 0) [.t 7],
 o1 13 (.extract 1) [.t 7],
 o1 5 (.alloc 50 [.int .i64 0]) [],
 sr 1 [.t 5, .t 12],
 mv 6 13]
abbrev r20_2 : List IOp := [mv 14 6,
 o1 15 (.un .not) [.t 14]]
abbrev r20_3 : List IOp := [o1 16 (.load none) [.t 2],
 o1 17 (.len .slice) [.t 16],
 o1 18 (.bst [.int .i64 0] [(0, 1)] [0]) [.t 17],
 sr 1 [.t 5, .t 18]]
abbrev r20_4 : List IOp := [o1 19 (.load none) [.t 1],
 mv 20 0,
 ca 21 [.f 21, .t 20],
 o1 22 (.load (some 1)) [.t 5],
 ⟨none, .op (.mapup .str), [.t 19, .t 21, .t 22], none⟩]
abbrev r20_5 : List IOp := [o1 23 (.load none) [.t 2],
 mv 24 0,
 o1 25 (.bsl 22 1 false) [.t 24],
 o1 26 (.app 22 1 24) [.t 23, .t 25],
 sr 1 [.t 2, .t 26]]
abbrev r20_6 : List IOp := [o1 27 (.faddr 0) [.t 5],
 o1 28 (.load none) [.t 27],
 mv 4 28]
abbrev c20 : IC := (IC.seq (IC.reg r20_0) (IC.seq (IC.regD .wild r20_1 (.take 1 (.fork [(0, .fork [(2, .take 3 (.take 4 (.take 5 (.take 6 (.take 7 (.take 8 (.take 9 (.done)))))))), (7, .take 2 (.take 3 (.take 4 (.take 5 (.take 6 (.take 8 (.take 9 (.done))))))))]), (2, .take 0 (.take 3 (.take 4 (.take 5 (.take 6 (.take 7 (.take 8 (.take 9 (.done))))))))), (7, .fork [(0, .take 2 (.take 3 (.take 4 (.take 5 (.take 6 (.take 8 (.take 9 (.done)))))))), (2, .take 0 (.take 3 (.take 4 (.take 5 (.take 6 (.take 8 (.take 9 (.done))))))))])]))) (IC.seq (IC.seq (IC.reg r20_2) (IC.cond (.t 15) (IC.seq (IC.reg r20_3) (IC.seq (IC.regD .alloc r20_4 (.take 0 (.take 1 (.take 3 (.take 2 (.take 4 (.done))))))) (IC.reg r20_5))) IC.skip)) (IC.seq (IC.reg r20_6) IC.ret))))
abbrev g20 : FC := ⟨c20, 29, [.t 4]⟩
theorem comp20 : compF Go.Proofs.Tryz.prog (hintL [(1, 6), (4, 7)]) 20 = some g20 := by kernel_rfl
abbrev r22_0 : List IOp := [o1 2 (.mov) [.c (.nils)]]
abbrev r22_1 : List IOp := [mv 3 0,
 ca 4 [.f 50, .t 3],
 ca 5 [.f 51, .t 4],
 mv 2 5]
abbrev c22 : IC := (IC.seq (IC.reg r22_0) (IC.seq (IC.reg r22_1) IC.ret))
abbrev g22 : FC := ⟨c22, 6, [.t 2]⟩
theorem comp22 : compF Go.Proofs.Tryz.prog (fun _ => 0) 22 = some g22 := by kernel_rfl
abbrev r23_0 : List IOp := [o1 6 (.mov) [.c (.nils)]]
abbrev r23_1 : List IOp := [mv 7 0,
 mv 8 0,
 mv 9 1,
 ca 10 [.f 53, .t 8, .t 9],
 mv 11 2,
 ca 12 [.f 52, .t 7, .t 10, .t 11],
 ca 13 [.f 51, .t 12],
 mv 6 13]
abbrev c23 : IC := (IC.seq (IC.reg r23_0) (IC.seq (IC.reg r23_1) IC.ret))
abbrev g23 : FC := ⟨c23, 14, [.t 6]⟩
theorem comp23 : compF Go.Proofs.Tryz.prog (fun _ => 0) 23 = some g23 := by kernel_rfl
abbrev r24_0 : List IOp := [o1 4 (.mov) [.c (.bool false)]]
abbrev r24_1 : List IOp := [mv 6 0,
 mv 7 1,
 ca 8 [.f 53, .t 6, .t 7],
 mv 5 8]
abbrev r24_2 : List IOp := [mv 9 5,
 o1 10 (.len .slice) [.t 9],
 o1 11 (.bin .gtr .prim) [.t 10, .c (.int .i64 0)],
 mv 12 11,
 o2 13 (.mov) [.t 5] 12 true,
 o2 14 (.mov) [.t 5] 12 true,
 o2 15 (.len .slice) [.t 14] 12 true,
 o2 16 (.bin .sub .prim) [.t 15, .c (.int .i64 1)] 12 true,
 o2 17 (.iaddr 1) [.t 13, .t 16] 12 true,
 o2 18 (.load none) [.t 17] 12 true,
 o1 19 (.pick) [.t 12, .t 18, .c (.bool false)],
 mv 4 19]
abbrev c24 : IC := (IC.seq (IC.reg r24_0) (IC.seq (IC.reg r24_1) (IC.seq (IC.reg r24_2) IC.ret)))
abbrev g24 : FC := ⟨c24, 20, [.t 4]⟩
theorem comp24 : compF Go.Proofs.Tryz.prog (fun _ => 0) 24 = some g24 := by kernel_rfl
abbrev r25_0 : List IOp := [o1 4 (.mov) [.c (.nilp)],
 o1 5 (.mov) [.c (.int .i64 0)]]
abbrev r25_1 : List IOp := [mv 7 0,
 ca 8 [.f 54, .t 7],
 mv 6 8]
abbrev r25_2 : List IOp := [mv 9 6,
 o1 10 (.bin .neq .prim) [.t 9, .c (.int .i64 0)]]
abbrev r25_3 : List IOp := [mv 11 6,
 o1 4 (.mov) [.c (.nilp)],
 mv 5 11]
abbrev r25_4 : List IOp := [mv 12 0,
 ca 13 [.f 55, .t 12],
 mv 14 1,
 o1 15 (.bst [.str [], .bool false] [(0, 1), (1, 1)] [0, 1]) [.t 13, .t 14],
 o1 16 (.box 85) [.t 15],
 mv 4 16,
 o1 5 (.mov) [.c (.int .i64 0)]]
abbrev c25 : IC := (IC.seq (IC.reg r25_0) (IC.seq (IC.reg r25_1) (IC.seq (IC.seq (IC.reg r25_2) (IC.cond (.t 10) (IC.seq (IC.reg r25_3) IC.ret) IC.skip)) (IC.seq (IC.reg r25_4) IC.ret))))
abbrev g25 : FC := ⟨c25, 17, [.t 4, .t 5]⟩
theorem comp25 : compF Go.Proofs.Tryz.prog (fun _ => 0) 25 = some g25 := by kernel_rfl
abbrev r26_0 : List IOp := [o1 2 (.mov) [.c (.nils)],
 o1 3 (.mov) [.c (.nils)]]
abbrev r26_1 : List IOp := [o1 15 (.make 3 [.int .i64 0] 8) [.c (.int .i64 256), .c (.int .i64 256)],
 mv 4 15]
abbrev r26_2 : List IOp := [o1 5 (.mov) [.c (.nils)]]
abbrev r26_3 : List IOp := [o1 6 (.mov) [.c (.int .i64 0)]]
abbrev r26_4 : List IOp := [mv 16 6,
 o1 17 (.bin .lss .prim) [.t 16, .c (.int .i64 256)]]
abbrev r26_5 : List IOp := [mv 20 6,
 o1 21 (.toInt .u8) [.t 20],
 o1 22 (.bsl 5 1 false) [.t 21],
 o1 23 (.b2s) [.t 22],
 mv 7 23]
abbrev r26_6 : List IOp := [mv 24 0,
 o1 25 (.nilchk) [.t 24],
 o1 26 (.faddr 1) [.t 25],
 o1 27 (.load none) [.t 26],
 mv 28 27,
 o2 29 (.mov) [.t 7] 28 true,
 ⟨some 30, .call none, [.f 56, .t 29], some (28, true)⟩,
 o2 31 (.mov) [.t 7] 28 true,
 o2 32 (.bin .neq .prim) [.t 30, .t 31] 28 true,
 o1 33 (.pick) [.t 28, .t 32, .c (.bool false)]]
abbrev r26_7 : List IOp := [o1 8 (.mov) [.c (.bool false)]]
abbrev r26_8 : List IOp := [o1 9 (.mov) [.c (.int .i64 0)]]
abbrev r26_9 : List IOp := [mv 34 9,
 mv 35 0,
 o1 36 (.nilchk) [.t 35],
 o1 37 (.faddr 0) [.t 36],
 o1 38 (.load none) [.t 37],
 o1 39 (.len .str) [.t 38],
 o1 40 (.bin .lss .prim) [.t 34, .t 39]]
abbrev r26_10 : List IOp := [mv 43 0,
 o1 44 (.nilchk) [.t 43],
 o1 45 (.faddr 0) [.t 44],
 o1 46 (.load none) [.t 45],
 mv 47 9,
 mv 48 9,
 o1 49 (.bin .add .prim) [.t 48, .c (.int .i64 1)],
 o1 50 (.sslice true true false) [.t 46, .t 47, .t 49],
 mv 10 50]
abbrev r26_11 : List IOp := [mv 51 0,
 o1 52 (.nilchk) [.t 51],
 o1 53 (.faddr 1) [.t 52],
 o1 54 (.load none) [.t 53]]
abbrev r26_12 : List IOp := [mv 55 10,
 ca 56 [.f 56, .t 55],
 mv 10 56]
abbrev r26_13 : List IOp := [mv 57 8,
 mv 58 57,
 o2 59 (.mov) [.t 10] 58 false,
 o2 60 (.mov) [.t 7] 58 false,
 o2 61 (.bin .eql .prim) [.t 59, .t 60] 58 false,
 o2 62 (.mov) [.t 61] 58 false,
 o2 63 (.mov) [.t 0] 62 true,
 o2 64 (.nilchk) [.t 63] 62 true,
 o2 65 (.faddr 0) [.t 64] 62 true,
 o2 66 (.load none) [.t 65] 62 true,
 o2 67 (.mov) [.t 9] 62 true,
 o2 68 (.idxs) [.t 66, .t 67] 62 true,
 ⟨some 69, .call none, [.f 57, .t 68], some (62, true)⟩,
 o2 70 (.un .not) [.t 69] 62 true,
 o2 71 (.pick) [.t 62, .t 70, .c (.bool false)] 58 false,
 o1 72 (.pick) [.t 58, .c (.bool true), .t 71],
 mv 8 72]
abbrev r26_14 : List IOp := [mv 41 9,
 o1 42 (.bin .add .prim) [.t 41, .c (.int .i64 1)],
 mv 9 42]
abbrev b26_0 : IC := (IC.seq (IC.seq (IC.reg r26_9) (IC.cond (.t 40) IC.skip (IC.exit 2))) (IC.seq (IC.block 3 (IC.seq (IC.reg r26_10) (IC.seq (IC.seq (IC.reg r26_11) (IC.cond (.t 54) (IC.reg r26_12) IC.skip)) (IC.reg r26_13)))) (IC.reg r26_14)))
abbrev r26_15 : List IOp := [mv 73 8]
abbrev r26_16 : List IOp := [mv 74 5,
 mv 75 6,
 o1 76 (.toInt .u8) [.t 75],
 o1 77 (.bsl 5 1 false) [.t 76],
 o1 78 (.app 5 1 1) [.t 74, .t 77],
 mv 5 78]
abbrev r26_17 : List IOp := [mv 79 4,
 mv 80 6,
 mv 81 5,
 o1 82 (.len .slice) [.t 81],
 o1 83 (.iaddr 1) [.t 79, .t 80],
 sr 1 [.t 83, .t 82]]
abbrev r26_18 : List IOp := [mv 18 6,
 o1 19 (.bin .add .prim) [.t 18, .c (.int .i64 1)],
 mv 6 19]
abbrev b26_1 : IC := (IC.seq (IC.seq (IC.reg r26_4) (IC.cond (.t 17) IC.skip (IC.exit 0))) (IC.seq (IC.block 1 (IC.seq (IC.reg r26_5) (IC.seq (IC.seq (IC.reg r26_6) (IC.cond (.t 33) (IC.exit 1) IC.skip)) (IC.seq (IC.reg r26_7) (IC.seq (IC.seq (IC.reg r26_8) (IC.block 2 (IC.loop b26_0))) (IC.seq (IC.reg r26_15) (IC.cond (.t 73) (IC.seq (IC.reg r26_16) (IC.reg r26_17)) IC.skip))))))) (IC.reg r26_18)))
abbrev r26_19 : List IOp := [o1 11 (.mov) [.c (.int .i64 0)]]
abbrev r26_20 : List IOp := [mv 84 11,
 o1 85 (.bin .lss .prim) [.t 84, .c (.int .i64 256)]]
abbrev r26_21 : List IOp := [mv 88 11,
 o1 89 (.toInt .u8) [.t 88],
 o1 90 (.bsl 5 1 false) [.t 89],
 o1 91 (.b2s) [.t 90],
 ca 92 [.f 56, .t 91],
 mv 12 92]
abbrev r26_22 : List IOp := [mv 93 0,
 o1 94 (.nilchk) [.t 93],
 o1 95 (.faddr 1) [.t 94],
 o1 96 (.load none) [.t 95]]
abbrev r26_23 : List IOp := [mv 97 4,
 mv 98 11,
 mv 99 4,
 mv 100 12,
 o1 101 (.idxs) [.t 100, .c (.int .i64 0)],
 o1 102 (.iaddr 1) [.t 99, .t 101],
 o1 103 (.load none) [.t 102],
 o1 104 (.iaddr 1) [.t 97, .t 98],
 sr 1 [.t 104, .t 103]]
abbrev r26_24 : List IOp := [mv 86 11,
 o1 87 (.bin .add .prim) [.t 86, .c (.int .i64 1)],
 mv 11 87]
abbrev b26_2 : IC := (IC.seq (IC.seq (IC.reg r26_20) (IC.cond (.t 85) IC.skip (IC.exit 4))) (IC.seq (IC.block 5 (IC.seq (IC.reg r26_21) (IC.seq (IC.reg r26_22) (IC.cond (.t 96) (IC.reg r26_23) IC.skip)))) (IC.reg r26_24)))
abbrev r26_25 : List IOp := [o1 13 (.mov) [.c (.int .u8 0)]]
abbrev r26_26 : List IOp := [o1 14 (.mov) [.c (.int .i64 255)]]
abbrev r26_27 : List IOp := [mv 105 14,
 o1 106 (.bin .geq .prim) [.t 105, .c (.int .i64 0)]]
abbrev r26_28 : List IOp := [mv 109 4,
 mv 110 14,
 o1 111 (.iaddr 1) [.t 109, .t 110],
 o1 112 (.load none) [.t 111],
 o1 113 (.bin .eql .prim) [.t 112, .c (.int .i64 0)]]
abbrev r26_29 : List IOp := [mv 114 14,
 o1 115 (.toInt .u8) [.t 114],
 mv 13 115]
abbrev r26_30 : List IOp := [mv 107 14,
 o1 108 (.bin .sub .prim) [.t 107, .c (.int .i64 1)],
 mv 14 108]
abbrev b26_3 : IC := (IC.seq (IC.seq (IC.reg r26_27) (IC.cond (.t 106) IC.skip (IC.exit 6))) (IC.seq (IC.block 7 (IC.seq (IC.reg r26_28) (IC.cond (.t 113) (IC.reg r26_29) IC.skip))) (IC.reg r26_30)))
abbrev r26_31 : List IOp := [mv 116 4,
 mv 117 13,
 o1 118 (.bsl 5 1 false) [.t 117],
 mv 119 5,
 o1 120 (.app 5 1 1) [.t 118, .t 119],
 mv 2 116,
 mv 3 120]
abbrev c26 : IC := (IC.seq (IC.reg r26_0) (IC.seq (IC.reg r26_1) (IC.seq (IC.reg r26_2) (IC.seq (IC.seq (IC.reg r26_3) (IC.block 0 (IC.loop b26_1))) (IC.seq (IC.seq (IC.reg r26_19) (IC.block 4 (IC.loop b26_2))) (IC.seq (IC.reg r26_25) (IC.seq (IC.seq (IC.reg r26_26) (IC.block 6 (IC.loop b26_3))) (IC.seq (IC.reg r26_31) IC.ret))))))))
abbrev g26 : FC := ⟨c26, 121, [.t 2, .t 3]⟩
theorem comp26 : compF Go.Proofs.Tryz.prog (fun _ => 0) 26 = some g26 := by kernel_rfl
abbrev r27_0 : List IOp := [o1 2 (.mov) [.c (.nils)]]
abbrev r27_1 : List IOp := [mv 4 0,
 o1 5 (.nilchk) [.t 4],
 o1 6 (.faddr 0) [.t 5],
 o1 7 (.load none) [.t 6],
 o1 8 (.len .str) [.t 7],
 o1 9 (.bin .add .prim) [.t 8, .c (.int .i64 1)],
 o1 10 (.make 4 [.bool false] 1) [.t 9, .t 9],
 mv 3 10]
abbrev r27_2 : List IOp := [mv 11 3,
 o1 12 (.iaddr 1) [.t 11, .c (.int .i64 0)],
 sr 1 [.t 12, .c (.bool true)]]
abbrev r27_3 : List IOp := [mv 13 0,
 mv 14 3,
 ca 15 [.f 58, .t 13, .t 14],
 mv 2 15]
abbrev c27 : IC := (IC.seq (IC.reg r27_0) (IC.seq (IC.reg r27_1) (IC.seq (IC.reg r27_2) (IC.seq (IC.reg r27_3) IC.ret))))
abbrev g27 : FC := ⟨c27, 16, [.t 2]⟩
theorem comp27 : compF Go.Proofs.Tryz.prog (fun _ => 0) 27 = some g27 := by kernel_rfl
abbrev r28_0 : List IOp := [o1 6 (.mov) [.c (.nils)]]
abbrev r28_1 : List IOp := [mv 10 0,
 o1 11 (.nilchk) [.t 10],
 o1 12 (.faddr 0) [.t 11],
 o1 13 (.load none) [.t 12],
 o1 14 (.len .str) [.t 13],
 o1 15 (.bin .add .prim) [.t 14, .c (.int .i64 1)],
 o1 16 (.make 4 [.bool false] 1) [.t 15, .t 15],
 mv 7 16]
abbrev r28_2 : List IOp := [o1 8 (.mov) [.c (.int .i64 0)]]
abbrev r28_3 : List IOp := [mv 17 8,
 mv 18 1,
 o1 19 (.len .slice) [.t 18],
 o1 20 (.bin .lss .prim) [.t 17, .t 19]]
abbrev r28_4 : List IOp := [mv 23 1,
 mv 24 8,
 o1 25 (.iaddr 1) [.t 23, .t 24],
 o1 26 (.load none) [.t 25],
 mv 9 26]
abbrev r28_5 : List IOp := [mv 27 9,
 o1 28 (.bin .lss .prim) [.t 27, .c (.int .i64 0)],
 mv 29 28,
 o2 30 (.mov) [.t 9] 29 false,
 o2 31 (.mov) [.t 0] 29 false,
 o2 32 (.nilchk) [.t 31] 29 false,
 o2 33 (.faddr 0) [.t 32] 29 false,
 o2 34 (.load none) [.t 33] 29 false,
 o2 35 (.len .str) [.t 34] 29 false,
 o2 36 (.bin .geq .prim) [.t 30, .t 35] 29 false,
 o1 37 (.pick) [.t 29, .c (.bool true), .t 36]]
abbrev r28_6 : List IOp := [mv 39 0,
 o1 40 (.nilchk) [.t 39],
 o1 41 (.faddr 0) [.t 40],
 o1 42 (.load none) [.t 41],
 mv 43 9,
 o1 44 (.idxs) [.t 42, .t 43],
 o1 45 (.bin .eql .prim) [.t 44, .c (.int .u8 42)],
 mv 38 45]
abbrev r28_7 : List IOp := [mv 46 7,
 mv 47 9,
 o1 48 (.iaddr 1) [.t 46, .t 47],
 sr 1 [.t 48, .c (.bool true)]]
abbrev r28_8 : List IOp := [mv 50 0,
 o1 51 (.nilchk) [.t 50],
 o1 52 (.faddr 0) [.t 51],
 o1 53 (.load none) [.t 52],
 mv 54 9,
 o1 55 (.idxs) [.t 53, .t 54],
 o1 56 (.bin .eql .prim) [.t 55, .c (.int .u8 63)],
 mv 57 56,
 o2 58 (.mov) [.t 0] 57 false,
 o2 59 (.mov) [.t 0] 57 false,
 o2 60 (.nilchk) [.t 59] 57 false,
 o2 61 (.faddr 0) [.t 60] 57 false,
 o2 62 (.load none) [.t 61] 57 false,
 o2 63 (.mov) [.t 9] 57 false,
 o2 64 (.idxs) [.t 62, .t 63] 57 false,
 o2 65 (.mov) [.t 2] 57 false,
 ⟨some 66, .call none, [.f 59, .t 58, .t 64, .t 65], some (57, false)⟩,
 o1 67 (.pick) [.t 57, .c (.bool true), .t 66],
 mv 49 67]
abbrev r28_9 : List IOp := [mv 68 7,
 mv 69 9,
 o1 70 (.bin .add .prim) [.t 69, .c (.int .i64 1)],
 o1 71 (.iaddr 1) [.t 68, .t 70],
 sr 1 [.t 71, .c (.bool true)]]
abbrev r28_10 : List IOp := [mv 21 8,
 o1 22 (.bin .add .prim) [.t 21, .c (.int .i64 1)],
 mv 8 22]
abbrev b28_0 : IC := (IC.seq (IC.seq (IC.reg r28_3) (IC.cond (.t 20) IC.skip (IC.exit 0))) (IC.seq (IC.block 1 (IC.seq (IC.reg r28_4) (IC.seq (IC.seq (IC.reg r28_5) (IC.cond (.t 37) (IC.exit 1) IC.skip)) (IC.block 2 (IC.seq (IC.reg r28_6) (IC.cond (.t 38) (IC.reg r28_7) (IC.seq (IC.reg r28_8) (IC.cond (.t 49) (IC.reg r28_9) IC.skip)))))))) (IC.reg r28_10)))
abbrev r28_11 : List IOp := [mv 72 0,
 mv 73 7,
 ca 74 [.f 58, .t 72, .t 73],
 mv 6 74]
abbrev c28 : IC := (IC.seq (IC.reg r28_0) (IC.seq (IC.reg r28_1) (IC.seq (IC.seq (IC.reg r28_2) (IC.block 0 (IC.loop b28_0))) (IC.seq (IC.reg r28_11) IC.ret))))
abbrev g28 : FC := ⟨c28, 75, [.t 6]⟩
theorem comp28 : compF Go.Proofs.Tryz.prog (fun _ => 0) 28 = some g28 := by kernel_rfl
abbrev r29_0 : List IOp := [o1 4 (.mov) [.c (.int .i64 0)]]
abbrev r29_1 : List IOp := [o1 5 (.mov) [.c (.int .i64 0)]]
abbrev r29_2 : List IOp := [mv 6 5,
 mv 7 0,
 o1 8 (.len .slice) [.t 7],
 o1 9 (.bin .lss .prim) [.t 6, .t 8]]
abbrev r29_3 : List IOp := [mv 12 0,
 mv 13 5,
 o1 14 (.iaddr 1) [.t 12, .t 13],
 o1 15 (.load none) [.t 14],
 mv 16 1,
 ca 17 [.f 31, .t 15, .t 16]]
abbrev r29_4 : List IOp := [mv 18 5,
 mv 4 18]
abbrev r29_5 : List IOp := [mv 10 5,
 o1 11 (.bin .add .prim) [.t 10, .c (.int .i64 1)],
 mv 5 11]
abbrev b29_0 : IC := (IC.seq (IC.seq (IC.reg r29_2) (IC.cond (.t 9) IC.skip (IC.exit 0))) (IC.seq (IC.block 1 (IC.seq (IC.reg r29_3) (IC.cond (.t 17) (IC.seq (IC.reg r29_4) IC.ret) IC.skip))) (IC.reg r29_5)))
abbrev r29_6 : List IOp := [mv 19 0,
 o1 20 (.len .slice) [.t 19],
 mv 4 20]
abbrev c29 : IC := (IC.seq (IC.reg r29_0) (IC.seq (IC.seq (IC.reg r29_1) (IC.block 0 (IC.loop b29_0))) (IC.seq (IC.reg r29_6) IC.ret)))
abbrev g29 : FC := ⟨c29, 21, [.t 4]⟩
theorem comp29 : compF Go.Proofs.Tryz.prog (fun _ => 0) 29 = some g29 := by kernel_rfl
abbrev r30_0 : List IOp := [o1 4 (.mov) [.c (.bool false)]]
abbrev r30_1 : List IOp := [o1 5 (.mov) [.c (.int .i64 0)]]
abbrev r30_2 : List IOp := [mv 6 5,
 mv 7 1,
 o1 8 (.len .slice) [.t 7],
 o1 9 (.bin .lss .prim) [.t 6, .t 8]]
abbrev r30_3 : List IOp := [mv 12 1,
 mv 13 5,
 o1 14 (.iaddr 1) [.t 12, .t 13],
 o1 15 (.load none) [.t 14],
 mv 16 0,
 o1 17 (.nilchk) [.t 16],
 o1 18 (.faddr 0) [.t 17],
 o1 19 (.load none) [.t 18],
 o1 20 (.len .str) [.t 19],
 o1 21 (.bin .eql .prim) [.t 15, .t 20]]
abbrev r30_4 : List IOp := [o1 4 (.mov) [.c (.bool true)]]
abbrev r30_5 : List IOp := [mv 10 5,
 o1 11 (.bin .add .prim) [.t 10, .c (.int .i64 1)],
 mv 5 11]
abbrev b30_0 : IC := (IC.seq (IC.seq (IC.reg r30_2) (IC.cond (.t 9) IC.skip (IC.exit 0))) (IC.seq (IC.block 1 (IC.seq (IC.regD .wild r30_3 (.take 0 (.take 1 (.take 2 (.take 3 (.take 4 (.take 5 (.take 6 (.take 7 (.take 8 (.take 9 (.done)))))))))))) (IC.cond (.t 21) (IC.seq (IC.reg r30_4) IC.ret) IC.skip))) (IC.reg r30_5)))
abbrev r30_6 : List IOp := [o1 4 (.mov) [.c (.bool false)]]
abbrev c30 : IC := (IC.seq (IC.reg r30_0) (IC.seq (IC.seq (IC.reg r30_1) (IC.block 0 (IC.loop b30_0))) (IC.seq (IC.reg r30_6) IC.ret)))
abbrev g30 : FC := ⟨c30, 22, [.t 4]⟩
theorem comp30 : compF Go.Proofs.Tryz.prog (hintL [(4, 6)]) 30 = some g30 := by kernel_rfl
abbrev r31_0 : List IOp := [o1 4 (.mov) [.c (.bool false)]]
abbrev r31_1 : List IOp := [mv 6 0,
 o1 7 (.len .slice) [.t 6],
 mv 8 1,
 o1 9 (.len .slice) [.t 8],
 o1 10 (.bin .neq .prim) [.t 7, .t 9]]
abbrev r31_2 : List IOp := [o1 4 (.mov) [.c (.bool false)]]
abbrev r31_3 : List IOp := [o1 5 (.mov) [.c (.int .i64 0)]]
abbrev r31_4 : List IOp := [mv 11 5,
 mv 12 0,
 o1 13 (.len .slice) [.t 12],
 o1 14 (.bin .lss .prim) [.t 11, .t 13]]
abbrev r31_5 : List IOp := [mv 17 0,
 mv 18 5,
 o1 19 (.iaddr 1) [.t 17, .t 18],
 o1 20 (.load none) [.t 19],
 mv 21 1,
 mv 22 5,
 o1 23 (.iaddr 1) [.t 21, .t 22],
 o1 24 (.load none) [.t 23],
 o1 25 (.bin .neq .prim) [.t 20, .t 24]]
abbrev r31_6 : List IOp := [o1 4 (.mov) [.c (.bool false)]]
abbrev r31_7 : List IOp := [mv 15 5,
 o1 16 (.bin .add .prim) [.t 15, .c (.int .i64 1)],
 mv 5 16]
abbrev b31_0 : IC := (IC.seq (IC.seq (IC.reg r31_4) (IC.cond (.t 14) IC.skip (IC.exit 0))) (IC.seq (IC.block 1 (IC.seq (IC.regD .wild r31_5 (.take 0 (.take 1 (.take 2 (.take 3 (.take 4 (.take 5 (.take 6 (.take 7 (.take 8 (.done))))))))))) (IC.cond (.t 25) (IC.seq (IC.reg r31_6) IC.ret) IC.skip))) (IC.reg r31_7)))
abbrev r31_8 : List IOp := [o1 4 (.mov) [.c (.bool true)]]
abbrev c31 : IC := (IC.seq (IC.reg r31_0) (IC.seq (IC.seq (IC.reg r31_1) (IC.cond (.t 10) (IC.seq (IC.reg r31_2) IC.ret) IC.skip)) (IC.seq (IC.seq (IC.reg r31_3) (IC.block 0 (IC.loop b31_0))) (IC.seq (IC.reg r31_8) IC.ret))))
abbrev g31 : FC := ⟨c31, 26, [.t 4]⟩
theorem comp31 : compF Go.Proofs.Tryz.prog (hintL [(6, 6)]) 31 = some g31 := by kernel_rfl
abbrev r33_0 : List IOp := [o1 3 (.mov) [.c (.bool false)]]
abbrev r33_1 : List IOp := [mv 4 0,
 o1 5 (.bin .lss .prim) [.t 4, .c (.int .i64 0)],
 mv 6 5,
 o2 7 (.mov) [.t 0] 6 false,
 o2 8 (.load none) [.t 1] 6 false,
 o2 9 (.bin .geq .prim) [.t 7, .t 8] 6 false,
 o1 10 (.pick) [.t 6, .c (.bool true), .t 9],
 mv 3 10]
abbrev c33 : IC := (IC.seq (IC.reg r33_0) (IC.seq (IC.reg r33_1) IC.ret))
abbrev g33 : FC := ⟨c33, 11, [.t 3]⟩
theorem comp33 : compF Go.Proofs.Tryz.prog (fun _ => 0) 33 = some g33 := by kernel_rfl
abbrev r32_0 : List IOp := [o1 4 (.mov) [.c (.bool false)]]
abbrev r32_1 : List IOp := [mv 5 0,
 mv 6 1,
 ca 7 [.f 60, .t 5, .t 6],
 o1 8 (.bin .geq .prim) [.t 7, .c (.int .i64 0)],
 mv 4 8]
abbrev c32 : IC := (IC.seq (IC.reg r32_0) (IC.seq (IC.reg r32_1) IC.ret))
abbrev g32 : FC := ⟨c32, 9, [.t 4]⟩
theorem comp32 : compF Go.Proofs.Tryz.prog (fun _ => 0) 32 = some g32 := by kernel_rfl
abbrev r34_0 : List IOp := [o1 3 (.mov) [.c (.bool false)]]
abbrev r34_1 : List IOp := [mv 4 0,
 o1 5 (.bin .lss .prim) [.t 4, .c (.int .i64 0)],
 mv 6 5,
 o2 7 (.mov) [.t 0] 6 false,
 o2 8 (.faddr 1) [.t 1] 6 false,
 o2 9 (.load none) [.t 8] 6 false,
 o2 10 (.len .slice) [.t 9] 6 false,
 o2 11 (.bin .geq .prim) [.t 7, .t 10] 6 false,
 o1 12 (.pick) [.t 6, .c (.bool true), .t 11],
 mv 3 12]
abbrev c34 : IC := (IC.seq (IC.reg r34_0) (IC.seq (IC.reg r34_1) IC.ret))
abbrev g34 : FC := ⟨c34, 13, [.t 3]⟩
theorem comp34 : compF Go.Proofs.Tryz.prog (fun _ => 0) 34 = some g34 := by kernel_rfl
abbrev r35_0 : List IOp := [o1 1 (.box 26) [.t 0],
 o1 2 (.mov) [.c (.bool false)]]
abbrev r35_1 : List IOp := [o1 6 (.faddr 0) [.t 1],
 o1 7 (.load none) [.t 6],
 o1 8 (.len .slice) [.t 7],
 o1 9 (.bin .neq .prim) [.t 8, .c (.int .i64 256)],
 mv 10 9,
 o2 11 (.faddr 1) [.t 1] 10 false,
 o2 12 (.load none) [.t 11] 10 false,
 o2 13 (.len .slice) [.t 12] 10 false,
 o2 14 (.bin .lss .prim) [.t 13, .c (.int .i64 1)] 10 false,
 o1 15 (.pick) [.t 10, .c (.bool true), .t 14],
 mv 16 15,
 o2 17 (.faddr 1) [.t 1] 16 false,
 o2 18 (.load none) [.t 17] 16 false,
 o2 19 (.len .slice) [.t 18] 16 false,
 o2 20 (.bin .gtr .prim) [.t 19, .c (.int .i64 256)] 16 false,
 o1 21 (.pick) [.t 16, .c (.bool true), .t 20],
 mv 22 21,
 o2 23 (.faddr 2) [.t 1] 22 false,
 o2 24 (.load none) [.t 23] 22 false,
 o2 25 (.len .slice) [.t 24] 22 false,
 o2 26 (.faddr 1) [.t 1] 22 false,
 o2 27 (.load none) [.t 26] 22 false,
 o2 28 (.len .slice) [.t 27] 22 false,
 o2 29 (.bin .neq .prim) [.t 25, .t 28] 22 false,
 o1 30 (.pick) [.t 22, .c (.bool true), .t 29],
 mv 31 30,
 o2 32 (.faddr 1) [.t 1] 31 false,
 o2 33 (.load none) [.t 32] 31 false,
 o2 34 (.iaddr 1) [.t 33, .c (.int .i64 0)] 31 false,
 o2 35 (.load none) [.t 34] 31 false,
 o2 36 (.len .slice) [.t 35] 31 false,
 o2 37 (.bin .lss .prim) [.t 36, .c (.int .i64 1)] 31 false,
 o1 38 (.pick) [.t 31, .c (.bool true), .t 37]]
abbrev r35_2 : List IOp := [o1 2 (.mov) [.c (.bool false)]]
abbrev r35_3 : List IOp := [o1 3 (.mov) [.c (.int .i64 0)]]
abbrev r35_4 : List IOp := [mv 39 3,
 o1 40 (.bin .lss .prim) [.t 39, .c (.int .i64 256)]]
abbrev r35_5 : List IOp := [o1 43 (.faddr 0) [.t 1],
 o1 44 (.load none) [.t 43],
 mv 45 3,
 o1 46 (.iaddr 1) [.t 44, .t 45],
 o1 47 (.load none) [.t 46],
 o1 48 (.bin .lss .prim) [.t 47, .c (.int .i64 0)],
 mv 49 48,
 o2 50 (.faddr 0) [.t 1] 49 false,
 o2 51 (.load none) [.t 50] 49 false,
 o2 52 (.mov) [.t 3] 49 false,
 o2 53 (.iaddr 1) [.t 51, .t 52] 49 false,
 o2 54 (.load none) [.t 53] 49 false,
 o2 55 (.faddr 1) [.t 1] 49 false,
 o2 56 (.load none) [.t 55] 49 false,
 o2 57 (.iaddr 1) [.t 56, .c (.int .i64 0)] 49 false,
 o2 58 (.load none) [.t 57] 49 false,
 o2 59 (.len .slice) [.t 58] 49 false,
 o2 60 (.bin .geq .prim) [.t 54, .t 59] 49 false,
 o1 61 (.pick) [.t 49, .c (.bool true), .t 60]]
abbrev r35_6 : List IOp := [o1 2 (.mov) [.c (.bool false)]]
abbrev r35_7 : List IOp := [mv 41 3,
 o1 42 (.bin .add .prim) [.t 41, .c (.int .i64 1)],
 mv 3 42]
abbrev b35_0 : IC := (IC.seq (IC.seq (IC.reg r35_4) (IC.cond (.t 40) IC.skip (IC.exit 0))) (IC.seq (IC.block 1 (IC.seq (IC.regD .wild r35_5 (.take 0 (.take 1 (.take 2 (.take 3 (.take 4 (.take 5 (.take 6 (.take 7 (.take 8 (.take 9 (.take 10 (.take 11 (.take 12 (.take 13 (.take 14 (.take 15 (.take 16 (.take 17 (.take 18 (.done))))))))))))))))))))) (IC.cond (.t 61) (IC.seq (IC.reg r35_6) IC.ret) IC.skip))) (IC.reg r35_7)))
abbrev r35_8 : List IOp := [o1 4 (.mov) [.c (.int .i64 0)]]
abbrev r35_9 : List IOp := [mv 62 4,
 o1 63 (.faddr 1) [.t 1],
 o1 64 (.load none) [.t 63],
 o1 65 (.len .slice) [.t 64],
 o1 66 (.bin .lss .prim) [.t 62, .t 65]]
abbrev r35_10 : List IOp := [o1 69 (.faddr 1) [.t 1],
 o1 70 (.load none) [.t 69],
 mv 71 4,
 o1 72 (.iaddr 1) [.t 70, .t 71],
 o1 73 (.load none) [.t 72],
 o1 74 (.len .slice) [.t 73],
 o1 75 (.faddr 1) [.t 1],
 o1 76 (.load none) [.t 75],
 o1 77 (.iaddr 1) [.t 76, .c (.int .i64 0)],
 o1 78 (.load none) [.t 77],
 o1 79 (.len .slice) [.t 78],
 o1 80 (.bin .neq .prim) [.t 74, .t 79]]
abbrev r35_11 : List IOp := [o1 2 (.mov) [.c (.bool false)]]
abbrev r35_12 : List IOp := [o1 5 (.mov) [.c (.int .i64 0)]]
abbrev r35_13 : List IOp := [mv 81 5,
 o1 82 (.faddr 1) [.t 1],
 o1 83 (.load none) [.t 82],
 mv 84 4,
 o1 85 (.iaddr 1) [.t 83, .t 84],
 o1 86 (.load none) [.t 85],
 o1 87 (.len .slice) [.t 86],
 o1 88 (.bin .lss .prim) [.t 81, .t 87]]
abbrev r35_14 : List IOp := [o1 91 (.faddr 1) [.t 1],
 o1 92 (.load none) [.t 91],
 mv 93 4,
 o1 94 (.iaddr 1) [.t 92, .t 93],
 o1 95 (.load none) [.t 94],
 mv 96 5,
 o1 97 (.iaddr 1) [.t 95, .t 96],
 o1 98 (.load none) [.t 97],
 o1 99 (.bin .lss .prim) [.t 98, .c (.int .i64 0)],
 mv 100 99,
 o2 101 (.faddr 1) [.t 1] 100 false,
 o2 102 (.load none) [.t 101] 100 false,
 o2 103 (.mov) [.t 4] 100 false,
 o2 104 (.iaddr 1) [.t 102, .t 103] 100 false,
 o2 105 (.load none) [.t 104] 100 false,
 o2 106 (.mov) [.t 5] 100 false,
 o2 107 (.iaddr 1) [.t 105, .t 106] 100 false,
 o2 108 (.load none) [.t 107] 100 false,
 o2 109 (.faddr 1) [.t 1] 100 false,
 o2 110 (.load none) [.t 109] 100 false,
 o2 111 (.len .slice) [.t 110] 100 false,
 o2 112 (.bin .geq .prim) [.t 108, .t 111] 100 false,
 o1 113 (.pick) [.t 100, .c (.bool true), .t 112]]
abbrev r35_15 : List IOp := [o1 2 (.mov) [.c (.bool false)]]
abbrev r35_16 : List IOp := [mv 89 5,
 o1 90 (.bin .add .prim) [.t 89, .c (.int .i64 1)],
 mv 5 90]
abbrev b35_1 : IC := (IC.seq (IC.seq (IC.reg r35_13) (IC.cond (.t 88) IC.skip (IC.exit 4))) (IC.seq (IC.block 5 (IC.seq (IC.regD .wild r35_14 (.take 0 (.take 1 (.take 2 (.take 3 (.take 4 (.take 5 (.take 6 (.take 7 (.take 8 (.take 9 (.take 10 (.take 11 (.take 12 (.take 13 (.take 14 (.take 15 (.take 16 (.take 17 (.take 18 (.take 19 (.take 20 (.take 21 (.take 22 (.done))))))))))))))))))))))))) (IC.cond (.t 113) (IC.seq (IC.reg r35_15) IC.ret) IC.skip))) (IC.reg r35_16)))
abbrev r35_17 : List IOp := [mv 67 4,
 o1 68 (.bin .add .prim) [.t 67, .c (.int .i64 1)],
 mv 4 68]
abbrev b35_2 : IC := (IC.seq (IC.seq (IC.reg r35_9) (IC.cond (.t 66) IC.skip (IC.exit 2))) (IC.seq (IC.block 3 (IC.seq (IC.seq (IC.regD .wild r35_10 (.take 0 (.take 1 (.take 2 (.take 3 (.take 4 (.take 5 (.take 6 (.take 7 (.take 8 (.take 9 (.take 10 (.take 11 (.done)))))))))))))) (IC.cond (.t 80) (IC.seq (IC.reg r35_11) IC.ret) IC.skip)) (IC.seq (IC.reg r35_12) (IC.block 4 (IC.loop b35_1))))) (IC.reg r35_17)))
abbrev r35_18 : List IOp := [o1 2 (.mov) [.c (.bool true)]]
abbrev c35 : IC := (IC.seq (IC.reg r35_0) (IC.seq (IC.seq (IC.reg r35_1) (IC.cond (.t 38) (IC.seq (IC.reg r35_2) IC.ret) IC.skip)) (IC.seq (IC.seq (IC.reg r35_3) (IC.block 0 (IC.loop b35_0))) (IC.seq (IC.seq (IC.reg r35_8) (IC.block 2 (IC.loop b35_2))) (IC.seq (IC.reg r35_18) IC.ret)))))
abbrev g35 : FC := ⟨c35, 114, [.t 2]⟩
theorem comp35 : compF Go.Proofs.Tryz.prog (hintL [(6, 6), (11, 6), (16, 6)]) 35 = some g35 := by kernel_rfl
abbrev r37_0 : List IOp := [o1 2 (.mov) [.c (.nils)]]
abbrev r37_1 : List IOp := [o1 3 (.bsl 3 1 false) [],
 mv 4 0,
 o1 5 (.app 3 1 8) [.t 3, .t 4],
 mv 2 5]
abbrev c37 : IC := (IC.seq (IC.reg r37_0) (IC.seq (IC.reg r37_1) IC.ret))
abbrev g37 : FC := ⟨c37, 6, [.t 2]⟩
theorem comp37 : compF Go.Proofs.Tryz.prog (fun _ => 0) 37 = some g37 := by kernel_rfl
abbrev r38_0 : List IOp := [o1 2 (.mov) [.c (.nils)]]
abbrev r38_1 : List IOp := [o1 3 (.bsl 4 1 false) [],
 mv 4 0,
 o1 5 (.app 4 1 1) [.t 3, .t 4],
 mv 2 5]
abbrev c38 : IC := (IC.seq (IC.reg r38_0) (IC.seq (IC.reg r38_1) IC.ret))
abbrev g38 : FC := ⟨c38, 6, [.t 2]⟩
theorem comp38 : compF Go.Proofs.Tryz.prog (fun _ => 0) 38 = some g38 := by kernel_rfl
abbrev r36_0 : List IOp := [o1 2 (.box 26) [.t 0],
 o1 4 (.mov) [.c (.bool false)]]
abbrev r36_1 : List IOp := [o1 5 (.mov) [.c (.int .i64 0)]]
abbrev r36_2 : List IOp := [mv 7 1,
 o1 8 (.len .str) [.t 7],
 o1 9 (.mov) [.c (.int .i64 0)]]
abbrev r36_3 : List IOp := [o1 10 (.bin .lss .prim) [.t 9, .t 8]]
abbrev r36_4 : List IOp := [mv 11 9,
 mv 6 11]
abbrev r36_5 : List IOp := [o1 12 (.faddr 1) [.t 2],
 o1 13 (.load none) [.t 12],
 mv 14 5,
 o1 15 (.iaddr 1) [.t 13, .t 14],
 o1 16 (.load none) [.t 15],
 o1 17 (.faddr 0) [.t 2],
 o1 18 (.load none) [.t 17],
 mv 19 1,
 mv 20 6,
 o1 21 (.idxs) [.t 19, .t 20],
 o1 22 (.iaddr 1) [.t 18, .t 21],
 o1 23 (.load none) [.t 22],
 o1 24 (.iaddr 1) [.t 16, .t 23],
 o1 25 (.load none) [.t 24],
 mv 5 25]
abbrev r36_6 : List IOp := [o1 26 (.bin .add .prim) [.t 9, .c (.int .i64 1)],
 mv 9 26]
abbrev b36_0 : IC := (IC.seq (IC.reg r36_3) (IC.seq (IC.cond (.t 10) IC.skip (IC.exit 0)) (IC.seq (IC.block 1 (IC.seq (IC.reg r36_4) (IC.regD .wild r36_5 (.take 0 (.take 1 (.take 2 (.take 3 (.take 4 (.take 5 (.take 6 (.take 7 (.take 8 (.take 9 (.take 10 (.take 11 (.take 12 (.take 13 (.take 14 (.done))))))))))))))))))) (IC.reg r36_6))))
abbrev r36_7 : List IOp := [o1 27 (.faddr 2) [.t 2],
 o1 28 (.load none) [.t 27],
 mv 29 5,
 o1 30 (.iaddr 1) [.t 28, .t 29],
 o1 31 (.load none) [.t 30],
 mv 4 31]
abbrev c36 : IC := (IC.seq (IC.reg r36_0) (IC.seq (IC.reg r36_1) (IC.seq (IC.seq (IC.reg r36_2) (IC.block 0 (IC.loop b36_0))) (IC.seq (IC.reg r36_7) IC.ret))))
abbrev g36 : FC := ⟨c36, 32, [.t 4]⟩
theorem comp36 : compF Go.Proofs.Tryz.prog (hintL [(5, 6)]) 36 = some g36 := by kernel_rfl
abbrev r39_0 : List IOp := [o1 4 (.mov) [.c (.bool false)]]
abbrev r39_1 : List IOp := [mv 6 0,
 o1 7 (.len .slice) [.t 6],
 mv 8 1,
 o1 9 (.len .slice) [.t 8],
 o1 10 (.bin .neq .prim) [.t 7, .t 9]]
abbrev r39_2 : List IOp := [o1 4 (.mov) [.c (.bool false)]]
abbrev r39_3 : List IOp := [mv 11 0,
 o1 12 (.len .slice) [.t 11],
 o1 13 (.mov) [.c (.int .i64 0)]]
abbrev r39_4 : List IOp := [o1 14 (.bin .lss .prim) [.t 13, .t 12]]
abbrev r39_5 : List IOp := [mv 15 13,
 mv 5 15]
abbrev r39_6 : List IOp := [mv 16 0,
 mv 17 5,
 o1 18 (.iaddr 1) [.t 16, .t 17],
 o1 19 (.load none) [.t 18],
 mv 20 1,
 mv 21 5,
 o1 22 (.iaddr 1) [.t 20, .t 21],
 o1 23 (.load none) [.t 22],
 o1 24 (.bin .neq .prim) [.t 19, .t 23]]
abbrev r39_7 : List IOp := [o1 4 (.mov) [.c (.bool false)]]
abbrev r39_8 : List IOp := [o1 25 (.bin .add .prim) [.t 13, .c (.int .i64 1)],
 mv 13 25]
abbrev b39_0 : IC := (IC.seq (IC.reg r39_4) (IC.seq (IC.cond (.t 14) IC.skip (IC.exit 0)) (IC.seq (IC.block 1 (IC.seq (IC.reg r39_5) (IC.seq (IC.regD .wild r39_6 (.take 0 (.take 1 (.take 2 (.take 3 (.take 4 (.take 5 (.take 6 (.take 7 (.take 8 (.done))))))))))) (IC.cond (.t 24) (IC.seq (IC.reg r39_7) IC.ret) IC.skip)))) (IC.reg r39_8))))
abbrev r39_9 : List IOp := [o1 4 (.mov) [.c (.bool true)]]
abbrev c39 : IC := (IC.seq (IC.reg r39_0) (IC.seq (IC.seq (IC.reg r39_1) (IC.cond (.t 10) (IC.seq (IC.reg r39_2) IC.ret) IC.skip)) (IC.seq (IC.seq (IC.reg r39_3) (IC.block 0 (IC.loop b39_0))) (IC.seq (IC.reg r39_9) IC.ret))))
abbrev g39 : FC := ⟨c39, 26, [.t 4]⟩
theorem comp39 : compF Go.Proofs.Tryz.prog (hintL [(6, 6)]) 39 = some g39 := by kernel_rfl
abbrev r40_0 : List IOp := [o1 6 (.mov) [.c (.bool false)]]
abbrev r40_1 : List IOp := [mv 10 0,
 o1 11 (.len .slice) [.t 10],
 mv 12 1,
 o1 13 (.len .slice) [.t 12],
 o1 14 (.bin .neq .prim) [.t 11, .t 13]]
abbrev r40_2 : List IOp := [o1 6 (.mov) [.c (.bool false)]]
abbrev r40_3 : List IOp := [mv 15 0,
 o1 16 (.len .slice) [.t 15],
 o1 17 (.mov) [.c (.int .i64 0)]]
abbrev r40_4 : List IOp := [o1 18 (.bin .lss .prim) [.t 17, .t 16]]
abbrev r40_5 : List IOp := [mv 19 17,
 o1 20 (.iaddr 1) [.t 15, .t 17],
 o1 21 (.load none) [.t 20],
 mv 7 19,
 mv 8 21]
abbrev r40_6 : List IOp := [mv 22 1,
 mv 23 7,
 o1 24 (.iaddr 1) [.t 22, .t 23],
 o1 25 (.load none) [.t 24],
 mv 9 25]
abbrev r40_7 : List IOp := [mv 26 2,
 mv 27 8,
 mv 28 9,
 ca 29 [.t 26, .t 27, .t 28],
 o1 30 (.un .not) [.t 29]]
abbrev r40_8 : List IOp := [o1 6 (.mov) [.c (.bool false)]]
abbrev r40_9 : List IOp := [o1 31 (.bin .add .prim) [.t 17, .c (.int .i64 1)],
 mv 17 31]
abbrev b40_0 : IC := (IC.seq (IC.reg r40_4) (IC.seq (IC.cond (.t 18) IC.skip (IC.exit 0)) (IC.seq (IC.block 1 (IC.seq (IC.reg r40_5) (IC.seq (IC.reg r40_6) (IC.seq (IC.reg r40_7) (IC.cond (.t 30) (IC.seq (IC.reg r40_8) IC.ret) IC.skip))))) (IC.reg r40_9))))
abbrev r40_10 : List IOp := [o1 6 (.mov) [.c (.bool true)]]
abbrev c40 : IC := (IC.seq (IC.reg r40_0) (IC.seq (IC.seq (IC.reg r40_1) (IC.cond (.t 14) (IC.seq (IC.reg r40_2) IC.ret) IC.skip)) (IC.seq (IC.seq (IC.reg r40_3) (IC.block 0 (IC.loop b40_0))) (IC.seq (IC.reg r40_10) IC.ret))))
abbrev g40 : FC := ⟨c40, 32, [.t 6]⟩
theorem comp40 : compF Go.Proofs.Tryz.prog (fun _ => 0) 40 = some g40 := by kernel_rfl
abbrev r41_0 : List IOp := [o1 4 (.mov) [.c (.bool false)]]
abbrev r41_1 : List IOp := [mv 6 0,
 o1 7 (.len .slice) [.t 6],
 mv 8 1,
 o1 9 (.len .slice) [.t 8],
 o1 10 (.bin .neq .prim) [.t 7, .t 9]]
abbrev r41_2 : List IOp := [o1 4 (.mov) [.c (.bool false)]]
abbrev r41_3 : List IOp := [mv 11 0,
 o1 12 (.len .slice) [.t 11],
 o1 13 (.mov) [.c (.int .i64 0)]]
abbrev r41_4 : List IOp := [o1 14 (.bin .lss .prim) [.t 13, .t 12]]
abbrev r41_5 : List IOp := [mv 15 13,
 mv 5 15]
abbrev r41_6 : List IOp := [mv 16 0,
 mv 17 5,
 o1 18 (.iaddr 1) [.t 16, .t 17],
 o1 19 (.load none) [.t 18],
 mv 20 1,
 mv 21 5,
 o1 22 (.iaddr 1) [.t 20, .t 21],
 o1 23 (.load none) [.t 22],
 o1 24 (.bin .neq .bool) [.t 19, .t 23]]
abbrev r41_7 : List IOp := [o1 4 (.mov) [.c (.bool false)]]
abbrev r41_8 : List IOp := [o1 25 (.bin .add .prim) [.t 13, .c (.int .i64 1)],
 mv 13 25]
abbrev b41_0 : IC := (IC.seq (IC.reg r41_4) (IC.seq (IC.cond (.t 14) IC.skip (IC.exit 0)) (IC.seq (IC.block 1 (IC.seq (IC.reg r41_5) (IC.seq (IC.regD .wild r41_6 (.take 0 (.take 1 (.take 2 (.take 3 (.take 4 (.take 5 (.take 6 (.take 7 (.take 8 (.done))))))))))) (IC.cond (.t 24) (IC.seq (IC.reg r41_7) IC.ret) IC.skip)))) (IC.reg r41_8))))
abbrev r41_9 : List IOp := [o1 4 (.mov) [.c (.bool true)]]
abbrev c41 : IC := (IC.seq (IC.reg r41_0) (IC.seq (IC.seq (IC.reg r41_1) (IC.cond (.t 10) (IC.seq (IC.reg r41_2) IC.ret) IC.skip)) (IC.seq (IC.seq (IC.reg r41_3) (IC.block 0 (IC.loop b41_0))) (IC.seq (IC.reg r41_9) IC.ret))))
abbrev g41 : FC := ⟨c41, 26, [.t 4]⟩
theorem comp41 : compF Go.Proofs.Tryz.prog (hintL [(6, 6)]) 41 = some g41 := by kernel_rfl
abbrev r42_0 : List IOp := [o1 2 (.mov) [.c (.int .i64 0)]]
abbrev r42_1 : List IOp := [mv 4 0,
 ⟨some 5, .op (.bin .eql .prim), [.t 4, .c (.str [])], none⟩,
 mv 3 5]
abbrev r42_2 : List IOp := [o1 2 (.mov) [.c (.int .i64 2)]]
abbrev r42_3 : List IOp := [mv 7 0,
 o1 8 (.len .str) [.t 7],
 o1 9 (.bin .gtr .prim) [.t 8, .c (.int .i64 255)],
 mv 6 9]
abbrev r42_4 : List IOp := [o1 2 (.mov) [.c (.int .i64 4)]]
abbrev r42_5 : List IOp := [o1 2 (.mov) [.c (.int .i64 0)]]
abbrev c42 : IC := (IC.seq (IC.reg r42_0) (IC.seq (IC.block 0 (IC.seq (IC.reg r42_1) (IC.cond (.t 3) (IC.seq (IC.reg r42_2) IC.ret) (IC.seq (IC.reg r42_3) (IC.cond (.t 6) (IC.seq (IC.reg r42_4) IC.ret) IC.skip))))) (IC.seq (IC.reg r42_5) IC.ret)))
abbrev g42 : FC := ⟨c42, 10, [.t 2]⟩
theorem comp42 : compF Go.Proofs.Tryz.prog (fun _ => 0) 42 = some g42 := by kernel_rfl
abbrev r43_0 : List IOp := [⟨some 2, .op (.mov), [.c (.str [])], none⟩]
abbrev r43_1 : List IOp := [o1 3 (.mov) [.c (.nils)]]
abbrev r43_2 : List IOp := [o1 4 (.mov) [.c (.int .i64 0)]]
abbrev r43_3 : List IOp := [mv 7 4,
 mv 8 0,
 o1 9 (.len .str) [.t 8],
 o1 10 (.bin .lss .prim) [.t 7, .t 9]]
abbrev r43_4 : List IOp := [mv 11 4,
 mv 5 11]
abbrev r43_5 : List IOp := [mv 12 5,
 mv 13 0,
 o1 14 (.len .str) [.t 13],
 o1 15 (.bin .lss .prim) [.t 12, .t 14],
 mv 16 15,
 o2 17 (.mov) [.t 0] 16 true,
 o2 18 (.mov) [.t 5] 16 true,
 o2 19 (.idxs) [.t 17, .t 18] 16 true,
 o2 20 (.bin .eql .prim) [.t 19, .c (.int .u8 42)] 16 true,
 o2 21 (.mov) [.t 20] 16 true,
 o2 22 (.mov) [.t 0] 21 false,
 o2 23 (.mov) [.t 5] 21 false,
 o2 24 (.idxs) [.t 22, .t 23] 21 false,
 o2 25 (.bin .eql .prim) [.t 24, .c (.int .u8 63)] 21 false,
 o2 26 (.pick) [.t 21, .c (.bool true), .t 25] 16 true,
 o1 27 (.pick) [.t 16, .t 26, .c (.bool false)]]
abbrev r43_6 : List IOp := [mv 28 5,
 o1 29 (.bin .add .prim) [.t 28, .c (.int .i64 1)],
 mv 5 29]
abbrev b43_0 : IC := (IC.seq (IC.seq (IC.reg r43_5) (IC.cond (.t 27) IC.skip (IC.exit 2))) (IC.block 3 (IC.reg r43_6)))
abbrev r43_7 : List IOp := [mv 30 5,
 mv 31 4,
 o1 32 (.bin .eql .prim) [.t 30, .t 31]]
abbrev r43_8 : List IOp := [mv 33 3,
 mv 34 0,
 mv 35 4,
 o1 36 (.idxs) [.t 34, .t 35],
 o1 37 (.bsl 5 1 false) [.t 36],
 o1 38 (.app 5 1 1) [.t 33, .t 37],
 mv 3 38]
abbrev r43_9 : List IOp := [mv 39 4,
 o1 40 (.bin .add .prim) [.t 39, .c (.int .i64 1)],
 mv 4 40]
abbrev r43_10 : List IOp := [mv 41 0,
 mv 42 4,
 mv 43 5,
 o1 44 (.sslice true true false) [.t 41, .t 42, .t 43],
 o1 45 (.s2b 5) [.t 44],
 o1 46 (.bsl 5 1 false) [.c (.int .u8 63)],
 o1 47 (.cvs) [.t 46],
 ca 48 [.f 61, .t 45, .t 47],
 mv 6 48]
abbrev r43_11 : List IOp := [mv 49 3,
 o1 50 (.bsl 5 1 false) [.c (.int .u8 63)],
 o1 51 (.cvs) [.t 50],
 mv 52 6,
 ca 53 [.f 62, .t 51, .t 52],
 o1 54 (.app 5 1 1) [.t 49, .t 53],
 mv 3 54]
abbrev r43_12 : List IOp := [mv 55 6,
 mv 56 5,
 mv 57 4,
 o1 58 (.bin .sub .prim) [.t 56, .t 57],
 o1 59 (.bin .lss .prim) [.t 55, .t 58]]
abbrev r43_13 : List IOp := [mv 60 3,
 o1 61 (.bsl 5 1 false) [.c (.int .u8 42)],
 o1 62 (.app 5 1 1) [.t 60, .t 61],
 mv 3 62]
abbrev r43_14 : List IOp := [mv 63 5,
 mv 4 63]
abbrev b43_1 : IC := (IC.seq (IC.seq (IC.reg r43_3) (IC.cond (.t 10) IC.skip (IC.exit 0))) (IC.block 1 (IC.seq (IC.reg r43_4) (IC.seq (IC.block 2 (IC.loop b43_0)) (IC.seq (IC.seq (IC.reg r43_7) (IC.cond (.t 32) (IC.seq (IC.reg r43_8) (IC.seq (IC.reg r43_9) (IC.exit 1))) IC.skip)) (IC.seq (IC.reg r43_10) (IC.seq (IC.reg r43_11) (IC.seq (IC.seq (IC.reg r43_12) (IC.cond (.t 59) (IC.reg r43_13) IC.skip)) (IC.reg r43_14)))))))))
abbrev r43_15 : List IOp := [mv 64 3,
 o1 65 (.b2s) [.t 64],
 mv 2 65]
abbrev c43 : IC := (IC.seq (IC.reg r43_0) (IC.seq (IC.reg r43_1) (IC.seq (IC.seq (IC.reg r43_2) (IC.block 0 (IC.loop b43_1))) (IC.seq (IC.reg r43_15) IC.ret))))
abbrev g43 : FC := ⟨c43, 66, [.t 2]⟩
theorem comp43 : compF Go.Proofs.Tryz.prog (fun _ => 0) 43 = some g43 := by kernel_rfl
abbrev r44_0 : List IOp := [o1 2 (.mov) [.c (.int .u8 0)]]
abbrev r44_1 : List IOp := [mv 3 0,
 mv 2 3]
abbrev c44 : IC := (IC.seq (IC.reg r44_0) (IC.seq (IC.reg r44_1) IC.ret))
abbrev g44 : FC := ⟨c44, 4, [.t 2]⟩
theorem comp44 : compF Go.Proofs.Tryz.prog (fun _ => 0) 44 = some g44 := by kernel_rfl
abbrev r45_0 : List IOp := [o1 2 (.mov) [.c (.int .u8 0)]]
abbrev r45_1 : List IOp := [mv 3 0,
 o1 4 (.bsl 5 1 false) [.t 3],
 o1 5 (.b2s) [.t 4],
 ca 6 [.f 46, .t 5],
 o1 7 (.idxs) [.t 6, .c (.int .i64 0)],
 mv 2 7]
abbrev c45 : IC := (IC.seq (IC.reg r45_0) (IC.seq (IC.reg r45_1) IC.ret))
abbrev g45 : FC := ⟨c45, 8, [.t 2]⟩
theorem comp45 : compF Go.Proofs.Tryz.prog (fun _ => 0) 45 = some g45 := by kernel_rfl
abbrev r47_0 : List IOp := [mv 3 0,
 o1 4 (.len .slice) [.t 3],
 mv 2 4]
abbrev r47_1 : List IOp := [mv 5 0,
 mv 6 2,
 mv 7 2,
 o1 8 (.toInt .u64) [.t 7],
 ca 9 [.f 65, .t 8],
 ca 10 [.f 64, .t 5, .c (.int .i64 0), .t 6, .t 9]]
abbrev c47 : IC := (IC.seq (IC.reg r47_0) (IC.reg r47_1))
abbrev g47 : FC := ⟨c47, 11, []⟩
theorem comp47 : compF Go.Proofs.Tryz.prog (fun _ => 0) 47 = some g47 := by kernel_rfl
abbrev r48_0 : List IOp := [o1 2 (.mov) [.c (.nils)]]
abbrev r48_1 : List IOp := [mv 6 0,
 o1 7 (.len .slice) [.t 6],
 o1 8 (.bin .lss .prim) [.t 7, .c (.int .i64 2)]]
abbrev r48_2 : List IOp := [mv 9 0,
 mv 2 9]
abbrev r48_3 : List IOp := [o1 3 (.mov) [.c (.int .i64 1)]]
abbrev r48_4 : List IOp := [mv 10 3,
 mv 11 0,
 o1 12 (.len .slice) [.t 11],
 o1 13 (.bin .lss .prim) [.t 10, .t 12]]
abbrev r48_5 : List IOp := [mv 16 0,
 mv 17 3,
 o1 18 (.iaddr 1) [.t 16, .t 17],
 o1 19 (.load none) [.t 18],
 mv 20 0,
 mv 21 3,
 o1 22 (.bin .sub .prim) [.t 21, .c (.int .i64 1)],
 o1 23 (.iaddr 1) [.t 20, .t 22],
 o1 24 (.load none) [.t 23],
 o1 25 (.bin .eql .prim) [.t 19, .t 24]]
abbrev r48_6 : List IOp := [mv 26 0,
 mv 27 3,
 o1 28 (.slice 1 true false false) [.t 26, .t 27],
 mv 4 28]
abbrev r48_7 : List IOp := [o1 5 (.mov) [.c (.int .i64 1)]]
abbrev r48_8 : List IOp := [mv 29 5,
 mv 30 4,
 o1 31 (.len .slice) [.t 30],
 o1 32 (.bin .lss .prim) [.t 29, .t 31]]
abbrev r48_9 : List IOp := [mv 35 4,
 mv 36 5,
 o1 37 (.iaddr 1) [.t 35, .t 36],
 o1 38 (.load none) [.t 37],
 mv 39 4,
 mv 40 5,
 o1 41 (.bin .sub .prim) [.t 40, .c (.int .i64 1)],
 o1 42 (.iaddr 1) [.t 39, .t 41],
 o1 43 (.load none) [.t 42],
 o1 44 (.bin .neq .prim) [.t 38, .t 43]]
abbrev r48_10 : List IOp := [mv 45 0,
 mv 46 3,
 mv 47 4,
 mv 48 5,
 o1 49 (.iaddr 1) [.t 47, .t 48],
 o1 50 (.load none) [.t 49],
 o1 51 (.iaddr 1) [.t 45, .t 46],
 sr 1 [.t 51, .t 50]]
abbrev r48_11 : List IOp := [mv 52 3,
 o1 53 (.bin .add .prim) [.t 52, .c (.int .i64 1)],
 mv 3 53]
abbrev r48_12 : List IOp := [mv 33 5,
 o1 34 (.bin .add .prim) [.t 33, .c (.int .i64 1)],
 mv 5 34]
abbrev b48_0 : IC := (IC.seq (IC.seq (IC.reg r48_8) (IC.cond (.t 32) IC.skip (IC.exit 2))) (IC.seq (IC.block 3 (IC.seq (IC.regD .wild r48_9 (.take 0 (.take 1 (.take 2 (.take 3 (.take 4 (.take 5 (.take 6 (.take 7 (.take 8 (.take 9 (.done)))))))))))) (IC.cond (.t 44) (IC.seq (IC.reg r48_10) (IC.reg r48_11)) IC.skip))) (IC.reg r48_12)))
abbrev r48_13 : List IOp := [mv 54 0,
 mv 55 3,
 o1 56 (.slice 1 true false false) [.t 54, .t 55],
 ⟨none, .op (.clear [.int .u8 0]), [.t 56], none⟩]
abbrev r48_14 : List IOp := [mv 57 0,
 mv 58 3,
 o1 59 (.slice 1 false true false) [.t 57, .t 58],
 mv 2 59]
abbrev r48_15 : List IOp := [mv 14 3,
 o1 15 (.bin .add .prim) [.t 14, .c (.int .i64 1)],
 mv 3 15]
abbrev b48_1 : IC := (IC.seq (IC.seq (IC.reg r48_4) (IC.cond (.t 13) IC.skip (IC.exit 0))) (IC.seq (IC.block 1 (IC.seq (IC.regD .wild r48_5 (.take 0 (.take 1 (.take 2 (.take 3 (.take 4 (.take 5 (.take 6 (.take 7 (.take 8 (.take 9 (.done)))))))))))) (IC.cond (.t 25) (IC.seq (IC.reg r48_6) (IC.seq (IC.seq (IC.reg r48_7) (IC.block 2 (IC.loop b48_0))) (IC.seq (IC.reg r48_13) (IC.seq (IC.reg r48_14) IC.ret)))) IC.skip))) (IC.reg r48_15)))
abbrev r48_16 : List IOp := [mv 60 0,
 mv 2 60]
abbrev c48 : IC := (IC.seq (IC.reg r48_0) (IC.seq (IC.seq (IC.reg r48_1) (IC.cond (.t 8) (IC.seq (IC.reg r48_2) IC.ret) IC.skip)) (IC.seq (IC.seq (IC.reg r48_3) (IC.block 0 (IC.loop b48_1))) (IC.seq (IC.reg r48_16) IC.ret))))
abbrev g48 : FC := ⟨c48, 61, [.t 2]⟩
theorem comp48 : compF Go.Proofs.Tryz.prog (hintL [(6, 6), (11, 6)]) 48 = some g48 := by kernel_rfl
abbrev r49_0 : List IOp := [o1 4 (.mov) [.c (.int .i64 0)],
 o1 5 (.mov) [.c (.bool false)]]
abbrev r49_1 : List IOp := [mv 10 0,
 o1 11 (.len .slice) [.t 10],
 mv 6 11]
abbrev r49_2 : List IOp := [mv 12 6,
 o1 7 (.mov) [.c (.int .i64 0)],
 mv 8 12]
abbrev r49_3 : List IOp := [mv 13 7,
 mv 14 8,
 o1 15 (.bin .lss .prim) [.t 13, .t 14]]
abbrev r49_4 : List IOp := [mv 16 7,
 mv 17 8,
 o1 18 (.bin .add .prim) [.t 16, .t 17],
 o1 19 (.toInt .u64) [.t 18],
 o1 20 (.bin .shr .prim) [.t 19, .c (.int .u64 1)],
 o1 21 (.toInt .i64) [.t 20],
 mv 9 21]
abbrev r49_5 : List IOp := [mv 22 0,
 mv 23 9,
 o1 24 (.iaddr 1) [.t 22, .t 23],
 o1 25 (.load none) [.t 24],
 mv 26 1,
 ca 27 [.f 66, .t 25, .t 26]]
abbrev r49_6 : List IOp := [mv 28 9,
 o1 29 (.bin .add .prim) [.t 28, .c (.int .i64 1)],
 mv 7 29]
abbrev r49_7 : List IOp := [mv 30 9,
 mv 8 30]
abbrev b49_0 : IC := (IC.seq (IC.seq (IC.reg r49_3) (IC.cond (.t 15) IC.skip (IC.exit 0))) (IC.block 1 (IC.seq (IC.reg r49_4) (IC.seq (IC.reg r49_5) (IC.cond (.t 27) (IC.reg r49_6) (IC.reg r49_7))))))
abbrev r49_8 : List IOp := [mv 31 7,
 mv 32 7,
 mv 33 6,
 o1 34 (.bin .lss .prim) [.t 32, .t 33],
 mv 35 34,
 o2 36 (.mov) [.t 0] 35 true,
 o2 37 (.mov) [.t 7] 35 true,
 o2 38 (.iaddr 1) [.t 36, .t 37] 35 true,
 o2 39 (.load none) [.t 38] 35 true,
 o2 40 (.mov) [.t 1] 35 true,
 o2 41 (.bin .eql .prim) [.t 39, .t 40] 35 true,
 o2 42 (.mov) [.t 41] 35 true,
 o2 43 (.mov) [.t 0] 42 false,
 o2 44 (.mov) [.t 7] 42 false,
 o2 45 (.iaddr 1) [.t 43, .t 44] 42 false,
 o2 46 (.load none) [.t 45] 42 false,
 ⟨some 47, .call none, [.f 67, .t 46], some (42, false)⟩,
 o2 48 (.mov) [.t 47] 42 false,
 o2 49 (.mov) [.t 1] 48 true,
 ⟨some 50, .call none, [.f 67, .t 49], some (48, true)⟩,
 o2 51 (.pick) [.t 48, .t 50, .c (.bool false)] 42 false,
 o2 52 (.pick) [.t 42, .c (.bool true), .t 51] 35 true,
 o1 53 (.pick) [.t 35, .t 52, .c (.bool false)],
 mv 4 31,
 mv 5 53]
abbrev c49 : IC := (IC.seq (IC.reg r49_0) (IC.seq (IC.reg r49_1) (IC.seq (IC.reg r49_2) (IC.seq (IC.block 0 (IC.loop b49_0)) (IC.seq (IC.reg r49_8) IC.ret)))))
abbrev g49 : FC := ⟨c49, 54, [.t 4, .t 5]⟩
theorem comp49 : compF Go.Proofs.Tryz.prog (fun _ => 0) 49 = some g49 := by kernel_rfl
abbrev r21_0 : List IOp := [⟨some 2, .op (.mov), [.c (.str [])], none⟩]
abbrev r21_1 : List IOp := [o1 3 (.mov) [.c (.nils)]]
abbrev r21_2 : List IOp := [mv 6 0,
 o1 7 (.len .slice) [.t 6],
 o1 8 (.mov) [.c (.int .i64 0)]]
abbrev r21_3 : List IOp := [o1 9 (.bin .lss .prim) [.t 8, .t 7]]
abbrev r21_4 : List IOp := [o1 10 (.iaddr 1) [.t 6, .t 8],
 o1 11 (.load none) [.t 10],
 mv 5 11]
abbrev r21_5 : List IOp := [mv 12 3,
 mv 13 5,
 o1 14 (.toInt .u8) [.t 13],
 o1 15 (.bsl 5 1 false) [.t 14],
 o1 16 (.app 5 1 1) [.t 12, .t 15],
 mv 3 16]
abbrev r21_6 : List IOp := [o1 17 (.bin .add .prim) [.t 8, .c (.int .i64 1)],
 mv 8 17]
abbrev b21_0 : IC := (IC.seq (IC.reg r21_3) (IC.seq (IC.cond (.t 9) IC.skip (IC.exit 0)) (IC.seq (IC.block 1 (IC.seq (IC.reg r21_4) (IC.reg r21_5))) (IC.reg r21_6))))
abbrev r21_7 : List IOp := [mv 18 3,
 o1 19 (.b2s) [.t 18],
 mv 2 19]
abbrev c21 : IC := (IC.seq (IC.reg r21_0) (IC.seq (IC.reg r21_1) (IC.seq (IC.seq (IC.reg r21_2) (IC.block 0 (IC.loop b21_0))) (IC.seq (IC.reg r21_7) IC.ret))))
abbrev g21 : FC := ⟨c21, 20, [.t 2]⟩
theorem comp21 : compF Go.Proofs.Tryz.prog (fun _ => 0) 21 = some g21 := by kernel_rfl
abbrev r50_0 : List IOp := [o1 2 (.mov) [.c (.nils)]]
abbrev r50_1 : List IOp := [mv 4 0,
 ca 5 [.f 68, .t 4],
 o1 6 (.make 4 [.bool false] 1) [.t 5, .t 5],
 mv 3 6]
abbrev r50_2 : List IOp := [mv 7 3,
 o1 8 (.len .slice) [.t 7],
 o1 9 (.bin .gtr .prim) [.t 8, .c (.int .i64 0)]]
abbrev r50_3 : List IOp := [mv 10 0,
 mv 11 3,
 ca 12 [.f 69, .t 10, .t 11, .c (.int .i64 0)]]
abbrev r50_4 : List IOp := [mv 13 3,
 mv 2 13]
abbrev c50 : IC := (IC.seq (IC.reg r50_0) (IC.seq (IC.reg r50_1) (IC.seq (IC.seq (IC.reg r50_2) (IC.cond (.t 9) (IC.reg r50_3) IC.skip)) (IC.seq (IC.reg r50_4) IC.ret))))
abbrev g50 : FC := ⟨c50, 14, [.t 2]⟩
theorem comp50 : compF Go.Proofs.Tryz.prog (fun _ => 0) 50 = some g50 := by kernel_rfl
abbrev r51_0 : List IOp := [o1 2 (.mov) [.c (.nils)]]
abbrev r51_1 : List IOp := [o1 3 (.alloc 22 [.nils]) []]
abbrev r51_2 : List IOp := [mv 5 0,
 ca 6 [.f 70, .t 5]]
abbrev r51_3 : List IOp := [o1 12 (.load none) [.t 3],
 mv 2 12]
abbrev r51_4 : List IOp := [mv 4 7]
abbrev r51_5 : List IOp := [o1 8 (.load none) [.t 3],
 mv 9 4,
 o1 10 (.bsl 3 1 false) [.t 9],
 o1 11 (.app 3 1 8) [.t 8, .t 10],
 sr 1 [.t 3, .t 11]]
abbrev c51 : IC := (IC.seq (IC.reg r51_0) (IC.seq (IC.reg r51_1) (IC.seq (IC.seq (IC.reg r51_2) (IC.block 0 (IC.rangeF 51000 13 (.t 6)))) (IC.seq (IC.reg r51_3) IC.ret))))
abbrev g51 : FC := ⟨c51, 13, [.t 2]⟩
theorem comp51 : compF Go.Proofs.Tryz.prog (hintL [(1000003, 51000), (2000003, 13)]) 51 = some g51 := by kernel_rfl
abbrev li51000 : LI := ⟨13, [7], (IC.reg r51_4), (IC.block 1 (IC.reg r51_5))⟩
theorem keys51 : KeysF Go.Proofs.Tryz.prog (hintL [(1000003, 51000), (2000003, 13)]) 51 := keysF_of (by kernel_rfl)
theorem lok51000 : LOk Go.Proofs.Tryz.prog 51000 li51000 := ⟨hintL [(1000003, 51000), (2000003, 13)], by kernel_rfl, by kernel_rfl, by kernel_rfl, by kernel_rfl, by decide⟩
abbrev r53_0 : List IOp := [o1 4 (.mov) [.c (.nils)]]
abbrev r53_1 : List IOp := [mv 8 0,
 ca 9 [.f 68, .t 8],
 o1 10 (.make 4 [.bool false] 1) [.t 9, .t 9],
 mv 5 10]
abbrev r53_2 : List IOp := [mv 11 1,
 o1 12 (.len .slice) [.t 11],
 o1 13 (.mov) [.c (.int .i64 0)]]
abbrev r53_3 : List IOp := [o1 14 (.bin .lss .prim) [.t 13, .t 12]]
abbrev r53_4 : List IOp := [o1 15 (.iaddr 1) [.t 11, .t 13],
 o1 16 (.load none) [.t 15],
 mv 7 16]
abbrev r53_5 : List IOp := [mv 17 7,
 o1 18 (.bin .geq .prim) [.t 17, .c (.int .i64 0)],
 mv 19 18,
 o2 20 (.mov) [.t 7] 19 true,
 o2 21 (.mov) [.t 5] 19 true,
 o2 22 (.len .slice) [.t 21] 19 true,
 o2 23 (.bin .lss .prim) [.t 20, .t 22] 19 true,
 o1 24 (.pick) [.t 19, .t 23, .c (.bool false)]]
abbrev r53_6 : List IOp := [mv 25 5,
 mv 26 7,
 o1 27 (.iaddr 1) [.t 25, .t 26],
 sr 1 [.t 27, .c (.bool true)]]
abbrev r53_7 : List IOp := [o1 28 (.bin .add .prim) [.t 13, .c (.int .i64 1)],
 mv 13 28]
abbrev b53_0 : IC := (IC.seq (IC.reg r53_3) (IC.seq (IC.cond (.t 14) IC.skip (IC.exit 0)) (IC.seq (IC.block 1 (IC.seq (IC.reg r53_4) (IC.seq (IC.reg r53_5) (IC.cond (.t 24) (IC.reg r53_6) IC.skip)))) (IC.reg r53_7))))
abbrev r53_8 : List IOp := [mv 29 5,
 mv 4 29]
abbrev c53 : IC := (IC.seq (IC.reg r53_0) (IC.seq (IC.reg r53_1) (IC.seq (IC.seq (IC.reg r53_2) (IC.block 0 (IC.loop b53_0))) (IC.seq (IC.reg r53_8) IC.ret))))
abbrev g53 : FC := ⟨c53, 30, [.t 4]⟩
theorem comp53 : compF Go.Proofs.Tryz.prog (fun _ => 0) 53 = some g53 := by kernel_rfl
abbrev r52_0 : List IOp := [o1 3 (.box 40) [.t 0],
 o1 5 (.box 5) [.t 2],
 o1 6 (.mov) [.c (.nils)]]
abbrev r52_1 : List IOp := [mv 10 1,
 o1 11 (.len .slice) [.t 10],
 o1 12 (.make 4 [.bool false] 1) [.t 11, .t 11],
 o1 7 (.alloc 80 [.nils]) [],
 sr 1 [.t 7, .t 12]]
abbrev r52_2 : List IOp := [mv 13 1,
 ca 14 [.f 70, .t 13]]
abbrev r52_3 : List IOp := [o1 62 (.load none) [.t 7],
 mv 6 62]
abbrev r52_4 : List IOp := [mv 8 15]
abbrev r52_5 : List IOp := [mv 16 8,
 o1 17 (.load none) [.t 3],
 o1 18 (.nilchk) [.t 17],
 o1 19 (.faddr 0) [.t 18],
 o1 20 (.load none) [.t 19],
 o1 21 (.len .str) [.t 20],
 o1 22 (.bin .eql .prim) [.t 16, .t 21]]
abbrev r52_6 : List IOp := [o1 23 (.load none) [.t 3],
 o1 24 (.nilchk) [.t 23],
 o1 25 (.faddr 0) [.t 24],
 o1 26 (.load none) [.t 25],
 mv 27 8,
 o1 28 (.idxs) [.t 26, .t 27],
 mv 9 28]
abbrev r52_7 : List IOp := [mv 30 9,
 o1 31 (.bin .eql .prim) [.t 30, .c (.int .u8 42)],
 mv 29 31]
abbrev r52_8 : List IOp := [o1 32 (.load none) [.t 3],
 o1 33 (.load none) [.t 7],
 mv 34 8,
 ca 35 [.f 69, .t 32, .t 33, .t 34]]
abbrev r52_9 : List IOp := [mv 37 9,
 o1 38 (.bin .eql .prim) [.t 37, .c (.int .u8 63)],
 mv 36 38]
abbrev r52_10 : List IOp := [mv 39 9,
 o1 40 (.load none) [.t 5],
 o1 41 (.bin .eql .prim) [.t 39, .t 40],
 mv 36 41]
abbrev r52_11 : List IOp := [o1 42 (.load none) [.t 3],
 o1 43 (.nilchk) [.t 42],
 o1 44 (.faddr 1) [.t 43],
 o1 45 (.load none) [.t 44],
 mv 46 45,
 o2 47 (.mov) [.t 9] 46 true,
 o2 48 (.bsl 5 1 true) [.t 47] 46 true,
 o2 49 (.b2s) [.t 48] 46 true,
 ⟨some 50, .call none, [.f 46, .t 49], some (46, true)⟩,
 o2 51 (.load none) [.t 5] 46 true,
 o2 52 (.bsl 5 1 true) [.t 51] 46 true,
 o2 53 (.b2s) [.t 52] 46 true,
 ⟨some 54, .call none, [.f 46, .t 53], some (46, true)⟩,
 o2 55 (.bin .eql .prim) [.t 50, .t 54] 46 true,
 o1 56 (.pick) [.t 46, .t 55, .c (.bool false)],
 mv 36 56]
abbrev r52_12 : List IOp := [o1 57 (.load none) [.t 3],
 o1 58 (.load none) [.t 7],
 mv 59 8,
 o1 60 (.bin .add .prim) [.t 59, .c (.int .i64 1)],
 ca 61 [.f 69, .t 57, .t 58, .t 60]]
abbrev c52 : IC := (IC.seq (IC.reg r52_0) (IC.seq (IC.reg r52_1) (IC.seq (IC.seq (IC.reg r52_2) (IC.block 0 (IC.rangeF 52000 63 (.t 14)))) (IC.seq (IC.reg r52_3) IC.ret))))
abbrev g52 : FC := ⟨c52, 63, [.t 6]⟩
theorem comp52 : compF Go.Proofs.Tryz.prog (hintL [(10, 3), (1000003, 52000), (2000003, 63)]) 52 = some g52 := by kernel_rfl
abbrev li52000 : LI := ⟨63, [15], (IC.reg r52_4), (IC.block 1 (IC.seq (IC.seq (IC.reg r52_5) (IC.cond (.t 22) (IC.exit 0) IC.skip)) (IC.seq (IC.reg r52_6) (IC.block 2 (IC.seq (IC.reg r52_7) (IC.cond (.t 29) (IC.reg r52_8) (IC.seq (IC.seq (IC.reg r52_9) (IC.cond (.t 36) IC.skip (IC.seq (IC.reg r52_10) (IC.cond (.t 36) IC.skip (IC.regD .alloc r52_11 (.take 0 (.take 1 (.take 2 (.take 3 (.take 4 (.take 5 (.take 6 (.take 7 (.take 9 (.take 10 (.take 11 (.take 8 (.take 12 (.take 13 (.take 14 (.take 15 (.done)))))))))))))))))))))) (IC.cond (.t 36) (IC.reg r52_12) IC.skip))))))))⟩
theorem keys52 : KeysF Go.Proofs.Tryz.prog (hintL [(10, 3), (1000003, 52000), (2000003, 63)]) 52 := keysF_of (by kernel_rfl)
theorem lok52000 : LOk Go.Proofs.Tryz.prog 52000 li52000 := ⟨hintL [(10, 3), (1000003, 52000), (2000003, 63)], by kernel_rfl, by kernel_rfl, by kernel_rfl, by kernel_rfl, by decide⟩
abbrev r54_0 : List IOp := [o1 2 (.mov) [.c (.int .i64 0)]]
abbrev r54_1 : List IOp := [mv 4 0,
 ⟨some 5, .op (.bin .eql .prim), [.t 4, .c (.str [])], none⟩,
 mv 3 5]
abbrev r54_2 : List IOp := [o1 2 (.mov) [.c (.int .i64 2)]]
abbrev r54_3 : List IOp := [mv 7 0,
 o1 8 (.len .str) [.t 7],
 o1 9 (.bin .gtr .prim) [.t 8, .c (.int .i64 255)],
 mv 6 9]
abbrev r54_4 : List IOp := [o1 2 (.mov) [.c (.int .i64 4)]]
abbrev r54_5 : List IOp := [o1 2 (.mov) [.c (.int .i64 0)]]
abbrev c54 : IC := (IC.seq (IC.reg r54_0) (IC.seq (IC.block 0 (IC.seq (IC.reg r54_1) (IC.cond (.t 3) (IC.seq (IC.reg r54_2) IC.ret) (IC.seq (IC.reg r54_3) (IC.cond (.t 6) (IC.seq (IC.reg r54_4) IC.ret) IC.skip))))) (IC.seq (IC.reg r54_5) IC.ret)))
abbrev g54 : FC := ⟨c54, 10, [.t 2]⟩
theorem comp54 : compF Go.Proofs.Tryz.prog (fun _ => 0) 54 = some g54 := by kernel_rfl
abbrev r55_0 : List IOp := [⟨some 2, .op (.mov), [.c (.str [])], none⟩]
abbrev r55_1 : List IOp := [o1 3 (.mov) [.c (.nils)]]
abbrev r55_2 : List IOp := [o1 4 (.mov) [.c (.bool false)]]
abbrev r55_3 : List IOp := [o1 5 (.mov) [.c (.int .i64 0)]]
abbrev r55_4 : List IOp := [mv 6 5,
 mv 7 0,
 o1 8 (.len .str) [.t 7],
 o1 9 (.bin .leq .prim) [.t 6, .t 8]]
abbrev r55_5 : List IOp := [mv 12 4,
 mv 13 12,
 o2 14 (.mov) [.t 5] 13 true,
 o2 15 (.mov) [.t 0] 13 true,
 o2 16 (.len .str) [.t 15] 13 true,
 o2 17 (.bin .eql .prim) [.t 14, .t 16] 13 true,
 o2 18 (.mov) [.t 17] 13 true,
 o2 19 (.mov) [.t 0] 18 false,
 o2 20 (.mov) [.t 5] 18 false,
 o2 21 (.idxs) [.t 19, .t 20] 18 false,
 ⟨some 22, .call none, [.f 57, .t 21], some (18, false)⟩,
 o2 23 (.un .not) [.t 22] 18 false,
 o2 24 (.pick) [.t 18, .c (.bool true), .t 23] 13 true,
 o1 25 (.pick) [.t 13, .t 24, .c (.bool false)]]
abbrev r55_6 : List IOp := [mv 26 3,
 o1 27 (.bsl 5 1 false) [.c (.int .u8 42)],
 o1 28 (.app 5 1 1) [.t 26, .t 27],
 mv 3 28,
 o1 4 (.mov) [.c (.bool false)]]
abbrev r55_7 : List IOp := [mv 29 5,
 mv 30 0,
 o1 31 (.len .str) [.t 30],
 o1 32 (.bin .lss .prim) [.t 29, .t 31],
 mv 33 32,
 o2 34 (.mov) [.t 0] 33 true,
 o2 35 (.mov) [.t 5] 33 true,
 o2 36 (.idxs) [.t 34, .t 35] 33 true,
 o2 37 (.bin .eql .prim) [.t 36, .c (.int .u8 42)] 33 true,
 o1 38 (.pick) [.t 33, .t 37, .c (.bool false)]]
abbrev r55_8 : List IOp := [o1 4 (.mov) [.c (.bool true)]]
abbrev r55_9 : List IOp := [mv 39 5,
 mv 40 0,
 o1 41 (.len .str) [.t 40],
 o1 42 (.bin .lss .prim) [.t 39, .t 41]]
abbrev r55_10 : List IOp := [mv 43 3,
 mv 44 0,
 mv 45 5,
 o1 46 (.idxs) [.t 44, .t 45],
 o1 47 (.bsl 5 1 false) [.t 46],
 o1 48 (.app 5 1 1) [.t 43, .t 47],
 mv 3 48]
abbrev r55_11 : List IOp := [mv 10 5,
 o1 11 (.bin .add .prim) [.t 10, .c (.int .i64 1)],
 mv 5 11]
abbrev b55_0 : IC := (IC.seq (IC.seq (IC.reg r55_4) (IC.cond (.t 9) IC.skip (IC.exit 0))) (IC.seq (IC.block 1 (IC.seq (IC.seq (IC.reg r55_5) (IC.cond (.t 25) (IC.reg r55_6) IC.skip)) (IC.seq (IC.reg r55_7) (IC.cond (.t 38) (IC.reg r55_8) (IC.seq (IC.reg r55_9) (IC.cond (.t 42) (IC.reg r55_10) IC.skip)))))) (IC.reg r55_11)))
abbrev r55_12 : List IOp := [mv 49 3,
 o1 50 (.b2s) [.t 49],
 mv 2 50]
abbrev c55 : IC := (IC.seq (IC.reg r55_0) (IC.seq (IC.reg r55_1) (IC.seq (IC.reg r55_2) (IC.seq (IC.seq (IC.reg r55_3) (IC.block 0 (IC.loop b55_0))) (IC.seq (IC.reg r55_12) IC.ret)))))
abbrev g55 : FC := ⟨c55, 51, [.t 2]⟩
theorem comp55 : compF Go.Proofs.Tryz.prog (fun _ => 0) 55 = some g55 := by kernel_rfl
abbrev r56_0 : List IOp := [⟨some 2, .op (.mov), [.c (.str [])], none⟩]
abbrev r56_1 : List IOp := [mv 5 0,
 o1 6 (.s2b 5) [.t 5],
 mv 3 6]
abbrev r56_2 : List IOp := [o1 4 (.mov) [.c (.int .i64 0)]]
abbrev r56_3 : List IOp := [mv 7 4,
 mv 8 3,
 o1 9 (.len .slice) [.t 8],
 o1 10 (.bin .lss .prim) [.t 7, .t 9]]
abbrev r56_4 : List IOp := [mv 13 3,
 mv 14 4,
 o1 15 (.iaddr 1) [.t 13, .t 14],
 o1 16 (.load none) [.t 15],
 o1 17 (.bin .geq .prim) [.t 16, .c (.int .u8 65)],
 mv 18 17,
 o2 19 (.mov) [.t 3] 18 true,
 o2 20 (.mov) [.t 4] 18 true,
 o2 21 (.iaddr 1) [.t 19, .t 20] 18 true,
 o2 22 (.load none) [.t 21] 18 true,
 o2 23 (.bin .leq .prim) [.t 22, .c (.int .u8 90)] 18 true,
 o1 24 (.pick) [.t 18, .t 23, .c (.bool false)]]
abbrev r56_5 : List IOp := [mv 25 3,
 mv 26 4,
 mv 27 3,
 mv 28 4,
 o1 29 (.iaddr 1) [.t 27, .t 28],
 o1 30 (.load none) [.t 29],
 o1 31 (.bin .add .prim) [.t 30, .c (.int .u8 32)],
 o1 32 (.iaddr 1) [.t 25, .t 26],
 sr 1 [.t 32, .t 31]]
abbrev r56_6 : List IOp := [mv 11 4,
 o1 12 (.bin .add .prim) [.t 11, .c (.int .i64 1)],
 mv 4 12]
abbrev b56_0 : IC := (IC.seq (IC.seq (IC.reg r56_3) (IC.cond (.t 10) IC.skip (IC.exit 0))) (IC.seq (IC.block 1 (IC.seq (IC.reg r56_4) (IC.cond (.t 24) (IC.reg r56_5) IC.skip))) (IC.reg r56_6)))
abbrev r56_7 : List IOp := [mv 33 3,
 o1 34 (.b2s) [.t 33],
 mv 2 34]
abbrev c56 : IC := (IC.seq (IC.reg r56_0) (IC.seq (IC.reg r56_1) (IC.seq (IC.seq (IC.reg r56_2) (IC.block 0 (IC.loop b56_0))) (IC.seq (IC.reg r56_7) IC.ret))))
abbrev g56 : FC := ⟨c56, 35, [.t 2]⟩
theorem comp56 : compF Go.Proofs.Tryz.prog (fun _ => 0) 56 = some g56 := by kernel_rfl
abbrev r57_0 : List IOp := [o1 2 (.mov) [.c (.bool false)]]
abbrev r57_1 : List IOp := [mv 3 0,
 o1 4 (.bin .eql .prim) [.t 3, .c (.int .u8 42)],
 mv 5 4,
 o2 6 (.mov) [.t 0] 5 false,
 o2 7 (.bin .eql .prim) [.t 6, .c (.int .u8 63)] 5 false,
 o1 8 (.pick) [.t 5, .c (.bool true), .t 7],
 mv 2 8]
abbrev c57 : IC := (IC.seq (IC.reg r57_0) (IC.seq (IC.reg r57_1) IC.ret))
abbrev g57 : FC := ⟨c57, 9, [.t 2]⟩
theorem comp57 : compF Go.Proofs.Tryz.prog (fun _ => 0) 57 = some g57 := by kernel_rfl
abbrev r58_0 : List IOp := [o1 4 (.mov) [.c (.nils)]]
abbrev r58_1 : List IOp := [o1 5 (.mov) [.c (.nils)]]
abbrev r58_2 : List IOp := [o1 6 (.mov) [.c (.int .i64 0)]]
abbrev r58_3 : List IOp := [mv 7 6,
 mv 8 1,
 o1 9 (.len .slice) [.t 8],
 o1 10 (.bin .lss .prim) [.t 7, .t 9]]
abbrev r58_4 : List IOp := [mv 13 1,
 mv 14 6,
 o1 15 (.iaddr 1) [.t 13, .t 14],
 o1 16 (.load none) [.t 15],
 o1 17 (.un .not) [.t 16]]
abbrev r58_5 : List IOp := [mv 18 5,
 mv 19 6,
 o1 20 (.bsl 3 1 false) [.t 19],
 o1 21 (.app 3 1 8) [.t 18, .t 20],
 mv 5 21]
abbrev r58_6 : List IOp := [mv 22 6,
 mv 23 0,
 o1 24 (.nilchk) [.t 23],
 o1 25 (.faddr 0) [.t 24],
 o1 26 (.load none) [.t 25],
 o1 27 (.len .str) [.t 26],
 o1 28 (.bin .lss .prim) [.t 22, .t 27],
 mv 29 28,
 o2 30 (.mov) [.t 0] 29 true,
 o2 31 (.nilchk) [.t 30] 29 true,
 o2 32 (.faddr 0) [.t 31] 29 true,
 o2 33 (.load none) [.t 32] 29 true,
 o2 34 (.mov) [.t 6] 29 true,
 o2 35 (.idxs) [.t 33, .t 34] 29 true,
 o2 36 (.bin .eql .prim) [.t 35, .c (.int .u8 42)] 29 true,
 o1 37 (.pick) [.t 29, .t 36, .c (.bool false)]]
abbrev r58_7 : List IOp := [mv 38 1,
 mv 39 6,
 o1 40 (.bin .add .prim) [.t 39, .c (.int .i64 1)],
 o1 41 (.iaddr 1) [.t 38, .t 40],
 sr 1 [.t 41, .c (.bool true)]]
abbrev r58_8 : List IOp := [mv 11 6,
 o1 12 (.bin .add .prim) [.t 11, .c (.int .i64 1)],
 mv 6 12]
abbrev b58_0 : IC := (IC.seq (IC.seq (IC.reg r58_3) (IC.cond (.t 10) IC.skip (IC.exit 0))) (IC.seq (IC.block 1 (IC.seq (IC.seq (IC.reg r58_4) (IC.cond (.t 17) (IC.exit 1) IC.skip)) (IC.seq (IC.reg r58_5) (IC.seq (IC.reg r58_6) (IC.cond (.t 37) (IC.reg r58_7) IC.skip))))) (IC.reg r58_8)))
abbrev r58_9 : List IOp := [mv 42 5,
 mv 4 42]
abbrev c58 : IC := (IC.seq (IC.reg r58_0) (IC.seq (IC.reg r58_1) (IC.seq (IC.seq (IC.reg r58_2) (IC.block 0 (IC.loop b58_0))) (IC.seq (IC.reg r58_9) IC.ret))))
abbrev g58 : FC := ⟨c58, 43, [.t 4]⟩
theorem comp58 : compF Go.Proofs.Tryz.prog (fun _ => 0) 58 = some g58 := by kernel_rfl
abbrev r59_0 : List IOp := [o1 6 (.mov) [.c (.bool false)]]
abbrev r59_1 : List IOp := [mv 9 1,
 o1 10 (.bsl 5 1 true) [.t 9],
 o1 11 (.b2s) [.t 10],
 mv 12 2,
 o1 13 (.bsl 5 1 true) [.t 12],
 o1 14 (.b2s) [.t 13],
 mv 7 11,
 mv 8 14]
abbrev r59_2 : List IOp := [mv 15 7,
 mv 16 8,
 o1 17 (.bin .eql .prim) [.t 15, .t 16],
 mv 18 17,
 o2 19 (.mov) [.t 0] 18 false,
 o2 20 (.nilchk) [.t 19] 18 false,
 o2 21 (.faddr 1) [.t 20] 18 false,
 o2 22 (.load none) [.t 21] 18 false,
 o2 23 (.mov) [.t 22] 18 false,
 o2 24 (.mov) [.t 7] 23 true,
 ⟨some 25, .call none, [.f 56, .t 24], some (23, true)⟩,
 o2 26 (.mov) [.t 8] 23 true,
 ⟨some 27, .call none, [.f 56, .t 26], some (23, true)⟩,
 o2 28 (.bin .eql .prim) [.t 25, .t 27] 23 true,
 o2 29 (.pick) [.t 23, .t 28, .c (.bool false)] 18 false,
 o1 30 (.pick) [.t 18, .c (.bool true), .t 29],
 mv 6 30]
abbrev c59 : IC := (IC.seq (IC.reg r59_0) (IC.seq (IC.regD .wild r59_1 (.take 0 (.take 1 (.take 2 (.take 3 (.take 4 (.take 5 (.take 6 (.take 7 (.done)))))))))) (IC.seq (IC.reg r59_2) IC.ret)))
abbrev g59 : FC := ⟨c59, 31, [.t 6]⟩
theorem comp59 : compF Go.Proofs.Tryz.prog (hintL [(1, 2)]) 59 = some g59 := by kernel_rfl
abbrev r60_0 : List IOp := [o1 4 (.mov) [.c (.int .i64 0)]]
abbrev r60_1 : List IOp := [mv 6 0,
 o1 7 (.len .slice) [.t 6],
 o1 8 (.mov) [.c (.int .i64 0)]]
abbrev r60_2 : List IOp := [o1 9 (.bin .lss .prim) [.t 8, .t 7]]
abbrev r60_3 : List IOp := [mv 10 8,
 mv 5 10]
abbrev r60_4 : List IOp := [mv 11 1,
 mv 12 0,
 mv 13 5,
 o1 14 (.iaddr 1) [.t 12, .t 13],
 o1 15 (.load none) [.t 14],
 ca 16 [.t 11, .t 15]]
abbrev r60_5 : List IOp := [mv 17 5,
 mv 4 17]
abbrev r60_6 : List IOp := [o1 18 (.bin .add .prim) [.t 8, .c (.int .i64 1)],
 mv 8 18]
abbrev b60_0 : IC := (IC.seq (IC.reg r60_2) (IC.seq (IC.cond (.t 9) IC.skip (IC.exit 0)) (IC.seq (IC.block 1 (IC.seq (IC.reg r60_3) (IC.seq (IC.reg r60_4) (IC.cond (.t 16) (IC.seq (IC.reg r60_5) IC.ret) IC.skip)))) (IC.reg r60_6))))
abbrev r60_7 : List IOp := [o1 4 (.mov) [.c (.int .i64 (-1))]]
abbrev c60 : IC := (IC.seq (IC.reg r60_0) (IC.seq (IC.seq (IC.reg r60_1) (IC.block 0 (IC.loop b60_0))) (IC.seq (IC.reg r60_7) IC.ret)))
abbrev g60 : FC := ⟨c60, 19, [.t 4]⟩
theorem comp60 : compF Go.Proofs.Tryz.prog (fun _ => 0) 60 = some g60 := by kernel_rfl
abbrev r61_0 : List IOp := [o1 4 (.mov) [.c (.int .i64 0)]]
abbrev r61_1 : List IOp := [mv 7 1,
 o1 8 (.len .slice) [.t 7],
 o1 9 (.bin .eql .prim) [.t 8, .c (.int .i64 0)]]
abbrev r61_2 : List IOp := [mv 10 0,
 ca 11 [.f 71, .t 10],
 o1 12 (.bin .add .prim) [.t 11, .c (.int .i64 1)],
 mv 4 12]
abbrev r61_3 : List IOp := [mv 13 1,
 o1 14 (.len .slice) [.t 13],
 o1 15 (.bin .eql .prim) [.t 14, .c (.int .i64 1)]]
abbrev r61_4 : List IOp := [mv 16 0,
 mv 17 1,
 o1 18 (.iaddr 1) [.t 17, .c (.int .i64 0)],
 o1 19 (.load none) [.t 18],
 ca 20 [.f 72, .t 16, .t 19],
 mv 4 20]
abbrev r61_5 : List IOp := [o1 5 (.mov) [.c (.int .i64 0)]]
abbrev r61_6 : List IOp := [mv 21 0,
 mv 22 1,
 ca 23 [.f 73, .t 21, .t 22],
 mv 6 23]
abbrev r61_7 : List IOp := [mv 24 6,
 o1 25 (.bin .eql .prim) [.t 24, .c (.int .i64 (-1))]]
abbrev r61_8 : List IOp := [mv 26 5,
 mv 4 26]
abbrev r61_9 : List IOp := [mv 27 5,
 o1 28 (.bin .add .prim) [.t 27, .c (.int .i64 1)],
 mv 5 28]
abbrev r61_10 : List IOp := [mv 29 0,
 mv 30 6,
 mv 31 1,
 o1 32 (.len .slice) [.t 31],
 o1 33 (.bin .add .prim) [.t 30, .t 32],
 o1 34 (.slice 1 true false false) [.t 29, .t 33],
 mv 0 34]
abbrev b61_0 : IC := (IC.block 1 (IC.seq (IC.reg r61_6) (IC.seq (IC.seq (IC.reg r61_7) (IC.cond (.t 25) (IC.seq (IC.reg r61_8) IC.ret) IC.skip)) (IC.seq (IC.reg r61_9) (IC.reg r61_10)))))
abbrev c61 : IC := (IC.seq (IC.reg r61_0) (IC.seq (IC.seq (IC.reg r61_1) (IC.cond (.t 9) (IC.seq (IC.reg r61_2) IC.ret) IC.skip)) (IC.seq (IC.seq (IC.reg r61_3) (IC.cond (.t 15) (IC.seq (IC.reg r61_4) IC.ret) IC.skip)) (IC.seq (IC.reg r61_5) (IC.block 0 (IC.loop b61_0))))))
abbrev g61 : FC := ⟨c61, 35, [.t 4]⟩
theorem comp61 : compF Go.Proofs.Tryz.prog (fun _ => 0) 61 = some g61 := by kernel_rfl
abbrev r62_0 : List IOp := [o1 4 (.mov) [.c (.nils)]]
abbrev r62_1 : List IOp := [mv 12 1,
 o1 13 (.bin .eql .prim) [.t 12, .c (.int .i64 0)]]
abbrev r62_2 : List IOp := [o1 14 (.bsl 5 1 false) [],
 mv 4 14]
abbrev r62_3 : List IOp := [mv 15 1,
 o1 16 (.bin .lss .prim) [.t 15, .c (.int .i64 0)]]
abbrev r62_4 : List IOp := [⟨some 17, .op (.mkif 9), [.c (.str [98, 121, 116, 101, 115, 58, 32, 110, 101, 103, 97, 116, 105, 118, 101, 32, 82, 101, 112, 101, 97, 116, 32, 99, 111, 117, 110, 116])], none⟩,
 ⟨none, .op (.never), [], none⟩]
abbrev r62_5 : List IOp := [mv 19 0,
 o1 20 (.len .slice) [.t 19],
 o1 21 (.toInt .u64) [.t 20],
 mv 22 1,
 o1 23 (.toInt .u64) [.t 22],
 ca 24 [.f 74, .t 21, .t 23],
 mv 18 24,
 o1 25 (.extract 0) [.t 18],
 o1 26 (.extract 1) [.t 18],
 mv 5 25,
 mv 6 26]
abbrev r62_6 : List IOp := [mv 27 5,
 o1 28 (.bin .gtr .prim) [.t 27, .c (.int .u64 0)],
 mv 29 28,
 o2 30 (.mov) [.t 6] 29 false,
 o2 31 (.bin .gtr .prim) [.t 30, .c (.int .u64 9223372036854775807)] 29 false,
 o1 32 (.pick) [.t 29, .c (.bool true), .t 31]]
abbrev r62_7 : List IOp := [⟨some 33, .op (.mkif 9), [.c (.str [98, 121, 116, 101, 115, 58, 32, 82, 101, 112, 101, 97, 116, 32, 111, 117, 116, 112, 117, 116, 32, 108, 101, 110, 103, 116, 104, 32, 111, 118, 101, 114, 102, 108, 111, 119])], none⟩,
 ⟨none, .op (.never), [], none⟩]
abbrev r62_8 : List IOp := [mv 34 6,
 o1 35 (.toInt .i64) [.t 34],
 mv 7 35]
abbrev r62_9 : List IOp := [mv 36 0,
 o1 37 (.len .slice) [.t 36],
 o1 38 (.bin .eql .prim) [.t 37, .c (.int .i64 0)]]
abbrev r62_10 : List IOp := [o1 39 (.bsl 5 1 false) [],
 mv 4 39]
abbrev r62_11 : List IOp := [mv 40 7,
 mv 8 40]
abbrev r62_12 : List IOp := [mv 41 8,
 o1 42 (.bin .gtr .prim) [.t 41, .c (.int .i64 8192)]]
abbrev r62_13 : List IOp := [mv 43 0,
 o1 44 (.len .slice) [.t 43],
 o1 45 (.bin .quo .prim) [.c (.int .i64 8192), .t 44],
 mv 46 0,
 o1 47 (.len .slice) [.t 46],
 o1 48 (.bin .mul .prim) [.t 45, .t 47],
 mv 8 48]
abbrev r62_14 : List IOp := [mv 49 8,
 o1 50 (.bin .eql .prim) [.t 49, .c (.int .i64 0)]]
abbrev r62_15 : List IOp := [mv 51 0,
 o1 52 (.len .slice) [.t 51],
 mv 8 52]
abbrev r62_16 : List IOp := [mv 53 7,
 ca 54 [.f 75, .t 53],
 mv 55 7,
 mv 56 7,
 o1 57 (.slice 1 false true true) [.t 54, .t 55, .t 56],
 mv 9 57]
abbrev r62_17 : List IOp := [mv 58 9,
 mv 59 0,
 o1 60 (.cpy 1) [.t 58, .t 59],
 mv 10 60]
abbrev r62_18 : List IOp := [mv 61 10,
 mv 62 7,
 o1 63 (.bin .lss .prim) [.t 61, .t 62]]
abbrev r62_19 : List IOp := [mv 64 10,
 mv 65 8,
 o1 66 (.min) [.t 64, .t 65],
 mv 11 66]
abbrev r62_20 : List IOp := [mv 67 10,
 mv 68 9,
 mv 69 10,
 o1 70 (.slice 1 true false false) [.t 68, .t 69],
 mv 71 9,
 mv 72 11,
 o1 73 (.slice 1 false true false) [.t 71, .t 72],
 o1 74 (.cpy 1) [.t 70, .t 73],
 o1 75 (.bin .add .prim) [.t 67, .t 74],
 mv 10 75]
abbrev b62_0 : IC := (IC.seq (IC.seq (IC.reg r62_18) (IC.cond (.t 63) IC.skip (IC.exit 0))) (IC.block 1 (IC.seq (IC.reg r62_19) (IC.regD .wild r62_20 (.take 0 (.take 1 (.take 2 (.take 3 (.take 4 (.take 5 (.take 6 (.take 7 (.take 8 (.take 9 (.done)))))))))))))))
abbrev r62_21 : List IOp := [mv 76 9,
 mv 4 76]
abbrev c62 : IC := (IC.seq (IC.reg r62_0) (IC.seq (IC.seq (IC.reg r62_1) (IC.cond (.t 13) (IC.seq (IC.reg r62_2) IC.ret) IC.skip)) (IC.seq (IC.seq (IC.reg r62_3) (IC.cond (.t 16) (IC.reg r62_4) IC.skip)) (IC.seq (IC.reg r62_5) (IC.seq (IC.seq (IC.reg r62_6) (IC.cond (.t 32) (IC.reg r62_7) IC.skip)) (IC.seq (IC.reg r62_8) (IC.seq (IC.seq (IC.reg r62_9) (IC.cond (.t 38) (IC.seq (IC.reg r62_10) IC.ret) IC.skip)) (IC.seq (IC.reg r62_11) (IC.seq (IC.seq (IC.reg r62_12) (IC.cond (.t 42) (IC.seq (IC.reg r62_13) (IC.seq (IC.reg r62_14) (IC.cond (.t 50) (IC.reg r62_15) IC.skip))) IC.skip)) (IC.seq (IC.reg r62_16) (IC.seq (IC.reg r62_17) (IC.seq (IC.block 0 (IC.loop b62_0)) (IC.seq (IC.reg r62_21) IC.ret)))))))))))))
abbrev g62 : FC := ⟨c62, 77, [.t 4]⟩
theorem comp62 : compF Go.Proofs.Tryz.prog (hintL [(20, 6)]) 62 = some g62 := by kernel_rfl
abbrev r46_0 : List IOp := [⟨some 2, .op (.mov), [.c (.str [])], none⟩]
abbrev r46_1 : List IOp := [mv 5 0,
 o1 6 (.s2b 5) [.t 5],
 mv 3 6]
abbrev r46_2 : List IOp := [mv 7 3,
 o1 8 (.len .slice) [.t 7],
 o1 9 (.mov) [.c (.int .i64 0)]]
abbrev r46_3 : List IOp := [o1 10 (.bin .lss .prim) [.t 9, .t 8]]
abbrev r46_4 : List IOp := [mv 11 9,
 mv 4 11]
abbrev r46_5 : List IOp := [mv 12 3,
 mv 13 4,
 mv 14 3,
 mv 15 4,
 o1 16 (.iaddr 1) [.t 14, .t 15],
 o1 17 (.load none) [.t 16],
 ca 18 [.f 63, .t 17],
 o1 19 (.iaddr 1) [.t 12, .t 13],
 sr 1 [.t 19, .t 18]]
abbrev r46_6 : List IOp := [o1 20 (.bin .add .prim) [.t 9, .c (.int .i64 1)],
 mv 9 20]
abbrev b46_0 : IC := (IC.seq (IC.reg r46_3) (IC.seq (IC.cond (.t 10) IC.skip (IC.exit 0)) (IC.seq (IC.block 1 (IC.seq (IC.reg r46_4) (IC.reg r46_5))) (IC.reg r46_6))))
abbrev r46_7 : List IOp := [mv 21 3,
 o1 22 (.b2s) [.t 21],
 mv 2 22]
abbrev c46 : IC := (IC.seq (IC.reg r46_0) (IC.seq (IC.reg r46_1) (IC.seq (IC.seq (IC.reg r46_2) (IC.block 0 (IC.loop b46_0))) (IC.seq (IC.reg r46_7) IC.ret))))
abbrev g46 : FC := ⟨c46, 23, [.t 2]⟩
theorem comp46 : compF Go.Proofs.Tryz.prog (fun _ => 0) 46 = some g46 := by kernel_rfl
abbrev r66_0 : List IOp := [o1 4 (.mov) [.c (.bool false)]]
abbrev r66_1 : List IOp := [mv 5 0,
 ca 6 [.f 86, .t 5],
 mv 7 6,
 o2 8 (.mov) [.t 1] 7 true,
 ⟨some 9, .call none, [.f 86, .t 8], some (7, true)⟩,
 o2 10 (.un .not) [.t 9] 7 true,
 o1 11 (.pick) [.t 7, .t 10, .c (.bool false)],
 mv 12 11,
 o2 13 (.mov) [.t 0] 12 false,
 o2 14 (.mov) [.t 1] 12 false,
 o2 15 (.bin .lss .prim) [.t 13, .t 14] 12 false,
 o1 16 (.pick) [.t 12, .c (.bool true), .t 15],
 mv 4 16]
abbrev c66 : IC := (IC.seq (IC.reg r66_0) (IC.seq (IC.reg r66_1) IC.ret))
abbrev g66 : FC := ⟨c66, 17, [.t 4]⟩
theorem comp66 : compF Go.Proofs.Tryz.prog (fun _ => 0) 66 = some g66 := by kernel_rfl
abbrev r67_0 : List IOp := [o1 2 (.mov) [.c (.bool false)]]
abbrev r67_1 : List IOp := [mv 3 0,
 mv 4 0,
 o1 5 (.bin .neq .prim) [.t 3, .t 4],
 mv 2 5]
abbrev c67 : IC := (IC.seq (IC.reg r67_0) (IC.seq (IC.reg r67_1) IC.ret))
abbrev g67 : FC := ⟨c67, 6, [.t 2]⟩
theorem comp67 : compF Go.Proofs.Tryz.prog (fun _ => 0) 67 = some g67 := by kernel_rfl
abbrev r68_0 : List IOp := [o1 2 (.mov) [.c (.int .i64 0)]]
abbrev r68_1 : List IOp := [mv 3 0,
 o1 4 (.bin .eql .ptr) [.t 3, .c (.nilp)],
 mv 5 4,
 o2 6 (.mov) [.t 0] 5 false,
 o2 7 (.nilchk) [.t 6] 5 false,
 o2 8 (.faddr 0) [.t 7] 5 false,
 o2 9 (.load none) [.t 8] 5 false,
 ⟨some 10, .op (.bin .eql .prim), [.t 9, .c (.str [])], some (5, false)⟩,
 o1 11 (.pick) [.t 5, .c (.bool true), .t 10]]
abbrev r68_2 : List IOp := [o1 2 (.mov) [.c (.int .i64 0)]]
abbrev r68_3 : List IOp := [mv 12 0,
 o1 13 (.nilchk) [.t 12],
 o1 14 (.faddr 0) [.t 13],
 o1 15 (.load none) [.t 14],
 o1 16 (.len .str) [.t 15],
 o1 17 (.bin .add .prim) [.t 16, .c (.int .i64 1)],
 mv 2 17]
abbrev c68 : IC := (IC.seq (IC.reg r68_0) (IC.seq (IC.seq (IC.reg r68_1) (IC.cond (.t 11) (IC.seq (IC.reg r68_2) IC.ret) IC.skip)) (IC.seq (IC.reg r68_3) IC.ret)))
abbrev g68 : FC := ⟨c68, 18, [.t 2]⟩
theorem comp68 : compF Go.Proofs.Tryz.prog (fun _ => 0) 68 = some g68 := by kernel_rfl
abbrev r69_0 : List IOp := [mv 6 1,
 mv 7 2,
 o1 8 (.iaddr 1) [.t 6, .t 7],
 sr 1 [.t 8, .c (.bool true)]]
abbrev r69_1 : List IOp := [mv 9 2,
 mv 10 0,
 o1 11 (.nilchk) [.t 10],
 o1 12 (.faddr 0) [.t 11],
 o1 13 (.load none) [.t 12],
 o1 14 (.len .str) [.t 13],
 o1 15 (.bin .lss .prim) [.t 9, .t 14],
 mv 16 15,
 o2 17 (.mov) [.t 0] 16 true,
 o2 18 (.nilchk) [.t 17] 16 true,
 o2 19 (.faddr 0) [.t 18] 16 true,
 o2 20 (.load none) [.t 19] 16 true,
 o2 21 (.mov) [.t 2] 16 true,
 o2 22 (.idxs) [.t 20, .t 21] 16 true,
 o2 23 (.bin .eql .prim) [.t 22, .c (.int .u8 42)] 16 true,
 o1 24 (.pick) [.t 16, .t 23, .c (.bool false)]]
abbrev r69_2 : List IOp := [mv 28 2,
 o1 29 (.bin .add .prim) [.t 28, .c (.int .i64 1)],
 mv 2 29]
abbrev r69_3 : List IOp := [mv 25 1,
 mv 26 2,
 o1 27 (.iaddr 1) [.t 25, .t 26],
 sr 1 [.t 27, .c (.bool true)]]
abbrev b69_0 : IC := (IC.seq (IC.seq (IC.reg r69_1) (IC.cond (.t 24) IC.skip (IC.exit 0))) (IC.seq (IC.block 1 (IC.reg r69_2)) (IC.reg r69_3)))
abbrev c69 : IC := (IC.seq (IC.reg r69_0) (IC.block 0 (IC.loop b69_0)))
abbrev g69 : FC := ⟨c69, 30, []⟩
theorem comp69 : compF Go.Proofs.Tryz.prog (fun _ => 0) 69 = some g69 := by kernel_rfl
abbrev r70_0 : List IOp := [o1 1 (.box 80) [.t 0],
 o1 2 (.mov) [.c (.nilf)]]
abbrev r70_1 : List IOp := [o1 3 (.mkfn 87) [.t 1],
 mv 2 3]
abbrev c70 : IC := (IC.seq (IC.reg r70_0) (IC.seq (IC.reg r70_1) IC.ret))
abbrev g70 : FC := ⟨c70, 4, [.t 2]⟩
theorem comp70 : compF Go.Proofs.Tryz.prog (fun _ => 0) 70 = some g70 := by kernel_rfl
abbrev r74_0 : List IOp := [o1 4 (.mov) [.c (.int .u64 0)],
 o1 5 (.mov) [.c (.int .u64 0)]]
abbrev r74_1 : List IOp := [mv 11 0,
 o1 12 (.toInt .u32) [.t 11],
 mv 13 1,
 o1 14 (.toInt .u32) [.t 13],
 ca 15 [.f 94, .t 12, .t 14],
 mv 10 15,
 o1 16 (.extract 0) [.t 10],
 o1 17 (.extract 1) [.t 10],
 mv 6 16,
 mv 7 17]
abbrev r74_2 : List IOp := [mv 18 6,
 o1 19 (.toInt .u64) [.t 18],
 mv 20 7,
 o1 21 (.toInt .u64) [.t 20],
 mv 4 19,
 mv 5 21]
abbrev r74_3 : List IOp := [mv 23 0,
 mv 24 1,
 ca 25 [.f 95, .t 23, .t 24],
 mv 22 25,
 o1 26 (.extract 0) [.t 22],
 o1 27 (.extract 1) [.t 22],
 mv 8 26,
 mv 9 27]
abbrev r74_4 : List IOp := [mv 28 8,
 mv 29 9,
 mv 4 28,
 mv 5 29]
abbrev c74 : IC := (IC.seq (IC.reg r74_0) (IC.seq (IC.cond (.c (.bool false)) (IC.seq (IC.reg r74_1) (IC.seq (IC.reg r74_2) IC.ret)) IC.skip) (IC.seq (IC.reg r74_3) (IC.seq (IC.reg r74_4) IC.ret))))
abbrev g74 : FC := ⟨c74, 30, [.t 4, .t 5]⟩
theorem comp74 : compF Go.Proofs.Tryz.prog (fun _ => 0) 74 = some g74 := by kernel_rfl
abbrev r63_0 : List IOp := [o1 2 (.mov) [.c (.int .u8 0)]]
abbrev r63_1 : List IOp := [mv 3 0,
 o1 4 (.bin .geq .prim) [.t 3, .c (.int .u8 65)],
 mv 5 4,
 o2 6 (.mov) [.t 0] 5 true,
 o2 7 (.bin .leq .prim) [.t 6, .c (.int .u8 90)] 5 true,
 o1 8 (.pick) [.t 5, .t 7, .c (.bool false)]]
abbrev r63_2 : List IOp := [mv 9 0,
 o1 10 (.bin .add .prim) [.t 9, .c (.int .u8 32)],
 mv 2 10]
abbrev r63_3 : List IOp := [mv 11 0,
 mv 2 11]
abbrev c63 : IC := (IC.seq (IC.reg r63_0) (IC.seq (IC.seq (IC.reg r63_1) (IC.cond (.t 8) (IC.seq (IC.reg r63_2) IC.ret) IC.skip)) (IC.seq (IC.reg r63_3) IC.ret)))
abbrev g63 : FC := ⟨c63, 12, [.t 2]⟩
theorem comp63 : compF Go.Proofs.Tryz.prog (fun _ => 0) 63 = some g63 := by kernel_rfl
abbrev r86_0 : List IOp := [o1 2 (.mov) [.c (.bool false)]]
abbrev r86_1 : List IOp := [mv 3 0,
 mv 4 0,
 o1 5 (.bin .neq .prim) [.t 3, .t 4],
 mv 2 5]
abbrev c86 : IC := (IC.seq (IC.reg r86_0) (IC.seq (IC.reg r86_1) IC.ret))
abbrev g86 : FC := ⟨c86, 6, [.t 2]⟩
theorem comp86 : compF Go.Proofs.Tryz.prog (fun _ => 0) 86 = some g86 := by kernel_rfl
abbrev r87_0 : List IOp := [o1 5 (.load none) [.t 1],
 o1 6 (.len .slice) [.t 5],
 o1 7 (.mov) [.c (.int .i64 0)]]
abbrev r87_1 : List IOp := [o1 8 (.bin .lss .prim) [.t 7, .t 6]]
abbrev r87_2 : List IOp := [mv 9 7,
 o1 10 (.iaddr 1) [.t 5, .t 7],
 o1 11 (.load none) [.t 10],
 mv 3 9,
 mv 4 11]
abbrev r87_3 : List IOp := [mv 12 4,
 mv 13 12,
 o2 14 (.mov) [.t 0] 13 true,
 o2 15 (.mov) [.t 3] 13 true,
 ⟨some 16, .call none, [.t 14, .t 15], some (13, true)⟩,
 o2 17 (.un .not) [.t 16] 13 true,
 o1 18 (.pick) [.t 13, .t 17, .c (.bool false)]]
abbrev r87_4 : List IOp := [o1 19 (.bin .add .prim) [.t 7, .c (.int .i64 1)],
 mv 7 19]
abbrev b87_0 : IC := (IC.seq (IC.reg r87_1) (IC.seq (IC.cond (.t 8) IC.skip (IC.exit 0)) (IC.seq (IC.block 1 (IC.seq (IC.reg r87_2) (IC.seq (IC.reg r87_3) (IC.cond (.t 18) IC.ret IC.skip)))) (IC.reg r87_4))))
abbrev c87 : IC := (IC.seq (IC.reg r87_0) (IC.block 0 (IC.loop b87_0)))
abbrev g87 : FC := ⟨c87, 20, []⟩
theorem comp87 : compF Go.Proofs.Tryz.prog (fun _ => 0) 87 = some g87 := by kernel_rfl
abbrev r95_0 : List IOp := [o1 4 (.mov) [.c (.int .u64 0)],
 o1 5 (.mov) [.c (.int .u64 0)]]
abbrev r95_1 : List IOp := [mv 14 0,
 o1 15 (.bin .and .prim) [.t 14, .c (.int .u64 4294967295)],
 mv 6 15]
abbrev r95_2 : List IOp := [mv 16 0,
 o1 17 (.bin .shr .prim) [.t 16, .c (.int .u64 32)],
 mv 7 17]
abbrev r95_3 : List IOp := [mv 18 1,
 o1 19 (.bin .and .prim) [.t 18, .c (.int .u64 4294967295)],
 mv 8 19]
abbrev r95_4 : List IOp := [mv 20 1,
 o1 21 (.bin .shr .prim) [.t 20, .c (.int .u64 32)],
 mv 9 21]
abbrev r95_5 : List IOp := [mv 22 6,
 mv 23 8,
 o1 24 (.bin .mul .prim) [.t 22, .t 23],
 mv 10 24]
abbrev r95_6 : List IOp := [mv 25 7,
 mv 26 8,
 o1 27 (.bin .mul .prim) [.t 25, .t 26],
 mv 28 10,
 o1 29 (.bin .shr .prim) [.t 28, .c (.int .u64 32)],
 o1 30 (.bin .add .prim) [.t 27, .t 29],
 mv 11 30]
abbrev r95_7 : List IOp := [mv 31 11,
 o1 32 (.bin .and .prim) [.t 31, .c (.int .u64 4294967295)],
 mv 12 32]
abbrev r95_8 : List IOp := [mv 33 11,
 o1 34 (.bin .shr .prim) [.t 33, .c (.int .u64 32)],
 mv 13 34]
abbrev r95_9 : List IOp := [mv 35 12,
 mv 36 6,
 mv 37 9,
 o1 38 (.bin .mul .prim) [.t 36, .t 37],
 o1 39 (.bin .add .prim) [.t 35, .t 38],
 mv 12 39]
abbrev r95_10 : List IOp := [mv 40 7,
 mv 41 9,
 o1 42 (.bin .mul .prim) [.t 40, .t 41],
 mv 43 13,
 o1 44 (.bin .add .prim) [.t 42, .t 43],
 mv 45 12,
 o1 46 (.bin .shr .prim) [.t 45, .c (.int .u64 32)],
 o1 47 (.bin .add .prim) [.t 44, .t 46],
 mv 4 47]
abbrev r95_11 : List IOp := [mv 48 0,
 mv 49 1,
 o1 50 (.bin .mul .prim) [.t 48, .t 49],
 mv 5 50]
abbrev c95 : IC := (IC.seq (IC.reg r95_0) (IC.seq (IC.reg r95_1) (IC.seq (IC.reg r95_2) (IC.seq (IC.reg r95_3) (IC.seq (IC.reg r95_4) (IC.seq (IC.reg r95_5) (IC.seq (IC.reg r95_6) (IC.seq (IC.reg r95_7) (IC.seq (IC.reg r95_8) (IC.seq (IC.reg r95_9) (IC.seq (IC.reg r95_10) (IC.seq (IC.reg r95_11) IC.ret))))))))))))
abbrev g95 : FC := ⟨c95, 51, [.t 4, .t 5]⟩
theorem comp95 : compF Go.Proofs.Tryz.prog (fun _ => 0) 95 = some g95 := by kernel_rfl
end Go.Gi
