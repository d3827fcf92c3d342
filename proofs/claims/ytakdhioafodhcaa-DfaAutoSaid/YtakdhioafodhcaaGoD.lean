/- Functions of the program in the form of the abstract machine, printed by a program; each is checked against the translation. -/
import Derived.Test.YtakdhioafodhcaaGiAU
import Derived.Test.YtakdhioafodhcaaGiXA
import Derived.Test.YtakdhioafodhcaaProg
import Derived.KernelRfl
set_option linter.unusedVariables false
namespace Go.Gi
open Go
abbrev mv (d s : Nat) : IOp := ⟨some d, .op .mov, [.t s], none⟩
abbrev o1 (d : Nat) (r : ROp) (xs : List Opd) : IOp := ⟨some d, .op r, xs, none⟩
abbrev o2 (d : Nat) (r : ROp) (xs : List Opd) (g : Nat) (b : Bool) : IOp := ⟨some d, .op r, xs, some (g, b)⟩
abbrev ca (d : Nat) (xs : List Opd) : IOp := ⟨some d, .call none, xs, none⟩
abbrev sr (n : Nat) (xs : List Opd) : IOp := ⟨none, .op (.store n), xs, none⟩
-- outlaw/outlawlaw09.DfaLess
-- outlaw/outlawlaw09.DfaAuto
abbrev r9_0 : List IOp := [o1 8 (.mov) [.c (.bool false)]]
abbrev r9_1 : List IOp := [ca 15 [.f 40],
  o1 16 (.un .not) [.t 15]]
abbrev r9_2 : List IOp := [o1 8 (.mov) [.c (.bool false)]]
abbrev r9_3 : List IOp := [mv 17 0,
  o1 18 (.len .str) [.t 17],
  o1 19 (.bin .gtr .prim) [.t 18, .c (.int .i64 300)],
  mv 20 19,
  o2 21 (.mov) [.t 3] 20 false,
  ⟨some 22, .call none, [.f 47, .t 21, .c (.int .i64 20), .c (.int .i64 260)], some (20, false)⟩,
  o2 23 (.un .not) [.t 22] 20 false,
  o1 24 (.pick) [.t 20, .c (.bool true), .t 23]]
abbrev r9_4 : List IOp := [o1 8 (.mov) [.c (.bool true)]]
abbrev r9_5 : List IOp := [mv 26 0,
  mv 27 1,
  mv 28 2,
  ca 29 [.f 48, .t 26, .t 27, .t 28],
  mv 25 29,
  o1 30 (.extract 0) [.t 25],
  o1 31 (.extract 1) [.t 25],
  mv 9 30,
  mv 10 31]
abbrev r9_6 : List IOp := [mv 33 0,
  mv 34 1,
  mv 35 2,
  ca 36 [.f 45, .t 33, .t 34, .t 35],
  mv 32 36,
  o1 37 (.extract 0) [.t 32],
  o1 38 (.extract 1) [.t 32],
  o1 11 (.alloc 69 [.nils, .nils, .nils]) [],
  sr 3 [.t 11, .t 37],
  mv 12 38]
abbrev r9_7 : List IOp := [mv 39 10,
  o1 40 (.bin .neq .prim) [.t 39, .c (.int .i64 0)]]
abbrev r9_8 : List IOp := [mv 41 9,
  o1 42 (.bin .eql .ptr) [.t 41, .c (.nilp)],
  mv 43 42,
  o2 44 (.mov) [.t 12] 43 true,
  o2 45 (.un .not) [.t 44] 43 true,
  o1 46 (.pick) [.t 43, .t 45, .c (.bool false)],
  mv 47 46,
  o2 48 (.mov) [.t 10] 47 true,
  o2 49 (.mov) [.t 0] 47 true,
  ⟨some 50, .call none, [.f 49, .t 49], some (47, true)⟩,
  o2 51 (.bin .eql .prim) [.t 48, .t 50] 47 true,
  o2 52 (.mov) [.t 51] 47 true,
  o2 53 (.mov) [.t 10] 52 false,
  o2 54 (.bin .eql .prim) [.t 53, .c (.int .i64 2)] 52 false,
  o2 55 (.mov) [.t 54] 52 false,
  o2 56 (.mov) [.t 2] 55 true,
  o2 57 (.bin .lss .prim) [.t 56, .c (.int .i64 1)] 55 true,
  o2 58 (.mov) [.t 57] 55 true,
  o2 59 (.mov) [.t 2] 58 false,
  o2 60 (.bin .gtr .prim) [.t 59, .c (.int .i64 256)] 58 false,
  o2 61 (.pick) [.t 58, .c (.bool true), .t 60] 55 true,
  o2 62 (.pick) [.t 55, .t 61, .c (.bool false)] 52 false,
  o2 63 (.pick) [.t 52, .c (.bool true), .t 62] 47 true,
  o1 64 (.pick) [.t 47, .t 63, .c (.bool false)],
  mv 8 64]
abbrev r9_9 : List IOp := [mv 65 9,
  ca 66 [.f 50, .t 65],
  mv 67 12,
  o1 68 (.bin .eql .bool) [.t 66, .t 67],
  mv 69 68,
  o2 70 (.mov) [.t 9] 69 false,
  ⟨some 71, .call none, [.f 51, .t 70], some (69, false)⟩,
  o2 72 (.faddr 1) [.t 11] 69 false,
  o2 73 (.load none) [.t 72] 69 false,
  o2 74 (.len .slice) [.t 73] 69 false,
  o2 75 (.bin .neq .prim) [.t 71, .t 74] 69 false,
  o1 76 (.pick) [.t 69, .c (.bool true), .t 75],
  mv 77 76,
  o2 78 (.mov) [.t 12] 77 false,
  o2 79 (.mov) [.t 78] 77 false,
  o2 80 (.load (some 3)) [.t 11] 79 true,
  ⟨some 81, .call none, [.f 42, .t 80], some (79, true)⟩,
  o2 82 (.bin .neq .prim) [.t 81, .c (.int .i64 0)] 79 true,
  o2 83 (.mov) [.t 82] 79 true,
  o2 84 (.faddr 1) [.t 11] 83 false,
  o2 85 (.load none) [.t 84] 83 false,
  o2 86 (.len .slice) [.t 85] 83 false,
  o2 87 (.mov) [.t 2] 83 false,
  o2 88 (.bin .gtr .prim) [.t 86, .t 87] 83 false,
  o2 89 (.pick) [.t 83, .c (.bool true), .t 88] 79 true,
  o2 90 (.pick) [.t 79, .t 89, .c (.bool false)] 77 false,
  o1 91 (.pick) [.t 77, .c (.bool true), .t 90]]
abbrev r9_10 : List IOp := [o1 8 (.mov) [.c (.bool false)]]
abbrev r9_11 : List IOp := [o1 13 (.mov) [.c (.int .i64 0)]]
abbrev r9_12 : List IOp := [mv 92 13,
  mv 93 3,
  o1 94 (.len .slice) [.t 93],
  o1 95 (.bin .lss .prim) [.t 92, .t 94]]
abbrev r9_13 : List IOp := [mv 98 0,
  mv 99 3,
  mv 100 13,
  o1 101 (.iaddr 1) [.t 99, .t 100],
  o1 102 (.load none) [.t 101],
  mv 103 1,
  ca 104 [.f 52, .t 98, .t 102, .t 103],
  mv 14 104]
abbrev r9_14 : List IOp := [mv 105 9,
  mv 106 3,
  mv 107 13,
  o1 108 (.iaddr 1) [.t 106, .t 107],
  o1 109 (.load none) [.t 108],
  ca 110 [.f 53, .t 105, .t 109],
  mv 111 14,
  o1 112 (.bin .neq .bool) [.t 110, .t 111],
  mv 113 112,
  o2 114 (.mov) [.t 12] 113 false,
  o2 115 (.mov) [.t 114] 113 false,
  o2 116 (.load (some 3)) [.t 11] 115 true,
  o2 117 (.mov) [.t 3] 115 true,
  o2 118 (.mov) [.t 13] 115 true,
  o2 119 (.iaddr 1) [.t 117, .t 118] 115 true,
  o2 120 (.load none) [.t 119] 115 true,
  ⟨some 121, .call none, [.f 43, .t 116, .t 120], some (115, true)⟩,
  o2 122 (.mov) [.t 14] 115 true,
  o2 123 (.bin .neq .bool) [.t 121, .t 122] 115 true,
  o2 124 (.pick) [.t 115, .t 123, .c (.bool false)] 113 false,
  o1 125 (.pick) [.t 113, .c (.bool true), .t 124]]
abbrev r9_15 : List IOp := [o1 8 (.mov) [.c (.bool false)]]
abbrev r9_16 : List IOp := [mv 96 13,
  o1 97 (.bin .add .prim) [.t 96, .c (.int .i64 1)],
  mv 13 97]
abbrev b9_0 : IC := (IC.seq (IC.seq (IC.reg r9_12) (IC.cond (.t 95) IC.skip (IC.exit 0))) (IC.seq (IC.block 1 (IC.seq (IC.reg r9_13) (IC.seq (IC.regD .wild r9_14 (.take 0 (.take 1 (.take 2 (.take 3 (.take 4 (.take 5 (.take 6 (.take 7 (.take 8 (.take 9 (.take 10 (.take 11 (.take 12 (.take 13 (.take 14 (.take 15 (.take 16 (.take 17 (.take 18 (.take 19 (.take 20 (.done))))))))))))))))))))))) (IC.cond (.t 125) (IC.seq (IC.reg r9_15) IC.ret) IC.skip)))) (IC.reg r9_16)))
abbrev r9_17 : List IOp := [o1 8 (.mov) [.c (.bool true)]]
abbrev c9 : IC := (IC.seq (IC.reg r9_0) (IC.seq (IC.seq (IC.reg r9_1) (IC.cond (.t 16) (IC.seq (IC.reg r9_2) IC.ret) IC.skip)) (IC.seq (IC.seq (IC.reg r9_3) (IC.cond (.t 24) (IC.seq (IC.reg r9_4) IC.ret) IC.skip)) (IC.seq (IC.reg r9_5) (IC.seq (IC.reg r9_6) (IC.seq (IC.seq (IC.reg r9_7) (IC.cond (.t 40) (IC.seq (IC.reg r9_8) IC.ret) IC.skip)) (IC.seq (IC.seq (IC.regD .alloc r9_9 (.take 0 (.take 1 (.take 2 (.take 3 (.take 4 (.take 5 (.take 7 (.take 8 (.take 9 (.take 6 (.take 10 (.take 11 (.take 12 (.take 13 (.take 14 (.take 15 (.take 16 (.take 17 (.take 18 (.take 19 (.take 20 (.take 21 (.take 22 (.take 23 (.take 24 (.take 25 (.take 26 (.done))))))))))))))))))))))))))))) (IC.cond (.t 91) (IC.seq (IC.reg r9_10) IC.ret) IC.skip)) (IC.seq (IC.seq (IC.reg r9_11) (IC.block 0 (IC.loop b9_0))) (IC.seq (IC.reg r9_17) IC.ret)))))))))
abbrev g9 : FC := ⟨c9, 126, [.t 8]⟩
theorem comp9 : compF Go.Proofs.Try.prog (hintL [(9, 7), (15, 6)]) 9 = some g9 := by kernel_rfl

-- outlaw/outlawlaw09.lives
abbrev r40_0 : List IOp := [o1 0 (.mov) [.c (.bool false)]]
abbrev r40_1 : List IOp := [ca 4 [.f 45, .c (.str [97, 98]), .c (.bool false), .c (.int .i64 10)],
  mv 3 4,
  o1 5 (.extract 0) [.t 3],
  o1 6 (.extract 1) [.t 3],
  o1 1 (.alloc 69 [.nils, .nils, .nils]) [],
  sr 3 [.t 1, .t 5],
  mv 2 6]
abbrev r40_2 : List IOp := [mv 7 2,
  mv 8 7,
  o2 9 (.faddr 1) [.t 1] 8 true,
  o2 10 (.load none) [.t 9] 8 true,
  o2 11 (.len .slice) [.t 10] 8 true,
  o2 12 (.bin .eql .prim) [.t 11, .c (.int .i64 4)] 8 true,
  o1 13 (.pick) [.t 8, .t 12, .c (.bool false)],
  mv 14 13,
  o2 15 (.load (some 3)) [.t 1] 14 true,
  ⟨some 16, .call none, [.f 43, .t 15, .c (.str [97, 98])], some (14, true)⟩,
  o1 17 (.pick) [.t 14, .t 16, .c (.bool false)],
  mv 18 17,
  o2 19 (.load (some 3)) [.t 1] 18 true,
  ⟨some 20, .call none, [.f 43, .t 19, .c (.str [97])], some (18, true)⟩,
  o2 21 (.un .not) [.t 20] 18 true,
  o1 22 (.pick) [.t 18, .t 21, .c (.bool false)],
  mv 0 22]
abbrev c40 : IC := (IC.seq (IC.reg r40_0) (IC.seq (IC.reg r40_1) (IC.seq (IC.reg r40_2) IC.ret)))
abbrev g40 : FC := ⟨c40, 23, [.t 0]⟩
theorem comp40 : compF Go.Proofs.Try.prog (fun _ => 0) 40 = some g40 := by kernel_rfl

-- outlaw/outlawlaw09.lightDfa
-- outlaw/dfa.Check
abbrev r42_0 : List IOp := [o1 1 (.box 69) [.t 0],
  o1 2 (.mov) [.c (.int .i64 0)]]
abbrev r42_1 : List IOp := [o1 6 (.faddr 0) [.t 1],
  o1 7 (.load none) [.t 6],
  o1 8 (.len .slice) [.t 7],
  o1 9 (.bin .neq .prim) [.t 8, .c (.int .i64 256)],
  mv 10 9,
  o2 11 (.faddr 1) [.t 1] 10 false,
  o2 12 (.load none) [.t 11] 10 false,
  o2 13 (.len .slice) [.t 12] 10 false,
  o2 14 (.bin .lss .prim) [.t 13, .c (.int .i64 1)] 10 false,
  o1 15 (.pick) [.t 10, .c (.bool true), .t 14],
  mv 16 15,
  o2 17 (.faddr 1) [.t 1] 16 false,
  o2 18 (.load none) [.t 17] 16 false,
  o2 19 (.len .slice) [.t 18] 16 false,
  o2 20 (.bin .gtr .prim) [.t 19, .c (.int .i64 256)] 16 false,
  o1 21 (.pick) [.t 16, .c (.bool true), .t 20],
  mv 22 21,
  o2 23 (.faddr 2) [.t 1] 22 false,
  o2 24 (.load none) [.t 23] 22 false,
  o2 25 (.len .slice) [.t 24] 22 false,
  o2 26 (.faddr 1) [.t 1] 22 false,
  o2 27 (.load none) [.t 26] 22 false,
  o2 28 (.len .slice) [.t 27] 22 false,
  o2 29 (.bin .neq .prim) [.t 25, .t 28] 22 false,
  o1 30 (.pick) [.t 22, .c (.bool true), .t 29],
  mv 31 30,
  o2 32 (.faddr 1) [.t 1] 31 false,
  o2 33 (.load none) [.t 32] 31 false,
  o2 34 (.iaddr 1) [.t 33, .c (.int .i64 0)] 31 false,
  o2 35 (.load none) [.t 34] 31 false,
  o2 36 (.len .slice) [.t 35] 31 false,
  o2 37 (.bin .lss .prim) [.t 36, .c (.int .i64 1)] 31 false,
  o1 38 (.pick) [.t 31, .c (.bool true), .t 37]]
abbrev r42_2 : List IOp := [o1 2 (.mov) [.c (.int .i64 2)]]
abbrev r42_3 : List IOp := [o1 39 (.faddr 1) [.t 1],
  o1 40 (.load none) [.t 39],
  o1 41 (.iaddr 1) [.t 40, .c (.int .i64 0)],
  o1 42 (.load none) [.t 41],
  o1 43 (.len .slice) [.t 42],
  o1 3 (.alloc 3 [.int .i64 0]) [],
  sr 1 [.t 3, .t 43]]
abbrev r42_4 : List IOp := [o1 44 (.faddr 0) [.t 1],
  o1 45 (.load none) [.t 44],
  o1 46 (.mkfn 87) [.t 3],
  ca 47 [.f 86, .t 45, .t 46]]
abbrev r42_5 : List IOp := [o1 2 (.mov) [.c (.int .i64 2)]]
abbrev r42_6 : List IOp := [o1 48 (.faddr 1) [.t 1],
  o1 49 (.load none) [.t 48],
  o1 50 (.len .slice) [.t 49],
  o1 51 (.mov) [.c (.int .i64 0)]]
abbrev r42_7 : List IOp := [o1 52 (.bin .lss .prim) [.t 51, .t 50]]
abbrev r42_8 : List IOp := [o1 53 (.iaddr 1) [.t 49, .t 51],
  o1 54 (.load none) [.t 53],
  mv 5 54]
abbrev r42_9 : List IOp := [mv 55 5,
  o1 56 (.len .slice) [.t 55],
  o1 57 (.load none) [.t 3],
  o1 58 (.bin .neq .prim) [.t 56, .t 57],
  mv 59 58,
  o2 60 (.mov) [.t 5] 59 false,
  o2 61 (.mkfn 88) [.t 1] 59 false,
  ⟨some 62, .call none, [.f 86, .t 60, .t 61], some (59, false)⟩,
  o1 63 (.pick) [.t 59, .c (.bool true), .t 62]]
abbrev r42_10 : List IOp := [o1 2 (.mov) [.c (.int .i64 2)]]
abbrev r42_11 : List IOp := [o1 64 (.bin .add .prim) [.t 51, .c (.int .i64 1)],
  mv 51 64]
abbrev b42_0 : IC := (IC.seq (IC.reg r42_7) (IC.seq (IC.cond (.t 52) IC.skip (IC.exit 0)) (IC.seq (IC.block 1 (IC.seq (IC.reg r42_8) (IC.seq (IC.reg r42_9) (IC.cond (.t 63) (IC.seq (IC.reg r42_10) IC.ret) IC.skip)))) (IC.reg r42_11))))
abbrev r42_12 : List IOp := [o1 2 (.mov) [.c (.int .i64 0)]]
abbrev c42 : IC := (IC.seq (IC.reg r42_0) (IC.seq (IC.seq (IC.reg r42_1) (IC.cond (.t 38) (IC.seq (IC.reg r42_2) IC.ret) IC.skip)) (IC.seq (IC.reg r42_3) (IC.seq (IC.seq (IC.reg r42_4) (IC.cond (.t 47) (IC.seq (IC.reg r42_5) IC.ret) IC.skip)) (IC.seq (IC.seq (IC.reg r42_6) (IC.block 0 (IC.loop b42_0))) (IC.seq (IC.reg r42_12) IC.ret))))))
abbrev g42 : FC := ⟨c42, 65, [.t 2]⟩
theorem comp42 : compF Go.Proofs.Try.prog (fun _ => 0) 42 = some g42 := by kernel_rfl

-- outlaw/dfa.Run
abbrev r43_0 : List IOp := [o1 2 (.box 69) [.t 0],
  o1 4 (.mov) [.c (.bool false)]]
abbrev r43_1 : List IOp := [o1 5 (.load (some 3)) [.t 2],
  ca 6 [.f 42, .t 5],
  o1 7 (.bin .eql .prim) [.t 6, .c (.int .i64 0)],
  mv 8 7,
  o2 9 (.load (some 3)) [.t 2] 8 true,
  o2 10 (.mov) [.t 1] 8 true,
  ⟨some 11, .call none, [.f 89, .t 9, .t 10], some (8, true)⟩,
  o1 12 (.pick) [.t 8, .t 11, .c (.bool false)],
  mv 4 12]
abbrev c43 : IC := (IC.seq (IC.reg r43_0) (IC.seq (IC.reg r43_1) IC.ret))
abbrev g43 : FC := ⟨c43, 13, [.t 4]⟩
theorem comp43 : compF Go.Proofs.Try.prog (fun _ => 0) 43 = some g43 := by kernel_rfl

-- outlaw/outlawlaw09.light
-- outlaw/dfa.Build
abbrev r45_0 : List IOp := [o1 6 (.alloc 69 [.nils, .nils, .nils]) [],
  o1 7 (.mov) [.c (.bool false)]]
abbrev r45_1 : List IOp := [mv 23 0,
  mv 24 1,
  ca 25 [.f 90, .t 23, .t 24],
  mv 22 25,
  o1 26 (.extract 0) [.t 22],
  o1 27 (.extract 1) [.t 22],
  mv 8 26,
  mv 9 27]
abbrev r45_2 : List IOp := [mv 28 9,
  o1 29 (.bin .neq .prim) [.t 28, .c (.int .i64 0)],
  mv 30 29,
  o2 31 (.mov) [.t 2] 30 false,
  o2 32 (.bin .lss .prim) [.t 31, .c (.int .i64 1)] 30 false,
  o1 33 (.pick) [.t 30, .c (.bool true), .t 32],
  mv 34 33,
  o2 35 (.mov) [.t 2] 34 false,
  o2 36 (.bin .gtr .prim) [.t 35, .c (.int .i64 256)] 34 false,
  o1 37 (.pick) [.t 34, .c (.bool true), .t 36]]
abbrev r45_3 : List IOp := [o1 38 (.bst [.nils, .nils, .nils] [(0, 1), (1, 1), (2, 1)] []) [],
  sr 3 [.t 6, .t 38],
  o1 7 (.mov) [.c (.bool false)]]
abbrev r45_4 : List IOp := [mv 40 8,
  ca 41 [.f 91, .t 40],
  mv 39 41,
  o1 42 (.extract 0) [.t 39],
  o1 43 (.extract 1) [.t 39],
  mv 10 42,
  mv 11 43]
abbrev r45_5 : List IOp := [mv 45 10,
  mv 46 1,
  ca 47 [.f 92, .t 45, .t 46],
  mv 44 47,
  o1 48 (.extract 0) [.t 44],
  o1 49 (.extract 1) [.t 44],
  o1 12 (.alloc 111 [.int .i64 0, .int .i64 0, .int .i64 0, .int .i64 0, .int .i64 0, .int .i64 0, .int .i64 0, .int .i64 0, .int .i64 0, .int .i64 0, .int .i64 0, .int .i64 0, .int .i64 0, .int .i64 0, .int .i64 0, .int .i64 0, .int .i64 0, .int .i64 0, .int .i64 0, .int .i64 0, .int .i64 0, .int .i64 0, .int .i64 0, .int .i64 0, .int .i64 0, .int .i64 0, .int .i64 0, .int .i64 0, .int .i64 0, .int .i64 0, .int .i64 0, .int .i64 0, .int .i64 0, .int .i64 0, .int .i64 0, .int .i64 0, .int .i64 0, .int .i64 0, .int .i64 0, .int .i64 0, .int .i64 0, .int .i64 0, .int .i64 0, .int .i64 0, .int .i64 0, .int .i64 0, .int .i64 0, .int .i64 0, .int .i64 0, .int .i64 0, .int .i64 0, .int .i64 0, .int .i64 0, .int .i64 0, .int .i64 0, .int .i64 0, .int .i64 0, .int .i64 0, .int .i64 0, .int .i64 0, .int .i64 0, .int .i64 0, .int .i64 0, .int .i64 0, .int .i64 0, .int .i64 0, .int .i64 0, .int .i64 0, .int .i64 0, .int .i64 0, .int .i64 0, .int .i64 0, .int .i64 0, .int .i64 0, .int .i64 0, .int .i64 0, .int .i64 0, .int .i64 0, .int .i64 0, .int .i64 0, .int .i64 0, .int .i64 0, .int .i64 0, .int .i64 0, .int .i64 0, .int .i64 0, .int .i64 0, .int .i64 0, .int .i64 0, .int .i64 0, .int .i64 0, .int .i64 0, .int .i64 0, .int .i64 0, .int .i64 0, .int .i64 0, .int .i64 0, .int .i64 0, .int .i64 0, .int .i64 0, .int .i64 0, .int .i64 0, .int .i64 0, .int .i64 0, .int .i64 0, .int .i64 0, .int .i64 0, .int .i64 0, .int .i64 0, .int .i64 0, .int .i64 0, .int .i64 0, .int .i64 0, .int .i64 0, .int .i64 0, .int .i64 0, .int .i64 0, .int .i64 0, .int .i64 0, .int .i64 0, .int .i64 0, .int .i64 0, .int .i64 0, .int .i64 0, .int .i64 0, .int .i64 0, .int .i64 0, .int .i64 0, .int .i64 0, .int .i64 0, .int .i64 0, .int .i64 0, .int .i64 0, .int .i64 0, .int .i64 0, .int .i64 0, .int .i64 0, .int .i64 0, .int .i64 0, .int .i64 0, .int .i64 0, .int .i64 0, .int .i64 0, .int .i64 0, .int .i64 0, .int .i64 0, .int .i64 0, .int .i64 0, .int .i64 0, .int .i64 0, .int .i64 0, .int .i64 0, .int .i64 0, .int .i64 0, .int .i64 0, .int .i64 0, .int .i64 0, .int .i64 0, .int .i64 0, .int .i64 0, .int .i64 0, .int .i64 0, .int .i64 0, .int .i64 0, .int .i64 0, .int .i64 0, .int .i64 0, .int .i64 0, .int .i64 0, .int .i64 0, .int .i64 0, .int .i64 0, .int .i64 0, .int .i64 0, .int .i64 0, .int .i64 0, .int .i64 0, .int .i64 0, .int .i64 0, .int .i64 0, .int .i64 0, .int .i64 0, .int .i64 0, .int .i64 0, .int .i64 0, .int .i64 0, .int .i64 0, .int .i64 0, .int .i64 0, .int .i64 0, .int .i64 0, .int .i64 0, .int .i64 0, .int .i64 0, .int .i64 0, .int .i64 0, .int .i64 0, .int .i64 0, .int .i64 0, .int .i64 0, .int .i64 0, .int .i64 0, .int .i64 0, .int .i64 0, .int .i64 0, .int .i64 0, .int .i64 0, .int .i64 0, .int .i64 0, .int .i64 0, .int .i64 0, .int .i64 0, .int .i64 0, .int .i64 0, .int .i64 0, .int .i64 0, .int .i64 0, .int .i64 0, .int .i64 0, .int .i64 0, .int .i64 0, .int .i64 0, .int .i64 0, .int .i64 0, .int .i64 0, .int .i64 0, .int .i64 0, .int .i64 0, .int .i64 0, .int .i64 0, .int .i64 0, .int .i64 0, .int .i64 0, .int .i64 0, .int .i64 0, .int .i64 0, .int .i64 0, .int .i64 0, .int .i64 0, .int .i64 0, .int .i64 0, .int .i64 0, .int .i64 0, .int .i64 0, .int .i64 0, .int .i64 0, .int .i64 0, .int .i64 0, .int .i64 0, .int .i64 0, .int .i64 0, .int .i64 0, .int .i64 0, .int .i64 0, .int .i64 0, .int .i64 0]) [],
  sr 256 [.t 12, .t 48],
  mv 13 49]
abbrev r45_6 : List IOp := [o1 50 (.aslice 256 1 false false false) [.t 12],
  o1 51 (.bst [.nils, .nils, .nils] [(0, 1), (1, 1), (2, 1)] [0]) [.t 50],
  o1 14 (.alloc 69 [.nils, .nils, .nils]) [],
  sr 3 [.t 14, .t 51]]
abbrev r45_7 : List IOp := [o1 52 (.mkmap false) [],
  o1 15 (.alloc 114 [.nilm]) [],
  sr 1 [.t 15, .t 52]]
abbrev r45_8 : List IOp := [o1 16 (.alloc 66 [.nils]) []]
abbrev r45_9 : List IOp := [o1 53 (.mkfn 93) [.t 15, .t 16],
  mv 17 53]
abbrev r45_10 : List IOp := [mv 54 17,
  mv 55 8,
  ca 56 [.f 95, .t 55],
  ca 57 [.t 54, .t 56]]
abbrev r45_11 : List IOp := [o1 18 (.mov) [.c (.int .i64 0)]]
abbrev r45_12 : List IOp := [mv 58 18,
  o1 59 (.load none) [.t 16],
  o1 60 (.len .slice) [.t 59],
  o1 61 (.bin .lss .prim) [.t 58, .t 60]]
abbrev r45_13 : List IOp := [o1 64 (.load none) [.t 16],
  o1 65 (.len .slice) [.t 64],
  mv 66 2,
  o1 67 (.bin .gtr .prim) [.t 65, .t 66]]
abbrev r45_14 : List IOp := [o1 68 (.bst [.nils, .nils, .nils] [(0, 1), (1, 1), (2, 1)] []) [],
  sr 3 [.t 6, .t 68],
  o1 7 (.mov) [.c (.bool false)]]
abbrev r45_15 : List IOp := [o1 19 (.mov) [.c (.nils)]]
abbrev r45_16 : List IOp := [mv 69 13,
  o1 70 (.len .slice) [.t 69],
  o1 71 (.mov) [.c (.int .i64 0)]]
abbrev r45_17 : List IOp := [o1 72 (.bin .lss .prim) [.t 71, .t 70]]
abbrev r45_18 : List IOp := [o1 73 (.iaddr 1) [.t 69, .t 71],
  o1 74 (.load none) [.t 73],
  mv 21 74]
abbrev r45_19 : List IOp := [mv 75 21,
  o1 76 (.bin .lss .prim) [.t 75, .c (.int .i64 0)]]
abbrev r45_20 : List IOp := [mv 77 19,
  o1 78 (.bsl 3 1 false) [.c (.int .i64 0)],
  o1 79 (.app 3 1 8) [.t 77, .t 78],
  mv 19 79]
abbrev r45_21 : List IOp := [mv 80 19,
  mv 81 17,
  mv 82 8,
  o1 83 (.load none) [.t 16],
  mv 84 18,
  o1 85 (.iaddr 1) [.t 83, .t 84],
  o1 86 (.load none) [.t 85],
  mv 87 21,
  o1 88 (.toInt .u8) [.t 87],
  ca 89 [.f 96, .t 82, .t 86, .t 88],
  ca 90 [.t 81, .t 89],
  o1 91 (.bsl 3 1 false) [.t 90],
  o1 92 (.app 3 1 8) [.t 80, .t 91],
  mv 19 92]
abbrev r45_22 : List IOp := [o1 93 (.bin .add .prim) [.t 71, .c (.int .i64 1)],
  mv 71 93]
abbrev b45_0 : IC := (IC.seq (IC.reg r45_17) (IC.seq (IC.cond (.t 72) IC.skip (IC.exit 2)) (IC.seq (IC.block 3 (IC.seq (IC.reg r45_18) (IC.seq (IC.seq (IC.reg r45_19) (IC.cond (.t 76) (IC.seq (IC.reg r45_20) (IC.exit 3)) IC.skip)) (IC.reg r45_21)))) (IC.reg r45_22))))
abbrev r45_23 : List IOp := [o1 94 (.faddr 1) [.t 14],
  o1 95 (.load none) [.t 94],
  mv 96 19,
  o1 97 (.bsl 65 1 false) [.t 96],
  o1 98 (.app 65 1 24) [.t 95, .t 97],
  o1 99 (.faddr 1) [.t 14],
  sr 1 [.t 99, .t 98]]
abbrev r45_24 : List IOp := [o1 100 (.faddr 2) [.t 14],
  o1 101 (.load none) [.t 100],
  mv 102 8,
  o1 103 (.load none) [.t 16],
  mv 104 18,
  o1 105 (.iaddr 1) [.t 103, .t 104],
  o1 106 (.load none) [.t 105],
  ca 107 [.f 97, .t 102, .t 106],
  o1 108 (.bsl 4 1 false) [.t 107],
  o1 109 (.app 4 1 1) [.t 101, .t 108],
  o1 110 (.faddr 2) [.t 14],
  sr 1 [.t 110, .t 109]]
abbrev r45_25 : List IOp := [mv 62 18,
  o1 63 (.bin .add .prim) [.t 62, .c (.int .i64 1)],
  mv 18 63]
abbrev b45_1 : IC := (IC.seq (IC.seq (IC.reg r45_12) (IC.cond (.t 61) IC.skip (IC.exit 0))) (IC.seq (IC.block 1 (IC.seq (IC.seq (IC.reg r45_13) (IC.cond (.t 67) (IC.seq (IC.reg r45_14) IC.ret) IC.skip)) (IC.seq (IC.reg r45_15) (IC.seq (IC.seq (IC.reg r45_16) (IC.block 2 (IC.loop b45_0))) (IC.seq (IC.reg r45_23) (IC.regD .alloc r45_24 (.take 0 (.take 1 (.take 2 (.take 3 (.take 4 (.take 5 (.take 6 (.take 7 (.take 8 (.take 9 (.take 10 (.take 11 (.done))))))))))))))))))) (IC.reg r45_25)))
abbrev r45_26 : List IOp := [o1 111 (.load (some 3)) [.t 14],
  sr 3 [.t 6, .t 111],
  o1 7 (.mov) [.c (.bool true)]]
abbrev c45 : IC := (IC.seq (IC.reg r45_0) (IC.seq (IC.reg r45_1) (IC.seq (IC.seq (IC.reg r45_2) (IC.cond (.t 37) (IC.seq (IC.reg r45_3) IC.ret) IC.skip)) (IC.seq (IC.reg r45_4) (IC.seq (IC.reg r45_5) (IC.seq (IC.reg r45_6) (IC.seq (IC.reg r45_7) (IC.seq (IC.reg r45_8) (IC.seq (IC.reg r45_9) (IC.seq (IC.reg r45_10) (IC.seq (IC.seq (IC.reg r45_11) (IC.block 0 (IC.loop b45_1))) (IC.seq (IC.reg r45_26) IC.ret))))))))))))
abbrev g45 : FC := ⟨c45, 112, [.cell 6 (some 3), .t 7]⟩
theorem comp45 : compF Go.Proofs.Try.prog (hintL [(25, 7)]) 45 = some g45 := by kernel_rfl

-- outlaw/dfa.Same
-- outlaw/outlawkit.Pick
-- outlaw/outlawkit.LightTexts
abbrev r47_0 : List IOp := [o1 6 (.mov) [.c (.bool false)]]
abbrev r47_1 : List IOp := [o1 7 (.mov) [.c (.int .i64 0)]]
abbrev r47_2 : List IOp := [mv 8 7,
  mv 9 0,
  o1 10 (.len .slice) [.t 9],
  o1 11 (.bin .lss .prim) [.t 8, .t 10]]
abbrev r47_3 : List IOp := [mv 14 0,
  mv 15 7,
  o1 16 (.iaddr 1) [.t 14, .t 15],
  o1 17 (.load none) [.t 16],
  o1 18 (.len .str) [.t 17],
  mv 19 2,
  o1 20 (.bin .gtr .prim) [.t 18, .t 19]]
abbrev r47_4 : List IOp := [o1 6 (.mov) [.c (.bool false)]]
abbrev r47_5 : List IOp := [mv 12 7,
  o1 13 (.bin .add .prim) [.t 12, .c (.int .i64 1)],
  mv 7 13]
abbrev b47_0 : IC := (IC.seq (IC.seq (IC.reg r47_2) (IC.cond (.t 11) IC.skip (IC.exit 0))) (IC.seq (IC.block 1 (IC.seq (IC.reg r47_3) (IC.cond (.t 20) (IC.seq (IC.reg r47_4) IC.ret) IC.skip))) (IC.reg r47_5)))
abbrev r47_6 : List IOp := [mv 21 0,
  o1 22 (.len .slice) [.t 21],
  mv 23 1,
  o1 24 (.bin .leq .prim) [.t 22, .t 23],
  mv 6 24]
abbrev c47 : IC := (IC.seq (IC.reg r47_0) (IC.seq (IC.seq (IC.reg r47_1) (IC.block 0 (IC.loop b47_0))) (IC.seq (IC.reg r47_6) IC.ret)))
abbrev g47 : FC := ⟨c47, 25, [.t 6]⟩
theorem comp47 : compF Go.Proofs.Try.prog (fun _ => 0) 47 = some g47 := by kernel_rfl

-- outlaw/dfa.New
abbrev r48_0 : List IOp := [o1 6 (.mov) [.c (.nilp)],
  o1 7 (.mov) [.c (.int .i64 0)]]
abbrev r48_1 : List IOp := [mv 13 0,
  mv 14 1,
  ca 15 [.f 90, .t 13, .t 14],
  mv 12 15,
  o1 16 (.extract 0) [.t 12],
  o1 17 (.extract 1) [.t 12],
  mv 8 16,
  mv 9 17]
abbrev r48_2 : List IOp := [mv 18 9,
  o1 19 (.bin .neq .prim) [.t 18, .c (.int .i64 0)]]
abbrev r48_3 : List IOp := [mv 20 9,
  o1 6 (.mov) [.c (.nilp)],
  mv 7 20]
abbrev r48_4 : List IOp := [mv 21 2,
  o1 22 (.bin .lss .prim) [.t 21, .c (.int .i64 1)],
  mv 23 22,
  o2 24 (.mov) [.t 2] 23 false,
  o2 25 (.bin .gtr .prim) [.t 24, .c (.int .i64 256)] 23 false,
  o1 26 (.pick) [.t 23, .c (.bool true), .t 25]]
abbrev r48_5 : List IOp := [o1 6 (.mov) [.c (.nilp)],
  o1 7 (.mov) [.c (.int .i64 2)]]
abbrev r48_6 : List IOp := [mv 28 0,
  mv 29 1,
  mv 30 2,
  ca 31 [.f 45, .t 28, .t 29, .t 30],
  mv 27 31,
  o1 32 (.extract 0) [.t 27],
  o1 33 (.extract 1) [.t 27],
  o1 10 (.alloc 69 [.nils, .nils, .nils]) [],
  sr 3 [.t 10, .t 32],
  mv 11 33]
abbrev r48_7 : List IOp := [mv 34 11]
abbrev r48_8 : List IOp := [o1 35 (.load (some 3)) [.t 10],
  o1 36 (.bst [.nils, .nils, .nils] [(0, 3)] [0]) [.t 35],
  o1 37 (.mkif 127) [.t 36],
  o1 38 (.bst [.nili] [(0, 1)] [0]) [.t 37],
  o1 39 (.box 131) [.t 38],
  mv 6 39,
  o1 7 (.mov) [.c (.int .i64 0)]]
abbrev r48_9 : List IOp := [mv 40 8,
  o1 41 (.bst [.nilp] [(0, 1)] [0]) [.t 40],
  o1 42 (.mkif 133) [.t 41],
  o1 43 (.bst [.nili] [(0, 1)] [0]) [.t 42],
  o1 44 (.box 131) [.t 43],
  mv 6 44,
  o1 7 (.mov) [.c (.int .i64 0)]]
abbrev c48 : IC := (IC.seq (IC.reg r48_0) (IC.seq (IC.reg r48_1) (IC.seq (IC.seq (IC.reg r48_2) (IC.cond (.t 19) (IC.seq (IC.reg r48_3) IC.ret) IC.skip)) (IC.seq (IC.seq (IC.reg r48_4) (IC.cond (.t 26) (IC.seq (IC.reg r48_5) IC.ret) IC.skip)) (IC.seq (IC.seq (IC.reg r48_6) (IC.seq (IC.reg r48_7) (IC.cond (.t 34) (IC.seq (IC.reg r48_8) IC.ret) IC.skip))) (IC.seq (IC.reg r48_9) IC.ret))))))
abbrev g48 : FC := ⟨c48, 45, [.t 6, .t 7]⟩
theorem comp48 : compF Go.Proofs.Try.prog (fun _ => 0) 48 = some g48 := by kernel_rfl

-- outlaw/glob.Check
abbrev r49_0 : List IOp := [o1 2 (.mov) [.c (.int .i64 0)]]
abbrev r49_1 : List IOp := [mv 4 0,
  ⟨some 5, .op (.bin .eql .prim), [.t 4, .c (.str [])], none⟩,
  mv 3 5]
abbrev r49_2 : List IOp := [o1 2 (.mov) [.c (.int .i64 2)]]
abbrev r49_3 : List IOp := [mv 7 0,
  o1 8 (.len .str) [.t 7],
  o1 9 (.bin .gtr .prim) [.t 8, .c (.int .i64 255)],
  mv 6 9]
abbrev r49_4 : List IOp := [o1 2 (.mov) [.c (.int .i64 4)]]
abbrev r49_5 : List IOp := [o1 2 (.mov) [.c (.int .i64 0)]]
abbrev c49 : IC := (IC.seq (IC.reg r49_0) (IC.seq (IC.block 0 (IC.seq (IC.reg r49_1) (IC.cond (.t 3) (IC.seq (IC.reg r49_2) IC.ret) (IC.seq (IC.reg r49_3) (IC.cond (.t 6) (IC.seq (IC.reg r49_4) IC.ret) IC.skip))))) (IC.seq (IC.reg r49_5) IC.ret)))
abbrev g49 : FC := ⟨c49, 10, [.t 2]⟩
theorem comp49 : compF Go.Proofs.Try.prog (fun _ => 0) 49 = some g49 := by kernel_rfl

-- (*outlaw/dfa.Auto).Full
abbrev r50_0 : List IOp := [o1 2 (.mov) [.c (.bool false)]]
abbrev r50_1 : List IOp := [mv 3 0,
  o1 4 (.bin .neq .ptr) [.t 3, .c (.nilp)],
  mv 5 4,
  o2 6 (.mov) [.t 0] 5 true,
  o2 7 (.nilchk) [.t 6] 5 true,
  o2 8 (.faddr 0) [.t 7] 5 true,
  o2 9 (.load none) [.t 8] 5 true,
  o2 10 (.bin .neq (.iface true)) [.t 9, .c (.nili)] 5 true,
  o1 11 (.pick) [.t 5, .t 10, .c (.bool false)],
  mv 12 11,
  o2 13 (.mov) [.t 0] 12 true,
  o2 14 (.nilchk) [.t 13] 12 true,
  o2 15 (.faddr 0) [.t 14] 12 true,
  o2 16 (.load none) [.t 15] 12 true,
  ⟨some 17, .call (some [(127, 189), (133, 191)]), [.t 16], some (12, true)⟩,
  o2 18 (.bin .eql .prim) [.t 17, .c (.int .i64 0)] 12 true,
  o1 19 (.pick) [.t 12, .t 18, .c (.bool false)],
  mv 2 19]
abbrev c50 : IC := (IC.seq (IC.reg r50_0) (IC.seq (IC.reg r50_1) IC.ret))
abbrev g50 : FC := ⟨c50, 20, [.t 2]⟩
theorem comp50 : compF Go.Proofs.Try.prog (fun _ => 0) 50 = some g50 := by kernel_rfl

-- (*outlaw/dfa.Auto).States
abbrev r51_0 : List IOp := [o1 2 (.mov) [.c (.int .i64 0)]]
abbrev r51_1 : List IOp := [mv 3 0,
  o1 4 (.bin .eql .ptr) [.t 3, .c (.nilp)],
  mv 5 4,
  o2 6 (.mov) [.t 0] 5 false,
  o2 7 (.nilchk) [.t 6] 5 false,
  o2 8 (.faddr 0) [.t 7] 5 false,
  o2 9 (.load none) [.t 8] 5 false,
  o2 10 (.bin .eql (.iface true)) [.t 9, .c (.nili)] 5 false,
  o1 11 (.pick) [.t 5, .c (.bool true), .t 10]]
abbrev r51_2 : List IOp := [o1 2 (.mov) [.c (.int .i64 0)]]
abbrev r51_3 : List IOp := [mv 12 0,
  o1 13 (.nilchk) [.t 12],
  o1 14 (.faddr 0) [.t 13],
  o1 15 (.load none) [.t 14],
  ⟨some 16, .call (some [(127, 189), (133, 191)]), [.t 15], none⟩,
  mv 2 16]
abbrev c51 : IC := (IC.seq (IC.reg r51_0) (IC.seq (IC.seq (IC.reg r51_1) (IC.cond (.t 11) (IC.seq (IC.reg r51_2) IC.ret) IC.skip)) (IC.seq (IC.reg r51_3) IC.ret)))
abbrev g51 : FC := ⟨c51, 17, [.t 2]⟩
theorem comp51 : compF Go.Proofs.Try.prog (fun _ => 0) 51 = some g51 := by kernel_rfl

-- outlaw/glob.Match
abbrev r52_0 : List IOp := [o1 6 (.mov) [.c (.bool false)]]
abbrev r52_1 : List IOp := [o1 7 (.mov) [.f 101]]
abbrev r52_2 : List IOp := [mv 12 2]
abbrev r52_3 : List IOp := [o1 7 (.mov) [.f 102]]
abbrev r52_4 : List IOp := [o1 8 (.mov) [.c (.int .i64 0)],
  o1 9 (.mov) [.c (.int .i64 0)]]
abbrev r52_5 : List IOp := [o1 10 (.mov) [.c (.int .i64 (-1))],
  o1 11 (.mov) [.c (.int .i64 0)]]
abbrev r52_6 : List IOp := [mv 13 9,
  mv 14 1,
  o1 15 (.len .str) [.t 14],
  o1 16 (.bin .lss .prim) [.t 13, .t 15]]
abbrev r52_7 : List IOp := [mv 18 8,
  mv 19 0,
  o1 20 (.len .str) [.t 19],
  o1 21 (.bin .lss .prim) [.t 18, .t 20],
  mv 22 21,
  o2 23 (.mov) [.t 0] 22 true,
  o2 24 (.mov) [.t 8] 22 true,
  o2 25 (.idxs) [.t 23, .t 24] 22 true,
  o2 26 (.bin .eql .prim) [.t 25, .c (.int .u8 42)] 22 true,
  o1 27 (.pick) [.t 22, .t 26, .c (.bool false)],
  mv 17 27]
abbrev r52_8 : List IOp := [mv 28 8,
  mv 29 9,
  mv 10 28,
  mv 11 29]
abbrev r52_9 : List IOp := [mv 30 8,
  o1 31 (.bin .add .prim) [.t 30, .c (.int .i64 1)],
  mv 8 31]
abbrev r52_10 : List IOp := [mv 33 8,
  mv 34 0,
  o1 35 (.len .str) [.t 34],
  o1 36 (.bin .lss .prim) [.t 33, .t 35],
  mv 37 36,
  o2 38 (.mov) [.t 0] 37 true,
  o2 39 (.mov) [.t 8] 37 true,
  o2 40 (.idxs) [.t 38, .t 39] 37 true,
  o2 41 (.bin .eql .prim) [.t 40, .c (.int .u8 63)] 37 true,
  o2 42 (.mov) [.t 41] 37 true,
  o2 43 (.mov) [.t 7] 42 false,
  o2 44 (.mov) [.t 0] 42 false,
  o2 45 (.mov) [.t 8] 42 false,
  o2 46 (.idxs) [.t 44, .t 45] 42 false,
  o2 47 (.mov) [.t 1] 42 false,
  o2 48 (.mov) [.t 9] 42 false,
  o2 49 (.idxs) [.t 47, .t 48] 42 false,
  ⟨some 50, .call none, [.t 43, .t 46, .t 49], some (42, false)⟩,
  o2 51 (.pick) [.t 42, .c (.bool true), .t 50] 37 true,
  o1 52 (.pick) [.t 37, .t 51, .c (.bool false)],
  mv 32 52]
abbrev r52_11 : List IOp := [mv 53 8,
  o1 54 (.bin .add .prim) [.t 53, .c (.int .i64 1)],
  mv 8 54]
abbrev r52_12 : List IOp := [mv 55 9,
  o1 56 (.bin .add .prim) [.t 55, .c (.int .i64 1)],
  mv 9 56]
abbrev r52_13 : List IOp := [mv 58 10,
  o1 59 (.bin .lss .prim) [.t 58, .c (.int .i64 0)],
  mv 57 59]
abbrev r52_14 : List IOp := [o1 6 (.mov) [.c (.bool false)]]
abbrev r52_15 : List IOp := [mv 60 11,
  o1 61 (.bin .add .prim) [.t 60, .c (.int .i64 1)],
  mv 11 61]
abbrev r52_16 : List IOp := [mv 62 10,
  o1 63 (.bin .add .prim) [.t 62, .c (.int .i64 1)],
  mv 64 11,
  mv 8 63,
  mv 9 64]
abbrev b52_0 : IC := (IC.seq (IC.seq (IC.reg r52_6) (IC.cond (.t 16) IC.skip (IC.exit 0))) (IC.block 1 (IC.seq (IC.block 2 (IC.seq (IC.reg r52_7) (IC.cond (.t 17) (IC.seq (IC.reg r52_8) (IC.seq (IC.reg r52_9) (IC.exit 1))) (IC.seq (IC.regD .wild r52_10 (.take 0 (.take 1 (.take 2 (.take 3 (.take 4 (.take 5 (.take 6 (.take 7 (.take 8 (.take 9 (.take 10 (.take 11 (.take 12 (.take 13 (.take 14 (.take 15 (.take 16 (.take 17 (.take 18 (.take 19 (.take 20 (.done))))))))))))))))))))))) (IC.cond (.t 32) (IC.seq (IC.reg r52_11) (IC.seq (IC.reg r52_12) (IC.exit 1))) (IC.seq (IC.reg r52_13) (IC.cond (.t 57) (IC.seq (IC.reg r52_14) IC.ret) IC.skip))))))) (IC.seq (IC.reg r52_15) (IC.reg r52_16)))))
abbrev r52_17 : List IOp := [mv 65 8,
  mv 66 0,
  o1 67 (.len .str) [.t 66],
  o1 68 (.bin .lss .prim) [.t 65, .t 67],
  mv 69 68,
  o2 70 (.mov) [.t 0] 69 true,
  o2 71 (.mov) [.t 8] 69 true,
  o2 72 (.idxs) [.t 70, .t 71] 69 true,
  o2 73 (.bin .eql .prim) [.t 72, .c (.int .u8 42)] 69 true,
  o1 74 (.pick) [.t 69, .t 73, .c (.bool false)]]
abbrev r52_18 : List IOp := [mv 75 8,
  o1 76 (.bin .add .prim) [.t 75, .c (.int .i64 1)],
  mv 8 76]
abbrev b52_1 : IC := (IC.seq (IC.seq (IC.reg r52_17) (IC.cond (.t 74) IC.skip (IC.exit 3))) (IC.block 4 (IC.reg r52_18)))
abbrev r52_19 : List IOp := [mv 77 8,
  mv 78 0,
  o1 79 (.len .str) [.t 78],
  o1 80 (.bin .eql .prim) [.t 77, .t 79],
  mv 6 80]
abbrev c52 : IC := (IC.seq (IC.reg r52_0) (IC.seq (IC.reg r52_1) (IC.seq (IC.seq (IC.reg r52_2) (IC.cond (.t 12) (IC.reg r52_3) IC.skip)) (IC.seq (IC.reg r52_4) (IC.seq (IC.reg r52_5) (IC.seq IC.skip (IC.seq (IC.block 0 (IC.loop b52_0)) (IC.seq (IC.block 3 (IC.loop b52_1)) (IC.seq (IC.reg r52_19) IC.ret)))))))))
abbrev g52 : FC := ⟨c52, 81, [.t 6]⟩
theorem comp52 : compF Go.Proofs.Try.prog (hintL [(10, 6)]) 52 = some g52 := by kernel_rfl

-- (*outlaw/dfa.Auto).Match
abbrev r53_0 : List IOp := [o1 4 (.mov) [.c (.bool false)]]
abbrev r53_1 : List IOp := [mv 5 0,
  o1 6 (.bin .neq .ptr) [.t 5, .c (.nilp)],
  mv 7 6,
  o2 8 (.mov) [.t 0] 7 true,
  o2 9 (.nilchk) [.t 8] 7 true,
  o2 10 (.faddr 0) [.t 9] 7 true,
  o2 11 (.load none) [.t 10] 7 true,
  o2 12 (.bin .neq (.iface true)) [.t 11, .c (.nili)] 7 true,
  o1 13 (.pick) [.t 7, .t 12, .c (.bool false)],
  mv 14 13,
  o2 15 (.mov) [.t 0] 14 true,
  o2 16 (.nilchk) [.t 15] 14 true,
  o2 17 (.faddr 0) [.t 16] 14 true,
  o2 18 (.load none) [.t 17] 14 true,
  o2 19 (.mov) [.t 1] 14 true,
  ⟨some 20, .call (some [(127, 188), (133, 190)]), [.t 18, .t 19], some (14, true)⟩,
  o1 21 (.pick) [.t 14, .t 20, .c (.bool false)],
  mv 4 21]
abbrev c53 : IC := (IC.seq (IC.reg r53_0) (IC.seq (IC.reg r53_1) IC.ret))
abbrev g53 : FC := ⟨c53, 22, [.t 4]⟩
theorem comp53 : compF Go.Proofs.Try.prog (fun _ => 0) 53 = some g53 := by kernel_rfl

-- outlaw/dfa.Check$1
abbrev r87_0 : List IOp := [o1 3 (.mov) [.c (.bool false)]]
abbrev r87_1 : List IOp := [mv 4 0,
  o1 5 (.bin .lss .prim) [.t 4, .c (.int .i64 0)],
  mv 6 5,
  o2 7 (.mov) [.t 0] 6 false,
  o2 8 (.load none) [.t 1] 6 false,
  o2 9 (.bin .geq .prim) [.t 7, .t 8] 6 false,
  o1 10 (.pick) [.t 6, .c (.bool true), .t 9],
  mv 3 10]
abbrev c87 : IC := (IC.seq (IC.reg r87_0) (IC.seq (IC.reg r87_1) IC.ret))
abbrev g87 : FC := ⟨c87, 11, [.t 3]⟩
theorem comp87 : compF Go.Proofs.Try.prog (fun _ => 0) 87 = some g87 := by kernel_rfl

-- slices.ContainsFunc[[]int,int]
abbrev r86_0 : List IOp := [o1 4 (.mov) [.c (.bool false)]]
abbrev r86_1 : List IOp := [mv 5 0,
  mv 6 1,
  ca 7 [.f 117, .t 5, .t 6],
  o1 8 (.bin .geq .prim) [.t 7, .c (.int .i64 0)],
  mv 4 8]
abbrev c86 : IC := (IC.seq (IC.reg r86_0) (IC.seq (IC.reg r86_1) IC.ret))
abbrev g86 : FC := ⟨c86, 9, [.t 4]⟩
theorem comp86 : compF Go.Proofs.Try.prog (fun _ => 0) 86 = some g86 := by kernel_rfl

-- outlaw/dfa.Check$2
abbrev r88_0 : List IOp := [o1 3 (.mov) [.c (.bool false)]]
abbrev r88_1 : List IOp := [mv 4 0,
  o1 5 (.bin .lss .prim) [.t 4, .c (.int .i64 0)],
  mv 6 5,
  o2 7 (.mov) [.t 0] 6 false,
  o2 8 (.faddr 1) [.t 1] 6 false,
  o2 9 (.load none) [.t 8] 6 false,
  o2 10 (.len .slice) [.t 9] 6 false,
  o2 11 (.bin .geq .prim) [.t 7, .t 10] 6 false,
  o1 12 (.pick) [.t 6, .c (.bool true), .t 11],
  mv 3 12]
abbrev c88 : IC := (IC.seq (IC.reg r88_0) (IC.seq (IC.reg r88_1) IC.ret))
abbrev g88 : FC := ⟨c88, 13, [.t 3]⟩
theorem comp88 : compF Go.Proofs.Try.prog (fun _ => 0) 88 = some g88 := by kernel_rfl

-- outlaw/dfa.through
abbrev r89_0 : List IOp := [o1 2 (.box 69) [.t 0],
  o1 4 (.mov) [.c (.bool false)]]
abbrev r89_1 : List IOp := [o1 5 (.mov) [.c (.int .i64 0)]]
abbrev r89_2 : List IOp := [mv 7 1,
  o1 8 (.len .str) [.t 7],
  o1 9 (.mov) [.c (.int .i64 0)]]
abbrev r89_3 : List IOp := [o1 10 (.bin .lss .prim) [.t 9, .t 8]]
abbrev r89_4 : List IOp := [mv 11 9,
  mv 6 11]
abbrev r89_5 : List IOp := [o1 12 (.faddr 1) [.t 2],
  o1 13 (.load none) [.t 12],
  mv 14 5,
  o1 15 (.iaddr 1) [.t 13, .t 14],
  o1 16 (.load none) [.t 15],
  o1 17 (.faddr 0) [.t 2],
  o1 18 (.load none) [.t 17],
  mv 19 1,
  mv 20 6,
  o1 21 (.idxs) [.t 19, .t 20],
  o1 22 (.iaddr 1) [.t 18, .t 21],
  o1 23 (.load none) [.t 22],
  o1 24 (.iaddr 1) [.t 16, .t 23],
  o1 25 (.load none) [.t 24],
  mv 5 25]
abbrev r89_6 : List IOp := [o1 26 (.bin .add .prim) [.t 9, .c (.int .i64 1)],
  mv 9 26]
abbrev b89_0 : IC := (IC.seq (IC.reg r89_3) (IC.seq (IC.cond (.t 10) IC.skip (IC.exit 0)) (IC.seq (IC.block 1 (IC.seq (IC.reg r89_4) (IC.regD .wild r89_5 (.take 0 (.take 1 (.take 2 (.take 3 (.take 4 (.take 5 (.take 6 (.take 7 (.take 8 (.take 9 (.take 10 (.take 11 (.take 12 (.take 13 (.take 14 (.done))))))))))))))))))) (IC.reg r89_6))))
abbrev r89_7 : List IOp := [o1 27 (.faddr 2) [.t 2],
  o1 28 (.load none) [.t 27],
  mv 29 5,
  o1 30 (.iaddr 1) [.t 28, .t 29],
  o1 31 (.load none) [.t 30],
  mv 4 31]
abbrev c89 : IC := (IC.seq (IC.reg r89_0) (IC.seq (IC.reg r89_1) (IC.seq (IC.seq (IC.reg r89_2) (IC.block 0 (IC.loop b89_0))) (IC.seq (IC.reg r89_7) IC.ret))))
abbrev g89 : FC := ⟨c89, 32, [.t 4]⟩
theorem comp89 : compF Go.Proofs.Try.prog (hintL [(5, 6)]) 89 = some g89 := by kernel_rfl

-- outlaw/nfa.New
abbrev r90_0 : List IOp := [o1 4 (.mov) [.c (.nilp)],
  o1 5 (.mov) [.c (.int .i64 0)]]
abbrev r90_1 : List IOp := [mv 7 0,
  ca 8 [.f 49, .t 7],
  mv 6 8]
abbrev r90_2 : List IOp := [mv 9 6,
  o1 10 (.bin .neq .prim) [.t 9, .c (.int .i64 0)]]
abbrev r90_3 : List IOp := [mv 11 6,
  o1 4 (.mov) [.c (.nilp)],
  mv 5 11]
abbrev r90_4 : List IOp := [mv 12 0,
  ca 13 [.f 118, .t 12],
  mv 14 1,
  o1 15 (.bst [.str [], .bool false] [(0, 1), (1, 1)] [0, 1]) [.t 13, .t 14],
  o1 16 (.box 148) [.t 15],
  mv 4 16,
  o1 5 (.mov) [.c (.int .i64 0)]]
abbrev c90 : IC := (IC.seq (IC.reg r90_0) (IC.seq (IC.seq (IC.reg r90_1) (IC.seq (IC.reg r90_2) (IC.cond (.t 10) (IC.seq (IC.reg r90_3) IC.ret) IC.skip))) (IC.seq (IC.reg r90_4) IC.ret)))
abbrev g90 : FC := ⟨c90, 17, [.t 4, .t 5]⟩
theorem comp90 : compF Go.Proofs.Try.prog (fun _ => 0) 90 = some g90 := by kernel_rfl

-- (*outlaw/nfa.Nfa).Pattern
abbrev r91_0 : List IOp := [⟨some 2, .op (.mov), [.c (.str [])], none⟩,
  o1 3 (.mov) [.c (.bool false)]]
abbrev r91_1 : List IOp := [mv 4 0,
  o1 5 (.bin .eql .ptr) [.t 4, .c (.nilp)]]
abbrev r91_2 : List IOp := [⟨some 2, .op (.mov), [.c (.str [])], none⟩,
  o1 3 (.mov) [.c (.bool false)]]
abbrev r91_3 : List IOp := [mv 6 0,
  o1 7 (.nilchk) [.t 6],
  o1 8 (.faddr 0) [.t 7],
  o1 9 (.load none) [.t 8],
  mv 10 0,
  o1 11 (.nilchk) [.t 10],
  o1 12 (.faddr 1) [.t 11],
  o1 13 (.load none) [.t 12],
  mv 2 9,
  mv 3 13]
abbrev c91 : IC := (IC.seq (IC.reg r91_0) (IC.seq (IC.seq (IC.reg r91_1) (IC.cond (.t 5) (IC.seq (IC.reg r91_2) IC.ret) IC.skip)) (IC.seq (IC.regD .wild r91_3 (.take 0 (.take 1 (.take 2 (.take 3 (.take 4 (.take 5 (.take 6 (.take 7 (.take 8 (.take 9 (.done)))))))))))) IC.ret)))
abbrev g91 : FC := ⟨c91, 14, [.t 2, .t 3]⟩
theorem comp91 : compF Go.Proofs.Try.prog (hintL [(3, 6)]) 91 = some g91 := by kernel_rfl

-- outlaw/dfa.classes
abbrev r92_0 : List IOp := [o1 4 (.alloc 111 [.int .i64 0, .int .i64 0, .int .i64 0, .int .i64 0, .int .i64 0, .int .i64 0, .int .i64 0, .int .i64 0, .int .i64 0, .int .i64 0, .int .i64 0, .int .i64 0, .int .i64 0, .int .i64 0, .int .i64 0, .int .i64 0, .int .i64 0, .int .i64 0, .int .i64 0, .int .i64 0, .int .i64 0, .int .i64 0, .int .i64 0, .int .i64 0, .int .i64 0, .int .i64 0, .int .i64 0, .int .i64 0, .int .i64 0, .int .i64 0, .int .i64 0, .int .i64 0, .int .i64 0, .int .i64 0, .int .i64 0, .int .i64 0, .int .i64 0, .int .i64 0, .int .i64 0, .int .i64 0, .int .i64 0, .int .i64 0, .int .i64 0, .int .i64 0, .int .i64 0, .int .i64 0, .int .i64 0, .int .i64 0, .int .i64 0, .int .i64 0, .int .i64 0, .int .i64 0, .int .i64 0, .int .i64 0, .int .i64 0, .int .i64 0, .int .i64 0, .int .i64 0, .int .i64 0, .int .i64 0, .int .i64 0, .int .i64 0, .int .i64 0, .int .i64 0, .int .i64 0, .int .i64 0, .int .i64 0, .int .i64 0, .int .i64 0, .int .i64 0, .int .i64 0, .int .i64 0, .int .i64 0, .int .i64 0, .int .i64 0, .int .i64 0, .int .i64 0, .int .i64 0, .int .i64 0, .int .i64 0, .int .i64 0, .int .i64 0, .int .i64 0, .int .i64 0, .int .i64 0, .int .i64 0, .int .i64 0, .int .i64 0, .int .i64 0, .int .i64 0, .int .i64 0, .int .i64 0, .int .i64 0, .int .i64 0, .int .i64 0, .int .i64 0, .int .i64 0, .int .i64 0, .int .i64 0, .int .i64 0, .int .i64 0, .int .i64 0, .int .i64 0, .int .i64 0, .int .i64 0, .int .i64 0, .int .i64 0, .int .i64 0, .int .i64 0, .int .i64 0, .int .i64 0, .int .i64 0, .int .i64 0, .int .i64 0, .int .i64 0, .int .i64 0, .int .i64 0, .int .i64 0, .int .i64 0, .int .i64 0, .int .i64 0, .int .i64 0, .int .i64 0, .int .i64 0, .int .i64 0, .int .i64 0, .int .i64 0, .int .i64 0, .int .i64 0, .int .i64 0, .int .i64 0, .int .i64 0, .int .i64 0, .int .i64 0, .int .i64 0, .int .i64 0, .int .i64 0, .int .i64 0, .int .i64 0, .int .i64 0, .int .i64 0, .int .i64 0, .int .i64 0, .int .i64 0, .int .i64 0, .int .i64 0, .int .i64 0, .int .i64 0, .int .i64 0, .int .i64 0, .int .i64 0, .int .i64 0, .int .i64 0, .int .i64 0, .int .i64 0, .int .i64 0, .int .i64 0, .int .i64 0, .int .i64 0, .int .i64 0, .int .i64 0, .int .i64 0, .int .i64 0, .int .i64 0, .int .i64 0, .int .i64 0, .int .i64 0, .int .i64 0, .int .i64 0, .int .i64 0, .int .i64 0, .int .i64 0, .int .i64 0, .int .i64 0, .int .i64 0, .int .i64 0, .int .i64 0, .int .i64 0, .int .i64 0, .int .i64 0, .int .i64 0, .int .i64 0, .int .i64 0, .int .i64 0, .int .i64 0, .int .i64 0, .int .i64 0, .int .i64 0, .int .i64 0, .int .i64 0, .int .i64 0, .int .i64 0, .int .i64 0, .int .i64 0, .int .i64 0, .int .i64 0, .int .i64 0, .int .i64 0, .int .i64 0, .int .i64 0, .int .i64 0, .int .i64 0, .int .i64 0, .int .i64 0, .int .i64 0, .int .i64 0, .int .i64 0, .int .i64 0, .int .i64 0, .int .i64 0, .int .i64 0, .int .i64 0, .int .i64 0, .int .i64 0, .int .i64 0, .int .i64 0, .int .i64 0, .int .i64 0, .int .i64 0, .int .i64 0, .int .i64 0, .int .i64 0, .int .i64 0, .int .i64 0, .int .i64 0, .int .i64 0, .int .i64 0, .int .i64 0, .int .i64 0, .int .i64 0, .int .i64 0, .int .i64 0, .int .i64 0, .int .i64 0, .int .i64 0, .int .i64 0, .int .i64 0, .int .i64 0, .int .i64 0, .int .i64 0, .int .i64 0, .int .i64 0, .int .i64 0, .int .i64 0, .int .i64 0, .int .i64 0, .int .i64 0, .int .i64 0, .int .i64 0, .int .i64 0, .int .i64 0, .int .i64 0, .int .i64 0, .int .i64 0, .int .i64 0, .int .i64 0]) [],
  o1 5 (.mov) [.c (.nils)]]
abbrev r92_1 : List IOp := [o1 6 (.mov) [.f 119]]
abbrev r92_2 : List IOp := [mv 16 1]
abbrev r92_3 : List IOp := [o1 6 (.mov) [.f 120]]
abbrev r92_4 : List IOp := [o1 7 (.mov) [.c (.nils)]]
abbrev r92_5 : List IOp := [mv 17 0,
  o1 18 (.len .str) [.t 17],
  o1 19 (.mov) [.c (.int .i64 0)]]
abbrev r92_6 : List IOp := [o1 20 (.bin .lss .prim) [.t 19, .t 18]]
abbrev r92_7 : List IOp := [mv 21 19,
  mv 8 21]
abbrev r92_8 : List IOp := [mv 22 0,
  mv 23 8,
  o1 24 (.idxs) [.t 22, .t 23],
  o1 25 (.bin .neq .prim) [.t 24, .c (.int .u8 42)],
  mv 26 25,
  o2 27 (.mov) [.t 0] 26 true,
  o2 28 (.mov) [.t 8] 26 true,
  o2 29 (.idxs) [.t 27, .t 28] 26 true,
  o2 30 (.bin .neq .prim) [.t 29, .c (.int .u8 63)] 26 true,
  o1 31 (.pick) [.t 26, .t 30, .c (.bool false)]]
abbrev r92_9 : List IOp := [mv 32 7,
  mv 33 6,
  mv 34 0,
  mv 35 8,
  o1 36 (.idxs) [.t 34, .t 35],
  ca 37 [.t 33, .t 36],
  o1 38 (.bsl 5 1 false) [.t 37],
  o1 39 (.app 5 1 1) [.t 32, .t 38],
  mv 7 39]
abbrev r92_10 : List IOp := [o1 40 (.bin .add .prim) [.t 19, .c (.int .i64 1)],
  mv 19 40]
abbrev b92_0 : IC := (IC.seq (IC.reg r92_6) (IC.seq (IC.cond (.t 20) IC.skip (IC.exit 0)) (IC.seq (IC.block 1 (IC.seq (IC.reg r92_7) (IC.seq (IC.reg r92_8) (IC.cond (.t 31) (IC.reg r92_9) IC.skip)))) (IC.reg r92_10))))
abbrev r92_11 : List IOp := [mv 41 7,
  ca 42 [.f 122, .t 41]]
abbrev r92_12 : List IOp := [mv 43 7,
  ca 44 [.f 123, .t 43],
  mv 7 44]
abbrev r92_13 : List IOp := [o1 9 (.alloc 111 [.int .i64 0, .int .i64 0, .int .i64 0, .int .i64 0, .int .i64 0, .int .i64 0, .int .i64 0, .int .i64 0, .int .i64 0, .int .i64 0, .int .i64 0, .int .i64 0, .int .i64 0, .int .i64 0, .int .i64 0, .int .i64 0, .int .i64 0, .int .i64 0, .int .i64 0, .int .i64 0, .int .i64 0, .int .i64 0, .int .i64 0, .int .i64 0, .int .i64 0, .int .i64 0, .int .i64 0, .int .i64 0, .int .i64 0, .int .i64 0, .int .i64 0, .int .i64 0, .int .i64 0, .int .i64 0, .int .i64 0, .int .i64 0, .int .i64 0, .int .i64 0, .int .i64 0, .int .i64 0, .int .i64 0, .int .i64 0, .int .i64 0, .int .i64 0, .int .i64 0, .int .i64 0, .int .i64 0, .int .i64 0, .int .i64 0, .int .i64 0, .int .i64 0, .int .i64 0, .int .i64 0, .int .i64 0, .int .i64 0, .int .i64 0, .int .i64 0, .int .i64 0, .int .i64 0, .int .i64 0, .int .i64 0, .int .i64 0, .int .i64 0, .int .i64 0, .int .i64 0, .int .i64 0, .int .i64 0, .int .i64 0, .int .i64 0, .int .i64 0, .int .i64 0, .int .i64 0, .int .i64 0, .int .i64 0, .int .i64 0, .int .i64 0, .int .i64 0, .int .i64 0, .int .i64 0, .int .i64 0, .int .i64 0, .int .i64 0, .int .i64 0, .int .i64 0, .int .i64 0, .int .i64 0, .int .i64 0, .int .i64 0, .int .i64 0, .int .i64 0, .int .i64 0, .int .i64 0, .int .i64 0, .int .i64 0, .int .i64 0, .int .i64 0, .int .i64 0, .int .i64 0, .int .i64 0, .int .i64 0, .int .i64 0, .int .i64 0, .int .i64 0, .int .i64 0, .int .i64 0, .int .i64 0, .int .i64 0, .int .i64 0, .int .i64 0, .int .i64 0, .int .i64 0, .int .i64 0, .int .i64 0, .int .i64 0, .int .i64 0, .int .i64 0, .int .i64 0, .int .i64 0, .int .i64 0, .int .i64 0, .int .i64 0, .int .i64 0, .int .i64 0, .int .i64 0, .int .i64 0, .int .i64 0, .int .i64 0, .int .i64 0, .int .i64 0, .int .i64 0, .int .i64 0, .int .i64 0, .int .i64 0, .int .i64 0, .int .i64 0, .int .i64 0, .int .i64 0, .int .i64 0, .int .i64 0, .int .i64 0, .int .i64 0, .int .i64 0, .int .i64 0, .int .i64 0, .int .i64 0, .int .i64 0, .int .i64 0, .int .i64 0, .int .i64 0, .int .i64 0, .int .i64 0, .int .i64 0, .int .i64 0, .int .i64 0, .int .i64 0, .int .i64 0, .int .i64 0, .int .i64 0, .int .i64 0, .int .i64 0, .int .i64 0, .int .i64 0, .int .i64 0, .int .i64 0, .int .i64 0, .int .i64 0, .int .i64 0, .int .i64 0, .int .i64 0, .int .i64 0, .int .i64 0, .int .i64 0, .int .i64 0, .int .i64 0, .int .i64 0, .int .i64 0, .int .i64 0, .int .i64 0, .int .i64 0, .int .i64 0, .int .i64 0, .int .i64 0, .int .i64 0, .int .i64 0, .int .i64 0, .int .i64 0, .int .i64 0, .int .i64 0, .int .i64 0, .int .i64 0, .int .i64 0, .int .i64 0, .int .i64 0, .int .i64 0, .int .i64 0, .int .i64 0, .int .i64 0, .int .i64 0, .int .i64 0, .int .i64 0, .int .i64 0, .int .i64 0, .int .i64 0, .int .i64 0, .int .i64 0, .int .i64 0, .int .i64 0, .int .i64 0, .int .i64 0, .int .i64 0, .int .i64 0, .int .i64 0, .int .i64 0, .int .i64 0, .int .i64 0, .int .i64 0, .int .i64 0, .int .i64 0, .int .i64 0, .int .i64 0, .int .i64 0, .int .i64 0, .int .i64 0, .int .i64 0, .int .i64 0, .int .i64 0, .int .i64 0, .int .i64 0, .int .i64 0, .int .i64 0, .int .i64 0, .int .i64 0, .int .i64 0, .int .i64 0, .int .i64 0, .int .i64 0, .int .i64 0, .int .i64 0, .int .i64 0, .int .i64 0, .int .i64 0, .int .i64 0, .int .i64 0, .int .i64 0, .int .i64 0, .int .i64 0, .int .i64 0, .int .i64 0, .int .i64 0, .int .i64 0, .int .i64 0, .int .i64 0, .int .i64 0, .int .i64 0, .int .i64 0, .int .i64 0]) []]
abbrev r92_14 : List IOp := [o1 45 (.bsl 3 1 false) [.c (.int .i64 (-1))],
  mv 10 45]
abbrev r92_15 : List IOp := [mv 46 7,
  o1 47 (.len .slice) [.t 46],
  o1 48 (.mov) [.c (.int .i64 0)]]
abbrev r92_16 : List IOp := [o1 49 (.bin .lss .prim) [.t 48, .t 47]]
abbrev r92_17 : List IOp := [o1 50 (.iaddr 1) [.t 46, .t 48],
  o1 51 (.load none) [.t 50],
  mv 12 51]
abbrev r92_18 : List IOp := [mv 52 10,
  mv 53 12,
  o1 54 (.toInt .i64) [.t 53],
  o1 55 (.bsl 3 1 false) [.t 54],
  o1 56 (.app 3 1 8) [.t 52, .t 55],
  mv 10 56]
abbrev r92_19 : List IOp := [o1 57 (.bin .add .prim) [.t 48, .c (.int .i64 1)],
  mv 48 57]
abbrev b92_1 : IC := (IC.seq (IC.reg r92_16) (IC.seq (IC.cond (.t 49) IC.skip (IC.exit 2)) (IC.seq (IC.block 3 (IC.seq (IC.reg r92_17) (IC.reg r92_18))) (IC.reg r92_19))))
abbrev r92_20 : List IOp := [o1 58 (.mov) [.c (.int .i64 0)]]
abbrev r92_21 : List IOp := [o1 59 (.bin .lss .prim) [.t 58, .c (.int .i64 256)]]
abbrev r92_22 : List IOp := [mv 60 58,
  mv 13 60]
abbrev r92_23 : List IOp := [mv 62 7,
  mv 63 6,
  mv 64 13,
  o1 65 (.toInt .u8) [.t 64],
  ca 66 [.t 63, .t 65],
  ca 67 [.f 124, .t 62, .t 66],
  mv 61 67,
  o1 68 (.extract 0) [.t 61],
  o1 69 (.extract 1) [.t 61],
  mv 14 68,
  mv 15 69]
abbrev r92_24 : List IOp := [mv 70 15]
abbrev r92_25 : List IOp := [mv 71 13,
  mv 72 14,
  o1 73 (.bin .add .prim) [.t 72, .c (.int .i64 1)],
  o1 74 (.aaddr 256 1) [.t 9, .t 71],
  sr 1 [.t 74, .t 73]]
abbrev r92_26 : List IOp := [mv 75 10,
  mv 76 13,
  o1 77 (.iaddr 1) [.t 75, .c (.int .i64 0)],
  sr 1 [.t 77, .t 76]]
abbrev r92_27 : List IOp := [o1 78 (.bin .add .prim) [.t 58, .c (.int .i64 1)],
  mv 58 78]
abbrev b92_2 : IC := (IC.seq (IC.reg r92_21) (IC.seq (IC.cond (.t 59) IC.skip (IC.exit 4)) (IC.seq (IC.block 5 (IC.seq (IC.reg r92_22) (IC.seq (IC.reg r92_23) (IC.seq (IC.reg r92_24) (IC.cond (.t 70) (IC.reg r92_25) (IC.reg r92_26)))))) (IC.reg r92_27))))
abbrev r92_28 : List IOp := [o1 79 (.load (some 256)) [.t 9],
  mv 80 10,
  sr 256 [.t 4, .t 79],
  mv 5 80]
abbrev c92 : IC := (IC.seq (IC.reg r92_0) (IC.seq (IC.reg r92_1) (IC.seq (IC.seq (IC.reg r92_2) (IC.cond (.t 16) (IC.reg r92_3) IC.skip)) (IC.seq (IC.reg r92_4) (IC.seq (IC.seq (IC.reg r92_5) (IC.block 0 (IC.loop b92_0))) (IC.seq (IC.reg r92_11) (IC.seq (IC.reg r92_12) (IC.seq (IC.reg r92_13) (IC.seq (IC.reg r92_14) (IC.seq (IC.seq (IC.reg r92_15) (IC.block 2 (IC.loop b92_1))) (IC.seq (IC.seq (IC.reg r92_20) (IC.block 4 (IC.loop b92_2))) (IC.seq (IC.reg r92_28) IC.ret))))))))))))
abbrev g92 : FC := ⟨c92, 81, [.cell 4 (some 256), .t 5]⟩
theorem comp92 : compF Go.Proofs.Try.prog (fun _ => 0) 92 = some g92 := by kernel_rfl

-- outlaw/dfa.Build$1
abbrev r93_0 : List IOp := [o1 4 (.mov) [.c (.int .i64 0)]]
abbrev r93_1 : List IOp := [o1 8 (.load none) [.t 1],
  mv 9 0,
  ca 10 [.f 94, .t 9],
  o1 11 (.look .str (.agg [.int .i64 0]) true) [.t 8, .t 10],
  mv 7 11,
  o1 12 (.extract 0) [.t 7],
  o1 13 (.extract 1) [.t 7],
  o1 5 (.alloc 116 [.int .i64 0]) [],
  sr 1 [.t 5, .t 12],
  mv 6 13]
abbrev r93_2 : List IOp := [mv 14 6,
  o1 15 (.un .not) [.t 14]]
abbrev r93_3 : List IOp := [o1 16 (.load none) [.t 2],
  o1 17 (.len .slice) [.t 16],
  o1 18 (.bst [.int .i64 0] [(0, 1)] [0]) [.t 17],
  sr 1 [.t 5, .t 18]]
abbrev r93_4 : List IOp := [o1 19 (.load none) [.t 1],
  mv 20 0,
  ca 21 [.f 94, .t 20],
  o1 22 (.load (some 1)) [.t 5],
  ⟨none, .op (.mapup .str), [.t 19, .t 21, .t 22], none⟩]
abbrev r93_5 : List IOp := [o1 23 (.load none) [.t 2],
  mv 24 0,
  o1 25 (.bsl 65 1 false) [.t 24],
  o1 26 (.app 65 1 24) [.t 23, .t 25],
  sr 1 [.t 2, .t 26]]
abbrev r93_6 : List IOp := [o1 27 (.faddr 0) [.t 5],
  o1 28 (.load none) [.t 27],
  mv 4 28]
abbrev c93 : IC := (IC.seq (IC.reg r93_0) (IC.seq (IC.regD .wild r93_1 (.take 1 (.fork [(0, .fork [(2, .take 3 (.take 4 (.take 5 (.take 6 (.take 7 (.take 8 (.take 9 (.done)))))))), (7, .take 2 (.take 3 (.take 4 (.take 5 (.take 6 (.take 8 (.take 9 (.done))))))))]), (2, .take 0 (.take 3 (.take 4 (.take 5 (.take 6 (.take 7 (.take 8 (.take 9 (.done))))))))), (7, .fork [(0, .take 2 (.take 3 (.take 4 (.take 5 (.take 6 (.take 8 (.take 9 (.done)))))))), (2, .take 0 (.take 3 (.take 4 (.take 5 (.take 6 (.take 8 (.take 9 (.done))))))))])]))) (IC.seq (IC.seq (IC.reg r93_2) (IC.cond (.t 15) (IC.seq (IC.reg r93_3) (IC.seq (IC.regD .alloc r93_4 (.take 0 (.take 1 (.take 3 (.take 2 (.take 4 (.done))))))) (IC.reg r93_5))) IC.skip)) (IC.seq (IC.reg r93_6) IC.ret))))
abbrev g93 : FC := ⟨c93, 29, [.t 4]⟩
theorem comp93 : compF Go.Proofs.Try.prog (hintL [(1, 6), (4, 7)]) 93 = some g93 := by kernel_rfl

-- (*outlaw/nfa.Nfa).Start
abbrev r95_0 : List IOp := [o1 2 (.mov) [.c (.nils)]]
abbrev r95_1 : List IOp := [mv 3 0,
  ca 4 [.f 125, .t 3],
  ca 5 [.f 126, .t 4],
  mv 2 5]
abbrev c95 : IC := (IC.seq (IC.reg r95_0) (IC.seq (IC.reg r95_1) IC.ret))
abbrev g95 : FC := ⟨c95, 6, [.t 2]⟩
theorem comp95 : compF Go.Proofs.Try.prog (fun _ => 0) 95 = some g95 := by kernel_rfl

-- (*outlaw/nfa.Nfa).Step
abbrev r96_0 : List IOp := [o1 6 (.mov) [.c (.nils)]]
abbrev r96_1 : List IOp := [mv 7 0,
  mv 8 0,
  mv 9 1,
  ca 10 [.f 128, .t 8, .t 9],
  mv 11 2,
  ca 12 [.f 127, .t 7, .t 10, .t 11],
  ca 13 [.f 126, .t 12],
  mv 6 13]
abbrev c96 : IC := (IC.seq (IC.reg r96_0) (IC.seq (IC.reg r96_1) IC.ret))
abbrev g96 : FC := ⟨c96, 14, [.t 6]⟩
theorem comp96 : compF Go.Proofs.Try.prog (fun _ => 0) 96 = some g96 := by kernel_rfl

-- (*outlaw/nfa.Nfa).Accepts
abbrev r97_0 : List IOp := [o1 4 (.mov) [.c (.bool false)]]
abbrev r97_1 : List IOp := [mv 6 0,
  mv 7 1,
  ca 8 [.f 128, .t 6, .t 7],
  mv 5 8]
abbrev r97_2 : List IOp := [mv 9 5,
  o1 10 (.len .slice) [.t 9],
  o1 11 (.bin .gtr .prim) [.t 10, .c (.int .i64 0)],
  mv 12 11,
  o2 13 (.mov) [.t 5] 12 true,
  o2 14 (.mov) [.t 5] 12 true,
  o2 15 (.len .slice) [.t 14] 12 true,
  o2 16 (.bin .sub .prim) [.t 15, .c (.int .i64 1)] 12 true,
  o2 17 (.iaddr 1) [.t 13, .t 16] 12 true,
  o2 18 (.load none) [.t 17] 12 true,
  o1 19 (.pick) [.t 12, .t 18, .c (.bool false)],
  mv 4 19]
abbrev c97 : IC := (IC.seq (IC.reg r97_0) (IC.seq (IC.reg r97_1) (IC.seq (IC.reg r97_2) IC.ret)))
abbrev g97 : FC := ⟨c97, 20, [.t 4]⟩
theorem comp97 : compF Go.Proofs.Try.prog (fun _ => 0) 97 = some g97 := by kernel_rfl

-- slices.Equal[[]int,int]
-- slices.EqualFunc[[][]int,[][]int,[]int,[]int]
-- slices.Equal[[]bool,bool]
-- (outlaw/dfa.table).states
abbrev r189_0 : List IOp := [o1 1 (.box 127) [.t 0],
  o1 2 (.mov) [.c (.int .i64 0)]]
abbrev r189_1 : List IOp := [o1 3 (.faddr 0) [.t 1],
  o1 4 (.faddr 1) [.t 3],
  o1 5 (.load none) [.t 4],
  o1 6 (.len .slice) [.t 5],
  mv 2 6]
abbrev c189 : IC := (IC.seq (IC.reg r189_0) (IC.seq (IC.reg r189_1) IC.ret))
abbrev g189 : FC := ⟨c189, 7, [.t 2]⟩
theorem comp189 : compF Go.Proofs.Try.prog (fun _ => 0) 189 = some g189 := by kernel_rfl

-- (outlaw/dfa.rows).states
abbrev r191_0 : List IOp := [o1 1 (.box 133) [.t 0],
  o1 2 (.mov) [.c (.int .i64 0)]]
abbrev r191_1 : List IOp := [o1 2 (.mov) [.c (.int .i64 0)]]
abbrev c191 : IC := (IC.seq (IC.reg r191_0) (IC.seq (IC.reg r191_1) IC.ret))
abbrev g191 : FC := ⟨c191, 3, [.t 2]⟩
theorem comp191 : compF Go.Proofs.Try.prog (fun _ => 0) 191 = some g191 := by kernel_rfl

-- outlaw/glob.Match$1
abbrev r101_0 : List IOp := [o1 4 (.mov) [.c (.bool false)]]
abbrev r101_1 : List IOp := [mv 5 0,
  mv 6 1,
  o1 7 (.bin .eql .prim) [.t 5, .t 6],
  mv 4 7]
abbrev c101 : IC := (IC.seq (IC.reg r101_0) (IC.seq (IC.reg r101_1) IC.ret))
abbrev g101 : FC := ⟨c101, 8, [.t 4]⟩
theorem comp101 : compF Go.Proofs.Try.prog (fun _ => 0) 101 = some g101 := by kernel_rfl

-- outlaw/glob.Match$2
abbrev r102_0 : List IOp := [o1 4 (.mov) [.c (.bool false)]]
abbrev r102_1 : List IOp := [mv 5 0,
  ca 6 [.f 103, .t 5],
  mv 7 1,
  ca 8 [.f 103, .t 7],
  o1 9 (.bin .eql .prim) [.t 6, .t 8],
  mv 4 9]
abbrev c102 : IC := (IC.seq (IC.reg r102_0) (IC.seq (IC.reg r102_1) IC.ret))
abbrev g102 : FC := ⟨c102, 10, [.t 4]⟩
theorem comp102 : compF Go.Proofs.Try.prog (fun _ => 0) 102 = some g102 := by kernel_rfl

-- (outlaw/dfa.table).match
abbrev r188_0 : List IOp := [o1 2 (.box 127) [.t 0],
  o1 4 (.mov) [.c (.bool false)]]
abbrev r188_1 : List IOp := [o1 5 (.faddr 0) [.t 2],
  o1 6 (.load (some 3)) [.t 5],
  mv 7 1,
  ca 8 [.f 89, .t 6, .t 7],
  mv 4 8]
abbrev c188 : IC := (IC.seq (IC.reg r188_0) (IC.seq (IC.reg r188_1) IC.ret))
abbrev g188 : FC := ⟨c188, 9, [.t 4]⟩
theorem comp188 : compF Go.Proofs.Try.prog (fun _ => 0) 188 = some g188 := by kernel_rfl

-- (outlaw/dfa.rows).match
abbrev r190_0 : List IOp := [o1 2 (.box 133) [.t 0],
  o1 4 (.mov) [.c (.bool false)]]
abbrev r190_1 : List IOp := [o1 5 (.faddr 0) [.t 2],
  o1 6 (.load none) [.t 5],
  mv 7 1,
  ca 8 [.f 192, .t 6, .t 7],
  mv 4 8]
abbrev c190 : IC := (IC.seq (IC.reg r190_0) (IC.seq (IC.reg r190_1) IC.ret))
abbrev g190 : FC := ⟨c190, 9, [.t 4]⟩
theorem comp190 : compF Go.Proofs.Try.prog (fun _ => 0) 190 = some g190 := by kernel_rfl

-- slices.IndexFunc[[]int,int]
abbrev r117_0 : List IOp := [o1 4 (.mov) [.c (.int .i64 0)]]
abbrev r117_1 : List IOp := [mv 6 0,
  o1 7 (.len .slice) [.t 6],
  o1 8 (.mov) [.c (.int .i64 0)]]
abbrev r117_2 : List IOp := [o1 9 (.bin .lss .prim) [.t 8, .t 7]]
abbrev r117_3 : List IOp := [mv 10 8,
  mv 5 10]
abbrev r117_4 : List IOp := [mv 11 1,
  mv 12 0,
  mv 13 5,
  o1 14 (.iaddr 1) [.t 12, .t 13],
  o1 15 (.load none) [.t 14],
  ca 16 [.t 11, .t 15]]
abbrev r117_5 : List IOp := [mv 17 5,
  mv 4 17]
abbrev r117_6 : List IOp := [o1 18 (.bin .add .prim) [.t 8, .c (.int .i64 1)],
  mv 8 18]
abbrev b117_0 : IC := (IC.seq (IC.reg r117_2) (IC.seq (IC.cond (.t 9) IC.skip (IC.exit 0)) (IC.seq (IC.block 1 (IC.seq (IC.reg r117_3) (IC.seq (IC.reg r117_4) (IC.cond (.t 16) (IC.seq (IC.reg r117_5) IC.ret) IC.skip)))) (IC.reg r117_6))))
abbrev r117_7 : List IOp := [o1 4 (.mov) [.c (.int .i64 (-1))]]
abbrev c117 : IC := (IC.seq (IC.reg r117_0) (IC.seq (IC.seq (IC.reg r117_1) (IC.block 0 (IC.loop b117_0))) (IC.seq (IC.reg r117_7) IC.ret)))
abbrev g117 : FC := ⟨c117, 19, [.t 4]⟩
theorem comp117 : compF Go.Proofs.Try.prog (fun _ => 0) 117 = some g117 := by kernel_rfl

-- outlaw/glob.Norm
abbrev r118_0 : List IOp := [⟨some 2, .op (.mov), [.c (.str [])], none⟩]
abbrev r118_1 : List IOp := [o1 3 (.mov) [.c (.nils)]]
abbrev r118_2 : List IOp := [o1 4 (.mov) [.c (.int .i64 0)]]
abbrev r118_3 : List IOp := [mv 7 4,
  mv 8 0,
  o1 9 (.len .str) [.t 8],
  o1 10 (.bin .lss .prim) [.t 7, .t 9]]
abbrev r118_4 : List IOp := [mv 11 4,
  mv 5 11]
abbrev r118_5 : List IOp := [mv 12 5,
  mv 13 0,
  o1 14 (.len .str) [.t 13],
  o1 15 (.bin .lss .prim) [.t 12, .t 14],
  mv 16 15,
  o2 17 (.mov) [.t 0] 16 true,
  o2 18 (.mov) [.t 5] 16 true,
  o2 19 (.idxs) [.t 17, .t 18] 16 true,
  o2 20 (.bin .eql .prim) [.t 19, .c (.int .u8 42)] 16 true,
  o2 21 (.mov) [.t 20] 16 true,
  o2 22 (.mov) [.t 0] 21 false,
  o2 23 (.mov) [.t 5] 21 false,
  o2 24 (.idxs) [.t 22, .t 23] 21 false,
  o2 25 (.bin .eql .prim) [.t 24, .c (.int .u8 63)] 21 false,
  o2 26 (.pick) [.t 21, .c (.bool true), .t 25] 16 true,
  o1 27 (.pick) [.t 16, .t 26, .c (.bool false)]]
abbrev r118_6 : List IOp := [mv 28 5,
  o1 29 (.bin .add .prim) [.t 28, .c (.int .i64 1)],
  mv 5 29]
abbrev b118_0 : IC := (IC.seq (IC.seq (IC.reg r118_5) (IC.cond (.t 27) IC.skip (IC.exit 2))) (IC.block 3 (IC.reg r118_6)))
abbrev r118_7 : List IOp := [mv 30 5,
  mv 31 4,
  o1 32 (.bin .eql .prim) [.t 30, .t 31]]
abbrev r118_8 : List IOp := [mv 33 3,
  mv 34 0,
  mv 35 4,
  o1 36 (.idxs) [.t 34, .t 35],
  o1 37 (.bsl 5 1 false) [.t 36],
  o1 38 (.app 5 1 1) [.t 33, .t 37],
  mv 3 38]
abbrev r118_9 : List IOp := [mv 39 4,
  o1 40 (.bin .add .prim) [.t 39, .c (.int .i64 1)],
  mv 4 40]
abbrev r118_10 : List IOp := [mv 41 0,
  mv 42 4,
  mv 43 5,
  o1 44 (.sslice true true false) [.t 41, .t 42, .t 43],
  o1 45 (.s2b 5) [.t 44],
  o1 46 (.bsl 5 1 false) [.c (.int .u8 63)],
  o1 47 (.cvs) [.t 46],
  ca 48 [.f 131, .t 45, .t 47],
  mv 6 48]
abbrev r118_11 : List IOp := [mv 49 3,
  o1 50 (.bsl 5 1 false) [.c (.int .u8 63)],
  o1 51 (.cvs) [.t 50],
  mv 52 6,
  ca 53 [.f 132, .t 51, .t 52],
  o1 54 (.app 5 1 1) [.t 49, .t 53],
  mv 3 54]
abbrev r118_12 : List IOp := [mv 55 6,
  mv 56 5,
  mv 57 4,
  o1 58 (.bin .sub .prim) [.t 56, .t 57],
  o1 59 (.bin .lss .prim) [.t 55, .t 58]]
abbrev r118_13 : List IOp := [mv 60 3,
  o1 61 (.bsl 5 1 false) [.c (.int .u8 42)],
  o1 62 (.app 5 1 1) [.t 60, .t 61],
  mv 3 62]
abbrev r118_14 : List IOp := [mv 63 5,
  mv 4 63]
abbrev b118_1 : IC := (IC.seq (IC.seq (IC.reg r118_3) (IC.cond (.t 10) IC.skip (IC.exit 0))) (IC.block 1 (IC.seq (IC.reg r118_4) (IC.seq (IC.block 2 (IC.loop b118_0)) (IC.seq (IC.seq (IC.reg r118_7) (IC.cond (.t 32) (IC.seq (IC.reg r118_8) (IC.seq (IC.reg r118_9) (IC.exit 1))) IC.skip)) (IC.seq (IC.reg r118_10) (IC.seq (IC.reg r118_11) (IC.seq (IC.seq (IC.reg r118_12) (IC.cond (.t 59) (IC.reg r118_13) IC.skip)) (IC.reg r118_14)))))))))
abbrev r118_15 : List IOp := [mv 64 3,
  o1 65 (.b2s) [.t 64],
  mv 2 65]
abbrev c118 : IC := (IC.seq (IC.reg r118_0) (IC.seq (IC.reg r118_1) (IC.seq (IC.seq (IC.reg r118_2) (IC.block 0 (IC.loop b118_1))) (IC.seq (IC.reg r118_15) IC.ret))))
abbrev g118 : FC := ⟨c118, 66, [.t 2]⟩
theorem comp118 : compF Go.Proofs.Try.prog (fun _ => 0) 118 = some g118 := by kernel_rfl

-- outlaw/dfa.classes$1
abbrev r119_0 : List IOp := [o1 2 (.mov) [.c (.int .u8 0)]]
abbrev r119_1 : List IOp := [mv 3 0,
  mv 2 3]
abbrev c119 : IC := (IC.seq (IC.reg r119_0) (IC.seq (IC.reg r119_1) IC.ret))
abbrev g119 : FC := ⟨c119, 4, [.t 2]⟩
theorem comp119 : compF Go.Proofs.Try.prog (fun _ => 0) 119 = some g119 := by kernel_rfl

-- outlaw/dfa.classes$2
abbrev r120_0 : List IOp := [o1 2 (.mov) [.c (.int .u8 0)]]
abbrev r120_1 : List IOp := [mv 3 0,
  o1 4 (.bsl 5 1 false) [.t 3],
  o1 5 (.b2s) [.t 4],
  ca 6 [.f 121, .t 5],
  o1 7 (.idxs) [.t 6, .c (.int .i64 0)],
  mv 2 7]
abbrev c120 : IC := (IC.seq (IC.reg r120_0) (IC.seq (IC.reg r120_1) IC.ret))
abbrev g120 : FC := ⟨c120, 8, [.t 2]⟩
theorem comp120 : compF Go.Proofs.Try.prog (fun _ => 0) 120 = some g120 := by kernel_rfl

-- slices.Sort[[]byte,byte]
abbrev r122_0 : List IOp := [mv 3 0,
  o1 4 (.len .slice) [.t 3],
  mv 2 4]
abbrev r122_1 : List IOp := [mv 5 0,
  mv 6 2,
  mv 7 2,
  o1 8 (.toInt .u64) [.t 7],
  ca 9 [.f 134, .t 8],
  ca 10 [.f 133, .t 5, .c (.int .i64 0), .t 6, .t 9]]
abbrev c122 : IC := (IC.seq (IC.reg r122_0) (IC.reg r122_1))
abbrev g122 : FC := ⟨c122, 11, []⟩
theorem comp122 : compF Go.Proofs.Try.prog (fun _ => 0) 122 = some g122 := by kernel_rfl

-- slices.Compact[[]byte,byte]
abbrev r123_0 : List IOp := [o1 2 (.mov) [.c (.nils)]]
abbrev r123_1 : List IOp := [mv 6 0,
  o1 7 (.len .slice) [.t 6],
  o1 8 (.bin .lss .prim) [.t 7, .c (.int .i64 2)]]
abbrev r123_2 : List IOp := [mv 9 0,
  mv 2 9]
abbrev r123_3 : List IOp := [o1 3 (.mov) [.c (.int .i64 1)]]
abbrev r123_4 : List IOp := [mv 10 3,
  mv 11 0,
  o1 12 (.len .slice) [.t 11],
  o1 13 (.bin .lss .prim) [.t 10, .t 12]]
abbrev r123_5 : List IOp := [mv 16 0,
  mv 17 3,
  o1 18 (.iaddr 1) [.t 16, .t 17],
  o1 19 (.load none) [.t 18],
  mv 20 0,
  mv 21 3,
  o1 22 (.bin .sub .prim) [.t 21, .c (.int .i64 1)],
  o1 23 (.iaddr 1) [.t 20, .t 22],
  o1 24 (.load none) [.t 23],
  o1 25 (.bin .eql .prim) [.t 19, .t 24]]
abbrev r123_6 : List IOp := [mv 26 0,
  mv 27 3,
  o1 28 (.slice 1 true false false) [.t 26, .t 27],
  mv 4 28]
abbrev r123_7 : List IOp := [o1 5 (.mov) [.c (.int .i64 1)]]
abbrev r123_8 : List IOp := [mv 29 5,
  mv 30 4,
  o1 31 (.len .slice) [.t 30],
  o1 32 (.bin .lss .prim) [.t 29, .t 31]]
abbrev r123_9 : List IOp := [mv 35 4,
  mv 36 5,
  o1 37 (.iaddr 1) [.t 35, .t 36],
  o1 38 (.load none) [.t 37],
  mv 39 4,
  mv 40 5,
  o1 41 (.bin .sub .prim) [.t 40, .c (.int .i64 1)],
  o1 42 (.iaddr 1) [.t 39, .t 41],
  o1 43 (.load none) [.t 42],
  o1 44 (.bin .neq .prim) [.t 38, .t 43]]
abbrev r123_10 : List IOp := [mv 45 0,
  mv 46 3,
  mv 47 4,
  mv 48 5,
  o1 49 (.iaddr 1) [.t 47, .t 48],
  o1 50 (.load none) [.t 49],
  o1 51 (.iaddr 1) [.t 45, .t 46],
  sr 1 [.t 51, .t 50]]
abbrev r123_11 : List IOp := [mv 52 3,
  o1 53 (.bin .add .prim) [.t 52, .c (.int .i64 1)],
  mv 3 53]
abbrev r123_12 : List IOp := [mv 33 5,
  o1 34 (.bin .add .prim) [.t 33, .c (.int .i64 1)],
  mv 5 34]
abbrev b123_0 : IC := (IC.seq (IC.seq (IC.reg r123_8) (IC.cond (.t 32) IC.skip (IC.exit 2))) (IC.seq (IC.block 3 (IC.seq (IC.regD .wild r123_9 (.take 0 (.take 1 (.take 2 (.take 3 (.take 4 (.take 5 (.take 6 (.take 7 (.take 8 (.take 9 (.done)))))))))))) (IC.cond (.t 44) (IC.seq (IC.reg r123_10) (IC.reg r123_11)) IC.skip))) (IC.reg r123_12)))
abbrev r123_13 : List IOp := [mv 54 0,
  mv 55 3,
  o1 56 (.slice 1 true false false) [.t 54, .t 55],
  ⟨none, .op (.clear [.int .u8 0]), [.t 56], none⟩]
abbrev r123_14 : List IOp := [mv 57 0,
  mv 58 3,
  o1 59 (.slice 1 false true false) [.t 57, .t 58],
  mv 2 59]
abbrev r123_15 : List IOp := [mv 14 3,
  o1 15 (.bin .add .prim) [.t 14, .c (.int .i64 1)],
  mv 3 15]
abbrev b123_1 : IC := (IC.seq (IC.seq (IC.reg r123_4) (IC.cond (.t 13) IC.skip (IC.exit 0))) (IC.seq (IC.block 1 (IC.seq (IC.regD .wild r123_5 (.take 0 (.take 1 (.take 2 (.take 3 (.take 4 (.take 5 (.take 6 (.take 7 (.take 8 (.take 9 (.done)))))))))))) (IC.cond (.t 25) (IC.seq (IC.reg r123_6) (IC.seq (IC.seq (IC.reg r123_7) (IC.block 2 (IC.loop b123_0))) (IC.seq (IC.reg r123_13) (IC.seq (IC.reg r123_14) IC.ret)))) IC.skip))) (IC.reg r123_15)))
abbrev r123_16 : List IOp := [mv 60 0,
  mv 2 60]
abbrev c123 : IC := (IC.seq (IC.reg r123_0) (IC.seq (IC.seq (IC.reg r123_1) (IC.cond (.t 8) (IC.seq (IC.reg r123_2) IC.ret) IC.skip)) (IC.seq (IC.seq (IC.reg r123_3) (IC.block 0 (IC.loop b123_1))) (IC.seq (IC.reg r123_16) IC.ret))))
abbrev g123 : FC := ⟨c123, 61, [.t 2]⟩
theorem comp123 : compF Go.Proofs.Try.prog (hintL [(6, 6), (11, 6)]) 123 = some g123 := by kernel_rfl

-- slices.BinarySearch[[]byte,byte]
abbrev r124_0 : List IOp := [o1 4 (.mov) [.c (.int .i64 0)],
  o1 5 (.mov) [.c (.bool false)]]
abbrev r124_1 : List IOp := [mv 10 0,
  o1 11 (.len .slice) [.t 10],
  mv 6 11]
abbrev r124_2 : List IOp := [mv 12 6,
  o1 7 (.mov) [.c (.int .i64 0)],
  mv 8 12]
abbrev r124_3 : List IOp := [mv 13 7,
  mv 14 8,
  o1 15 (.bin .lss .prim) [.t 13, .t 14]]
abbrev r124_4 : List IOp := [mv 16 7,
  mv 17 8,
  o1 18 (.bin .add .prim) [.t 16, .t 17],
  o1 19 (.toInt .u64) [.t 18],
  o1 20 (.bin .shr .prim) [.t 19, .c (.int .u64 1)],
  o1 21 (.toInt .i64) [.t 20],
  mv 9 21]
abbrev r124_5 : List IOp := [mv 22 0,
  mv 23 9,
  o1 24 (.iaddr 1) [.t 22, .t 23],
  o1 25 (.load none) [.t 24],
  mv 26 1,
  ca 27 [.f 135, .t 25, .t 26]]
abbrev r124_6 : List IOp := [mv 28 9,
  o1 29 (.bin .add .prim) [.t 28, .c (.int .i64 1)],
  mv 7 29]
abbrev r124_7 : List IOp := [mv 30 9,
  mv 8 30]
abbrev b124_0 : IC := (IC.seq (IC.seq (IC.reg r124_3) (IC.cond (.t 15) IC.skip (IC.exit 0))) (IC.block 1 (IC.seq (IC.reg r124_4) (IC.seq (IC.reg r124_5) (IC.cond (.t 27) (IC.reg r124_6) (IC.reg r124_7))))))
abbrev r124_8 : List IOp := [mv 31 7,
  mv 32 7,
  mv 33 6,
  o1 34 (.bin .lss .prim) [.t 32, .t 33],
  mv 35 34,
  o2 36 (.mov) [.t 0] 35 true,
  o2 37 (.mov) [.t 7] 35 true,
  o2 38 (.iaddr 1) [.t 36, .t 37] 35 true,
  o2 39 (.load none) [.t 38] 35 true,
  o2 40 (.mov) [.t 1] 35 true,
  o2 41 (.bin .eql .prim) [.t 39, .t 40] 35 true,
  o2 42 (.mov) [.t 41] 35 true,
  o2 43 (.mov) [.t 0] 42 false,
  o2 44 (.mov) [.t 7] 42 false,
  o2 45 (.iaddr 1) [.t 43, .t 44] 42 false,
  o2 46 (.load none) [.t 45] 42 false,
  ⟨some 47, .call none, [.f 136, .t 46], some (42, false)⟩,
  o2 48 (.mov) [.t 47] 42 false,
  o2 49 (.mov) [.t 1] 48 true,
  ⟨some 50, .call none, [.f 136, .t 49], some (48, true)⟩,
  o2 51 (.pick) [.t 48, .t 50, .c (.bool false)] 42 false,
  o2 52 (.pick) [.t 42, .c (.bool true), .t 51] 35 true,
  o1 53 (.pick) [.t 35, .t 52, .c (.bool false)],
  mv 4 31,
  mv 5 53]
abbrev c124 : IC := (IC.seq (IC.reg r124_0) (IC.seq (IC.reg r124_1) (IC.seq (IC.reg r124_2) (IC.seq (IC.block 0 (IC.loop b124_0)) (IC.seq (IC.reg r124_8) IC.ret)))))
abbrev g124 : FC := ⟨c124, 54, [.t 4, .t 5]⟩
theorem comp124 : compF Go.Proofs.Try.prog (fun _ => 0) 124 = some g124 := by kernel_rfl

-- outlaw/dfa.key
abbrev r94_0 : List IOp := [⟨some 2, .op (.mov), [.c (.str [])], none⟩]
abbrev r94_1 : List IOp := [o1 3 (.mov) [.c (.nils)]]
abbrev r94_2 : List IOp := [mv 6 0,
  o1 7 (.len .slice) [.t 6],
  o1 8 (.mov) [.c (.int .i64 0)]]
abbrev r94_3 : List IOp := [o1 9 (.bin .lss .prim) [.t 8, .t 7]]
abbrev r94_4 : List IOp := [o1 10 (.iaddr 1) [.t 6, .t 8],
  o1 11 (.load none) [.t 10],
  mv 5 11]
abbrev r94_5 : List IOp := [mv 12 3,
  mv 13 5,
  o1 14 (.toInt .u8) [.t 13],
  o1 15 (.bsl 5 1 false) [.t 14],
  o1 16 (.app 5 1 1) [.t 12, .t 15],
  mv 3 16]
abbrev r94_6 : List IOp := [o1 17 (.bin .add .prim) [.t 8, .c (.int .i64 1)],
  mv 8 17]
abbrev b94_0 : IC := (IC.seq (IC.reg r94_3) (IC.seq (IC.cond (.t 9) IC.skip (IC.exit 0)) (IC.seq (IC.block 1 (IC.seq (IC.reg r94_4) (IC.reg r94_5))) (IC.reg r94_6))))
abbrev r94_7 : List IOp := [mv 18 3,
  o1 19 (.b2s) [.t 18],
  mv 2 19]
abbrev c94 : IC := (IC.seq (IC.reg r94_0) (IC.seq (IC.reg r94_1) (IC.seq (IC.seq (IC.reg r94_2) (IC.block 0 (IC.loop b94_0))) (IC.seq (IC.reg r94_7) IC.ret))))
abbrev g94 : FC := ⟨c94, 20, [.t 2]⟩
theorem comp94 : compF Go.Proofs.Try.prog (fun _ => 0) 94 = some g94 := by kernel_rfl

-- (*outlaw/nfa.Nfa).start
abbrev r125_0 : List IOp := [o1 2 (.mov) [.c (.nils)]]
abbrev r125_1 : List IOp := [mv 4 0,
  ca 5 [.f 137, .t 4],
  o1 6 (.make 4 [.bool false] 1) [.t 5, .t 5],
  mv 3 6]
abbrev r125_2 : List IOp := [mv 7 3,
  o1 8 (.len .slice) [.t 7],
  o1 9 (.bin .gtr .prim) [.t 8, .c (.int .i64 0)]]
abbrev r125_3 : List IOp := [mv 10 0,
  mv 11 3,
  ca 12 [.f 138, .t 10, .t 11, .c (.int .i64 0)]]
abbrev r125_4 : List IOp := [mv 13 3,
  mv 2 13]
abbrev c125 : IC := (IC.seq (IC.reg r125_0) (IC.seq (IC.reg r125_1) (IC.seq (IC.seq (IC.reg r125_2) (IC.cond (.t 9) (IC.reg r125_3) IC.skip)) (IC.seq (IC.reg r125_4) IC.ret))))
abbrev g125 : FC := ⟨c125, 14, [.t 2]⟩
theorem comp125 : compF Go.Proofs.Try.prog (fun _ => 0) 125 = some g125 := by kernel_rfl

-- (outlaw/nfa.row).list
abbrev r126_0 : List IOp := [o1 2 (.mov) [.c (.nils)]]
abbrev r126_1 : List IOp := [o1 3 (.alloc 65 [.nils]) []]
abbrev r126_2 : List IOp := [mv 5 0,
  ca 6 [.f 139, .t 5]]
abbrev r126_3 : List IOp := [o1 12 (.load none) [.t 3],
  mv 2 12]
abbrev r126_4 : List IOp := [mv 4 7]
abbrev r126_5 : List IOp := [o1 8 (.load none) [.t 3],
  mv 9 4,
  o1 10 (.bsl 3 1 false) [.t 9],
  o1 11 (.app 3 1 8) [.t 8, .t 10],
  sr 1 [.t 3, .t 11]]
abbrev c126 : IC := (IC.seq (IC.reg r126_0) (IC.seq (IC.reg r126_1) (IC.seq (IC.seq (IC.reg r126_2) (IC.block 0 (IC.rangeF 126000 13 (.t 6)))) (IC.seq (IC.reg r126_3) IC.ret))))
abbrev g126 : FC := ⟨c126, 13, [.t 2]⟩
theorem comp126 : compF Go.Proofs.Try.prog (hintL [(1000003, 126000), (2000003, 13)]) 126 = some g126 := by kernel_rfl
abbrev li126000 : LI := ⟨13, [7], (IC.reg r126_4), (IC.block 1 (IC.reg r126_5))⟩
theorem keys126 : KeysF Go.Proofs.Try.prog (hintL [(1000003, 126000), (2000003, 13)]) 126 := keysF_of (by kernel_rfl)
theorem lok126000 : LOk Go.Proofs.Try.prog 126000 li126000 := ⟨hintL [(1000003, 126000), (2000003, 13)], by kernel_rfl, by kernel_rfl, by kernel_rfl, by kernel_rfl, by decide⟩

-- (*outlaw/nfa.Nfa).of
abbrev r128_0 : List IOp := [o1 4 (.mov) [.c (.nils)]]
abbrev r128_1 : List IOp := [mv 8 0,
  ca 9 [.f 137, .t 8],
  o1 10 (.make 4 [.bool false] 1) [.t 9, .t 9],
  mv 5 10]
abbrev r128_2 : List IOp := [mv 11 1,
  o1 12 (.len .slice) [.t 11],
  o1 13 (.mov) [.c (.int .i64 0)]]
abbrev r128_3 : List IOp := [o1 14 (.bin .lss .prim) [.t 13, .t 12]]
abbrev r128_4 : List IOp := [o1 15 (.iaddr 1) [.t 11, .t 13],
  o1 16 (.load none) [.t 15],
  mv 7 16]
abbrev r128_5 : List IOp := [mv 17 7,
  o1 18 (.bin .geq .prim) [.t 17, .c (.int .i64 0)],
  mv 19 18,
  o2 20 (.mov) [.t 7] 19 true,
  o2 21 (.mov) [.t 5] 19 true,
  o2 22 (.len .slice) [.t 21] 19 true,
  o2 23 (.bin .lss .prim) [.t 20, .t 22] 19 true,
  o1 24 (.pick) [.t 19, .t 23, .c (.bool false)]]
abbrev r128_6 : List IOp := [mv 25 5,
  mv 26 7,
  o1 27 (.iaddr 1) [.t 25, .t 26],
  sr 1 [.t 27, .c (.bool true)]]
abbrev r128_7 : List IOp := [o1 28 (.bin .add .prim) [.t 13, .c (.int .i64 1)],
  mv 13 28]
abbrev b128_0 : IC := (IC.seq (IC.reg r128_3) (IC.seq (IC.cond (.t 14) IC.skip (IC.exit 0)) (IC.seq (IC.block 1 (IC.seq (IC.reg r128_4) (IC.seq (IC.reg r128_5) (IC.cond (.t 24) (IC.reg r128_6) IC.skip)))) (IC.reg r128_7))))
abbrev r128_8 : List IOp := [mv 29 5,
  mv 4 29]
abbrev c128 : IC := (IC.seq (IC.reg r128_0) (IC.seq (IC.reg r128_1) (IC.seq (IC.seq (IC.reg r128_2) (IC.block 0 (IC.loop b128_0))) (IC.seq (IC.reg r128_8) IC.ret))))
abbrev g128 : FC := ⟨c128, 30, [.t 4]⟩
theorem comp128 : compF Go.Proofs.Try.prog (fun _ => 0) 128 = some g128 := by kernel_rfl

-- (*outlaw/nfa.Nfa).step
abbrev r127_0 : List IOp := [o1 3 (.box 106) [.t 0],
  o1 5 (.box 5) [.t 2],
  o1 6 (.mov) [.c (.nils)]]
abbrev r127_1 : List IOp := [mv 10 1,
  o1 11 (.len .slice) [.t 10],
  o1 12 (.make 4 [.bool false] 1) [.t 11, .t 11],
  o1 7 (.alloc 153 [.nils]) [],
  sr 1 [.t 7, .t 12]]
abbrev r127_2 : List IOp := [mv 13 1,
  ca 14 [.f 139, .t 13]]
abbrev r127_3 : List IOp := [o1 62 (.load none) [.t 7],
  mv 6 62]
abbrev r127_4 : List IOp := [mv 8 15]
abbrev r127_5 : List IOp := [mv 16 8,
  o1 17 (.load none) [.t 3],
  o1 18 (.nilchk) [.t 17],
  o1 19 (.faddr 0) [.t 18],
  o1 20 (.load none) [.t 19],
  o1 21 (.len .str) [.t 20],
  o1 22 (.bin .eql .prim) [.t 16, .t 21]]
abbrev r127_6 : List IOp := [o1 23 (.load none) [.t 3],
  o1 24 (.nilchk) [.t 23],
  o1 25 (.faddr 0) [.t 24],
  o1 26 (.load none) [.t 25],
  mv 27 8,
  o1 28 (.idxs) [.t 26, .t 27],
  mv 9 28]
abbrev r127_7 : List IOp := [mv 30 9,
  o1 31 (.bin .eql .prim) [.t 30, .c (.int .u8 42)],
  mv 29 31]
abbrev r127_8 : List IOp := [o1 32 (.load none) [.t 3],
  o1 33 (.load none) [.t 7],
  mv 34 8,
  ca 35 [.f 138, .t 32, .t 33, .t 34]]
abbrev r127_9 : List IOp := [mv 37 9,
  o1 38 (.bin .eql .prim) [.t 37, .c (.int .u8 63)],
  mv 36 38]
abbrev r127_10 : List IOp := [mv 39 9,
  o1 40 (.load none) [.t 5],
  o1 41 (.bin .eql .prim) [.t 39, .t 40],
  mv 36 41]
abbrev r127_11 : List IOp := [o1 42 (.load none) [.t 3],
  o1 43 (.nilchk) [.t 42],
  o1 44 (.faddr 1) [.t 43],
  o1 45 (.load none) [.t 44],
  mv 46 45,
  o2 47 (.mov) [.t 9] 46 true,
  o2 48 (.bsl 5 1 true) [.t 47] 46 true,
  o2 49 (.b2s) [.t 48] 46 true,
  ⟨some 50, .call none, [.f 121, .t 49], some (46, true)⟩,
  o2 51 (.load none) [.t 5] 46 true,
  o2 52 (.bsl 5 1 true) [.t 51] 46 true,
  o2 53 (.b2s) [.t 52] 46 true,
  ⟨some 54, .call none, [.f 121, .t 53], some (46, true)⟩,
  o2 55 (.bin .eql .prim) [.t 50, .t 54] 46 true,
  o1 56 (.pick) [.t 46, .t 55, .c (.bool false)],
  mv 36 56]
abbrev r127_12 : List IOp := [o1 57 (.load none) [.t 3],
  o1 58 (.load none) [.t 7],
  mv 59 8,
  o1 60 (.bin .add .prim) [.t 59, .c (.int .i64 1)],
  ca 61 [.f 138, .t 57, .t 58, .t 60]]
abbrev c127 : IC := (IC.seq (IC.reg r127_0) (IC.seq (IC.reg r127_1) (IC.seq (IC.seq (IC.reg r127_2) (IC.block 0 (IC.rangeF 127000 63 (.t 14)))) (IC.seq (IC.reg r127_3) IC.ret))))
abbrev g127 : FC := ⟨c127, 63, [.t 6]⟩
theorem comp127 : compF Go.Proofs.Try.prog (hintL [(10, 3), (1000003, 127000), (2000003, 63)]) 127 = some g127 := by kernel_rfl
abbrev li127000 : LI := ⟨63, [15], (IC.reg r127_4), (IC.block 1 (IC.seq (IC.seq (IC.reg r127_5) (IC.cond (.t 22) (IC.exit 0) IC.skip)) (IC.seq (IC.reg r127_6) (IC.block 2 (IC.seq (IC.reg r127_7) (IC.cond (.t 29) (IC.reg r127_8) (IC.seq (IC.seq (IC.reg r127_9) (IC.cond (.t 36) IC.skip (IC.seq (IC.reg r127_10) (IC.cond (.t 36) IC.skip (IC.regD .alloc r127_11 (.take 0 (.take 1 (.take 2 (.take 3 (.take 4 (.take 5 (.take 6 (.take 7 (.take 9 (.take 10 (.take 11 (.take 8 (.take 12 (.take 13 (.take 14 (.take 15 (.done)))))))))))))))))))))) (IC.cond (.t 36) (IC.reg r127_12) IC.skip))))))))⟩
theorem keys127 : KeysF Go.Proofs.Try.prog (hintL [(10, 3), (1000003, 127000), (2000003, 63)]) 127 := keysF_of (by kernel_rfl)
theorem lok127000 : LOk Go.Proofs.Try.prog 127000 li127000 := ⟨hintL [(10, 3), (1000003, 127000), (2000003, 63)], by kernel_rfl, by kernel_rfl, by kernel_rfl, by kernel_rfl, by decide⟩

-- outlaw/glob.fold
abbrev r103_0 : List IOp := [o1 2 (.mov) [.c (.int .u8 0)]]
abbrev r103_1 : List IOp := [mv 3 0,
  o1 4 (.bin .geq .prim) [.t 3, .c (.int .u8 65)],
  mv 5 4,
  o2 6 (.mov) [.t 0] 5 true,
  o2 7 (.bin .leq .prim) [.t 6, .c (.int .u8 90)] 5 true,
  o1 8 (.pick) [.t 5, .t 7, .c (.bool false)]]
abbrev r103_2 : List IOp := [mv 9 0,
  o1 10 (.bin .add .prim) [.t 9, .c (.int .u8 32)],
  mv 2 10]
abbrev r103_3 : List IOp := [mv 11 0,
  mv 2 11]
abbrev c103 : IC := (IC.seq (IC.reg r103_0) (IC.seq (IC.seq (IC.reg r103_1) (IC.cond (.t 8) (IC.seq (IC.reg r103_2) IC.ret) IC.skip)) (IC.seq (IC.reg r103_3) IC.ret)))
abbrev g103 : FC := ⟨c103, 12, [.t 2]⟩
theorem comp103 : compF Go.Proofs.Try.prog (fun _ => 0) 103 = some g103 := by kernel_rfl

-- (*outlaw/nfa.Nfa).Run
abbrev r192_0 : List IOp := [o1 4 (.mov) [.c (.bool false)]]
abbrev r192_1 : List IOp := [mv 8 0,
  o1 9 (.mkbound 127) [.t 8],
  mv 5 9]
abbrev r192_2 : List IOp := [mv 10 0,
  ca 11 [.f 125, .t 10],
  mv 6 11]
abbrev r192_3 : List IOp := [mv 12 1,
  o1 13 (.len .str) [.t 12],
  o1 14 (.mov) [.c (.int .i64 0)]]
abbrev r192_4 : List IOp := [o1 15 (.bin .lss .prim) [.t 14, .t 13]]
abbrev r192_5 : List IOp := [mv 16 14,
  mv 7 16]
abbrev r192_6 : List IOp := [mv 17 5,
  mv 18 6,
  mv 19 1,
  mv 20 7,
  o1 21 (.idxs) [.t 19, .t 20],
  ca 22 [.t 17, .t 18, .t 21],
  mv 6 22]
abbrev r192_7 : List IOp := [o1 23 (.bin .add .prim) [.t 14, .c (.int .i64 1)],
  mv 14 23]
abbrev b192_0 : IC := (IC.seq (IC.reg r192_4) (IC.seq (IC.cond (.t 15) IC.skip (IC.exit 0)) (IC.seq (IC.block 1 (IC.seq (IC.reg r192_5) (IC.reg r192_6))) (IC.reg r192_7))))
abbrev r192_8 : List IOp := [mv 24 6,
  o1 25 (.len .slice) [.t 24],
  o1 26 (.bin .gtr .prim) [.t 25, .c (.int .i64 0)],
  mv 27 26,
  o2 28 (.mov) [.t 6] 27 true,
  o2 29 (.mov) [.t 6] 27 true,
  o2 30 (.len .slice) [.t 29] 27 true,
  o2 31 (.bin .sub .prim) [.t 30, .c (.int .i64 1)] 27 true,
  o2 32 (.iaddr 1) [.t 28, .t 31] 27 true,
  o2 33 (.load none) [.t 32] 27 true,
  o1 34 (.pick) [.t 27, .t 33, .c (.bool false)],
  mv 4 34]
abbrev c192 : IC := (IC.seq (IC.reg r192_0) (IC.seq (IC.reg r192_1) (IC.seq (IC.reg r192_2) (IC.seq (IC.seq (IC.reg r192_3) (IC.block 0 (IC.loop b192_0))) (IC.seq (IC.reg r192_8) IC.ret)))))
abbrev g192 : FC := ⟨c192, 35, [.t 4]⟩
theorem comp192 : compF Go.Proofs.Try.prog (fun _ => 0) 192 = some g192 := by kernel_rfl

-- bytes.Count
abbrev r131_0 : List IOp := [o1 4 (.mov) [.c (.int .i64 0)]]
abbrev r131_1 : List IOp := [mv 7 1,
  o1 8 (.len .slice) [.t 7],
  o1 9 (.bin .eql .prim) [.t 8, .c (.int .i64 0)]]
abbrev r131_2 : List IOp := [mv 10 0,
  ca 11 [.f 140, .t 10],
  o1 12 (.bin .add .prim) [.t 11, .c (.int .i64 1)],
  mv 4 12]
abbrev r131_3 : List IOp := [mv 13 1,
  o1 14 (.len .slice) [.t 13],
  o1 15 (.bin .eql .prim) [.t 14, .c (.int .i64 1)]]
abbrev r131_4 : List IOp := [mv 16 0,
  mv 17 1,
  o1 18 (.iaddr 1) [.t 17, .c (.int .i64 0)],
  o1 19 (.load none) [.t 18],
  ca 20 [.f 141, .t 16, .t 19],
  mv 4 20]
abbrev r131_5 : List IOp := [o1 5 (.mov) [.c (.int .i64 0)]]
abbrev r131_6 : List IOp := [mv 21 0,
  mv 22 1,
  ca 23 [.f 142, .t 21, .t 22],
  mv 6 23]
abbrev r131_7 : List IOp := [mv 24 6,
  o1 25 (.bin .eql .prim) [.t 24, .c (.int .i64 (-1))]]
abbrev r131_8 : List IOp := [mv 26 5,
  mv 4 26]
abbrev r131_9 : List IOp := [mv 27 5,
  o1 28 (.bin .add .prim) [.t 27, .c (.int .i64 1)],
  mv 5 28]
abbrev r131_10 : List IOp := [mv 29 0,
  mv 30 6,
  mv 31 1,
  o1 32 (.len .slice) [.t 31],
  o1 33 (.bin .add .prim) [.t 30, .t 32],
  o1 34 (.slice 1 true false false) [.t 29, .t 33],
  mv 0 34]
abbrev b131_0 : IC := (IC.block 1 (IC.seq (IC.reg r131_6) (IC.seq (IC.seq (IC.reg r131_7) (IC.cond (.t 25) (IC.seq (IC.reg r131_8) IC.ret) IC.skip)) (IC.seq (IC.reg r131_9) (IC.reg r131_10)))))
abbrev c131 : IC := (IC.seq (IC.reg r131_0) (IC.seq (IC.seq (IC.reg r131_1) (IC.cond (.t 9) (IC.seq (IC.reg r131_2) IC.ret) IC.skip)) (IC.seq (IC.seq (IC.reg r131_3) (IC.cond (.t 15) (IC.seq (IC.reg r131_4) IC.ret) IC.skip)) (IC.seq (IC.reg r131_5) (IC.block 0 (IC.loop b131_0))))))
abbrev g131 : FC := ⟨c131, 35, [.t 4]⟩
theorem comp131 : compF Go.Proofs.Try.prog (fun _ => 0) 131 = some g131 := by kernel_rfl

-- bytes.Repeat
abbrev r132_0 : List IOp := [o1 4 (.mov) [.c (.nils)]]
abbrev r132_1 : List IOp := [mv 12 1,
  o1 13 (.bin .eql .prim) [.t 12, .c (.int .i64 0)]]
abbrev r132_2 : List IOp := [o1 14 (.bsl 5 1 false) [],
  mv 4 14]
abbrev r132_3 : List IOp := [mv 15 1,
  o1 16 (.bin .lss .prim) [.t 15, .c (.int .i64 0)]]
abbrev r132_4 : List IOp := [⟨some 17, .op (.mkif 9), [.c (.str [98, 121, 116, 101, 115, 58, 32, 110, 101, 103, 97, 116, 105, 118, 101, 32, 82, 101, 112, 101, 97, 116, 32, 99, 111, 117, 110, 116])], none⟩,
  ⟨none, .op (.never), [], none⟩]
abbrev r132_5 : List IOp := [mv 19 0,
  o1 20 (.len .slice) [.t 19],
  o1 21 (.toInt .u64) [.t 20],
  mv 22 1,
  o1 23 (.toInt .u64) [.t 22],
  ca 24 [.f 143, .t 21, .t 23],
  mv 18 24,
  o1 25 (.extract 0) [.t 18],
  o1 26 (.extract 1) [.t 18],
  mv 5 25,
  mv 6 26]
abbrev r132_6 : List IOp := [mv 27 5,
  o1 28 (.bin .gtr .prim) [.t 27, .c (.int .u64 0)],
  mv 29 28,
  o2 30 (.mov) [.t 6] 29 false,
  o2 31 (.bin .gtr .prim) [.t 30, .c (.int .u64 9223372036854775807)] 29 false,
  o1 32 (.pick) [.t 29, .c (.bool true), .t 31]]
abbrev r132_7 : List IOp := [⟨some 33, .op (.mkif 9), [.c (.str [98, 121, 116, 101, 115, 58, 32, 82, 101, 112, 101, 97, 116, 32, 111, 117, 116, 112, 117, 116, 32, 108, 101, 110, 103, 116, 104, 32, 111, 118, 101, 114, 102, 108, 111, 119])], none⟩,
  ⟨none, .op (.never), [], none⟩]
abbrev r132_8 : List IOp := [mv 34 6,
  o1 35 (.toInt .i64) [.t 34],
  mv 7 35]
abbrev r132_9 : List IOp := [mv 36 0,
  o1 37 (.len .slice) [.t 36],
  o1 38 (.bin .eql .prim) [.t 37, .c (.int .i64 0)]]
abbrev r132_10 : List IOp := [o1 39 (.bsl 5 1 false) [],
  mv 4 39]
abbrev r132_11 : List IOp := [mv 40 7,
  mv 8 40]
abbrev r132_12 : List IOp := [mv 41 8,
  o1 42 (.bin .gtr .prim) [.t 41, .c (.int .i64 8192)]]
abbrev r132_13 : List IOp := [mv 43 0,
  o1 44 (.len .slice) [.t 43],
  o1 45 (.bin .quo .prim) [.c (.int .i64 8192), .t 44],
  mv 46 0,
  o1 47 (.len .slice) [.t 46],
  o1 48 (.bin .mul .prim) [.t 45, .t 47],
  mv 8 48]
abbrev r132_14 : List IOp := [mv 49 8,
  o1 50 (.bin .eql .prim) [.t 49, .c (.int .i64 0)]]
abbrev r132_15 : List IOp := [mv 51 0,
  o1 52 (.len .slice) [.t 51],
  mv 8 52]
abbrev r132_16 : List IOp := [mv 53 7,
  ca 54 [.f 144, .t 53],
  mv 55 7,
  mv 56 7,
  o1 57 (.slice 1 false true true) [.t 54, .t 55, .t 56],
  mv 9 57]
abbrev r132_17 : List IOp := [mv 58 9,
  mv 59 0,
  o1 60 (.cpy 1) [.t 58, .t 59],
  mv 10 60]
abbrev r132_18 : List IOp := [mv 61 10,
  mv 62 7,
  o1 63 (.bin .lss .prim) [.t 61, .t 62]]
abbrev r132_19 : List IOp := [mv 64 10,
  mv 65 8,
  o1 66 (.min) [.t 64, .t 65],
  mv 11 66]
abbrev r132_20 : List IOp := [mv 67 10,
  mv 68 9,
  mv 69 10,
  o1 70 (.slice 1 true false false) [.t 68, .t 69],
  mv 71 9,
  mv 72 11,
  o1 73 (.slice 1 false true false) [.t 71, .t 72],
  o1 74 (.cpy 1) [.t 70, .t 73],
  o1 75 (.bin .add .prim) [.t 67, .t 74],
  mv 10 75]
abbrev b132_0 : IC := (IC.seq (IC.seq (IC.reg r132_18) (IC.cond (.t 63) IC.skip (IC.exit 0))) (IC.block 1 (IC.seq (IC.reg r132_19) (IC.regD .wild r132_20 (.take 0 (.take 1 (.take 2 (.take 3 (.take 4 (.take 5 (.take 6 (.take 7 (.take 8 (.take 9 (.done)))))))))))))))
abbrev r132_21 : List IOp := [mv 76 9,
  mv 4 76]
abbrev c132 : IC := (IC.seq (IC.reg r132_0) (IC.seq (IC.seq (IC.reg r132_1) (IC.cond (.t 13) (IC.seq (IC.reg r132_2) IC.ret) IC.skip)) (IC.seq (IC.seq (IC.reg r132_3) (IC.cond (.t 16) (IC.reg r132_4) IC.skip)) (IC.seq (IC.reg r132_5) (IC.seq (IC.seq (IC.reg r132_6) (IC.cond (.t 32) (IC.reg r132_7) IC.skip)) (IC.seq (IC.reg r132_8) (IC.seq (IC.seq (IC.reg r132_9) (IC.cond (.t 38) (IC.seq (IC.reg r132_10) IC.ret) IC.skip)) (IC.seq (IC.reg r132_11) (IC.seq (IC.seq (IC.reg r132_12) (IC.cond (.t 42) (IC.seq (IC.reg r132_13) (IC.seq (IC.reg r132_14) (IC.cond (.t 50) (IC.reg r132_15) IC.skip))) IC.skip)) (IC.seq (IC.reg r132_16) (IC.seq (IC.reg r132_17) (IC.seq (IC.block 0 (IC.loop b132_0)) (IC.seq (IC.reg r132_21) IC.ret)))))))))))))
abbrev g132 : FC := ⟨c132, 77, [.t 4]⟩
theorem comp132 : compF Go.Proofs.Try.prog (hintL [(20, 6)]) 132 = some g132 := by kernel_rfl

-- outlaw/glob.Fold
abbrev r121_0 : List IOp := [⟨some 2, .op (.mov), [.c (.str [])], none⟩]
abbrev r121_1 : List IOp := [mv 5 0,
  o1 6 (.s2b 5) [.t 5],
  mv 3 6]
abbrev r121_2 : List IOp := [mv 7 3,
  o1 8 (.len .slice) [.t 7],
  o1 9 (.mov) [.c (.int .i64 0)]]
abbrev r121_3 : List IOp := [o1 10 (.bin .lss .prim) [.t 9, .t 8]]
abbrev r121_4 : List IOp := [mv 11 9,
  mv 4 11]
abbrev r121_5 : List IOp := [mv 12 3,
  mv 13 4,
  mv 14 3,
  mv 15 4,
  o1 16 (.iaddr 1) [.t 14, .t 15],
  o1 17 (.load none) [.t 16],
  ca 18 [.f 103, .t 17],
  o1 19 (.iaddr 1) [.t 12, .t 13],
  sr 1 [.t 19, .t 18]]
abbrev r121_6 : List IOp := [o1 20 (.bin .add .prim) [.t 9, .c (.int .i64 1)],
  mv 9 20]
abbrev b121_0 : IC := (IC.seq (IC.reg r121_3) (IC.seq (IC.cond (.t 10) IC.skip (IC.exit 0)) (IC.seq (IC.block 1 (IC.seq (IC.reg r121_4) (IC.reg r121_5))) (IC.reg r121_6))))
abbrev r121_7 : List IOp := [mv 21 3,
  o1 22 (.b2s) [.t 21],
  mv 2 22]
abbrev c121 : IC := (IC.seq (IC.reg r121_0) (IC.seq (IC.reg r121_1) (IC.seq (IC.seq (IC.reg r121_2) (IC.block 0 (IC.loop b121_0))) (IC.seq (IC.reg r121_7) IC.ret))))
abbrev g121 : FC := ⟨c121, 23, [.t 2]⟩
theorem comp121 : compF Go.Proofs.Try.prog (fun _ => 0) 121 = some g121 := by kernel_rfl

-- cmp.Less[byte]
abbrev r135_0 : List IOp := [o1 4 (.mov) [.c (.bool false)]]
abbrev r135_1 : List IOp := [mv 5 0,
  ca 6 [.f 155, .t 5],
  mv 7 6,
  o2 8 (.mov) [.t 1] 7 true,
  ⟨some 9, .call none, [.f 155, .t 8], some (7, true)⟩,
  o2 10 (.un .not) [.t 9] 7 true,
  o1 11 (.pick) [.t 7, .t 10, .c (.bool false)],
  mv 12 11,
  o2 13 (.mov) [.t 0] 12 false,
  o2 14 (.mov) [.t 1] 12 false,
  o2 15 (.bin .lss .prim) [.t 13, .t 14] 12 false,
  o1 16 (.pick) [.t 12, .c (.bool true), .t 15],
  mv 4 16]
abbrev c135 : IC := (IC.seq (IC.reg r135_0) (IC.seq (IC.reg r135_1) IC.ret))
abbrev g135 : FC := ⟨c135, 17, [.t 4]⟩
theorem comp135 : compF Go.Proofs.Try.prog (fun _ => 0) 135 = some g135 := by kernel_rfl

-- slices.isNaN[byte]
abbrev r136_0 : List IOp := [o1 2 (.mov) [.c (.bool false)]]
abbrev r136_1 : List IOp := [mv 3 0,
  mv 4 0,
  o1 5 (.bin .neq .prim) [.t 3, .t 4],
  mv 2 5]
abbrev c136 : IC := (IC.seq (IC.reg r136_0) (IC.seq (IC.reg r136_1) IC.ret))
abbrev g136 : FC := ⟨c136, 6, [.t 2]⟩
theorem comp136 : compF Go.Proofs.Try.prog (fun _ => 0) 136 = some g136 := by kernel_rfl

-- (*outlaw/nfa.Nfa).States
abbrev r137_0 : List IOp := [o1 2 (.mov) [.c (.int .i64 0)]]
abbrev r137_1 : List IOp := [mv 3 0,
  o1 4 (.bin .eql .ptr) [.t 3, .c (.nilp)],
  mv 5 4,
  o2 6 (.mov) [.t 0] 5 false,
  o2 7 (.nilchk) [.t 6] 5 false,
  o2 8 (.faddr 0) [.t 7] 5 false,
  o2 9 (.load none) [.t 8] 5 false,
  ⟨some 10, .op (.bin .eql .prim), [.t 9, .c (.str [])], some (5, false)⟩,
  o1 11 (.pick) [.t 5, .c (.bool true), .t 10]]
abbrev r137_2 : List IOp := [o1 2 (.mov) [.c (.int .i64 0)]]
abbrev r137_3 : List IOp := [mv 12 0,
  o1 13 (.nilchk) [.t 12],
  o1 14 (.faddr 0) [.t 13],
  o1 15 (.load none) [.t 14],
  o1 16 (.len .str) [.t 15],
  o1 17 (.bin .add .prim) [.t 16, .c (.int .i64 1)],
  mv 2 17]
abbrev c137 : IC := (IC.seq (IC.reg r137_0) (IC.seq (IC.seq (IC.reg r137_1) (IC.cond (.t 11) (IC.seq (IC.reg r137_2) IC.ret) IC.skip)) (IC.seq (IC.reg r137_3) IC.ret)))
abbrev g137 : FC := ⟨c137, 18, [.t 2]⟩
theorem comp137 : compF Go.Proofs.Try.prog (fun _ => 0) 137 = some g137 := by kernel_rfl

-- (*outlaw/nfa.Nfa).come
abbrev r138_0 : List IOp := [mv 6 1,
  mv 7 2,
  o1 8 (.iaddr 1) [.t 6, .t 7],
  sr 1 [.t 8, .c (.bool true)]]
abbrev r138_1 : List IOp := [mv 9 2,
  mv 10 0,
  o1 11 (.nilchk) [.t 10],
  o1 12 (.faddr 0) [.t 11],
  o1 13 (.load none) [.t 12],
  o1 14 (.len .str) [.t 13],
  o1 15 (.bin .lss .prim) [.t 9, .t 14],
  mv 16 15,
  o2 17 (.mov) [.t 0] 16 true,
  o2 18 (.nilchk) [.t 17] 16 true,
  o2 19 (.faddr 0) [.t 18] 16 true,
  o2 20 (.load none) [.t 19] 16 true,
  o2 21 (.mov) [.t 2] 16 true,
  o2 22 (.idxs) [.t 20, .t 21] 16 true,
  o2 23 (.bin .eql .prim) [.t 22, .c (.int .u8 42)] 16 true,
  o1 24 (.pick) [.t 16, .t 23, .c (.bool false)]]
abbrev r138_2 : List IOp := [mv 28 2,
  o1 29 (.bin .add .prim) [.t 28, .c (.int .i64 1)],
  mv 2 29]
abbrev r138_3 : List IOp := [mv 25 1,
  mv 26 2,
  o1 27 (.iaddr 1) [.t 25, .t 26],
  sr 1 [.t 27, .c (.bool true)]]
abbrev b138_0 : IC := (IC.seq (IC.seq (IC.reg r138_1) (IC.cond (.t 24) IC.skip (IC.exit 0))) (IC.seq (IC.block 1 (IC.reg r138_2)) (IC.reg r138_3)))
abbrev c138 : IC := (IC.seq (IC.reg r138_0) (IC.block 0 (IC.loop b138_0)))
abbrev g138 : FC := ⟨c138, 30, []⟩
theorem comp138 : compF Go.Proofs.Try.prog (fun _ => 0) 138 = some g138 := by kernel_rfl

-- (outlaw/nfa.row).all
abbrev r139_0 : List IOp := [o1 1 (.box 153) [.t 0],
  o1 2 (.mov) [.c (.nilf)]]
abbrev r139_1 : List IOp := [o1 3 (.mkfn 156) [.t 1],
  mv 2 3]
abbrev c139 : IC := (IC.seq (IC.reg r139_0) (IC.seq (IC.reg r139_1) IC.ret))
abbrev g139 : FC := ⟨c139, 4, [.t 2]⟩
theorem comp139 : compF Go.Proofs.Try.prog (fun _ => 0) 139 = some g139 := by kernel_rfl

-- math/bits.Mul
abbrev r143_0 : List IOp := [o1 4 (.mov) [.c (.int .u64 0)],
  o1 5 (.mov) [.c (.int .u64 0)]]
abbrev r143_1 : List IOp := [mv 11 0,
  o1 12 (.toInt .u32) [.t 11],
  mv 13 1,
  o1 14 (.toInt .u32) [.t 13],
  ca 15 [.f 163, .t 12, .t 14],
  mv 10 15,
  o1 16 (.extract 0) [.t 10],
  o1 17 (.extract 1) [.t 10],
  mv 6 16,
  mv 7 17]
abbrev r143_2 : List IOp := [mv 18 6,
  o1 19 (.toInt .u64) [.t 18],
  mv 20 7,
  o1 21 (.toInt .u64) [.t 20],
  mv 4 19,
  mv 5 21]
abbrev r143_3 : List IOp := [mv 23 0,
  mv 24 1,
  ca 25 [.f 164, .t 23, .t 24],
  mv 22 25,
  o1 26 (.extract 0) [.t 22],
  o1 27 (.extract 1) [.t 22],
  mv 8 26,
  mv 9 27]
abbrev r143_4 : List IOp := [mv 28 8,
  mv 29 9,
  mv 4 28,
  mv 5 29]
abbrev c143 : IC := (IC.seq (IC.reg r143_0) (IC.seq (IC.cond (.c (.bool false)) (IC.seq (IC.reg r143_1) (IC.seq (IC.reg r143_2) IC.ret)) IC.skip) (IC.seq (IC.reg r143_3) (IC.seq (IC.reg r143_4) IC.ret))))
abbrev g143 : FC := ⟨c143, 30, [.t 4, .t 5]⟩
theorem comp143 : compF Go.Proofs.Try.prog (fun _ => 0) 143 = some g143 := by kernel_rfl

-- cmp.isNaN[byte]
abbrev r155_0 : List IOp := [o1 2 (.mov) [.c (.bool false)]]
abbrev r155_1 : List IOp := [mv 3 0,
  mv 4 0,
  o1 5 (.bin .neq .prim) [.t 3, .t 4],
  mv 2 5]
abbrev c155 : IC := (IC.seq (IC.reg r155_0) (IC.seq (IC.reg r155_1) IC.ret))
abbrev g155 : FC := ⟨c155, 6, [.t 2]⟩
theorem comp155 : compF Go.Proofs.Try.prog (fun _ => 0) 155 = some g155 := by kernel_rfl

-- (outlaw/nfa.row).all$1
abbrev r156_0 : List IOp := [o1 5 (.load none) [.t 1],
  o1 6 (.len .slice) [.t 5],
  o1 7 (.mov) [.c (.int .i64 0)]]
abbrev r156_1 : List IOp := [o1 8 (.bin .lss .prim) [.t 7, .t 6]]
abbrev r156_2 : List IOp := [mv 9 7,
  o1 10 (.iaddr 1) [.t 5, .t 7],
  o1 11 (.load none) [.t 10],
  mv 3 9,
  mv 4 11]
abbrev r156_3 : List IOp := [mv 12 4,
  mv 13 12,
  o2 14 (.mov) [.t 0] 13 true,
  o2 15 (.mov) [.t 3] 13 true,
  ⟨some 16, .call none, [.t 14, .t 15], some (13, true)⟩,
  o2 17 (.un .not) [.t 16] 13 true,
  o1 18 (.pick) [.t 13, .t 17, .c (.bool false)]]
abbrev r156_4 : List IOp := [o1 19 (.bin .add .prim) [.t 7, .c (.int .i64 1)],
  mv 7 19]
abbrev b156_0 : IC := (IC.seq (IC.reg r156_1) (IC.seq (IC.cond (.t 8) IC.skip (IC.exit 0)) (IC.seq (IC.block 1 (IC.seq (IC.reg r156_2) (IC.seq (IC.reg r156_3) (IC.cond (.t 18) IC.ret IC.skip)))) (IC.reg r156_4))))
abbrev c156 : IC := (IC.seq (IC.reg r156_0) (IC.block 0 (IC.loop b156_0)))
abbrev g156 : FC := ⟨c156, 20, []⟩
theorem comp156 : compF Go.Proofs.Try.prog (fun _ => 0) 156 = some g156 := by kernel_rfl

-- math/bits.Mul64
abbrev r164_0 : List IOp := [o1 4 (.mov) [.c (.int .u64 0)],
  o1 5 (.mov) [.c (.int .u64 0)]]
abbrev r164_1 : List IOp := [mv 14 0,
  o1 15 (.bin .and .prim) [.t 14, .c (.int .u64 4294967295)],
  mv 6 15]
abbrev r164_2 : List IOp := [mv 16 0,
  o1 17 (.bin .shr .prim) [.t 16, .c (.int .u64 32)],
  mv 7 17]
abbrev r164_3 : List IOp := [mv 18 1,
  o1 19 (.bin .and .prim) [.t 18, .c (.int .u64 4294967295)],
  mv 8 19]
abbrev r164_4 : List IOp := [mv 20 1,
  o1 21 (.bin .shr .prim) [.t 20, .c (.int .u64 32)],
  mv 9 21]
abbrev r164_5 : List IOp := [mv 22 6,
  mv 23 8,
  o1 24 (.bin .mul .prim) [.t 22, .t 23],
  mv 10 24]
abbrev r164_6 : List IOp := [mv 25 7,
  mv 26 8,
  o1 27 (.bin .mul .prim) [.t 25, .t 26],
  mv 28 10,
  o1 29 (.bin .shr .prim) [.t 28, .c (.int .u64 32)],
  o1 30 (.bin .add .prim) [.t 27, .t 29],
  mv 11 30]
abbrev r164_7 : List IOp := [mv 31 11,
  o1 32 (.bin .and .prim) [.t 31, .c (.int .u64 4294967295)],
  mv 12 32]
abbrev r164_8 : List IOp := [mv 33 11,
  o1 34 (.bin .shr .prim) [.t 33, .c (.int .u64 32)],
  mv 13 34]
abbrev r164_9 : List IOp := [mv 35 12,
  mv 36 6,
  mv 37 9,
  o1 38 (.bin .mul .prim) [.t 36, .t 37],
  o1 39 (.bin .add .prim) [.t 35, .t 38],
  mv 12 39]
abbrev r164_10 : List IOp := [mv 40 7,
  mv 41 9,
  o1 42 (.bin .mul .prim) [.t 40, .t 41],
  mv 43 13,
  o1 44 (.bin .add .prim) [.t 42, .t 43],
  mv 45 12,
  o1 46 (.bin .shr .prim) [.t 45, .c (.int .u64 32)],
  o1 47 (.bin .add .prim) [.t 44, .t 46],
  mv 4 47]
abbrev r164_11 : List IOp := [mv 48 0,
  mv 49 1,
  o1 50 (.bin .mul .prim) [.t 48, .t 49],
  mv 5 50]
abbrev c164 : IC := (IC.seq (IC.reg r164_0) (IC.seq (IC.reg r164_1) (IC.seq (IC.reg r164_2) (IC.seq (IC.reg r164_3) (IC.seq (IC.reg r164_4) (IC.seq (IC.reg r164_5) (IC.seq (IC.reg r164_6) (IC.seq (IC.reg r164_7) (IC.seq (IC.reg r164_8) (IC.seq (IC.reg r164_9) (IC.seq (IC.reg r164_10) (IC.seq (IC.reg r164_11) IC.ret))))))))))))
abbrev g164 : FC := ⟨c164, 51, [.t 4, .t 5]⟩
theorem comp164 : compF Go.Proofs.Try.prog (fun _ => 0) 164 = some g164 := by kernel_rfl

end Go.Gi
