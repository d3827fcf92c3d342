/- Functions of the program in the form of the abstract machine, printed by a program; each is checked against the translation. -/
import Derived.Test.YtakdhioafodhcaaGreatDoorGiXA
import Derived.Test.YtakdhioafodhcaaGreatDoorGiXB
import Derived.Test.YtakdhioafodhcaaGreatDoorProg
import Derived.KernelRfl
set_option linter.unusedVariables false
namespace Go.Gi
open _root_.Go.Proofs.Tryz renaming prog → qi
set_option linter.unusedSectionVars false
variable [Mx]
open Go
abbrev r7_0:=[o1 8 (.mov) [.c (.bool false)]]
abbrev r7_1:=[ca 15 [.f 8],
 z1 16 (.un .not) 15]
abbrev r7_2:=[o1 8 (.mov) [.c (.bool false)]]
abbrev r7_3:=[mv 17 2,
 ca 18 [.f 15,.t 17],
 z1 19 (.un .not) 18,
 mv 20 19,
 o2 21 (.mov) [.t 3] 20 false,
 o2 22 (.len .str) [.t 21] 20 false,
 o2 23 (.bin .gtr .prim) [.t 22,.c (.int .i64 260)] 20 false,
 o1 24 (.pick) [.t 20,.c (.bool true),.t 23]]
abbrev r7_4:=[o1 8 (.mov) [.c (.bool true)]]
abbrev r7_5:=[mv 25 0,
 ca 26 [.f 9,.t 25],
 mv 27 1,
 ca 28 [.f 9,.t 27],
 mv 9 26,
 mv 10 28]
abbrev r7_6:=[o1 11 (.mov) [.c (.int .i64 0)]]
abbrev r7_7:=[mv 29 11,
 mv 30 2,
 z1 31 (.len .slice) 30,
 z2 32 (.bin .lss .prim) 29 31]
abbrev r7_8:=[mv 35 9,
 mv 36 2,
 mv 37 11,
 z2 38 (.iaddr 5) 36 37,
 z1 39 (.load (some 5)) 38,
 ca 40 [.f 19,.t 35,.t 39],
 mv 41 10,
 mv 42 2,
 mv 43 11,
 z2 44 (.iaddr 5) 42 43,
 z1 45 (.load (some 5)) 44,
 ca 46 [.f 19,.t 41,.t 45],
 z2 47 (.bin .neq .prim) 40 46]
abbrev r7_9:=[o1 8 (.mov) [.c (.bool false)]]
abbrev r7_10:=[mv 33 11,
 zk 34 (.bin .add .prim) 33 (.int .i64 1),
 mv 11 34]
abbrev b7_0:IC:=(.seq (.seq (.reg r7_7) (.cond (.t 32) .skip (.exit 0))) (.seq (.block 1 (.seq (.regD (.mix .wild 71468255805440) r7_8 (.take 0 (.take 1 (.take 2 (.take 3 (.take 4 (.take 6 (.take 7 (.take 8 (.take 9 (.fork [(5,.take 10 (.fork [(11,.take 12 (.done))])),(10,.fork [(5,.fork [(11,.take 12 (.done))])])]))))))))))) (.cond (.t 47) (.seq (.reg r7_9) .ret) .skip))) (.reg r7_10)))
abbrev r7_11:=[mv 48 9,
 ca 49 [.f 25,.t 48],
 mv 12 49]
abbrev r7_12:=[o1 13 (.mov) [.c (.nils)]]
abbrev r7_13:=[o1 14 (.mov) [.c (.int .i64 0)]]
abbrev r7_14:=[mv 50 14,
 mv 51 12,
 z1 52 (.len .slice) 51,
 z2 53 (.bin .lss .prim) 50 52]
abbrev r7_15:=[mv 56 14,
 zk 57 (.bin .gtr .prim) 56 (.int .i64 0),
 mv 58 57,
 o2 59 (.mov) [.t 12] 58 true,
 o2 60 (.mov) [.t 14] 58 true,
 o2 61 (.bin .sub .prim) [.t 60,.c (.int .i64 1)] 58 true,
 o2 62 (.iaddr 3) [.t 59,.t 61] 58 true,
 o2 63 (.faddr 0) [.t 62] 58 true,
 o2 64 (.load none) [.t 63] 58 true,
 o2 65 (.mov) [.t 12] 58 true,
 o2 66 (.mov) [.t 14] 58 true,
 o2 67 (.iaddr 3) [.t 65,.t 66] 58 true,
 o2 68 (.faddr 0) [.t 67] 58 true,
 o2 69 (.load none) [.t 68] 58 true,
 o2 70 (.bin .geq .prim) [.t 64,.t 69] 58 true,
 o1 71 (.pick) [.t 58,.t 70,.c (.bool false)]]
abbrev r7_16:=[o1 8 (.mov) [.c (.bool false)]]
abbrev r7_17:=[mv 72 12,
 mv 73 14,
 z2 74 (.iaddr 3) 72 73,
 z1 75 (.faddr 1) 74,
 z1 76 (.load none) 75,
 mv 77 3,
 mv 78 12,
 mv 79 14,
 z2 80 (.iaddr 3) 78 79,
 z1 81 (.faddr 2) 80,
 z1 82 (.load none) 81,
 ca 83 [.f 26,.t 76,.t 77,.t 82]]
abbrev r7_18:=[mv 84 13,
 mv 85 12,
 mv 86 14,
 z2 87 (.iaddr 3) 85 86,
 z1 88 (.faddr 0) 87,
 z1 89 (.load none) 88,
 z1 90 (.bsl 3 1 false) 89,
 z2 91 (.app 3 1 8) 84 90,
 mv 13 91]
abbrev r7_19:=[mv 54 14,
 zk 55 (.bin .add .prim) 54 (.int .i64 1),
 mv 14 55]
abbrev b7_1:IC:=(.seq (.seq (.reg r7_14) (.cond (.t 53) .skip (.exit 2))) (.seq (.block 3 (.seq (.seq (.regD .wild r7_15 (.take 0 (.take 1 (.take 2 (.take 3 (.take 4 (.take 5 (.take 6 (.take 7 (.take 8 (.take 9 (.take 10 (.take 11 (.take 12 (.take 13 (.take 14 (.take 15 (.done)))))))))))))))))) (.cond (.t 71) (.seq (.reg r7_16) .ret) .skip)) (.seq (.regD .wild r7_17 (.take 0 (.take 1 (.take 2 (.take 3 (.take 4 (.take 5 (.take 6 (.take 7 (.take 8 (.take 9 (.take 10 (.take 11 (.done)))))))))))))) (.cond (.t 83) (.reg r7_18) .skip)))) (.reg r7_19)))
abbrev r7_20:=[mv 92 9,
 mv 93 3,
 ca 94 [.f 12,.t 92,.t 93],
 mv 95 13,
 ca 96 [.f 20,.t 94,.t 95],
 mv 97 96,
 o2 98 (.mov) [.t 10] 97 true,
 o2 99 (.mov) [.t 3] 97 true,
 ⟨some 100,.call none,[.f 12,.t 98,.t 99],some (97,true)⟩,
 o2 101 (.mov) [.t 13] 97 true,
 ⟨some 102,.call none,[.f 20,.t 100,.t 101],some (97,true)⟩,
 o1 103 (.pick) [.t 97,.t 102,.c (.bool false)],
 mv 104 103,
 o2 105 (.mov) [.t 10] 104 true,
 ⟨some 106,.call none,[.f 25,.t 105],some (104,true)⟩,
 o2 107 (.mov) [.t 12] 104 true,
 ⟨some 108,.call none,[.f 24,.t 106,.t 107],some (104,true)⟩,
 o1 109 (.pick) [.t 104,.t 108,.c (.bool false)],
 mv 110 109,
 o2 111 (.mov) [.t 9] 110 true,
 ⟨some 112,.call none,[.f 13,.t 111],some (110,true)⟩,
 o2 113 (.mov) [.t 12] 110 true,
 o2 114 (.len .slice) [.t 113] 110 true,
 o2 115 (.bin .eql .prim) [.t 112,.t 114] 110 true,
 o1 116 (.pick) [.t 110,.t 115,.c (.bool false)],
 mv 8 116]
abbrev c7:IC:=(.seq (.reg r7_0) (.seq (.seq (.reg r7_1) (.cond (.t 16) (.seq (.reg r7_2) .ret) .skip)) (.seq (.seq (.reg r7_3) (.cond (.t 24) (.seq (.reg r7_4) .ret) .skip)) (.seq (.reg r7_5) (.seq (.seq (.reg r7_6) (.block 0 (.loop b7_0))) (.seq (.reg r7_11) (.seq (.reg r7_12) (.seq (.seq (.reg r7_13) (.block 2 (.loop b7_1))) (.seq (.reg r7_20) .ret)))))))))
abbrev g7:FC:=⟨c7,117,[.t 8]⟩
theorem comp7:compF qi (hintL [(9,571746046443526),(16,6),(18,6)]) 7=some g7:=by kernel_rfl
abbrev r8_0:=[o1 0 (.mov) [.c (.bool false)]]
abbrev r8_1:=[ca 2 [.f 9,.c (.int .i64 10)],
 mv 1 2]
abbrev r8_2:=[mv 3 1,
 ca 4 [.f 11,.t 3,.c (.int .i64 3),.c (.str [97,42]),.c (.bool false)],
 zk 5 (.bin .eql .prim) 4 (.int .i64 0),
 mv 6 5,
 o2 7 (.mov) [.t 1] 6 true,
 ⟨some 8,.call none,[.f 11,.t 7,.c (.int .i64 1),.c (.str [97,98]),.c (.bool false)],some (6,true)⟩,
 o2 9 (.bin .eql .prim) [.t 8,.c (.int .i64 0)] 6 true,
 o1 10 (.pick) [.t 6,.t 9,.c (.bool false)],
 mv 11 10,
 o2 12 (.mov) [.t 1] 11 true,
 ⟨some 13,.call none,[.f 11,.t 12,.c (.int .i64 2),.c (.str [98]),.c (.bool false)],some (11,true)⟩,
 o2 14 (.bin .eql .prim) [.t 13,.c (.int .i64 0)] 11 true,
 o1 15 (.pick) [.t 11,.t 14,.c (.bool false)],
 mv 16 15,
 o2 17 (.mov) [.t 1] 16 true,
 ⟨some 18,.call none,[.f 12,.t 17,.c (.str [97,98])],some (16,true)⟩,
 o2 19 (.bsl 3 1 false) [.c (.int .i64 1),.c (.int .i64 3)] 16 true,
 ⟨some 20,.call none,[.f 20,.t 18,.t 19],some (16,true)⟩,
 o1 21 (.pick) [.t 16,.t 20,.c (.bool false)],
 mv 0 21]
abbrev c8:IC:=(.seq (.reg r8_0) (.seq (.reg r8_1) (.seq (.reg r8_2) .ret)))
abbrev g8:FC:=⟨c8,22,[.t 0]⟩
theorem comp8:compF qi (fun _=>0) 8=some g8:=by kernel_rfl
abbrev r15_0:=[o1 2 (.mov) [.c (.bool false)]]
abbrev r15_1:=[o1 3 (.mov) [.c (.int .i64 0)]]
abbrev r15_2:=[mv 4 3,
 mv 5 0,
 z1 6 (.len .slice) 5,
 z2 7 (.bin .lss .prim) 4 6]
abbrev r15_3:=[mv 10 0,
 mv 11 3,
 z2 12 (.iaddr 5) 10 11,
 z1 13 (.faddr 2) 12,
 z1 14 (.load none) 13,
 z1 15 (.len .str) 14,
 zk 16 (.bin .gtr .prim) 15 (.int .i64 300),
 mv 17 16,
 o2 18 (.mov) [.t 0] 17 false,
 o2 19 (.mov) [.t 3] 17 false,
 o2 20 (.iaddr 5) [.t 18,.t 19] 17 false,
 o2 21 (.faddr 4) [.t 20] 17 false,
 o2 22 (.load none) [.t 21] 17 false,
 o2 23 (.len .str) [.t 22] 17 false,
 o2 24 (.bin .gtr .prim) [.t 23,.c (.int .i64 260)] 17 false,
 o1 25 (.pick) [.t 17,.c (.bool true),.t 24]]
abbrev r15_4:=[o1 2 (.mov) [.c (.bool false)]]
abbrev r15_5:=[mv 8 3,
 zk 9 (.bin .add .prim) 8 (.int .i64 1),
 mv 3 9]
abbrev b15_0:IC:=(.seq (.seq (.reg r15_2) (.cond (.t 7) .skip (.exit 0))) (.seq (.block 1 (.seq (.reg r15_3) (.cond (.t 25) (.seq (.reg r15_4) .ret) .skip))) (.reg r15_5)))
abbrev r15_6:=[mv 26 0,
 z1 27 (.len .slice) 26,
 zk 28 (.bin .leq .prim) 27 (.int .i64 60),
 mv 2 28]
abbrev c15:IC:=(.seq (.reg r15_0) (.seq (.seq (.reg r15_1) (.block 0 (.loop b15_0))) (.seq (.reg r15_6) .ret)))
abbrev g15:FC:=⟨c15,29,[.t 2]⟩
theorem comp15:compF qi (fun _=>0) 15=some g15:=by kernel_rfl
abbrev r9_0:=[o1 2 (.mov) [.c (.nilp)]]
abbrev r9_1:=[mv 3 0,
 zk 4 (.max) 3 (.int .i64 1),
 zk 5 (.min) 4 (.int .i64 256),
 o1 6 (.mkmap false) [],
 o1 7 (.mkmap false) [],
 o1 8 (.mkmap false) [],
 o1 9 (.mkmap false) [],
 o1 10 (.bst [.int .i64 0,.nilm,.nilm,.nilm,.nilm] [(0,1),(1,1),(2,1),(3,1),(4,1)] [0,1,2,3,4]) [.t 5,.t 6,.t 7,.t 8,.t 9],
 z1 11 (.box 57) 10,
 mv 2 11]
abbrev c9:IC:=(.seq (.reg r9_0) (.seq (.reg r9_1) .ret))
abbrev g9:FC:=⟨c9,12,[.t 2]⟩
theorem comp9:compF qi (fun _=>0) 9=some g9:=by kernel_rfl
abbrev r19_0:=[z1 3 (.box 38) 1,
 o1 4 (.mov) [.c (.int .i64 0)]]
abbrev r19_1:=[z1 5 (.faddr 0) 3,
 z1 6 (.load none) 5,
 zk 7 (.bin .rem .prim) 6 (.int .i64 2),
 zk 8 (.bin .eql .prim) 7 (.int .i64 0)]
abbrev r19_2:=[mv 9 0,
 z1 10 (.faddr 1) 3,
 z1 11 (.load none) 10,
 z1 12 (.faddr 2) 3,
 z1 13 (.load none) 12,
 z1 14 (.faddr 3) 3,
 z1 15 (.load none) 14,
 ca 16 [.f 11,.t 9,.t 11,.t 13,.t 15],
 mv 4 16]
abbrev r19_3:=[mv 17 0,
 z1 18 (.faddr 1) 3,
 z1 19 (.load none) 18,
 ca 20 [.f 14,.t 17,.t 19],
 mv 4 20]
abbrev c19:IC:=(.seq (.reg r19_0) (.seq (.seq (.reg r19_1) (.cond (.t 8) (.seq (.reg r19_2) .ret) .skip)) (.seq (.reg r19_3) .ret)))
abbrev g19:FC:=⟨c19,21,[.t 4]⟩
theorem comp19:compF qi (fun _=>0) 19=some g19:=by kernel_rfl
abbrev r12_0:=[o1 4 (.mov) [.c (.nils)]]
abbrev r12_1:=[mv 8 0,
 ca 9 [.f 27,.t 8],
 z1 10 (.un .not) 9]
abbrev r12_2:=[o1 4 (.mov) [.c (.nils)]]
abbrev r12_3:=[mv 11 0,
 z1 12 (.nilchk) 11,
 z1 13 (.faddr 2) 12,
 z1 14 (.load none) 13,
 mv 15 1,
 z2 16 (.look .str (.nils) false) 14 15,
 mv 17 0,
 z1 18 (.nilchk) 17,
 z1 19 (.faddr 3) 18,
 z1 20 (.load none) 19,
 mv 21 1,
 ca 22 [.f 33,.t 21],
 z2 23 (.look .str (.nils) false) 20 22,
 z2 24 (.bsl 28 1 false) 16 23,
 ca 25 [.f 32,.t 24],
 mv 5 25]
abbrev r12_4:=[mv 26 0,
 z1 27 (.nilchk) 26,
 z1 28 (.faddr 4) 27,
 z1 29 (.load none) 28,
 ca 30 [.f 35,.t 29],
 ca 31 [.f 34,.t 30],
 z1 32 (.len .slice) 31,
 o1 33 (.mov) [.c (.int .i64 0)]]
abbrev r12_5:=[z2 34 (.bin .lss .prim) 33 32]
abbrev r12_6:=[z2 35 (.iaddr 1) 31 33,
 z1 36 (.load none) 35,
 mv 7 36]
abbrev r12_7:=[mv 37 0,
 z1 38 (.nilchk) 37,
 z1 39 (.faddr 4) 38,
 z1 40 (.load none) 39,
 mv 41 7,
 z2 42 (.look .int (.nilp) false) 40 41,
 z1 43 (.nilchk) 42,
 z1 44 (.faddr 3) 43,
 z1 45 (.load none) 44,
 mv 46 1,
 ca 47 [.f 36,.t 45,.t 46]]
abbrev r12_8:=[mv 48 5,
 mv 49 7,
 z1 50 (.bsl 3 1 false) 49,
 z2 51 (.app 3 1 8) 48 50,
 mv 5 51]
abbrev r12_9:=[zk 52 (.bin .add .prim) 33 (.int .i64 1),
 mv 33 52]
abbrev b12_0:IC:=(.seq (.reg r12_5) (.seq (.cond (.t 34) .skip (.exit 0)) (.seq (.block 1 (.seq (.reg r12_6) (.seq (.reg r12_7) (.cond (.t 47) (.reg r12_8) .skip)))) (.reg r12_9))))
abbrev r12_10:=[mv 53 5,
 ca 54 [.f 37,.t 53]]
abbrev r12_11:=[mv 55 5,
 mv 4 55]
abbrev c12:IC:=(.seq (.reg r12_0) (.seq (.seq (.reg r12_1) (.cond (.t 10) (.seq (.reg r12_2) .ret) .skip)) (.seq (.regD .alloc r12_3 (.take 0 (.take 1 (.take 2 (.take 3 (.take 4 (.take 5 (.take 6 (.take 7 (.take 8 (.take 9 (.take 10 (.take 11 (.take 12 (.take 13 (.take 14 (.take 15 (.done)))))))))))))))))) (.seq (.seq (.reg r12_4) (.block 0 (.loop b12_0))) (.seq (.reg r12_10) (.seq (.reg r12_11) .ret))))))
abbrev g12:FC:=⟨c12,56,[.t 4]⟩
theorem comp12:compF qi (hintL [(3,7)]) 12=some g12:=by kernel_rfl
abbrev r20_0:=[o1 4 (.mov) [.c (.bool false)]]
abbrev r20_1:=[mv 6 0,
 z1 7 (.len .slice) 6,
 mv 8 1,
 z1 9 (.len .slice) 8,
 z2 10 (.bin .neq .prim) 7 9]
abbrev r20_2:=[o1 4 (.mov) [.c (.bool false)]]
abbrev r20_3:=[o1 5 (.mov) [.c (.int .i64 0)]]
abbrev r20_4:=[mv 11 5,
 mv 12 0,
 z1 13 (.len .slice) 12,
 z2 14 (.bin .lss .prim) 11 13]
abbrev r20_5:=[mv 17 0,
 mv 18 5,
 z2 19 (.iaddr 1) 17 18,
 z1 20 (.load none) 19,
 mv 21 1,
 mv 22 5,
 z2 23 (.iaddr 1) 21 22,
 z1 24 (.load none) 23,
 z2 25 (.bin .neq .prim) 20 24]
abbrev r20_6:=[o1 4 (.mov) [.c (.bool false)]]
abbrev r20_7:=[mv 15 5,
 zk 16 (.bin .add .prim) 15 (.int .i64 1),
 mv 5 16]
abbrev b20_0:IC:=(.seq (.seq (.reg r20_4) (.cond (.t 14) .skip (.exit 0))) (.seq (.block 1 (.seq (.regD .wild r20_5 (.take 0 (.take 1 (.take 2 (.take 3 (.take 4 (.take 5 (.take 6 (.take 7 (.take 8 (.done))))))))))) (.cond (.t 25) (.seq (.reg r20_6) .ret) .skip))) (.reg r20_7)))
abbrev r20_8:=[o1 4 (.mov) [.c (.bool true)]]
abbrev c20:IC:=(.seq (.reg r20_0) (.seq (.seq (.reg r20_1) (.cond (.t 10) (.seq (.reg r20_2) .ret) .skip)) (.seq (.seq (.reg r20_3) (.block 0 (.loop b20_0))) (.seq (.reg r20_8) .ret))))
abbrev g20:FC:=⟨c20,26,[.t 4]⟩
theorem comp20:compF qi (hintL [(6,6)]) 20=some g20:=by kernel_rfl
abbrev r13_0:=[o1 2 (.mov) [.c (.int .i64 0)]]
abbrev r13_1:=[mv 3 0,
 ca 4 [.f 27,.t 3],
 z1 5 (.un .not) 4]
abbrev r13_2:=[o1 2 (.mov) [.c (.int .i64 0)]]
abbrev r13_3:=[mv 6 0,
 z1 7 (.nilchk) 6,
 z1 8 (.faddr 1) 7,
 z1 9 (.load none) 8,
 z1 10 (.len .map) 9,
 mv 2 10]
abbrev c13:IC:=(.seq (.reg r13_0) (.seq (.seq (.reg r13_1) (.cond (.t 5) (.seq (.reg r13_2) .ret) .skip)) (.seq (.reg r13_3) .ret)))
abbrev g13:FC:=⟨c13,11,[.t 2]⟩
theorem comp13:compF qi (fun _=>0) 13=some g13:=by kernel_rfl
abbrev r22_0:=[o1 4 (.mov) [.c (.bool false)]]
abbrev r22_1:=[mv 7 0,
 ca 8 [.f 27,.t 7],
 z1 9 (.un .not) 8]
abbrev r22_2:=[o1 4 (.mov) [.c (.bool false)]]
abbrev r22_3:=[mv 11 0,
 z1 12 (.nilchk) 11,
 z1 13 (.faddr 1) 12,
 z1 14 (.load none) 13,
 mv 15 1,
 z2 16 (.look .int (.nilp) true) 14 15,
 mv 10 16,
 z1 17 (.extract 0) 10,
 z1 18 (.extract 1) 10,
 mv 5 17,
 mv 6 18]
abbrev r22_4:=[mv 19 6,
 mv 4 19]
abbrev c22:IC:=(.seq (.reg r22_0) (.seq (.seq (.reg r22_1) (.cond (.t 9) (.seq (.reg r22_2) .ret) .skip)) (.seq (.reg r22_3) (.seq (.reg r22_4) .ret))))
abbrev g22:FC:=⟨c22,20,[.t 4]⟩
theorem comp22:compF qi (fun _=>0) 22=some g22:=by kernel_rfl
abbrev r25_0:=[o1 2 (.mov) [.c (.nils)]]
abbrev r25_1:=[mv 6 0,
 ca 7 [.f 27,.t 6],
 z1 8 (.un .not) 7]
abbrev r25_2:=[o1 2 (.mov) [.c (.nils)]]
abbrev r25_3:=[o1 3 (.mov) [.c (.nils)]]
abbrev r25_4:=[mv 9 0,
 z1 10 (.nilchk) 9,
 z1 11 (.faddr 1) 10,
 z1 12 (.load none) 11,
 ca 13 [.f 35,.t 12],
 ca 14 [.f 34,.t 13],
 z1 15 (.len .slice) 14,
 o1 16 (.mov) [.c (.int .i64 0)]]
abbrev r25_5:=[z2 17 (.bin .lss .prim) 16 15]
abbrev r25_6:=[z2 18 (.iaddr 1) 14 16,
 z1 19 (.load none) 18,
 mv 5 19]
abbrev r25_7:=[mv 20 3,
 mv 21 0,
 z1 22 (.nilchk) 21,
 z1 23 (.faddr 1) 22,
 z1 24 (.load none) 23,
 mv 25 5,
 z2 26 (.look .int (.nilp) false) 24 25,
 z1 27 (.nilchk) 26,
 z1 28 (.faddr 0) 27,
 z1 29 (.load (some 3)) 28,
 z1 30 (.bsl 47 3 false) 29,
 z2 31 (.app 47 3 32) 20 30,
 mv 3 31]
abbrev r25_8:=[zk 32 (.bin .add .prim) 16 (.int .i64 1),
 mv 16 32]
abbrev b25_0:IC:=(.seq (.reg r25_5) (.seq (.cond (.t 17) .skip (.exit 0)) (.seq (.block 1 (.seq (.reg r25_6) (.reg r25_7))) (.reg r25_8))))
abbrev r25_9:=[mv 33 3,
 mv 2 33]
abbrev c25:IC:=(.seq (.reg r25_0) (.seq (.seq (.reg r25_1) (.cond (.t 8) (.seq (.reg r25_2) .ret) .skip)) (.seq (.reg r25_3) (.seq (.seq (.reg r25_4) (.block 0 (.loop b25_0))) (.seq (.reg r25_9) .ret)))))
abbrev g25:FC:=⟨c25,34,[.t 2]⟩
theorem comp25:compF qi (fun _=>0) 25=some g25:=by kernel_rfl
abbrev r24_0:=[o1 4 (.mov) [.c (.bool false)]]
abbrev r24_1:=[mv 6 0,
 z1 7 (.len .slice) 6,
 mv 8 1,
 z1 9 (.len .slice) 8,
 z2 10 (.bin .neq .prim) 7 9]
abbrev r24_2:=[o1 4 (.mov) [.c (.bool false)]]
abbrev r24_3:=[o1 5 (.mov) [.c (.int .i64 0)]]
abbrev r24_4:=[mv 11 5,
 mv 12 0,
 z1 13 (.len .slice) 12,
 z2 14 (.bin .lss .prim) 11 13]
abbrev r24_5:=[mv 17 0,
 mv 18 5,
 z2 19 (.iaddr 3) 17 18,
 z1 20 (.load (some 3)) 19,
 mv 21 1,
 mv 22 5,
 z2 23 (.iaddr 3) 21 22,
 z1 24 (.load (some 3)) 23,
 z2 25 (.bin .neq (.st [.int,.str,.bool])) 20 24]
abbrev r24_6:=[o1 4 (.mov) [.c (.bool false)]]
abbrev r24_7:=[mv 15 5,
 zk 16 (.bin .add .prim) 15 (.int .i64 1),
 mv 5 16]
abbrev b24_0:IC:=(.seq (.seq (.reg r24_4) (.cond (.t 14) .skip (.exit 0))) (.seq (.block 1 (.seq (.regD .wild r24_5 (.take 0 (.take 1 (.take 2 (.take 3 (.take 4 (.take 5 (.take 6 (.take 7 (.take 8 (.done))))))))))) (.cond (.t 25) (.seq (.reg r24_6) .ret) .skip))) (.reg r24_7)))
abbrev r24_8:=[o1 4 (.mov) [.c (.bool true)]]
abbrev c24:IC:=(.seq (.reg r24_0) (.seq (.seq (.reg r24_1) (.cond (.t 10) (.seq (.reg r24_2) .ret) .skip)) (.seq (.seq (.reg r24_3) (.block 0 (.loop b24_0))) (.seq (.reg r24_8) .ret))))
abbrev g24:FC:=⟨c24,26,[.t 4]⟩
theorem comp24:compF qi (hintL [(6,6)]) 24=some g24:=by kernel_rfl
abbrev r11_0:=[o1 8 (.mov) [.c (.int .i64 0)]]
abbrev r11_1:=[mv 16 0,
 ca 17 [.f 27,.t 16],
 z1 18 (.un .not) 17,
 mv 15 18]
abbrev r11_2:=[o1 8 (.mov) [.c (.int .i64 1)]]
abbrev r11_3:=[mv 20 1,
 zk 21 (.bin .lss .prim) 20 (.int .i64 0),
 mv 19 21]
abbrev r11_4:=[o1 8 (.mov) [.c (.int .i64 2)]]
abbrev r11_5:=[mv 23 0,
 mv 24 1,
 ca 25 [.f 22,.t 23,.t 24],
 mv 22 25]
abbrev r11_6:=[o1 8 (.mov) [.c (.int .i64 8)]]
abbrev r11_7:=[mv 26 2,
 ca 27 [.f 28,.t 26],
 mv 9 27]
abbrev r11_8:=[mv 28 9,
 zk 29 (.bin .neq .prim) 28 (.int .i64 0)]
abbrev r11_9:=[mv 30 9,
 mv 8 30]
abbrev r11_10:=[mv 31 0,
 z1 32 (.nilchk) 31,
 z1 33 (.faddr 1) 32,
 z1 34 (.load none) 33,
 z1 35 (.len .map) 34,
 zk 36 (.bin .geq .prim) 35 (.int .i64 200)]
abbrev r11_11:=[o1 8 (.mov) [.c (.int .i64 13)]]
abbrev r11_12:=[mv 37 1,
 mv 38 2,
 mv 39 3,
 o1 40 (.bst [.int .i64 0,.str [],.bool false] [(0,1),(1,1),(2,1)] [0,1,2]) [.t 37,.t 38,.t 39],
 z1 41 (.bst [.int .i64 0,.str [],.bool false,.nilp] [(0,3),(3,1)] [0]) 40,
 z1 42 (.box 62) 41,
 mv 10 42]
abbrev r11_13:=[mv 43 0,
 z1 44 (.nilchk) 43,
 z1 45 (.faddr 1) 44,
 z1 46 (.load none) 45,
 mv 47 1,
 mv 48 10,
 ⟨none,.op (.mapup .int),[.t 46,.t 47,.t 48],none⟩]
abbrev r11_14:=[mv 50 2,
 ca 51 [.f 29,.t 50],
 mv 49 51,
 z1 52 (.extract 0) 49,
 z1 53 (.extract 1) 49,
 mv 11 52,
 mv 12 53]
abbrev r11_15:=[mv 54 12]
abbrev r11_16:=[mv 56 0,
 mv 57 10,
 z1 58 (.nilchk) 57,
 z1 59 (.faddr 0) 58,
 z1 60 (.load (some 3)) 59,
 ca 61 [.f 30,.t 56,.t 60],
 mv 55 61,
 z1 62 (.extract 0) 55,
 z1 63 (.extract 1) 55,
 mv 13 62,
 mv 14 63]
abbrev r11_17:=[mv 64 13,
 mv 65 14,
 mv 66 13,
 mv 67 14,
 z2 68 (.look .str (.nils) false) 66 67,
 mv 69 1,
 z1 70 (.bsl 3 1 false) 69,
 z2 71 (.app 3 1 8) 68 70,
 ⟨none,.op (.mapup .str),[.t 64,.t 65,.t 71],none⟩]
abbrev r11_18:=[o1 8 (.mov) [.c (.int .i64 0)]]
abbrev r11_19:=[mv 73 10,
 mv 74 2,
 mv 75 3,
 mv 76 0,
 z1 77 (.nilchk) 76,
 z1 78 (.faddr 0) 77,
 z1 79 (.load none) 78,
 ca 80 [.f 31,.t 74,.t 75,.t 79],
 mv 72 80,
 z1 81 (.extract 0) 72,
 z1 82 (.extract 1) 72,
 z1 83 (.nilchk) 73,
 z1 84 (.faddr 3) 83,
 sr 1 [.t 84,.t 81]]
abbrev r11_20:=[mv 85 0,
 z1 86 (.nilchk) 85,
 z1 87 (.faddr 4) 86,
 z1 88 (.load none) 87,
 mv 89 1,
 mv 90 10,
 ⟨none,.op (.mapup .int),[.t 88,.t 89,.t 90],none⟩]
abbrev r11_21:=[o1 8 (.mov) [.c (.int .i64 0)]]
abbrev c11:IC:=(.seq (.reg r11_0) (.seq (.block 0 (.seq (.reg r11_1) (.cond (.t 15) (.seq (.reg r11_2) .ret) (.seq (.reg r11_3) (.cond (.t 19) (.seq (.reg r11_4) .ret) (.seq (.reg r11_5) (.cond (.t 22) (.seq (.reg r11_6) .ret) .skip))))))) (.seq (.seq (.reg r11_7) (.seq (.reg r11_8) (.cond (.t 29) (.seq (.reg r11_9) .ret) .skip))) (.seq (.seq (.reg r11_10) (.cond (.t 36) (.seq (.reg r11_11) .ret) .skip)) (.seq (.reg r11_12) (.seq (.reg r11_13) (.seq (.seq (.reg r11_14) (.seq (.reg r11_15) (.cond (.t 54) (.seq (.reg r11_16) (.seq (.reg r11_17) (.seq (.reg r11_18) .ret))) .skip))) (.seq (.reg r11_19) (.seq (.reg r11_20) (.seq (.reg r11_21) .ret))))))))))
abbrev g11:FC:=⟨c11,91,[.t 8]⟩
theorem comp11:compF qi (fun _=>0) 11=some g11:=by kernel_rfl
abbrev r14_0:=[z1 3 (.box 3) 1,
 o1 4 (.mov) [.c (.int .i64 0)]]
abbrev r14_1:=[mv 9 0,
 ca 10 [.f 27,.t 9],
 z1 11 (.un .not) 10]
abbrev r14_2:=[o1 4 (.mov) [.c (.int .i64 1)]]
abbrev r14_3:=[mv 13 0,
 z1 14 (.nilchk) 13,
 z1 15 (.faddr 1) 14,
 z1 16 (.load none) 15,
 z1 17 (.load none) 3,
 z2 18 (.look .int (.nilp) true) 16 17,
 mv 12 18,
 z1 19 (.extract 0) 12,
 z1 20 (.extract 1) 12,
 mv 5 19,
 mv 6 20]
abbrev r14_4:=[mv 21 6,
 z1 22 (.un .not) 21]
abbrev r14_5:=[o1 4 (.mov) [.c (.int .i64 12)]]
abbrev r14_6:=[mv 23 0,
 z1 24 (.nilchk) 23,
 z1 25 (.faddr 1) 24,
 z1 26 (.load none) 25,
 z1 27 (.load none) 3,
 ⟨none,.op (.del .int),[.t 26,.t 27],none⟩]
abbrev r14_7:=[mv 28 5,
 z1 29 (.nilchk) 28,
 z1 30 (.faddr 3) 29,
 z1 31 (.load none) 30,
 zk 32 (.bin .neq .ptr) 31 (.nilp)]
abbrev r14_8:=[mv 33 0,
 z1 34 (.nilchk) 33,
 z1 35 (.faddr 4) 34,
 z1 36 (.load none) 35,
 z1 37 (.load none) 3,
 ⟨none,.op (.del .int),[.t 36,.t 37],none⟩]
abbrev r14_9:=[o1 4 (.mov) [.c (.int .i64 0)]]
abbrev r14_10:=[mv 39 0,
 mv 40 5,
 z1 41 (.nilchk) 40,
 z1 42 (.faddr 0) 41,
 z1 43 (.load (some 3)) 42,
 ca 44 [.f 30,.t 39,.t 43],
 mv 38 44,
 z1 45 (.extract 0) 38,
 z1 46 (.extract 1) 38,
 mv 7 45,
 mv 8 46]
abbrev r14_11:=[mv 47 7,
 mv 48 8,
 mv 49 7,
 mv 50 8,
 z2 51 (.look .str (.nils) false) 49 50,
 z1 52 (.mkfn 39) 3,
 ca 53 [.f 38,.t 51,.t 52],
 ⟨none,.op (.mapup .str),[.t 47,.t 48,.t 53],none⟩]
abbrev r14_12:=[mv 54 7,
 mv 55 8,
 z2 56 (.look .str (.nils) false) 54 55,
 z1 57 (.len .slice) 56,
 zk 58 (.bin .eql .prim) 57 (.int .i64 0)]
abbrev r14_13:=[mv 59 7,
 mv 60 8,
 ⟨none,.op (.del .str),[.t 59,.t 60],none⟩]
abbrev r14_14:=[o1 4 (.mov) [.c (.int .i64 0)]]
abbrev c14:IC:=(.seq (.reg r14_0) (.seq (.seq (.reg r14_1) (.cond (.t 11) (.seq (.reg r14_2) .ret) .skip)) (.seq (.regD .wild r14_3 (.take 0 (.take 1 (.take 2 (.take 3 (.take 4 (.take 5 (.take 6 (.take 7 (.take 8 (.take 9 (.take 10 (.done))))))))))))) (.seq (.seq (.reg r14_4) (.cond (.t 22) (.seq (.reg r14_5) .ret) .skip)) (.seq (.regD .wild r14_6 (.take 0 (.take 1 (.take 2 (.take 3 (.take 4 (.take 5 (.done)))))))) (.seq (.seq (.reg r14_7) (.cond (.t 32) (.seq (.regD .wild r14_8 (.take 0 (.take 1 (.take 2 (.take 3 (.take 4 (.take 5 (.done)))))))) (.seq (.reg r14_9) .ret)) .skip)) (.seq (.reg r14_10) (.seq (.reg r14_11) (.seq (.seq (.reg r14_12) (.cond (.t 58) (.reg r14_13) .skip)) (.seq (.reg r14_14) .ret))))))))))
abbrev g14:FC:=⟨c14,61,[.t 4]⟩
theorem comp14:compF qi (hintL [(3,6),(6,6),(8,6)]) 14=some g14:=by kernel_rfl
abbrev r26_0:=[o1 6 (.mov) [.c (.bool false)]]
abbrev r26_1:=[o1 7 (.mov) [.f 43]]
abbrev r26_2:=[mv 12 2]
abbrev r26_3:=[o1 7 (.mov) [.f 44]]
abbrev r26_4:=[o1 8 (.mov) [.c (.int .i64 0)],
 o1 9 (.mov) [.c (.int .i64 0)]]
abbrev r26_5:=[o1 10 (.mov) [.c (.int .i64 (-1))],
 o1 11 (.mov) [.c (.int .i64 0)]]
abbrev r26_6:=[mv 13 9,
 mv 14 1,
 z1 15 (.len .str) 14,
 z2 16 (.bin .lss .prim) 13 15]
abbrev r26_7:=[mv 18 8,
 mv 19 0,
 z1 20 (.len .str) 19,
 z2 21 (.bin .lss .prim) 18 20,
 mv 22 21,
 o2 23 (.mov) [.t 0] 22 true,
 o2 24 (.mov) [.t 8] 22 true,
 o2 25 (.idxs) [.t 23,.t 24] 22 true,
 o2 26 (.bin .eql .prim) [.t 25,.c (.int .u8 42)] 22 true,
 o1 27 (.pick) [.t 22,.t 26,.c (.bool false)],
 mv 17 27]
abbrev r26_8:=[mv 28 8,
 mv 29 9,
 mv 10 28,
 mv 11 29]
abbrev r26_9:=[mv 30 8,
 zk 31 (.bin .add .prim) 30 (.int .i64 1),
 mv 8 31]
abbrev r26_10:=[mv 33 8,
 mv 34 0,
 z1 35 (.len .str) 34,
 z2 36 (.bin .lss .prim) 33 35,
 mv 37 36,
 o2 38 (.mov) [.t 0] 37 true,
 o2 39 (.mov) [.t 8] 37 true,
 o2 40 (.idxs) [.t 38,.t 39] 37 true,
 o2 41 (.bin .eql .prim) [.t 40,.c (.int .u8 63)] 37 true,
 o2 42 (.mov) [.t 41] 37 true,
 o2 43 (.mov) [.t 7] 42 false,
 o2 44 (.mov) [.t 0] 42 false,
 o2 45 (.mov) [.t 8] 42 false,
 o2 46 (.idxs) [.t 44,.t 45] 42 false,
 o2 47 (.mov) [.t 1] 42 false,
 o2 48 (.mov) [.t 9] 42 false,
 o2 49 (.idxs) [.t 47,.t 48] 42 false,
 ⟨some 50,.call none,[.t 43,.t 46,.t 49],some (42,false)⟩,
 o2 51 (.pick) [.t 42,.c (.bool true),.t 50] 37 true,
 o1 52 (.pick) [.t 37,.t 51,.c (.bool false)],
 mv 32 52]
abbrev r26_11:=[mv 53 8,
 zk 54 (.bin .add .prim) 53 (.int .i64 1),
 mv 8 54]
abbrev r26_12:=[mv 55 9,
 zk 56 (.bin .add .prim) 55 (.int .i64 1),
 mv 9 56]
abbrev r26_13:=[mv 58 10,
 zk 59 (.bin .lss .prim) 58 (.int .i64 0),
 mv 57 59]
abbrev r26_14:=[o1 6 (.mov) [.c (.bool false)]]
abbrev r26_15:=[mv 60 11,
 zk 61 (.bin .add .prim) 60 (.int .i64 1),
 mv 11 61]
abbrev r26_16:=[mv 62 10,
 zk 63 (.bin .add .prim) 62 (.int .i64 1),
 mv 64 11,
 mv 8 63,
 mv 9 64]
abbrev b26_0:IC:=(.seq (.seq (.reg r26_6) (.cond (.t 16) .skip (.exit 0))) (.block 1 (.seq (.block 2 (.seq (.reg r26_7) (.cond (.t 17) (.seq (.reg r26_8) (.seq (.reg r26_9) (.exit 1))) (.seq (.regD .wild r26_10 (.take 0 (.take 1 (.take 2 (.take 3 (.take 4 (.take 5 (.take 6 (.take 7 (.take 8 (.take 9 (.take 10 (.take 11 (.take 12 (.take 13 (.take 14 (.take 15 (.take 16 (.take 17 (.take 18 (.take 19 (.take 20 (.done))))))))))))))))))))))) (.cond (.t 32) (.seq (.reg r26_11) (.seq (.reg r26_12) (.exit 1))) (.seq (.reg r26_13) (.cond (.t 57) (.seq (.reg r26_14) .ret) .skip))))))) (.seq (.reg r26_15) (.reg r26_16)))))
abbrev r26_17:=[mv 65 8,
 mv 66 0,
 z1 67 (.len .str) 66,
 z2 68 (.bin .lss .prim) 65 67,
 mv 69 68,
 o2 70 (.mov) [.t 0] 69 true,
 o2 71 (.mov) [.t 8] 69 true,
 o2 72 (.idxs) [.t 70,.t 71] 69 true,
 o2 73 (.bin .eql .prim) [.t 72,.c (.int .u8 42)] 69 true,
 o1 74 (.pick) [.t 69,.t 73,.c (.bool false)]]
abbrev r26_18:=[mv 75 8,
 zk 76 (.bin .add .prim) 75 (.int .i64 1),
 mv 8 76]
abbrev b26_1:IC:=(.seq (.seq (.reg r26_17) (.cond (.t 74) .skip (.exit 3))) (.block 4 (.reg r26_18)))
abbrev r26_19:=[mv 77 8,
 mv 78 0,
 z1 79 (.len .str) 78,
 z2 80 (.bin .eql .prim) 77 79,
 mv 6 80]
abbrev c26:IC:=(.seq (.reg r26_0) (.seq (.reg r26_1) (.seq (.seq (.reg r26_2) (.cond (.t 12) (.reg r26_3) .skip)) (.seq (.reg r26_4) (.seq (.reg r26_5) (.seq .skip (.seq (.block 0 (.loop b26_0)) (.seq (.block 3 (.loop b26_1)) (.seq (.reg r26_19) .ret)))))))))
abbrev g26:FC:=⟨c26,81,[.t 6]⟩
theorem comp26:compF qi (hintL [(10,6)]) 26=some g26:=by kernel_rfl
abbrev r27_0:=[o1 2 (.mov) [.c (.bool false)]]
abbrev r27_1:=[mv 3 0,
 zk 4 (.bin .neq .ptr) 3 (.nilp),
 mv 5 4,
 o2 6 (.mov) [.t 0] 5 true,
 o2 7 (.nilchk) [.t 6] 5 true,
 o2 8 (.faddr 1) [.t 7] 5 true,
 o2 9 (.load none) [.t 8] 5 true,
 o2 10 (.bin .neq .map) [.t 9,.c (.nilm)] 5 true,
 o1 11 (.pick) [.t 5,.t 10,.c (.bool false)],
 mv 2 11]
abbrev c27:IC:=(.seq (.reg r27_0) (.seq (.reg r27_1) .ret))
abbrev g27:FC:=⟨c27,12,[.t 2]⟩
theorem comp27:compF qi (fun _=>0) 27=some g27:=by kernel_rfl
abbrev r33_0:List IOp:=[⟨some 2,.op (.mov),[.c (.str [])],none⟩]
abbrev r33_1:=[mv 5 0,
 z1 6 (.s2b 5) 5,
 mv 3 6]
abbrev r33_2:=[mv 7 3,
 z1 8 (.len .slice) 7,
 o1 9 (.mov) [.c (.int .i64 0)]]
abbrev r33_3:=[z2 10 (.bin .lss .prim) 9 8]
abbrev r33_4:=[mv 11 9,
 mv 4 11]
abbrev r33_5:=[mv 12 3,
 mv 13 4,
 mv 14 3,
 mv 15 4,
 z2 16 (.iaddr 1) 14 15,
 z1 17 (.load none) 16,
 ca 18 [.f 45,.t 17],
 z2 19 (.iaddr 1) 12 13,
 sr 1 [.t 19,.t 18]]
abbrev r33_6:=[zk 20 (.bin .add .prim) 9 (.int .i64 1),
 mv 9 20]
abbrev b33_0:IC:=(.seq (.reg r33_3) (.seq (.cond (.t 10) .skip (.exit 0)) (.seq (.block 1 (.seq (.reg r33_4) (.reg r33_5))) (.reg r33_6))))
abbrev r33_7:=[mv 21 3,
 z1 22 (.b2s) 21,
 mv 2 22]
abbrev c33:IC:=(.seq (.reg r33_0) (.seq (.reg r33_1) (.seq (.seq (.reg r33_2) (.block 0 (.loop b33_0))) (.seq (.reg r33_7) .ret))))
abbrev g33:FC:=⟨c33,23,[.t 2]⟩
theorem comp33:compF qi (fun _=>0) 33=some g33:=by kernel_rfl
abbrev r32_0:=[o1 2 (.mov) [.c (.nils)]]
abbrev r32_1:=[o1 3 (.mov) [.c (.int .i64 0)]]
abbrev r32_2:=[mv 9 0,
 z1 10 (.len .slice) 9,
 o1 11 (.mov) [.c (.int .i64 0)]]
abbrev r32_3:=[z2 12 (.bin .lss .prim) 11 10]
abbrev r32_4:=[z2 13 (.iaddr 1) 9 11,
 z1 14 (.load none) 13,
 mv 5 14]
abbrev r32_5:=[mv 15 3,
 mv 16 5,
 z1 17 (.len .slice) 16,
 z2 18 (.bin .add .prim) 15 17,
 mv 3 18]
abbrev r32_6:=[mv 19 3,
 zk 20 (.bin .lss .prim) 19 (.int .i64 0)]
abbrev r32_7:List IOp:=[⟨some 21,.op (.mkif 9),[.c (.str [108,101,110,32,111,117,116,32,111,102,32,114,97,110,103,101])],none⟩,
 ⟨none,.op (.never),[],none⟩]
abbrev r32_8:=[zk 22 (.bin .add .prim) 11 (.int .i64 1),
 mv 11 22]
abbrev b32_0:IC:=(.seq (.reg r32_3) (.seq (.cond (.t 12) .skip (.exit 0)) (.seq (.block 1 (.seq (.reg r32_4) (.seq (.reg r32_5) (.seq (.reg r32_6) (.cond (.t 20) (.reg r32_7) .skip))))) (.reg r32_8))))
abbrev r32_9:=[mv 23 3,
 ca 24 [.f 49,.c (.nils),.t 23],
 mv 6 24]
abbrev r32_10:=[mv 25 0,
 z1 26 (.len .slice) 25,
 o1 27 (.mov) [.c (.int .i64 0)]]
abbrev r32_11:=[z2 28 (.bin .lss .prim) 27 26]
abbrev r32_12:=[z2 29 (.iaddr 1) 25 27,
 z1 30 (.load none) 29,
 mv 8 30]
abbrev r32_13:=[mv 31 6,
 mv 32 8,
 z2 33 (.app 3 1 8) 31 32,
 mv 6 33]
abbrev r32_14:=[zk 34 (.bin .add .prim) 27 (.int .i64 1),
 mv 27 34]
abbrev b32_1:IC:=(.seq (.reg r32_11) (.seq (.cond (.t 28) .skip (.exit 2)) (.seq (.block 3 (.seq (.reg r32_12) (.reg r32_13))) (.reg r32_14))))
abbrev r32_15:=[mv 35 6,
 mv 2 35]
abbrev c32:IC:=(.seq (.reg r32_0) (.seq (.reg r32_1) (.seq (.seq (.reg r32_2) (.block 0 (.loop b32_0))) (.seq (.reg r32_9) (.seq (.seq (.reg r32_10) (.block 2 (.loop b32_1))) (.seq (.reg r32_15) .ret))))))
abbrev g32:FC:=⟨c32,36,[.t 2]⟩
theorem comp32:compF qi (fun _=>0) 32=some g32:=by kernel_rfl
abbrev r35_0:=[z1 1 (.box 54) 0,
 o1 2 (.mov) [.c (.nilf)]]
abbrev r35_1:=[z1 3 (.mkfn 51) 1,
 mv 2 3]
abbrev c35:IC:=(.seq (.reg r35_0) (.seq (.reg r35_1) .ret))
abbrev g35:FC:=⟨c35,4,[.t 2]⟩
theorem comp35:compF qi (fun _=>0) 35=some g35:=by kernel_rfl
abbrev r34_0:=[o1 2 (.mov) [.c (.nils)]]
abbrev r34_1:=[mv 4 0,
 ca 5 [.f 50,.t 4],
 mv 3 5]
abbrev r34_2:=[mv 6 3,
 ca 7 [.f 37,.t 6]]
abbrev r34_3:=[mv 8 3,
 mv 2 8]
abbrev c34:IC:=(.seq (.reg r34_0) (.seq (.reg r34_1) (.seq (.reg r34_2) (.seq (.reg r34_3) .ret))))
abbrev g34:FC:=⟨c34,9,[.t 2]⟩
theorem comp34:compF qi (fun _=>0) 34=some g34:=by kernel_rfl
abbrev r36_0:=[o1 4 (.mov) [.c (.bool false)]]
abbrev r36_1:=[mv 5 0,
 zk 6 (.bin .neq .ptr) 5 (.nilp),
 mv 7 6,
 o2 8 (.mov) [.t 0] 7 true,
 o2 9 (.nilchk) [.t 8] 7 true,
 o2 10 (.faddr 0) [.t 9] 7 true,
 o2 11 (.load none) [.t 10] 7 true,
 o2 12 (.bin .neq (.iface true)) [.t 11,.c (.nili)] 7 true,
 o1 13 (.pick) [.t 7,.t 12,.c (.bool false)],
 mv 14 13,
 o2 15 (.mov) [.t 0] 14 true,
 o2 16 (.nilchk) [.t 15] 14 true,
 o2 17 (.faddr 0) [.t 16] 14 true,
 o2 18 (.load none) [.t 17] 14 true,
 o2 19 (.mov) [.t 1] 14 true,
 ⟨some 20,.call (some [(94,157),(100,160)]),[.t 18,.t 19],some (14,true)⟩,
 o1 21 (.pick) [.t 14,.t 20,.c (.bool false)],
 mv 4 21]
abbrev c36:IC:=(.seq (.reg r36_0) (.seq (.reg r36_1) .ret))
abbrev g36:FC:=⟨c36,22,[.t 4]⟩
theorem comp36:compF qi (fun _=>0) 36=some g36:=by kernel_rfl
abbrev r37_0:=[mv 3 0,
 z1 4 (.len .slice) 3,
 mv 2 4]
abbrev r37_1:=[mv 5 0,
 mv 6 2,
 mv 7 2,
 z1 8 (.toInt .u64) 7,
 ca 9 [.f 53,.t 8],
 ca 10 [.f 52,.t 5,.c (.int .i64 0),.t 6,.t 9]]
abbrev c37:IC:=(.seq (.reg r37_0) (.reg r37_1))
abbrev g37:FC:=⟨c37,11,[]⟩
theorem comp37:compF qi (fun _=>0) 37=some g37:=by kernel_rfl
abbrev r28_0:=[o1 2 (.mov) [.c (.int .i64 0)]]
abbrev r28_1:=[mv 4 0,
 ⟨some 5,.op (.bin .eql .prim),[.t 4,.c (.str [])],none⟩,
 mv 3 5]
abbrev r28_2:=[o1 2 (.mov) [.c (.int .i64 2)]]
abbrev r28_3:=[mv 7 0,
 z1 8 (.len .str) 7,
 zk 9 (.bin .gtr .prim) 8 (.int .i64 255),
 mv 6 9]
abbrev r28_4:=[o1 2 (.mov) [.c (.int .i64 4)]]
abbrev r28_5:=[o1 2 (.mov) [.c (.int .i64 0)]]
abbrev c28:IC:=(.seq (.reg r28_0) (.seq (.block 0 (.seq (.reg r28_1) (.cond (.t 3) (.seq (.reg r28_2) .ret) (.seq (.reg r28_3) (.cond (.t 6) (.seq (.reg r28_4) .ret) .skip))))) (.seq (.reg r28_5) .ret)))
abbrev g28:FC:=⟨c28,10,[.t 2]⟩
theorem comp28:compF qi (fun _=>0) 28=some g28:=by kernel_rfl
abbrev r29_0:List IOp:=[⟨some 2,.op (.mov),[.c (.str [])],none⟩,
 o1 3 (.mov) [.c (.bool false)]]
abbrev r29_1:=[mv 4 0,
 z1 5 (.s2b 5) 4,
 ca 6 [.f 46,.t 5,.c (.str [42,63])]]
abbrev r29_2:List IOp:=[⟨some 2,.op (.mov),[.c (.str [])],none⟩,
 o1 3 (.mov) [.c (.bool false)]]
abbrev r29_3:=[mv 7 0,
 mv 2 7,
 o1 3 (.mov) [.c (.bool true)]]
abbrev c29:IC:=(.seq (.reg r29_0) (.seq (.seq (.reg r29_1) (.cond (.t 6) (.seq (.reg r29_2) .ret) .skip)) (.seq (.reg r29_3) .ret)))
abbrev g29:FC:=⟨c29,8,[.t 2,.t 3]⟩
theorem comp29:compF qi (fun _=>0) 29=some g29:=by kernel_rfl
abbrev r30_0:=[z1 3 (.box 47) 1,
 o1 4 (.mov) [.c (.nilm)],
 ⟨some 5,.op (.mov),[.c (.str [])],none⟩]
abbrev r30_1:=[z1 6 (.faddr 2) 3,
 z1 7 (.load none) 6]
abbrev r30_2:=[mv 8 0,
 z1 9 (.nilchk) 8,
 z1 10 (.faddr 3) 9,
 z1 11 (.load none) 10,
 z1 12 (.faddr 1) 3,
 z1 13 (.load none) 12,
 ca 14 [.f 33,.t 13],
 mv 4 11,
 mv 5 14]
abbrev r30_3:=[mv 15 0,
 z1 16 (.nilchk) 15,
 z1 17 (.faddr 2) 16,
 z1 18 (.load none) 17,
 z1 19 (.faddr 1) 3,
 z1 20 (.load none) 19,
 mv 4 18,
 mv 5 20]
abbrev c30:IC:=(.seq (.reg r30_0) (.seq (.seq (.reg r30_1) (.cond (.t 7) (.seq (.regD .alloc r30_2 (.take 0 (.take 1 (.take 2 (.take 3 (.take 4 (.take 5 (.take 6 (.take 7 (.take 8 (.done))))))))))) .ret) .skip)) (.seq (.regD .wild r30_3 (.take 0 (.take 1 (.take 2 (.take 3 (.take 4 (.take 5 (.take 6 (.take 7 (.done)))))))))) .ret)))
abbrev g30:FC:=⟨c30,21,[.t 4,.t 5]⟩
theorem comp30:compF qi (hintL [(2,7),(3,6)]) 30=some g30:=by kernel_rfl
abbrev r31_0:=[o1 6 (.mov) [.c (.nilp)],
 o1 7 (.mov) [.c (.int .i64 0)]]
abbrev r31_1:=[mv 13 0,
 mv 14 1,
 ca 15 [.f 47,.t 13,.t 14],
 mv 12 15,
 z1 16 (.extract 0) 12,
 z1 17 (.extract 1) 12,
 mv 8 16,
 mv 9 17]
abbrev r31_2:=[mv 18 9,
 zk 19 (.bin .neq .prim) 18 (.int .i64 0)]
abbrev r31_3:=[mv 20 9,
 o1 6 (.mov) [.c (.nilp)],
 mv 7 20]
abbrev r31_4:=[mv 21 2,
 zk 22 (.bin .lss .prim) 21 (.int .i64 1),
 mv 23 22,
 o2 24 (.mov) [.t 2] 23 false,
 o2 25 (.bin .gtr .prim) [.t 24,.c (.int .i64 256)] 23 false,
 o1 26 (.pick) [.t 23,.c (.bool true),.t 25]]
abbrev r31_5:=[o1 6 (.mov) [.c (.nilp)],
 o1 7 (.mov) [.c (.int .i64 2)]]
abbrev r31_6:=[mv 28 0,
 mv 29 1,
 mv 30 2,
 ca 31 [.f 48,.t 28,.t 29,.t 30],
 mv 27 31,
 z1 32 (.extract 0) 27,
 z1 33 (.extract 1) 27,
 o1 10 (.alloc 90 [.nils,.nils,.nils]) [],
 sr 3 [.t 10,.t 32],
 mv 11 33]
abbrev r31_7:=[mv 34 11]
abbrev r31_8:=[z1 35 (.load (some 3)) 10,
 z1 36 (.bst [.nils,.nils,.nils] [(0,3)] [0]) 35,
 z1 37 (.mkif 94) 36,
 z1 38 (.bst [.nili] [(0,1)] [0]) 37,
 z1 39 (.box 98) 38,
 mv 6 39,
 o1 7 (.mov) [.c (.int .i64 0)]]
abbrev r31_9:=[mv 40 8,
 z1 41 (.bst [.nilp] [(0,1)] [0]) 40,
 z1 42 (.mkif 100) 41,
 z1 43 (.bst [.nili] [(0,1)] [0]) 42,
 z1 44 (.box 98) 43,
 mv 6 44,
 o1 7 (.mov) [.c (.int .i64 0)]]
abbrev c31:IC:=(.seq (.reg r31_0) (.seq (.reg r31_1) (.seq (.seq (.reg r31_2) (.cond (.t 19) (.seq (.reg r31_3) .ret) .skip)) (.seq (.seq (.reg r31_4) (.cond (.t 26) (.seq (.reg r31_5) .ret) .skip)) (.seq (.seq (.reg r31_6) (.seq (.reg r31_7) (.cond (.t 34) (.seq (.reg r31_8) .ret) .skip))) (.seq (.reg r31_9) .ret))))))
abbrev g31:FC:=⟨c31,45,[.t 6,.t 7]⟩
theorem comp31:compF qi (fun _=>0) 31=some g31:=by kernel_rfl
abbrev r39_0:=[o1 3 (.mov) [.c (.bool false)]]
abbrev r39_1:=[mv 4 0,
 z1 5 (.load none) 1,
 z2 6 (.bin .eql .prim) 4 5,
 mv 3 6]
abbrev c39:IC:=(.seq (.reg r39_0) (.seq (.reg r39_1) .ret))
abbrev g39:FC:=⟨c39,7,[.t 3]⟩
theorem comp39:compF qi (fun _=>0) 39=some g39:=by kernel_rfl
abbrev r38_0:=[o1 4 (.mov) [.c (.nils)]]
abbrev r38_1:=[mv 8 0,
 mv 9 1,
 ca 10 [.f 54,.t 8,.t 9],
 mv 5 10]
abbrev r38_2:=[mv 11 5,
 zk 12 (.bin .eql .prim) 11 (.int .i64 (-1))]
abbrev r38_3:=[mv 13 0,
 mv 4 13]
abbrev r38_4:=[mv 14 5,
 zk 15 (.bin .add .prim) 14 (.int .i64 1),
 mv 6 15]
abbrev r38_5:=[mv 16 6,
 mv 17 0,
 z1 18 (.len .slice) 17,
 z2 19 (.bin .lss .prim) 16 18]
abbrev r38_6:=[mv 22 0,
 mv 23 6,
 z2 24 (.iaddr 1) 22 23,
 z1 25 (.load none) 24,
 mv 7 25]
abbrev r38_7:=[mv 26 1,
 mv 27 7,
 ca 28 [.t 26,.t 27],
 z1 29 (.un .not) 28]
abbrev r38_8:=[mv 30 0,
 mv 31 5,
 mv 32 7,
 z2 33 (.iaddr 1) 30 31,
 sr 1 [.t 33,.t 32]]
abbrev r38_9:=[mv 34 5,
 zk 35 (.bin .add .prim) 34 (.int .i64 1),
 mv 5 35]
abbrev r38_10:=[mv 20 6,
 zk 21 (.bin .add .prim) 20 (.int .i64 1),
 mv 6 21]
abbrev b38_0:IC:=(.seq (.seq (.reg r38_5) (.cond (.t 19) .skip (.exit 0))) (.seq (.block 1 (.seq (.reg r38_6) (.seq (.reg r38_7) (.cond (.t 29) (.seq (.reg r38_8) (.reg r38_9)) .skip)))) (.reg r38_10)))
abbrev r38_11:=[mv 36 0,
 mv 37 5,
 z2 38 (.slice 1 true false false) 36 37,
 ⟨none,.op (.clear [.int .i64 0]),[.t 38],none⟩]
abbrev r38_12:=[mv 39 0,
 mv 40 5,
 z2 41 (.slice 1 false true false) 39 40,
 mv 4 41]
abbrev c38:IC:=(.seq (.reg r38_0) (.seq (.reg r38_1) (.seq (.seq (.reg r38_2) (.cond (.t 12) (.seq (.reg r38_3) .ret) .skip)) (.seq (.seq (.reg r38_4) (.block 0 (.loop b38_0))) (.seq (.reg r38_11) (.seq (.reg r38_12) .ret))))))
abbrev g38:FC:=⟨c38,42,[.t 4]⟩
theorem comp38:compF qi (fun _=>0) 38=some g38:=by kernel_rfl
abbrev r43_0:=[o1 4 (.mov) [.c (.bool false)]]
abbrev r43_1:=[mv 5 0,
 mv 6 1,
 z2 7 (.bin .eql .prim) 5 6,
 mv 4 7]
abbrev c43:IC:=(.seq (.reg r43_0) (.seq (.reg r43_1) .ret))
abbrev g43:FC:=⟨c43,8,[.t 4]⟩
theorem comp43:compF qi (fun _=>0) 43=some g43:=by kernel_rfl
abbrev r44_0:=[o1 4 (.mov) [.c (.bool false)]]
abbrev r44_1:=[mv 5 0,
 ca 6 [.f 45,.t 5],
 mv 7 1,
 ca 8 [.f 45,.t 7],
 z2 9 (.bin .eql .prim) 6 8,
 mv 4 9]
abbrev c44:IC:=(.seq (.reg r44_0) (.seq (.reg r44_1) .ret))
abbrev g44:FC:=⟨c44,10,[.t 4]⟩
theorem comp44:compF qi (fun _=>0) 44=some g44:=by kernel_rfl
abbrev r45_0:=[o1 2 (.mov) [.c (.int .u8 0)]]
abbrev r45_1:=[mv 3 0,
 zk 4 (.bin .geq .prim) 3 (.int .u8 65),
 mv 5 4,
 o2 6 (.mov) [.t 0] 5 true,
 o2 7 (.bin .leq .prim) [.t 6,.c (.int .u8 90)] 5 true,
 o1 8 (.pick) [.t 5,.t 7,.c (.bool false)]]
abbrev r45_2:=[mv 9 0,
 zk 10 (.bin .add .prim) 9 (.int .u8 32),
 mv 2 10]
abbrev r45_3:=[mv 11 0,
 mv 2 11]
abbrev c45:IC:=(.seq (.reg r45_0) (.seq (.seq (.reg r45_1) (.cond (.t 8) (.seq (.reg r45_2) .ret) .skip)) (.seq (.reg r45_3) .ret)))
abbrev g45:FC:=⟨c45,12,[.t 2]⟩
theorem comp45:compF qi (fun _=>0) 45=some g45:=by kernel_rfl
abbrev r49_0:=[o1 4 (.mov) [.c (.nils)]]
abbrev r49_1:=[mv 5 1,
 zk 6 (.bin .lss .prim) 5 (.int .i64 0)]
abbrev r49_2:List IOp:=[⟨some 7,.op (.mkif 9),[.c (.str [99,97,110,110,111,116,32,98,101,32,110,101,103,97,116,105,118,101])],none⟩,
 ⟨none,.op (.never),[],none⟩]
abbrev r49_3:=[mv 8 1,
 mv 9 0,
 z1 10 (.cap) 9,
 mv 11 0,
 z1 12 (.len .slice) 11,
 z2 13 (.bin .sub .prim) 10 12,
 z2 14 (.bin .sub .prim) 8 13,
 mv 1 14]
abbrev r49_4:=[mv 15 1,
 zk 16 (.bin .gtr .prim) 15 (.int .i64 0)]
abbrev r49_5:=[mv 17 0,
 mv 18 0,
 z1 19 (.cap) 18,
 z2 20 (.slice 1 false true false) 17 19,
 mv 21 1,
 z2 22 (.appz 3 [.int .i64 0] 8) 20 21,
 mv 23 0,
 z1 24 (.len .slice) 23,
 z2 25 (.slice 1 false true false) 22 24,
 mv 0 25]
abbrev r49_6:=[mv 26 0,
 mv 4 26]
abbrev c49:IC:=(.seq (.reg r49_0) (.seq (.seq (.reg r49_1) (.cond (.t 6) (.reg r49_2) .skip)) (.seq (.seq (.reg r49_3) (.seq (.reg r49_4) (.cond (.t 16) (.reg r49_5) .skip))) (.seq (.reg r49_6) .ret))))
abbrev g49:FC:=⟨c49,27,[.t 4]⟩
theorem comp49:compF qi (fun _=>0) 49=some g49:=by kernel_rfl
abbrev r51_0:=[z1 4 (.load none) 1,
 z1 5 (.rangem) 4]
abbrev r51_1:=[z1 6 (.nextm) 5,
 z1 7 (.extract 0) 6]
abbrev r51_2:=[z1 8 (.entm) 5,
 z1 9 (.extract 0) 8,
 mv 3 9]
abbrev r51_3:=[mv 10 0,
 mv 11 3,
 ca 12 [.t 10,.t 11],
 z1 13 (.un .not) 12]
abbrev b51_0:IC:=(.seq (.reg r51_1) (.seq (.cond (.t 7) .skip (.exit 0)) (.block 1 (.seq (.reg r51_2) (.seq (.reg r51_3) (.cond (.t 13) .ret .skip))))))
abbrev c51:IC:=(.seq (.reg r51_0) (.block 0 (.loop b51_0)))
abbrev g51:FC:=⟨c51,14,[]⟩
theorem comp51:compF qi (fun _=>0) 51=some g51:=by kernel_rfl
abbrev r50_0:=[o1 2 (.mov) [.c (.nils)]]
abbrev r50_1:=[mv 3 0,
 ca 4 [.f 65,.c (.nils),.t 3],
 mv 2 4]
abbrev c50:IC:=(.seq (.reg r50_0) (.seq (.reg r50_1) .ret))
abbrev g50:FC:=⟨c50,5,[.t 2]⟩
theorem comp50:compF qi (fun _=>0) 50=some g50:=by kernel_rfl
abbrev r157_0:=[z1 2 (.box 94) 0,
 o1 4 (.mov) [.c (.bool false)]]
abbrev r157_1:=[z1 5 (.faddr 0) 2,
 z1 6 (.load (some 3)) 5,
 mv 7 1,
 ca 8 [.f 159,.t 6,.t 7],
 mv 4 8]
abbrev c157:IC:=(.seq (.reg r157_0) (.seq (.reg r157_1) .ret))
abbrev g157:FC:=⟨c157,9,[.t 4]⟩
theorem comp157:compF qi (fun _=>0) 157=some g157:=by kernel_rfl
abbrev r160_0:=[z1 2 (.box 100) 0,
 o1 4 (.mov) [.c (.bool false)]]
abbrev r160_1:=[z1 5 (.faddr 0) 2,
 z1 6 (.load none) 5,
 mv 7 1,
 ca 8 [.f 162,.t 6,.t 7],
 mv 4 8]
abbrev c160:IC:=(.seq (.reg r160_0) (.seq (.reg r160_1) .ret))
abbrev g160:FC:=⟨c160,9,[.t 4]⟩
theorem comp160:compF qi (fun _=>0) 160=some g160:=by kernel_rfl
abbrev r46_0:=[o1 4 (.mov) [.c (.bool false)]]
abbrev r46_1:=[mv 5 0,
 mv 6 1,
 ca 7 [.f 56,.t 5,.t 6],
 zk 8 (.bin .geq .prim) 7 (.int .i64 0),
 mv 4 8]
abbrev c46:IC:=(.seq (.reg r46_0) (.seq (.reg r46_1) .ret))
abbrev g46:FC:=⟨c46,9,[.t 4]⟩
theorem comp46:compF qi (fun _=>0) 46=some g46:=by kernel_rfl
abbrev r47_0:=[o1 4 (.mov) [.c (.nilp)],
 o1 5 (.mov) [.c (.int .i64 0)]]
abbrev r47_1:=[mv 7 0,
 ca 8 [.f 28,.t 7],
 mv 6 8]
abbrev r47_2:=[mv 9 6,
 zk 10 (.bin .neq .prim) 9 (.int .i64 0)]
abbrev r47_3:=[mv 11 6,
 o1 4 (.mov) [.c (.nilp)],
 mv 5 11]
abbrev r47_4:=[mv 12 0,
 ca 13 [.f 57,.t 12],
 mv 14 1,
 z2 15 (.bst [.str [],.bool false] [(0,1),(1,1)] [0,1]) 13 14,
 z1 16 (.box 108) 15,
 mv 4 16,
 o1 5 (.mov) [.c (.int .i64 0)]]
abbrev c47:IC:=(.seq (.reg r47_0) (.seq (.seq (.reg r47_1) (.seq (.reg r47_2) (.cond (.t 10) (.seq (.reg r47_3) .ret) .skip))) (.seq (.reg r47_4) .ret)))
abbrev g47:FC:=⟨c47,17,[.t 4,.t 5]⟩
theorem comp47:compF qi (fun _=>0) 47=some g47:=by kernel_rfl
abbrev r48_0:=[o1 6 (.alloc 90 [.nils,.nils,.nils]) [],
 o1 7 (.mov) [.c (.bool false)]]
abbrev r48_1:=[mv 23 0,
 mv 24 1,
 ca 25 [.f 47,.t 23,.t 24],
 mv 22 25,
 z1 26 (.extract 0) 22,
 z1 27 (.extract 1) 22,
 mv 8 26,
 mv 9 27]
abbrev r48_2:=[mv 28 9,
 zk 29 (.bin .neq .prim) 28 (.int .i64 0),
 mv 30 29,
 o2 31 (.mov) [.t 2] 30 false,
 o2 32 (.bin .lss .prim) [.t 31,.c (.int .i64 1)] 30 false,
 o1 33 (.pick) [.t 30,.c (.bool true),.t 32],
 mv 34 33,
 o2 35 (.mov) [.t 2] 34 false,
 o2 36 (.bin .gtr .prim) [.t 35,.c (.int .i64 256)] 34 false,
 o1 37 (.pick) [.t 34,.c (.bool true),.t 36]]
abbrev r48_3:=[o1 38 (.bst [.nils,.nils,.nils] [(0,1),(1,1),(2,1)] []) [],
 sr 3 [.t 6,.t 38],
 o1 7 (.mov) [.c (.bool false)]]
abbrev r48_4:=[mv 40 8,
 ca 41 [.f 58,.t 40],
 mv 39 41,
 z1 42 (.extract 0) 39,
 z1 43 (.extract 1) 39,
 mv 10 42,
 mv 11 43]
abbrev r48_5:=[mv 45 10,
 mv 46 1,
 ca 47 [.f 59,.t 45,.t 46],
 mv 44 47,
 z1 48 (.extract 0) 44,
 z1 49 (.extract 1) 44,
 o1 12 (.alloc 110 [.int .i64 0,.int .i64 0,.int .i64 0,.int .i64 0,.int .i64 0,.int .i64 0,.int .i64 0,.int .i64 0,.int .i64 0,.int .i64 0,.int .i64 0,.int .i64 0,.int .i64 0,.int .i64 0,.int .i64 0,.int .i64 0,.int .i64 0,.int .i64 0,.int .i64 0,.int .i64 0,.int .i64 0,.int .i64 0,.int .i64 0,.int .i64 0,.int .i64 0,.int .i64 0,.int .i64 0,.int .i64 0,.int .i64 0,.int .i64 0,.int .i64 0,.int .i64 0,.int .i64 0,.int .i64 0,.int .i64 0,.int .i64 0,.int .i64 0,.int .i64 0,.int .i64 0,.int .i64 0,.int .i64 0,.int .i64 0,.int .i64 0,.int .i64 0,.int .i64 0,.int .i64 0,.int .i64 0,.int .i64 0,.int .i64 0,.int .i64 0,.int .i64 0,.int .i64 0,.int .i64 0,.int .i64 0,.int .i64 0,.int .i64 0,.int .i64 0,.int .i64 0,.int .i64 0,.int .i64 0,.int .i64 0,.int .i64 0,.int .i64 0,.int .i64 0,.int .i64 0,.int .i64 0,.int .i64 0,.int .i64 0,.int .i64 0,.int .i64 0,.int .i64 0,.int .i64 0,.int .i64 0,.int .i64 0,.int .i64 0,.int .i64 0,.int .i64 0,.int .i64 0,.int .i64 0,.int .i64 0,.int .i64 0,.int .i64 0,.int .i64 0,.int .i64 0,.int .i64 0,.int .i64 0,.int .i64 0,.int .i64 0,.int .i64 0,.int .i64 0,.int .i64 0,.int .i64 0,.int .i64 0,.int .i64 0,.int .i64 0,.int .i64 0,.int .i64 0,.int .i64 0,.int .i64 0,.int .i64 0,.int .i64 0,.int .i64 0,.int .i64 0,.int .i64 0,.int .i64 0,.int .i64 0,.int .i64 0,.int .i64 0,.int .i64 0,.int .i64 0,.int .i64 0,.int .i64 0,.int .i64 0,.int .i64 0,.int .i64 0,.int .i64 0,.int .i64 0,.int .i64 0,.int .i64 0,.int .i64 0,.int .i64 0,.int .i64 0,.int .i64 0,.int .i64 0,.int .i64 0,.int .i64 0,.int .i64 0,.int .i64 0,.int .i64 0,.int .i64 0,.int .i64 0,.int .i64 0,.int .i64 0,.int .i64 0,.int .i64 0,.int .i64 0,.int .i64 0,.int .i64 0,.int .i64 0,.int .i64 0,.int .i64 0,.int .i64 0,.int .i64 0,.int .i64 0,.int .i64 0,.int .i64 0,.int .i64 0,.int .i64 0,.int .i64 0,.int .i64 0,.int .i64 0,.int .i64 0,.int .i64 0,.int .i64 0,.int .i64 0,.int .i64 0,.int .i64 0,.int .i64 0,.int .i64 0,.int .i64 0,.int .i64 0,.int .i64 0,.int .i64 0,.int .i64 0,.int .i64 0,.int .i64 0,.int .i64 0,.int .i64 0,.int .i64 0,.int .i64 0,.int .i64 0,.int .i64 0,.int .i64 0,.int .i64 0,.int .i64 0,.int .i64 0,.int .i64 0,.int .i64 0,.int .i64 0,.int .i64 0,.int .i64 0,.int .i64 0,.int .i64 0,.int .i64 0,.int .i64 0,.int .i64 0,.int .i64 0,.int .i64 0,.int .i64 0,.int .i64 0,.int .i64 0,.int .i64 0,.int .i64 0,.int .i64 0,.int .i64 0,.int .i64 0,.int .i64 0,.int .i64 0,.int .i64 0,.int .i64 0,.int .i64 0,.int .i64 0,.int .i64 0,.int .i64 0,.int .i64 0,.int .i64 0,.int .i64 0,.int .i64 0,.int .i64 0,.int .i64 0,.int .i64 0,.int .i64 0,.int .i64 0,.int .i64 0,.int .i64 0,.int .i64 0,.int .i64 0,.int .i64 0,.int .i64 0,.int .i64 0,.int .i64 0,.int .i64 0,.int .i64 0,.int .i64 0,.int .i64 0,.int .i64 0,.int .i64 0,.int .i64 0,.int .i64 0,.int .i64 0,.int .i64 0,.int .i64 0,.int .i64 0,.int .i64 0,.int .i64 0,.int .i64 0,.int .i64 0,.int .i64 0,.int .i64 0,.int .i64 0,.int .i64 0,.int .i64 0,.int .i64 0,.int .i64 0,.int .i64 0,.int .i64 0,.int .i64 0,.int .i64 0,.int .i64 0,.int .i64 0,.int .i64 0,.int .i64 0,.int .i64 0,.int .i64 0,.int .i64 0,.int .i64 0]) [],
 sr 256 [.t 12,.t 48],
 mv 13 49]
abbrev r48_6:=[z1 50 (.aslice 256 1 false false false) 12,
 z1 51 (.bst [.nils,.nils,.nils] [(0,1),(1,1),(2,1)] [0]) 50,
 o1 14 (.alloc 90 [.nils,.nils,.nils]) [],
 sr 3 [.t 14,.t 51]]
abbrev r48_7:=[o1 52 (.mkmap false) [],
 o1 15 (.alloc 113 [.nilm]) [],
 sr 1 [.t 15,.t 52]]
abbrev r48_8:=[o1 16 (.alloc 87 [.nils]) []]
abbrev r48_9:=[z2 53 (.mkfn 60) 15 16,
 mv 17 53]
abbrev r48_10:=[mv 54 17,
 mv 55 8,
 ca 56 [.f 62,.t 55],
 ca 57 [.t 54,.t 56]]
abbrev r48_11:=[o1 18 (.mov) [.c (.int .i64 0)]]
abbrev r48_12:=[mv 58 18,
 z1 59 (.load none) 16,
 z1 60 (.len .slice) 59,
 z2 61 (.bin .lss .prim) 58 60]
abbrev r48_13:=[z1 64 (.load none) 16,
 z1 65 (.len .slice) 64,
 mv 66 2,
 z2 67 (.bin .gtr .prim) 65 66]
abbrev r48_14:=[o1 68 (.bst [.nils,.nils,.nils] [(0,1),(1,1),(2,1)] []) [],
 sr 3 [.t 6,.t 68],
 o1 7 (.mov) [.c (.bool false)]]
abbrev r48_15:=[o1 19 (.mov) [.c (.nils)]]
abbrev r48_16:=[mv 69 13,
 z1 70 (.len .slice) 69,
 o1 71 (.mov) [.c (.int .i64 0)]]
abbrev r48_17:=[z2 72 (.bin .lss .prim) 71 70]
abbrev r48_18:=[z2 73 (.iaddr 1) 69 71,
 z1 74 (.load none) 73,
 mv 21 74]
abbrev r48_19:=[mv 75 21,
 zk 76 (.bin .lss .prim) 75 (.int .i64 0)]
abbrev r48_20:=[mv 77 19,
 o1 78 (.bsl 3 1 false) [.c (.int .i64 0)],
 z2 79 (.app 3 1 8) 77 78,
 mv 19 79]
abbrev r48_21:=[mv 80 19,
 mv 81 17,
 mv 82 8,
 z1 83 (.load none) 16,
 mv 84 18,
 z2 85 (.iaddr 1) 83 84,
 z1 86 (.load none) 85,
 mv 87 21,
 z1 88 (.toInt .u8) 87,
 ca 89 [.f 63,.t 82,.t 86,.t 88],
 ca 90 [.t 81,.t 89],
 z1 91 (.bsl 3 1 false) 90,
 z2 92 (.app 3 1 8) 80 91,
 mv 19 92]
abbrev r48_22:=[zk 93 (.bin .add .prim) 71 (.int .i64 1),
 mv 71 93]
abbrev b48_0:IC:=(.seq (.reg r48_17) (.seq (.cond (.t 72) .skip (.exit 2)) (.seq (.block 3 (.seq (.reg r48_18) (.seq (.seq (.reg r48_19) (.cond (.t 76) (.seq (.reg r48_20) (.exit 3)) .skip)) (.reg r48_21)))) (.reg r48_22))))
abbrev r48_23:=[z1 94 (.faddr 1) 14,
 z1 95 (.load none) 94,
 mv 96 19,
 z1 97 (.bsl 28 1 false) 96,
 z2 98 (.app 28 1 24) 95 97,
 z1 99 (.faddr 1) 14,
 sr 1 [.t 99,.t 98]]
abbrev r48_24:=[z1 100 (.faddr 2) 14,
 z1 101 (.load none) 100,
 mv 102 8,
 z1 103 (.load none) 16,
 mv 104 18,
 z2 105 (.iaddr 1) 103 104,
 z1 106 (.load none) 105,
 ca 107 [.f 64,.t 102,.t 106],
 z1 108 (.bsl 4 1 false) 107,
 z2 109 (.app 4 1 1) 101 108,
 z1 110 (.faddr 2) 14,
 sr 1 [.t 110,.t 109]]
abbrev r48_25:=[mv 62 18,
 zk 63 (.bin .add .prim) 62 (.int .i64 1),
 mv 18 63]
abbrev b48_1:IC:=(.seq (.seq (.reg r48_12) (.cond (.t 61) .skip (.exit 0))) (.seq (.block 1 (.seq (.seq (.reg r48_13) (.cond (.t 67) (.seq (.reg r48_14) .ret) .skip)) (.seq (.reg r48_15) (.seq (.seq (.reg r48_16) (.block 2 (.loop b48_0))) (.seq (.reg r48_23) (.regD .alloc r48_24 (.take 0 (.take 1 (.take 2 (.take 3 (.take 4 (.take 5 (.take 6 (.take 7 (.take 8 (.take 9 (.take 10 (.take 11 (.done))))))))))))))))))) (.reg r48_25)))
abbrev r48_26:=[z1 111 (.load (some 3)) 14,
 sr 3 [.t 6,.t 111],
 o1 7 (.mov) [.c (.bool true)]]
abbrev c48:IC:=(.seq (.reg r48_0) (.seq (.reg r48_1) (.seq (.seq (.reg r48_2) (.cond (.t 37) (.seq (.reg r48_3) .ret) .skip)) (.seq (.reg r48_4) (.seq (.reg r48_5) (.seq (.reg r48_6) (.seq (.reg r48_7) (.seq (.reg r48_8) (.seq (.reg r48_9) (.seq (.reg r48_10) (.seq (.seq (.reg r48_11) (.block 0 (.loop b48_1))) (.seq (.reg r48_26) .ret))))))))))))
abbrev g48:FC:=⟨c48,112,[.cell 6 (some 3),.t 7]⟩
theorem comp48:compF qi (hintL [(25,7)]) 48=some g48:=by kernel_rfl
abbrev r54_0:=[o1 4 (.mov) [.c (.int .i64 0)]]
abbrev r54_1:=[mv 6 0,
 z1 7 (.len .slice) 6,
 o1 8 (.mov) [.c (.int .i64 0)]]
abbrev r54_2:=[z2 9 (.bin .lss .prim) 8 7]
abbrev r54_3:=[mv 10 8,
 mv 5 10]
abbrev r54_4:=[mv 11 1,
 mv 12 0,
 mv 13 5,
 z2 14 (.iaddr 1) 12 13,
 z1 15 (.load none) 14,
 ca 16 [.t 11,.t 15]]
abbrev r54_5:=[mv 17 5,
 mv 4 17]
abbrev r54_6:=[zk 18 (.bin .add .prim) 8 (.int .i64 1),
 mv 8 18]
abbrev b54_0:IC:=(.seq (.reg r54_2) (.seq (.cond (.t 9) .skip (.exit 0)) (.seq (.block 1 (.seq (.reg r54_3) (.seq (.reg r54_4) (.cond (.t 16) (.seq (.reg r54_5) .ret) .skip)))) (.reg r54_6))))
abbrev r54_7:=[o1 4 (.mov) [.c (.int .i64 (-1))]]
abbrev c54:IC:=(.seq (.reg r54_0) (.seq (.seq (.reg r54_1) (.block 0 (.loop b54_0))) (.seq (.reg r54_7) .ret)))
abbrev g54:FC:=⟨c54,19,[.t 4]⟩
theorem comp54:compF qi (fun _=>0) 54=some g54:=by kernel_rfl
abbrev r65_0:=[z1 2 (.box 28) 0,
 o1 4 (.mov) [.c (.nils)]]
abbrev r65_1:=[mv 6 1]
abbrev r65_2:=[z1 12 (.load none) 2,
 mv 4 12]
abbrev r65_3:=[mv 5 7]
abbrev r65_4:=[z1 8 (.load none) 2,
 mv 9 5,
 z1 10 (.bsl 3 1 false) 9,
 z2 11 (.app 3 1 8) 8 10,
 sr 1 [.t 2,.t 11]]
abbrev c65:IC:=(.seq (.reg r65_0) (.seq (.seq (.reg r65_1) (.block 0 (.rangeF 65000 13 (.t 6)))) (.seq (.reg r65_2) .ret)))
abbrev g65:FC:=⟨c65,13,[.t 4]⟩
theorem comp65:compF qi (hintL [(1000002,65000),(2000002,13)]) 65=some g65:=by kernel_rfl
abbrev li65000:LI:=⟨13,[7],(IC.reg r65_3),(IC.block 1 (IC.reg r65_4))⟩
theorem keys65:KeysF qi (hintL [(1000002,65000),(2000002,13)]) 65:=keysF_of (by kernel_rfl)
theorem lok65000:LOk qi 65000 li65000:=⟨hintL [(1000002,65000),(2000002,13)],by kernel_rfl,by kernel_rfl,by kernel_rfl,by kernel_rfl,by decide⟩
abbrev r159_0:=[z1 2 (.box 90) 0,
 o1 4 (.mov) [.c (.bool false)]]
abbrev r159_1:=[o1 5 (.mov) [.c (.int .i64 0)]]
abbrev r159_2:=[mv 7 1,
 z1 8 (.len .str) 7,
 o1 9 (.mov) [.c (.int .i64 0)]]
abbrev r159_3:=[z2 10 (.bin .lss .prim) 9 8]
abbrev r159_4:=[mv 11 9,
 mv 6 11]
abbrev r159_5:=[z1 12 (.faddr 1) 2,
 z1 13 (.load none) 12,
 mv 14 5,
 z2 15 (.iaddr 1) 13 14,
 z1 16 (.load none) 15,
 z1 17 (.faddr 0) 2,
 z1 18 (.load none) 17,
 mv 19 1,
 mv 20 6,
 z2 21 (.idxs) 19 20,
 z2 22 (.iaddr 1) 18 21,
 z1 23 (.load none) 22,
 z2 24 (.iaddr 1) 16 23,
 z1 25 (.load none) 24,
 mv 5 25]
abbrev r159_6:=[zk 26 (.bin .add .prim) 9 (.int .i64 1),
 mv 9 26]
abbrev b159_0:IC:=(.seq (.reg r159_3) (.seq (.cond (.t 10) .skip (.exit 0)) (.seq (.block 1 (.seq (.reg r159_4) (.regD .wild r159_5 (.take 0 (.take 1 (.take 2 (.take 3 (.take 4 (.take 5 (.take 6 (.take 7 (.take 8 (.take 9 (.take 10 (.take 11 (.take 12 (.take 13 (.take 14 (.done))))))))))))))))))) (.reg r159_6))))
abbrev r159_7:=[z1 27 (.faddr 2) 2,
 z1 28 (.load none) 27,
 mv 29 5,
 z2 30 (.iaddr 1) 28 29,
 z1 31 (.load none) 30,
 mv 4 31]
abbrev c159:IC:=(.seq (.reg r159_0) (.seq (.reg r159_1) (.seq (.seq (.reg r159_2) (.block 0 (.loop b159_0))) (.seq (.reg r159_7) .ret))))
abbrev g159:FC:=⟨c159,32,[.t 4]⟩
theorem comp159:compF qi (hintL [(5,6)]) 159=some g159:=by kernel_rfl
abbrev r162_0:=[o1 4 (.mov) [.c (.bool false)]]
abbrev r162_1:=[mv 8 0,
 z1 9 (.mkbound 93) 8,
 mv 5 9]
abbrev r162_2:=[mv 10 0,
 ca 11 [.f 91,.t 10],
 mv 6 11]
abbrev r162_3:=[mv 12 1,
 z1 13 (.len .str) 12,
 o1 14 (.mov) [.c (.int .i64 0)]]
abbrev r162_4:=[z2 15 (.bin .lss .prim) 14 13]
abbrev r162_5:=[mv 16 14,
 mv 7 16]
abbrev r162_6:=[mv 17 5,
 mv 18 6,
 mv 19 1,
 mv 20 7,
 z2 21 (.idxs) 19 20,
 ca 22 [.t 17,.t 18,.t 21],
 mv 6 22]
abbrev r162_7:=[zk 23 (.bin .add .prim) 14 (.int .i64 1),
 mv 14 23]
abbrev b162_0:IC:=(.seq (.reg r162_4) (.seq (.cond (.t 15) .skip (.exit 0)) (.seq (.block 1 (.seq (.reg r162_5) (.reg r162_6))) (.reg r162_7))))
abbrev r162_8:=[mv 24 6,
 z1 25 (.len .slice) 24,
 zk 26 (.bin .gtr .prim) 25 (.int .i64 0),
 mv 27 26,
 o2 28 (.mov) [.t 6] 27 true,
 o2 29 (.mov) [.t 6] 27 true,
 o2 30 (.len .slice) [.t 29] 27 true,
 o2 31 (.bin .sub .prim) [.t 30,.c (.int .i64 1)] 27 true,
 o2 32 (.iaddr 1) [.t 28,.t 31] 27 true,
 o2 33 (.load none) [.t 32] 27 true,
 o1 34 (.pick) [.t 27,.t 33,.c (.bool false)],
 mv 4 34]
abbrev c162:IC:=(.seq (.reg r162_0) (.seq (.reg r162_1) (.seq (.reg r162_2) (.seq (.seq (.reg r162_3) (.block 0 (.loop b162_0))) (.seq (.reg r162_8) .ret)))))
abbrev g162:FC:=⟨c162,35,[.t 4]⟩
theorem comp162:compF qi (fun _=>0) 162=some g162:=by kernel_rfl
abbrev r72_0:=[o1 4 (.mov) [.c (.bool false)]]
abbrev r72_1:=[mv 5 0,
 ca 6 [.f 100,.t 5],
 mv 7 6,
 o2 8 (.mov) [.t 1] 7 true,
 ⟨some 9,.call none,[.f 100,.t 8],some (7,true)⟩,
 o2 10 (.un .not) [.t 9] 7 true,
 o1 11 (.pick) [.t 7,.t 10,.c (.bool false)],
 mv 12 11,
 o2 13 (.mov) [.t 0] 12 false,
 o2 14 (.mov) [.t 1] 12 false,
 o2 15 (.bin .lss .prim) [.t 13,.t 14] 12 false,
 o1 16 (.pick) [.t 12,.c (.bool true),.t 15],
 mv 4 16]
abbrev c72:IC:=(.seq (.reg r72_0) (.seq (.reg r72_1) .ret))
abbrev g72:FC:=⟨c72,17,[.t 4]⟩
theorem comp72:compF qi (fun _=>0) 72=some g72:=by kernel_rfl
abbrev r56_0:=[o1 4 (.mov) [.c (.int .i64 0)]]
abbrev r56_1:=[mv 16 1,
 ⟨some 17,.op (.bin .eql .prim),[.t 16,.c (.str [])],none⟩]
abbrev r56_2:=[o1 4 (.mov) [.c (.int .i64 (-1))]]
abbrev r56_3:=[mv 18 0,
 z1 19 (.len .slice) 18,
 zk 20 (.bin .eql .prim) 19 (.int .i64 1)]
abbrev r56_4:=[mv 21 0,
 zk 22 (.iaddr 1) 21 (.int .i64 0),
 z1 23 (.load none) 22,
 z1 24 (.toInt .i32) 23,
 mv 5 24]
abbrev r56_5:=[mv 25 5,
 zk 26 (.bin .geq .prim) 25 (.int .i32 128)]
abbrev r56_6:=[mv 27 1,
 z1 28 (.ranges) 27]
abbrev r56_7:=[z1 29 (.nexts) 28,
 z1 30 (.extract 0) 29]
abbrev r56_8:=[z1 31 (.extract 2) 29,
 mv 5 31]
abbrev r56_9:=[mv 32 5,
 zk 33 (.bin .eql .prim) 32 (.int .i32 65533)]
abbrev r56_10:=[o1 4 (.mov) [.c (.int .i64 0)]]
abbrev b56_0:IC:=(.seq (.reg r56_7) (.seq (.cond (.t 30) .skip (.exit 0)) (.block 1 (.seq (.reg r56_8) (.seq (.reg r56_9) (.cond (.t 33) (.seq (.reg r56_10) .ret) .skip))))))
abbrev r56_11:=[o1 4 (.mov) [.c (.int .i64 (-1))]]
abbrev r56_12:=[mv 34 1,
 mv 35 0,
 zk 36 (.iaddr 1) 35 (.int .i64 0),
 z1 37 (.load none) 36,
 ca 38 [.f 77,.t 34,.t 37],
 zk 39 (.bin .geq .prim) 38 (.int .i64 0)]
abbrev r56_13:=[o1 4 (.mov) [.c (.int .i64 0)]]
abbrev r56_14:=[o1 4 (.mov) [.c (.int .i64 (-1))]]
abbrev r56_15:=[mv 40 1,
 z1 41 (.len .str) 40,
 zk 42 (.bin .eql .prim) 41 (.int .i64 1)]
abbrev r56_16:=[mv 43 1,
 zk 44 (.idxs) 43 (.int .i64 0),
 z1 45 (.toInt .i32) 44,
 mv 6 45]
abbrev r56_17:=[mv 46 6,
 zk 47 (.bin .geq .prim) 46 (.int .i32 128)]
abbrev r56_18:=[o1 6 (.mov) [.c (.int .i32 65533)]]
abbrev r56_19:=[mv 48 0,
 mv 49 6,
 ca 50 [.f 78,.t 48,.t 49],
 mv 4 50]
abbrev r56_20:=[mv 51 0,
 z1 52 (.len .slice) 51,
 ca 53 [.f 79,.t 52]]
abbrev r56_21:=[mv 55 1,
 ca 56 [.f 80,.t 55],
 mv 54 56,
 z1 57 (.extract 0) 54,
 z1 58 (.extract 1) 54,
 o1 7 (.alloc 138 [.bool false,.bool false,.bool false,.bool false,.bool false,.bool false,.bool false,.bool false,.bool false,.bool false,.bool false,.bool false,.bool false,.bool false,.bool false,.bool false,.bool false,.bool false,.bool false,.bool false,.bool false,.bool false,.bool false,.bool false,.bool false,.bool false,.bool false,.bool false,.bool false,.bool false,.bool false,.bool false,.bool false,.bool false,.bool false,.bool false,.bool false,.bool false,.bool false,.bool false,.bool false,.bool false,.bool false,.bool false,.bool false,.bool false,.bool false,.bool false,.bool false,.bool false,.bool false,.bool false,.bool false,.bool false,.bool false,.bool false,.bool false,.bool false,.bool false,.bool false,.bool false,.bool false,.bool false,.bool false,.bool false,.bool false,.bool false,.bool false,.bool false,.bool false,.bool false,.bool false,.bool false,.bool false,.bool false,.bool false,.bool false,.bool false,.bool false,.bool false,.bool false,.bool false,.bool false,.bool false,.bool false,.bool false,.bool false,.bool false,.bool false,.bool false,.bool false,.bool false,.bool false,.bool false,.bool false,.bool false,.bool false,.bool false,.bool false,.bool false,.bool false,.bool false,.bool false,.bool false,.bool false,.bool false,.bool false,.bool false,.bool false,.bool false,.bool false,.bool false,.bool false,.bool false,.bool false,.bool false,.bool false,.bool false,.bool false,.bool false,.bool false,.bool false,.bool false,.bool false,.bool false,.bool false,.bool false,.bool false,.bool false,.bool false,.bool false,.bool false,.bool false,.bool false,.bool false,.bool false,.bool false,.bool false,.bool false,.bool false,.bool false,.bool false,.bool false,.bool false,.bool false,.bool false,.bool false,.bool false,.bool false,.bool false,.bool false,.bool false,.bool false,.bool false,.bool false,.bool false,.bool false,.bool false,.bool false,.bool false,.bool false,.bool false,.bool false,.bool false,.bool false,.bool false,.bool false,.bool false,.bool false,.bool false,.bool false,.bool false,.bool false,.bool false,.bool false,.bool false,.bool false,.bool false,.bool false,.bool false,.bool false,.bool false,.bool false,.bool false,.bool false,.bool false,.bool false,.bool false,.bool false,.bool false,.bool false,.bool false,.bool false,.bool false,.bool false,.bool false,.bool false,.bool false,.bool false,.bool false,.bool false,.bool false,.bool false,.bool false,.bool false,.bool false,.bool false,.bool false,.bool false,.bool false,.bool false,.bool false,.bool false,.bool false,.bool false,.bool false,.bool false,.bool false,.bool false,.bool false,.bool false,.bool false,.bool false,.bool false,.bool false,.bool false,.bool false,.bool false,.bool false,.bool false,.bool false,.bool false,.bool false,.bool false,.bool false,.bool false,.bool false,.bool false,.bool false,.bool false,.bool false,.bool false,.bool false,.bool false,.bool false,.bool false,.bool false,.bool false,.bool false,.bool false,.bool false,.bool false,.bool false,.bool false,.bool false,.bool false]) [],
 sr 256 [.t 7,.t 57],
 mv 8 58]
abbrev r56_22:=[mv 59 8]
abbrev r56_23:=[mv 60 0,
 z1 61 (.len .slice) 60,
 o1 62 (.mov) [.c (.int .i64 0)]]
abbrev r56_24:=[z2 63 (.bin .lss .prim) 62 61]
abbrev r56_25:=[mv 64 62,
 z2 65 (.iaddr 1) 60 62,
 z1 66 (.load none) 65,
 mv 9 64,
 mv 10 66]
abbrev r56_26:=[mv 67 10,
 ca 68 [.f 81,.t 7,.t 67]]
abbrev r56_27:=[mv 69 9,
 mv 4 69]
abbrev r56_28:=[zk 70 (.bin .add .prim) 62 (.int .i64 1),
 mv 62 70]
abbrev b56_1:IC:=(.seq (.reg r56_24) (.seq (.cond (.t 63) .skip (.exit 2)) (.seq (.block 3 (.seq (.reg r56_25) (.seq (.reg r56_26) (.cond (.t 68) (.seq (.reg r56_27) .ret) .skip)))) (.reg r56_28))))
abbrev r56_29:=[o1 4 (.mov) [.c (.int .i64 (-1))]]
abbrev r56_30:=[o1 11 (.mov) [.c (.int .i64 0)]]
abbrev r56_31:=[o1 12 (.mov) [.c (.int .i64 0)]]
abbrev r56_32:=[mv 71 12,
 mv 72 0,
 z1 73 (.len .slice) 72,
 z2 74 (.bin .lss .prim) 71 73]
abbrev r56_33:=[mv 78 0,
 mv 79 12,
 z2 80 (.iaddr 1) 78 79,
 z1 81 (.load none) 80,
 z1 82 (.toInt .i32) 81,
 mv 13 82]
abbrev r56_34:=[mv 83 13,
 zk 84 (.bin .lss .prim) 83 (.int .i32 128)]
abbrev r56_35:=[mv 85 1,
 mv 86 0,
 mv 87 12,
 z2 88 (.iaddr 1) 86 87,
 z1 89 (.load none) 88,
 ca 90 [.f 77,.t 85,.t 89],
 zk 91 (.bin .geq .prim) 90 (.int .i64 0)]
abbrev r56_36:=[mv 92 12,
 mv 4 92]
abbrev r56_37:=[o1 11 (.mov) [.c (.int .i64 1)]]
abbrev r56_38:=[mv 94 0,
 mv 95 12,
 z2 96 (.slice 1 true false false) 94 95,
 ca 97 [.f 82,.t 96],
 mv 93 97,
 z1 98 (.extract 0) 93,
 z1 99 (.extract 1) 93,
 mv 13 98,
 mv 11 99]
abbrev r56_39:=[mv 100 13,
 zk 101 (.bin .neq .prim) 100 (.int .i32 65533)]
abbrev r56_40:=[mv 102 1,
 z1 103 (.len .str) 102,
 mv 104 11,
 z2 105 (.bin .eql .prim) 103 104]
abbrev r56_41:=[mv 106 1,
 mv 107 13,
 z1 108 (.r2s) 107,
 z2 109 (.bin .eql .prim) 106 108]
abbrev r56_42:=[mv 110 12,
 mv 4 110]
abbrev r56_43:=[o1 111 (.load none) [.c (.fptr (gv 0) 0)],
 mv 112 11,
 z2 113 (.bin .geq .prim) 111 112]
abbrev r56_44:=[mv 114 1,
 mv 115 13,
 z1 116 (.r2s) 115,
 ca 117 [.f 83,.t 114,.t 116],
 zk 118 (.bin .geq .prim) 117 (.int .i64 0)]
abbrev r56_45:=[mv 119 12,
 mv 4 119]
abbrev r56_46:=[mv 120 1,
 z1 121 (.ranges) 120]
abbrev r56_47:=[z1 122 (.nexts) 121,
 z1 123 (.extract 0) 122]
abbrev r56_48:=[z1 124 (.extract 2) 122,
 mv 15 124]
abbrev r56_49:=[mv 125 13,
 mv 126 15,
 z2 127 (.bin .eql .prim) 125 126]
abbrev r56_50:=[mv 128 12,
 mv 4 128]
abbrev b56_2:IC:=(.seq (.reg r56_47) (.seq (.cond (.t 123) .skip (.exit 6)) (.block 7 (.seq (.reg r56_48) (.seq (.reg r56_49) (.cond (.t 127) (.seq (.reg r56_50) .ret) .skip))))))
abbrev r56_51:=[mv 75 12,
 mv 76 11,
 z2 77 (.bin .add .prim) 75 76,
 mv 12 77]
abbrev b56_3:IC:=(.seq (.seq (.reg r56_32) (.cond (.t 74) .skip (.exit 4))) (.seq (.block 5 (.seq (.reg r56_33) (.seq (.seq (.reg r56_34) (.cond (.t 84) (.seq (.seq (.reg r56_35) (.cond (.t 91) (.seq (.reg r56_36) .ret) .skip)) (.seq (.reg r56_37) (.exit 5))) .skip)) (.seq (.reg r56_38) (.seq (.seq (.reg r56_39) (.cond (.t 101) (.seq (.seq (.reg r56_40) (.cond (.t 105) (.seq (.seq (.reg r56_41) (.cond (.t 109) (.seq (.reg r56_42) .ret) .skip)) (.exit 5)) .skip)) (.seq (.reg r56_43) (.cond (.t 113) (.seq (.seq (.reg r56_44) (.cond (.t 118) (.seq (.reg r56_45) .ret) .skip)) (.exit 5)) .skip))) .skip)) (.seq (.reg r56_46) (.block 6 (.loop b56_2)))))))) (.reg r56_51)))
abbrev r56_52:=[o1 4 (.mov) [.c (.int .i64 (-1))]]
abbrev c56:IC:=(.seq (.reg r56_0) (.seq (.seq (.reg r56_1) (.cond (.t 17) (.seq (.reg r56_2) .ret) .skip)) (.seq (.seq (.reg r56_3) (.cond (.t 20) (.seq (.reg r56_4) (.seq (.seq (.reg r56_5) (.cond (.t 26) (.seq (.seq (.reg r56_6) (.block 0 (.loop b56_0))) (.seq (.reg r56_11) .ret)) .skip)) (.seq (.seq (.reg r56_12) (.cond (.t 39) (.seq (.reg r56_13) .ret) .skip)) (.seq (.reg r56_14) .ret)))) .skip)) (.seq (.seq (.reg r56_15) (.cond (.t 42) (.seq (.reg r56_16) (.seq (.seq (.reg r56_17) (.cond (.t 47) (.reg r56_18) .skip)) (.seq (.reg r56_19) .ret))) .skip)) (.seq (.seq (.reg r56_20) (.cond (.t 53) (.seq (.reg r56_21) (.seq (.reg r56_22) (.cond (.t 59) (.seq (.seq (.reg r56_23) (.block 2 (.loop b56_1))) (.seq (.reg r56_29) .ret)) .skip))) .skip)) (.seq (.reg r56_30) (.seq (.seq (.reg r56_31) (.block 4 (.loop b56_3))) (.seq (.reg r56_52) .ret))))))))
abbrev g56:FC:=⟨c56,129,[.t 4]⟩
theorem comp56:compF qi (fun _=>0) 56=some g56:=by kernel_rfl
abbrev r57_0:List IOp:=[⟨some 2,.op (.mov),[.c (.str [])],none⟩]
abbrev r57_1:=[o1 3 (.mov) [.c (.nils)]]
abbrev r57_2:=[o1 4 (.mov) [.c (.int .i64 0)]]
abbrev r57_3:=[mv 7 4,
 mv 8 0,
 z1 9 (.len .str) 8,
 z2 10 (.bin .lss .prim) 7 9]
abbrev r57_4:=[mv 11 4,
 mv 5 11]
abbrev r57_5:=[mv 12 5,
 mv 13 0,
 z1 14 (.len .str) 13,
 z2 15 (.bin .lss .prim) 12 14,
 mv 16 15,
 o2 17 (.mov) [.t 0] 16 true,
 o2 18 (.mov) [.t 5] 16 true,
 o2 19 (.idxs) [.t 17,.t 18] 16 true,
 o2 20 (.bin .eql .prim) [.t 19,.c (.int .u8 42)] 16 true,
 o2 21 (.mov) [.t 20] 16 true,
 o2 22 (.mov) [.t 0] 21 false,
 o2 23 (.mov) [.t 5] 21 false,
 o2 24 (.idxs) [.t 22,.t 23] 21 false,
 o2 25 (.bin .eql .prim) [.t 24,.c (.int .u8 63)] 21 false,
 o2 26 (.pick) [.t 21,.c (.bool true),.t 25] 16 true,
 o1 27 (.pick) [.t 16,.t 26,.c (.bool false)]]
abbrev r57_6:=[mv 28 5,
 zk 29 (.bin .add .prim) 28 (.int .i64 1),
 mv 5 29]
abbrev b57_0:IC:=(.seq (.seq (.reg r57_5) (.cond (.t 27) .skip (.exit 2))) (.block 3 (.reg r57_6)))
abbrev r57_7:=[mv 30 5,
 mv 31 4,
 z2 32 (.bin .eql .prim) 30 31]
abbrev r57_8:=[mv 33 3,
 mv 34 0,
 mv 35 4,
 z2 36 (.idxs) 34 35,
 z1 37 (.bsl 5 1 false) 36,
 z2 38 (.app 5 1 1) 33 37,
 mv 3 38]
abbrev r57_9:=[mv 39 4,
 zk 40 (.bin .add .prim) 39 (.int .i64 1),
 mv 4 40]
abbrev r57_10:=[mv 41 0,
 mv 42 4,
 mv 43 5,
 o1 44 (.sslice true true false) [.t 41,.t 42,.t 43],
 z1 45 (.s2b 5) 44,
 o1 46 (.bsl 5 1 false) [.c (.int .u8 63)],
 z1 47 (.cvs) 46,
 ca 48 [.f 84,.t 45,.t 47],
 mv 6 48]
abbrev r57_11:=[mv 49 3,
 o1 50 (.bsl 5 1 false) [.c (.int .u8 63)],
 z1 51 (.cvs) 50,
 mv 52 6,
 ca 53 [.f 85,.t 51,.t 52],
 z2 54 (.app 5 1 1) 49 53,
 mv 3 54]
abbrev r57_12:=[mv 55 6,
 mv 56 5,
 mv 57 4,
 z2 58 (.bin .sub .prim) 56 57,
 z2 59 (.bin .lss .prim) 55 58]
abbrev r57_13:=[mv 60 3,
 o1 61 (.bsl 5 1 false) [.c (.int .u8 42)],
 z2 62 (.app 5 1 1) 60 61,
 mv 3 62]
abbrev r57_14:=[mv 63 5,
 mv 4 63]
abbrev b57_1:IC:=(.seq (.seq (.reg r57_3) (.cond (.t 10) .skip (.exit 0))) (.block 1 (.seq (.reg r57_4) (.seq (.block 2 (.loop b57_0)) (.seq (.seq (.reg r57_7) (.cond (.t 32) (.seq (.reg r57_8) (.seq (.reg r57_9) (.exit 1))) .skip)) (.seq (.reg r57_10) (.seq (.reg r57_11) (.seq (.seq (.reg r57_12) (.cond (.t 59) (.reg r57_13) .skip)) (.reg r57_14)))))))))
abbrev r57_15:=[mv 64 3,
 z1 65 (.b2s) 64,
 mv 2 65]
abbrev c57:IC:=(.seq (.reg r57_0) (.seq (.reg r57_1) (.seq (.seq (.reg r57_2) (.block 0 (.loop b57_1))) (.seq (.reg r57_15) .ret))))
abbrev g57:FC:=⟨c57,66,[.t 2]⟩
theorem comp57:compF qi (fun _=>0) 57=some g57:=by kernel_rfl
abbrev r58_0:List IOp:=[⟨some 2,.op (.mov),[.c (.str [])],none⟩,
 o1 3 (.mov) [.c (.bool false)]]
abbrev r58_1:=[mv 4 0,
 zk 5 (.bin .eql .ptr) 4 (.nilp)]
abbrev r58_2:List IOp:=[⟨some 2,.op (.mov),[.c (.str [])],none⟩,
 o1 3 (.mov) [.c (.bool false)]]
abbrev r58_3:=[mv 6 0,
 z1 7 (.nilchk) 6,
 z1 8 (.faddr 0) 7,
 z1 9 (.load none) 8,
 mv 10 0,
 z1 11 (.nilchk) 10,
 z1 12 (.faddr 1) 11,
 z1 13 (.load none) 12,
 mv 2 9,
 mv 3 13]
abbrev c58:IC:=(.seq (.reg r58_0) (.seq (.seq (.reg r58_1) (.cond (.t 5) (.seq (.reg r58_2) .ret) .skip)) (.seq (.regD .wild r58_3 (.take 0 (.take 1 (.take 2 (.take 3 (.take 4 (.take 5 (.take 6 (.take 7 (.take 8 (.take 9 (.done)))))))))))) .ret)))
abbrev g58:FC:=⟨c58,14,[.t 2,.t 3]⟩
theorem comp58:compF qi (hintL [(3,6)]) 58=some g58:=by kernel_rfl
abbrev r59_0:=[o1 4 (.alloc 110 [.int .i64 0,.int .i64 0,.int .i64 0,.int .i64 0,.int .i64 0,.int .i64 0,.int .i64 0,.int .i64 0,.int .i64 0,.int .i64 0,.int .i64 0,.int .i64 0,.int .i64 0,.int .i64 0,.int .i64 0,.int .i64 0,.int .i64 0,.int .i64 0,.int .i64 0,.int .i64 0,.int .i64 0,.int .i64 0,.int .i64 0,.int .i64 0,.int .i64 0,.int .i64 0,.int .i64 0,.int .i64 0,.int .i64 0,.int .i64 0,.int .i64 0,.int .i64 0,.int .i64 0,.int .i64 0,.int .i64 0,.int .i64 0,.int .i64 0,.int .i64 0,.int .i64 0,.int .i64 0,.int .i64 0,.int .i64 0,.int .i64 0,.int .i64 0,.int .i64 0,.int .i64 0,.int .i64 0,.int .i64 0,.int .i64 0,.int .i64 0,.int .i64 0,.int .i64 0,.int .i64 0,.int .i64 0,.int .i64 0,.int .i64 0,.int .i64 0,.int .i64 0,.int .i64 0,.int .i64 0,.int .i64 0,.int .i64 0,.int .i64 0,.int .i64 0,.int .i64 0,.int .i64 0,.int .i64 0,.int .i64 0,.int .i64 0,.int .i64 0,.int .i64 0,.int .i64 0,.int .i64 0,.int .i64 0,.int .i64 0,.int .i64 0,.int .i64 0,.int .i64 0,.int .i64 0,.int .i64 0,.int .i64 0,.int .i64 0,.int .i64 0,.int .i64 0,.int .i64 0,.int .i64 0,.int .i64 0,.int .i64 0,.int .i64 0,.int .i64 0,.int .i64 0,.int .i64 0,.int .i64 0,.int .i64 0,.int .i64 0,.int .i64 0,.int .i64 0,.int .i64 0,.int .i64 0,.int .i64 0,.int .i64 0,.int .i64 0,.int .i64 0,.int .i64 0,.int .i64 0,.int .i64 0,.int .i64 0,.int .i64 0,.int .i64 0,.int .i64 0,.int .i64 0,.int .i64 0,.int .i64 0,.int .i64 0,.int .i64 0,.int .i64 0,.int .i64 0,.int .i64 0,.int .i64 0,.int .i64 0,.int .i64 0,.int .i64 0,.int .i64 0,.int .i64 0,.int .i64 0,.int .i64 0,.int .i64 0,.int .i64 0,.int .i64 0,.int .i64 0,.int .i64 0,.int .i64 0,.int .i64 0,.int .i64 0,.int .i64 0,.int .i64 0,.int .i64 0,.int .i64 0,.int .i64 0,.int .i64 0,.int .i64 0,.int .i64 0,.int .i64 0,.int .i64 0,.int .i64 0,.int .i64 0,.int .i64 0,.int .i64 0,.int .i64 0,.int .i64 0,.int .i64 0,.int .i64 0,.int .i64 0,.int .i64 0,.int .i64 0,.int .i64 0,.int .i64 0,.int .i64 0,.int .i64 0,.int .i64 0,.int .i64 0,.int .i64 0,.int .i64 0,.int .i64 0,.int .i64 0,.int .i64 0,.int .i64 0,.int .i64 0,.int .i64 0,.int .i64 0,.int .i64 0,.int .i64 0,.int .i64 0,.int .i64 0,.int .i64 0,.int .i64 0,.int .i64 0,.int .i64 0,.int .i64 0,.int .i64 0,.int .i64 0,.int .i64 0,.int .i64 0,.int .i64 0,.int .i64 0,.int .i64 0,.int .i64 0,.int .i64 0,.int .i64 0,.int .i64 0,.int .i64 0,.int .i64 0,.int .i64 0,.int .i64 0,.int .i64 0,.int .i64 0,.int .i64 0,.int .i64 0,.int .i64 0,.int .i64 0,.int .i64 0,.int .i64 0,.int .i64 0,.int .i64 0,.int .i64 0,.int .i64 0,.int .i64 0,.int .i64 0,.int .i64 0,.int .i64 0,.int .i64 0,.int .i64 0,.int .i64 0,.int .i64 0,.int .i64 0,.int .i64 0,.int .i64 0,.int .i64 0,.int .i64 0,.int .i64 0,.int .i64 0,.int .i64 0,.int .i64 0,.int .i64 0,.int .i64 0,.int .i64 0,.int .i64 0,.int .i64 0,.int .i64 0,.int .i64 0,.int .i64 0,.int .i64 0,.int .i64 0,.int .i64 0,.int .i64 0,.int .i64 0,.int .i64 0,.int .i64 0,.int .i64 0,.int .i64 0,.int .i64 0,.int .i64 0,.int .i64 0,.int .i64 0,.int .i64 0,.int .i64 0,.int .i64 0,.int .i64 0,.int .i64 0,.int .i64 0,.int .i64 0,.int .i64 0,.int .i64 0,.int .i64 0,.int .i64 0,.int .i64 0]) [],
 o1 5 (.mov) [.c (.nils)]]
abbrev r59_1:=[o1 6 (.mov) [.f 86]]
abbrev r59_2:=[mv 16 1]
abbrev r59_3:=[o1 6 (.mov) [.f 87]]
abbrev r59_4:=[o1 7 (.mov) [.c (.nils)]]
abbrev r59_5:=[mv 17 0,
 z1 18 (.len .str) 17,
 o1 19 (.mov) [.c (.int .i64 0)]]
abbrev r59_6:=[z2 20 (.bin .lss .prim) 19 18]
abbrev r59_7:=[mv 21 19,
 mv 8 21]
abbrev r59_8:=[mv 22 0,
 mv 23 8,
 z2 24 (.idxs) 22 23,
 zk 25 (.bin .neq .prim) 24 (.int .u8 42),
 mv 26 25,
 o2 27 (.mov) [.t 0] 26 true,
 o2 28 (.mov) [.t 8] 26 true,
 o2 29 (.idxs) [.t 27,.t 28] 26 true,
 o2 30 (.bin .neq .prim) [.t 29,.c (.int .u8 63)] 26 true,
 o1 31 (.pick) [.t 26,.t 30,.c (.bool false)]]
abbrev r59_9:=[mv 32 7,
 mv 33 6,
 mv 34 0,
 mv 35 8,
 z2 36 (.idxs) 34 35,
 ca 37 [.t 33,.t 36],
 z1 38 (.bsl 5 1 false) 37,
 z2 39 (.app 5 1 1) 32 38,
 mv 7 39]
abbrev r59_10:=[zk 40 (.bin .add .prim) 19 (.int .i64 1),
 mv 19 40]
abbrev b59_0:IC:=(.seq (.reg r59_6) (.seq (.cond (.t 20) .skip (.exit 0)) (.seq (.block 1 (.seq (.reg r59_7) (.seq (.reg r59_8) (.cond (.t 31) (.reg r59_9) .skip)))) (.reg r59_10))))
abbrev r59_11:=[mv 41 7,
 ca 42 [.f 88,.t 41]]
abbrev r59_12:=[mv 43 7,
 ca 44 [.f 89,.t 43],
 mv 7 44]
abbrev r59_13:=[o1 9 (.alloc 110 [.int .i64 0,.int .i64 0,.int .i64 0,.int .i64 0,.int .i64 0,.int .i64 0,.int .i64 0,.int .i64 0,.int .i64 0,.int .i64 0,.int .i64 0,.int .i64 0,.int .i64 0,.int .i64 0,.int .i64 0,.int .i64 0,.int .i64 0,.int .i64 0,.int .i64 0,.int .i64 0,.int .i64 0,.int .i64 0,.int .i64 0,.int .i64 0,.int .i64 0,.int .i64 0,.int .i64 0,.int .i64 0,.int .i64 0,.int .i64 0,.int .i64 0,.int .i64 0,.int .i64 0,.int .i64 0,.int .i64 0,.int .i64 0,.int .i64 0,.int .i64 0,.int .i64 0,.int .i64 0,.int .i64 0,.int .i64 0,.int .i64 0,.int .i64 0,.int .i64 0,.int .i64 0,.int .i64 0,.int .i64 0,.int .i64 0,.int .i64 0,.int .i64 0,.int .i64 0,.int .i64 0,.int .i64 0,.int .i64 0,.int .i64 0,.int .i64 0,.int .i64 0,.int .i64 0,.int .i64 0,.int .i64 0,.int .i64 0,.int .i64 0,.int .i64 0,.int .i64 0,.int .i64 0,.int .i64 0,.int .i64 0,.int .i64 0,.int .i64 0,.int .i64 0,.int .i64 0,.int .i64 0,.int .i64 0,.int .i64 0,.int .i64 0,.int .i64 0,.int .i64 0,.int .i64 0,.int .i64 0,.int .i64 0,.int .i64 0,.int .i64 0,.int .i64 0,.int .i64 0,.int .i64 0,.int .i64 0,.int .i64 0,.int .i64 0,.int .i64 0,.int .i64 0,.int .i64 0,.int .i64 0,.int .i64 0,.int .i64 0,.int .i64 0,.int .i64 0,.int .i64 0,.int .i64 0,.int .i64 0,.int .i64 0,.int .i64 0,.int .i64 0,.int .i64 0,.int .i64 0,.int .i64 0,.int .i64 0,.int .i64 0,.int .i64 0,.int .i64 0,.int .i64 0,.int .i64 0,.int .i64 0,.int .i64 0,.int .i64 0,.int .i64 0,.int .i64 0,.int .i64 0,.int .i64 0,.int .i64 0,.int .i64 0,.int .i64 0,.int .i64 0,.int .i64 0,.int .i64 0,.int .i64 0,.int .i64 0,.int .i64 0,.int .i64 0,.int .i64 0,.int .i64 0,.int .i64 0,.int .i64 0,.int .i64 0,.int .i64 0,.int .i64 0,.int .i64 0,.int .i64 0,.int .i64 0,.int .i64 0,.int .i64 0,.int .i64 0,.int .i64 0,.int .i64 0,.int .i64 0,.int .i64 0,.int .i64 0,.int .i64 0,.int .i64 0,.int .i64 0,.int .i64 0,.int .i64 0,.int .i64 0,.int .i64 0,.int .i64 0,.int .i64 0,.int .i64 0,.int .i64 0,.int .i64 0,.int .i64 0,.int .i64 0,.int .i64 0,.int .i64 0,.int .i64 0,.int .i64 0,.int .i64 0,.int .i64 0,.int .i64 0,.int .i64 0,.int .i64 0,.int .i64 0,.int .i64 0,.int .i64 0,.int .i64 0,.int .i64 0,.int .i64 0,.int .i64 0,.int .i64 0,.int .i64 0,.int .i64 0,.int .i64 0,.int .i64 0,.int .i64 0,.int .i64 0,.int .i64 0,.int .i64 0,.int .i64 0,.int .i64 0,.int .i64 0,.int .i64 0,.int .i64 0,.int .i64 0,.int .i64 0,.int .i64 0,.int .i64 0,.int .i64 0,.int .i64 0,.int .i64 0,.int .i64 0,.int .i64 0,.int .i64 0,.int .i64 0,.int .i64 0,.int .i64 0,.int .i64 0,.int .i64 0,.int .i64 0,.int .i64 0,.int .i64 0,.int .i64 0,.int .i64 0,.int .i64 0,.int .i64 0,.int .i64 0,.int .i64 0,.int .i64 0,.int .i64 0,.int .i64 0,.int .i64 0,.int .i64 0,.int .i64 0,.int .i64 0,.int .i64 0,.int .i64 0,.int .i64 0,.int .i64 0,.int .i64 0,.int .i64 0,.int .i64 0,.int .i64 0,.int .i64 0,.int .i64 0,.int .i64 0,.int .i64 0,.int .i64 0,.int .i64 0,.int .i64 0,.int .i64 0,.int .i64 0,.int .i64 0,.int .i64 0,.int .i64 0,.int .i64 0,.int .i64 0,.int .i64 0,.int .i64 0,.int .i64 0,.int .i64 0,.int .i64 0,.int .i64 0,.int .i64 0,.int .i64 0,.int .i64 0,.int .i64 0,.int .i64 0,.int .i64 0]) []]
abbrev r59_14:=[o1 45 (.bsl 3 1 false) [.c (.int .i64 (-1))],
 mv 10 45]
abbrev r59_15:=[mv 46 7,
 z1 47 (.len .slice) 46,
 o1 48 (.mov) [.c (.int .i64 0)]]
abbrev r59_16:=[z2 49 (.bin .lss .prim) 48 47]
abbrev r59_17:=[z2 50 (.iaddr 1) 46 48,
 z1 51 (.load none) 50,
 mv 12 51]
abbrev r59_18:=[mv 52 10,
 mv 53 12,
 z1 54 (.toInt .i64) 53,
 z1 55 (.bsl 3 1 false) 54,
 z2 56 (.app 3 1 8) 52 55,
 mv 10 56]
abbrev r59_19:=[zk 57 (.bin .add .prim) 48 (.int .i64 1),
 mv 48 57]
abbrev b59_1:IC:=(.seq (.reg r59_16) (.seq (.cond (.t 49) .skip (.exit 2)) (.seq (.block 3 (.seq (.reg r59_17) (.reg r59_18))) (.reg r59_19))))
abbrev r59_20:=[o1 58 (.mov) [.c (.int .i64 0)]]
abbrev r59_21:=[zk 59 (.bin .lss .prim) 58 (.int .i64 256)]
abbrev r59_22:=[mv 60 58,
 mv 13 60]
abbrev r59_23:=[mv 62 7,
 mv 63 6,
 mv 64 13,
 z1 65 (.toInt .u8) 64,
 ca 66 [.t 63,.t 65],
 ca 67 [.f 90,.t 62,.t 66],
 mv 61 67,
 z1 68 (.extract 0) 61,
 z1 69 (.extract 1) 61,
 mv 14 68,
 mv 15 69]
abbrev r59_24:=[mv 70 15]
abbrev r59_25:=[mv 71 13,
 mv 72 14,
 zk 73 (.bin .add .prim) 72 (.int .i64 1),
 z2 74 (.aaddr 256 1) 9 71,
 sr 1 [.t 74,.t 73]]
abbrev r59_26:=[mv 75 10,
 mv 76 13,
 zk 77 (.iaddr 1) 75 (.int .i64 0),
 sr 1 [.t 77,.t 76]]
abbrev r59_27:=[zk 78 (.bin .add .prim) 58 (.int .i64 1),
 mv 58 78]
abbrev b59_2:IC:=(.seq (.reg r59_21) (.seq (.cond (.t 59) .skip (.exit 4)) (.seq (.block 5 (.seq (.reg r59_22) (.seq (.reg r59_23) (.seq (.reg r59_24) (.cond (.t 70) (.reg r59_25) (.reg r59_26)))))) (.reg r59_27))))
abbrev r59_28:=[z1 79 (.load (some 256)) 9,
 mv 80 10,
 sr 256 [.t 4,.t 79],
 mv 5 80]
abbrev c59:IC:=(.seq (.reg r59_0) (.seq (.reg r59_1) (.seq (.seq (.reg r59_2) (.cond (.t 16) (.reg r59_3) .skip)) (.seq (.reg r59_4) (.seq (.seq (.reg r59_5) (.block 0 (.loop b59_0))) (.seq (.reg r59_11) (.seq (.reg r59_12) (.seq (.reg r59_13) (.seq (.reg r59_14) (.seq (.seq (.reg r59_15) (.block 2 (.loop b59_1))) (.seq (.seq (.reg r59_20) (.block 4 (.loop b59_2))) (.seq (.reg r59_28) .ret))))))))))))
abbrev g59:FC:=⟨c59,81,[.cell 4 (some 256),.t 5]⟩
theorem comp59:compF qi (fun _=>0) 59=some g59:=by kernel_rfl
abbrev r60_0:=[o1 4 (.mov) [.c (.int .i64 0)]]
abbrev r60_1:=[z1 8 (.load none) 1,
 mv 9 0,
 ca 10 [.f 61,.t 9],
 z2 11 (.look .str (.agg [.int .i64 0]) true) 8 10,
 mv 7 11,
 z1 12 (.extract 0) 7,
 z1 13 (.extract 1) 7,
 o1 5 (.alloc 115 [.int .i64 0]) [],
 sr 1 [.t 5,.t 12],
 mv 6 13]
abbrev r60_2:=[mv 14 6,
 z1 15 (.un .not) 14]
abbrev r60_3:=[z1 16 (.load none) 2,
 z1 17 (.len .slice) 16,
 z1 18 (.bst [.int .i64 0] [(0,1)] [0]) 17,
 sr 1 [.t 5,.t 18]]
abbrev r60_4:=[z1 19 (.load none) 1,
 mv 20 0,
 ca 21 [.f 61,.t 20],
 z1 22 (.load (some 1)) 5,
 ⟨none,.op (.mapup .str),[.t 19,.t 21,.t 22],none⟩]
abbrev r60_5:=[z1 23 (.load none) 2,
 mv 24 0,
 z1 25 (.bsl 28 1 false) 24,
 z2 26 (.app 28 1 24) 23 25,
 sr 1 [.t 2,.t 26]]
abbrev r60_6:=[z1 27 (.faddr 0) 5,
 z1 28 (.load none) 27,
 mv 4 28]
abbrev c60:IC:=(.seq (.reg r60_0) (.seq (.regD .wild r60_1 (.take 1 (.fork [(0,.fork [(2,.take 3 (.take 4 (.take 5 (.take 6 (.take 7 (.take 8 (.take 9 (.done)))))))),(7,.take 2 (.take 3 (.take 4 (.take 5 (.take 6 (.take 8 (.take 9 (.done))))))))]),(2,.take 0 (.take 3 (.take 4 (.take 5 (.take 6 (.take 7 (.take 8 (.take 9 (.done))))))))),(7,.fork [(0,.take 2 (.take 3 (.take 4 (.take 5 (.take 6 (.take 8 (.take 9 (.done)))))))),(2,.take 0 (.take 3 (.take 4 (.take 5 (.take 6 (.take 8 (.take 9 (.done))))))))])]))) (.seq (.seq (.reg r60_2) (.cond (.t 15) (.seq (.reg r60_3) (.seq (.regD .alloc r60_4 (.take 0 (.take 1 (.take 3 (.take 2 (.take 4 (.done))))))) (.reg r60_5))) .skip)) (.seq (.reg r60_6) .ret))))
abbrev g60:FC:=⟨c60,29,[.t 4]⟩
theorem comp60:compF qi (hintL [(1,6),(4,7)]) 60=some g60:=by kernel_rfl
abbrev r62_0:=[o1 2 (.mov) [.c (.nils)]]
abbrev r62_1:=[mv 3 0,
 ca 4 [.f 91,.t 3],
 ca 5 [.f 92,.t 4],
 mv 2 5]
abbrev c62:IC:=(.seq (.reg r62_0) (.seq (.reg r62_1) .ret))
abbrev g62:FC:=⟨c62,6,[.t 2]⟩
theorem comp62:compF qi (fun _=>0) 62=some g62:=by kernel_rfl
abbrev r63_0:=[o1 6 (.mov) [.c (.nils)]]
abbrev r63_1:=[mv 7 0,
 mv 8 0,
 mv 9 1,
 ca 10 [.f 94,.t 8,.t 9],
 mv 11 2,
 ca 12 [.f 93,.t 7,.t 10,.t 11],
 ca 13 [.f 92,.t 12],
 mv 6 13]
abbrev c63:IC:=(.seq (.reg r63_0) (.seq (.reg r63_1) .ret))
abbrev g63:FC:=⟨c63,14,[.t 6]⟩
theorem comp63:compF qi (fun _=>0) 63=some g63:=by kernel_rfl
abbrev r64_0:=[o1 4 (.mov) [.c (.bool false)]]
abbrev r64_1:=[mv 6 0,
 mv 7 1,
 ca 8 [.f 94,.t 6,.t 7],
 mv 5 8]
abbrev r64_2:=[mv 9 5,
 z1 10 (.len .slice) 9,
 zk 11 (.bin .gtr .prim) 10 (.int .i64 0),
 mv 12 11,
 o2 13 (.mov) [.t 5] 12 true,
 o2 14 (.mov) [.t 5] 12 true,
 o2 15 (.len .slice) [.t 14] 12 true,
 o2 16 (.bin .sub .prim) [.t 15,.c (.int .i64 1)] 12 true,
 o2 17 (.iaddr 1) [.t 13,.t 16] 12 true,
 o2 18 (.load none) [.t 17] 12 true,
 o1 19 (.pick) [.t 12,.t 18,.c (.bool false)],
 mv 4 19]
abbrev c64:IC:=(.seq (.reg r64_0) (.seq (.reg r64_1) (.seq (.reg r64_2) .ret)))
abbrev g64:FC:=⟨c64,20,[.t 4]⟩
theorem comp64:compF qi (fun _=>0) 64=some g64:=by kernel_rfl
abbrev r93_0:=[z1 3 (.box 84) 0,
 z1 5 (.box 5) 2,
 o1 6 (.mov) [.c (.nils)]]
abbrev r93_1:=[mv 10 1,
 z1 11 (.len .slice) 10,
 z2 12 (.make 4 [.bool false] 1) 11 11,
 o1 7 (.alloc 150 [.nils]) [],
 sr 1 [.t 7,.t 12]]
abbrev r93_2:=[mv 13 1,
 ca 14 [.f 117,.t 13]]
abbrev r93_3:=[z1 62 (.load none) 7,
 mv 6 62]
abbrev r93_4:=[mv 8 15]
abbrev r93_5:=[mv 16 8,
 z1 17 (.load none) 3,
 z1 18 (.nilchk) 17,
 z1 19 (.faddr 0) 18,
 z1 20 (.load none) 19,
 z1 21 (.len .str) 20,
 z2 22 (.bin .eql .prim) 16 21]
abbrev r93_6:=[z1 23 (.load none) 3,
 z1 24 (.nilchk) 23,
 z1 25 (.faddr 0) 24,
 z1 26 (.load none) 25,
 mv 27 8,
 z2 28 (.idxs) 26 27,
 mv 9 28]
abbrev r93_7:=[mv 30 9,
 zk 31 (.bin .eql .prim) 30 (.int .u8 42),
 mv 29 31]
abbrev r93_8:=[z1 32 (.load none) 3,
 z1 33 (.load none) 7,
 mv 34 8,
 ca 35 [.f 116,.t 32,.t 33,.t 34]]
abbrev r93_9:=[mv 37 9,
 zk 38 (.bin .eql .prim) 37 (.int .u8 63),
 mv 36 38]
abbrev r93_10:=[mv 39 9,
 z1 40 (.load none) 5,
 z2 41 (.bin .eql .prim) 39 40,
 mv 36 41]
abbrev r93_11:=[z1 42 (.load none) 3,
 z1 43 (.nilchk) 42,
 z1 44 (.faddr 1) 43,
 z1 45 (.load none) 44,
 mv 46 45,
 o2 47 (.mov) [.t 9] 46 true,
 o2 48 (.bsl 5 1 true) [.t 47] 46 true,
 o2 49 (.b2s) [.t 48] 46 true,
 ⟨some 50,.call none,[.f 33,.t 49],some (46,true)⟩,
 o2 51 (.load none) [.t 5] 46 true,
 o2 52 (.bsl 5 1 true) [.t 51] 46 true,
 o2 53 (.b2s) [.t 52] 46 true,
 ⟨some 54,.call none,[.f 33,.t 53],some (46,true)⟩,
 o2 55 (.bin .eql .prim) [.t 50,.t 54] 46 true,
 o1 56 (.pick) [.t 46,.t 55,.c (.bool false)],
 mv 36 56]
abbrev r93_12:=[z1 57 (.load none) 3,
 z1 58 (.load none) 7,
 mv 59 8,
 zk 60 (.bin .add .prim) 59 (.int .i64 1),
 ca 61 [.f 116,.t 57,.t 58,.t 60]]
abbrev c93:IC:=(.seq (.reg r93_0) (.seq (.reg r93_1) (.seq (.seq (.reg r93_2) (.block 0 (.rangeF 93000 63 (.t 14)))) (.seq (.reg r93_3) .ret))))
abbrev g93:FC:=⟨c93,63,[.t 6]⟩
theorem comp93:compF qi (hintL [(10,3),(1000003,93000),(2000003,63)]) 93=some g93:=by kernel_rfl
abbrev li93000:LI:=⟨63,[15],(IC.reg r93_4),(IC.block 1 (IC.seq (IC.seq (IC.reg r93_5) (IC.cond (.t 22) (IC.exit 0) IC.skip)) (IC.seq (IC.reg r93_6) (IC.block 2 (IC.seq (IC.reg r93_7) (IC.cond (.t 29) (IC.reg r93_8) (IC.seq (IC.seq (IC.reg r93_9) (IC.cond (.t 36) IC.skip (IC.seq (IC.reg r93_10) (IC.cond (.t 36) IC.skip (IC.regD .alloc r93_11 (.take 0 (.take 1 (.take 2 (.take 3 (.take 4 (.take 5 (.take 6 (.take 7 (.take 9 (.take 10 (.take 11 (.take 8 (.take 12 (.take 13 (.take 14 (.take 15 (.done)))))))))))))))))))))) (IC.cond (.t 36) (IC.reg r93_12) IC.skip))))))))⟩
theorem keys93:KeysF qi (hintL [(10,3),(1000003,93000),(2000003,63)]) 93:=keysF_of (by kernel_rfl)
theorem lok93000:LOk qi 93000 li93000:=⟨hintL [(10,3),(1000003,93000),(2000003,63)],by kernel_rfl,by kernel_rfl,by kernel_rfl,by kernel_rfl,by decide⟩
abbrev r91_0:=[o1 2 (.mov) [.c (.nils)]]
abbrev r91_1:=[mv 4 0,
 ca 5 [.f 115,.t 4],
 z2 6 (.make 4 [.bool false] 1) 5 5,
 mv 3 6]
abbrev r91_2:=[mv 7 3,
 z1 8 (.len .slice) 7,
 zk 9 (.bin .gtr .prim) 8 (.int .i64 0)]
abbrev r91_3:=[mv 10 0,
 mv 11 3,
 ca 12 [.f 116,.t 10,.t 11,.c (.int .i64 0)]]
abbrev r91_4:=[mv 13 3,
 mv 2 13]
abbrev c91:IC:=(.seq (.reg r91_0) (.seq (.reg r91_1) (.seq (.seq (.reg r91_2) (.cond (.t 9) (.reg r91_3) .skip)) (.seq (.reg r91_4) .ret))))
abbrev g91:FC:=⟨c91,14,[.t 2]⟩
theorem comp91:compF qi (fun _=>0) 91=some g91:=by kernel_rfl
abbrev r100_0:=[o1 2 (.mov) [.c (.bool false)]]
abbrev r100_1:=[mv 3 0,
 mv 4 0,
 z2 5 (.bin .neq .prim) 3 4,
 mv 2 5]
abbrev c100:IC:=(.seq (.reg r100_0) (.seq (.reg r100_1) .ret))
abbrev g100:FC:=⟨c100,6,[.t 2]⟩
theorem comp100:compF qi (fun _=>0) 100=some g100:=by kernel_rfl
abbrev r79_0:=[o1 2 (.mov) [.c (.bool false)]]
abbrev r79_1:=[mv 3 0,
 zk 4 (.bin .gtr .prim) 3 (.int .i64 8),
 mv 2 4]
abbrev c79:IC:=(.seq (.reg r79_0) (.seq (.reg r79_1) .ret))
abbrev g79:FC:=⟨c79,5,[.t 2]⟩
theorem comp79:compF qi (fun _=>0) 79=some g79:=by kernel_rfl
abbrev r80_0:=[o1 2 (.alloc 138 [.bool false,.bool false,.bool false,.bool false,.bool false,.bool false,.bool false,.bool false,.bool false,.bool false,.bool false,.bool false,.bool false,.bool false,.bool false,.bool false,.bool false,.bool false,.bool false,.bool false,.bool false,.bool false,.bool false,.bool false,.bool false,.bool false,.bool false,.bool false,.bool false,.bool false,.bool false,.bool false,.bool false,.bool false,.bool false,.bool false,.bool false,.bool false,.bool false,.bool false,.bool false,.bool false,.bool false,.bool false,.bool false,.bool false,.bool false,.bool false,.bool false,.bool false,.bool false,.bool false,.bool false,.bool false,.bool false,.bool false,.bool false,.bool false,.bool false,.bool false,.bool false,.bool false,.bool false,.bool false,.bool false,.bool false,.bool false,.bool false,.bool false,.bool false,.bool false,.bool false,.bool false,.bool false,.bool false,.bool false,.bool false,.bool false,.bool false,.bool false,.bool false,.bool false,.bool false,.bool false,.bool false,.bool false,.bool false,.bool false,.bool false,.bool false,.bool false,.bool false,.bool false,.bool false,.bool false,.bool false,.bool false,.bool false,.bool false,.bool false,.bool false,.bool false,.bool false,.bool false,.bool false,.bool false,.bool false,.bool false,.bool false,.bool false,.bool false,.bool false,.bool false,.bool false,.bool false,.bool false,.bool false,.bool false,.bool false,.bool false,.bool false,.bool false,.bool false,.bool false,.bool false,.bool false,.bool false,.bool false,.bool false,.bool false,.bool false,.bool false,.bool false,.bool false,.bool false,.bool false,.bool false,.bool false,.bool false,.bool false,.bool false,.bool false,.bool false,.bool false,.bool false,.bool false,.bool false,.bool false,.bool false,.bool false,.bool false,.bool false,.bool false,.bool false,.bool false,.bool false,.bool false,.bool false,.bool false,.bool false,.bool false,.bool false,.bool false,.bool false,.bool false,.bool false,.bool false,.bool false,.bool false,.bool false,.bool false,.bool false,.bool false,.bool false,.bool false,.bool false,.bool false,.bool false,.bool false,.bool false,.bool false,.bool false,.bool false,.bool false,.bool false,.bool false,.bool false,.bool false,.bool false,.bool false,.bool false,.bool false,.bool false,.bool false,.bool false,.bool false,.bool false,.bool false,.bool false,.bool false,.bool false,.bool false,.bool false,.bool false,.bool false,.bool false,.bool false,.bool false,.bool false,.bool false,.bool false,.bool false,.bool false,.bool false,.bool false,.bool false,.bool false,.bool false,.bool false,.bool false,.bool false,.bool false,.bool false,.bool false,.bool false,.bool false,.bool false,.bool false,.bool false,.bool false,.bool false,.bool false,.bool false,.bool false,.bool false,.bool false,.bool false,.bool false,.bool false,.bool false,.bool false,.bool false,.bool false,.bool false,.bool false,.bool false,.bool false,.bool false,.bool false,.bool false,.bool false,.bool false,.bool false,.bool false,.bool false,.bool false]) [],
 o1 3 (.mov) [.c (.bool false)]]
abbrev r80_1:=[o1 4 (.mov) [.c (.int .i64 0)]]
abbrev r80_2:=[mv 6 4,
 mv 7 0,
 z1 8 (.len .str) 7,
 z2 9 (.bin .lss .prim) 6 8]
abbrev r80_3:=[mv 12 0,
 mv 13 4,
 z2 14 (.idxs) 12 13,
 mv 5 14]
abbrev r80_4:=[mv 15 5,
 zk 16 (.bin .geq .prim) 15 (.int .u8 128)]
abbrev r80_5:=[z1 17 (.load (some 256)) 2,
 sr 256 [.t 2,.t 17],
 o1 3 (.mov) [.c (.bool false)]]
abbrev r80_6:=[mv 18 5,
 z2 19 (.aaddr 256 1) 2 18,
 sr 1 [.t 19,.c (.bool true)]]
abbrev r80_7:=[mv 10 4,
 zk 11 (.bin .add .prim) 10 (.int .i64 1),
 mv 4 11]
abbrev b80_0:IC:=(.seq (.seq (.reg r80_2) (.cond (.t 9) .skip (.exit 0))) (.seq (.block 1 (.seq (.reg r80_3) (.seq (.seq (.reg r80_4) (.cond (.t 16) (.seq (.reg r80_5) .ret) .skip)) (.reg r80_6)))) (.reg r80_7)))
abbrev r80_8:=[z1 20 (.load (some 256)) 2,
 sr 256 [.t 2,.t 20],
 o1 3 (.mov) [.c (.bool true)]]
abbrev c80:IC:=(.seq (.reg r80_0) (.seq (.seq (.reg r80_1) (.block 0 (.loop b80_0))) (.seq (.reg r80_8) .ret)))
abbrev g80:FC:=⟨c80,21,[.cell 2 (some 256),.t 3]⟩
theorem comp80:compF qi (fun _=>0) 80=some g80:=by kernel_rfl
abbrev r81_0:=[o1 4 (.mov) [.c (.bool false)]]
abbrev r81_1:=[mv 5 0,
 mv 6 1,
 z1 7 (.nilchk) 5,
 z2 8 (.aaddr 256 1) 7 6,
 z1 9 (.load none) 8,
 mv 4 9]
abbrev c81:IC:=(.seq (.reg r81_0) (.seq (.reg r81_1) .ret))
abbrev g81:FC:=⟨c81,10,[.t 4]⟩
theorem comp81:compF qi (fun _=>0) 81=some g81:=by kernel_rfl
abbrev r82_0:=[o1 2 (.mov) [.c (.int .i32 0)],
 o1 3 (.mov) [.c (.int .i64 0)]]
abbrev r82_1:=[mv 6 0,
 z1 7 (.len .slice) 6,
 o1 8 (.mov) [.c (.int .i64 0)]]
abbrev r82_2:=[z2 9 (.bin .lss .prim) 8 7]
abbrev r82_3:=[z2 10 (.iaddr 1) 6 8,
 z1 11 (.load none) 10,
 mv 5 11]
abbrev r82_4:=[mv 12 5,
 zk 13 (.bin .lss .prim) 12 (.int .u8 128)]
abbrev r82_5:=[mv 14 5,
 z1 15 (.toInt .i32) 14,
 mv 2 15,
 o1 3 (.mov) [.c (.int .i64 1)]]
abbrev r82_6:=[zk 16 (.bin .add .prim) 8 (.int .i64 1),
 mv 8 16]
abbrev b82_0:IC:=(.seq (.reg r82_2) (.seq (.cond (.t 9) .skip (.exit 0)) (.seq (.block 1 (.seq (.reg r82_3) (.seq (.seq (.reg r82_4) (.cond (.t 13) (.seq (.reg r82_5) .ret) .skip)) (.exit 0)))) (.reg r82_6))))
abbrev r82_7:=[mv 18 0,
 ca 19 [.f 106,.t 18],
 mv 17 19,
 z1 20 (.extract 0) 17,
 z1 21 (.extract 1) 17,
 mv 2 20,
 mv 3 21]
abbrev c82:IC:=(.seq (.reg r82_0) (.seq (.seq (.reg r82_1) (.block 0 (.loop b82_0))) (.seq (.reg r82_7) .ret)))
abbrev g82:FC:=⟨c82,22,[.t 2,.t 3]⟩
theorem comp82:compF qi (fun _=>0) 82=some g82:=by kernel_rfl
abbrev r84_0:=[o1 4 (.mov) [.c (.int .i64 0)]]
abbrev r84_1:=[mv 7 1,
 z1 8 (.len .slice) 7,
 zk 9 (.bin .eql .prim) 8 (.int .i64 0)]
abbrev r84_2:=[mv 10 0,
 ca 11 [.f 107,.t 10],
 zk 12 (.bin .add .prim) 11 (.int .i64 1),
 mv 4 12]
abbrev r84_3:=[mv 13 1,
 z1 14 (.len .slice) 13,
 zk 15 (.bin .eql .prim) 14 (.int .i64 1)]
abbrev r84_4:=[mv 16 0,
 mv 17 1,
 zk 18 (.iaddr 1) 17 (.int .i64 0),
 z1 19 (.load none) 18,
 ca 20 [.f 108,.t 16,.t 19],
 mv 4 20]
abbrev r84_5:=[o1 5 (.mov) [.c (.int .i64 0)]]
abbrev r84_6:=[mv 21 0,
 mv 22 1,
 ca 23 [.f 109,.t 21,.t 22],
 mv 6 23]
abbrev r84_7:=[mv 24 6,
 zk 25 (.bin .eql .prim) 24 (.int .i64 (-1))]
abbrev r84_8:=[mv 26 5,
 mv 4 26]
abbrev r84_9:=[mv 27 5,
 zk 28 (.bin .add .prim) 27 (.int .i64 1),
 mv 5 28]
abbrev r84_10:=[mv 29 0,
 mv 30 6,
 mv 31 1,
 z1 32 (.len .slice) 31,
 z2 33 (.bin .add .prim) 30 32,
 z2 34 (.slice 1 true false false) 29 33,
 mv 0 34]
abbrev b84_0:IC:=(.block 1 (.seq (.reg r84_6) (.seq (.seq (.reg r84_7) (.cond (.t 25) (.seq (.reg r84_8) .ret) .skip)) (.seq (.reg r84_9) (.reg r84_10)))))
abbrev c84:IC:=(.seq (.reg r84_0) (.seq (.seq (.reg r84_1) (.cond (.t 9) (.seq (.reg r84_2) .ret) .skip)) (.seq (.seq (.reg r84_3) (.cond (.t 15) (.seq (.reg r84_4) .ret) .skip)) (.seq (.reg r84_5) (.block 0 (.loop b84_0))))))
abbrev g84:FC:=⟨c84,35,[.t 4]⟩
theorem comp84:compF qi (fun _=>0) 84=some g84:=by kernel_rfl
abbrev r85_0:=[o1 4 (.mov) [.c (.nils)]]
abbrev r85_1:=[mv 12 1,
 zk 13 (.bin .eql .prim) 12 (.int .i64 0)]
abbrev r85_2:=[o1 14 (.bsl 5 1 false) [],
 mv 4 14]
abbrev r85_3:=[mv 15 1,
 zk 16 (.bin .lss .prim) 15 (.int .i64 0)]
abbrev r85_4:List IOp:=[⟨some 17,.op (.mkif 9),[.c (.str [98,121,116,101,115,58,32,110,101,103,97,116,105,118,101,32,82,101,112,101,97,116,32,99,111,117,110,116])],none⟩,
 ⟨none,.op (.never),[],none⟩]
abbrev r85_5:=[mv 19 0,
 z1 20 (.len .slice) 19,
 z1 21 (.toInt .u64) 20,
 mv 22 1,
 z1 23 (.toInt .u64) 22,
 ca 24 [.f 110,.t 21,.t 23],
 mv 18 24,
 z1 25 (.extract 0) 18,
 z1 26 (.extract 1) 18,
 mv 5 25,
 mv 6 26]
abbrev r85_6:=[mv 27 5,
 zk 28 (.bin .gtr .prim) 27 (.int .u64 0),
 mv 29 28,
 o2 30 (.mov) [.t 6] 29 false,
 o2 31 (.bin .gtr .prim) [.t 30,.c (.int .u64 9223372036854775807)] 29 false,
 o1 32 (.pick) [.t 29,.c (.bool true),.t 31]]
abbrev r85_7:List IOp:=[⟨some 33,.op (.mkif 9),[.c (.str [98,121,116,101,115,58,32,82,101,112,101,97,116,32,111,117,116,112,117,116,32,108,101,110,103,116,104,32,111,118,101,114,102,108,111,119])],none⟩,
 ⟨none,.op (.never),[],none⟩]
abbrev r85_8:=[mv 34 6,
 z1 35 (.toInt .i64) 34,
 mv 7 35]
abbrev r85_9:=[mv 36 0,
 z1 37 (.len .slice) 36,
 zk 38 (.bin .eql .prim) 37 (.int .i64 0)]
abbrev r85_10:=[o1 39 (.bsl 5 1 false) [],
 mv 4 39]
abbrev r85_11:=[mv 40 7,
 mv 8 40]
abbrev r85_12:=[mv 41 8,
 zk 42 (.bin .gtr .prim) 41 (.int .i64 8192)]
abbrev r85_13:=[mv 43 0,
 z1 44 (.len .slice) 43,
 o1 45 (.bin .quo .prim) [.c (.int .i64 8192),.t 44],
 mv 46 0,
 z1 47 (.len .slice) 46,
 z2 48 (.bin .mul .prim) 45 47,
 mv 8 48]
abbrev r85_14:=[mv 49 8,
 zk 50 (.bin .eql .prim) 49 (.int .i64 0)]
abbrev r85_15:=[mv 51 0,
 z1 52 (.len .slice) 51,
 mv 8 52]
abbrev r85_16:=[mv 53 7,
 ca 54 [.f 111,.t 53],
 mv 55 7,
 mv 56 7,
 o1 57 (.slice 1 false true true) [.t 54,.t 55,.t 56],
 mv 9 57]
abbrev r85_17:=[mv 58 9,
 mv 59 0,
 z2 60 (.cpy 1) 58 59,
 mv 10 60]
abbrev r85_18:=[mv 61 10,
 mv 62 7,
 z2 63 (.bin .lss .prim) 61 62]
abbrev r85_19:=[mv 64 10,
 mv 65 8,
 z2 66 (.min) 64 65,
 mv 11 66]
abbrev r85_20:=[mv 67 10,
 mv 68 9,
 mv 69 10,
 z2 70 (.slice 1 true false false) 68 69,
 mv 71 9,
 mv 72 11,
 z2 73 (.slice 1 false true false) 71 72,
 z2 74 (.cpy 1) 70 73,
 z2 75 (.bin .add .prim) 67 74,
 mv 10 75]
abbrev b85_0:IC:=(.seq (.seq (.reg r85_18) (.cond (.t 63) .skip (.exit 0))) (.block 1 (.seq (.reg r85_19) (.regD .wild r85_20 (.take 0 (.take 1 (.take 2 (.take 3 (.take 4 (.take 5 (.take 6 (.take 7 (.take 8 (.take 9 (.done)))))))))))))))
abbrev r85_21:=[mv 76 9,
 mv 4 76]
abbrev c85:IC:=(.seq (.reg r85_0) (.seq (.seq (.reg r85_1) (.cond (.t 13) (.seq (.reg r85_2) .ret) .skip)) (.seq (.seq (.reg r85_3) (.cond (.t 16) (.reg r85_4) .skip)) (.seq (.reg r85_5) (.seq (.seq (.reg r85_6) (.cond (.t 32) (.reg r85_7) .skip)) (.seq (.reg r85_8) (.seq (.seq (.reg r85_9) (.cond (.t 38) (.seq (.reg r85_10) .ret) .skip)) (.seq (.reg r85_11) (.seq (.seq (.reg r85_12) (.cond (.t 42) (.seq (.reg r85_13) (.seq (.reg r85_14) (.cond (.t 50) (.reg r85_15) .skip))) .skip)) (.seq (.reg r85_16) (.seq (.reg r85_17) (.seq (.block 0 (.loop b85_0)) (.seq (.reg r85_21) .ret)))))))))))))
abbrev g85:FC:=⟨c85,77,[.t 4]⟩
theorem comp85:compF qi (hintL [(20,6)]) 85=some g85:=by kernel_rfl
abbrev r86_0:=[o1 2 (.mov) [.c (.int .u8 0)]]
abbrev r86_1:=[mv 3 0,
 mv 2 3]
abbrev c86:IC:=(.seq (.reg r86_0) (.seq (.reg r86_1) .ret))
abbrev g86:FC:=⟨c86,4,[.t 2]⟩
theorem comp86:compF qi (fun _=>0) 86=some g86:=by kernel_rfl
abbrev r87_0:=[o1 2 (.mov) [.c (.int .u8 0)]]
abbrev r87_1:=[mv 3 0,
 z1 4 (.bsl 5 1 false) 3,
 z1 5 (.b2s) 4,
 ca 6 [.f 33,.t 5],
 zk 7 (.idxs) 6 (.int .i64 0),
 mv 2 7]
abbrev c87:IC:=(.seq (.reg r87_0) (.seq (.reg r87_1) .ret))
abbrev g87:FC:=⟨c87,8,[.t 2]⟩
theorem comp87:compF qi (fun _=>0) 87=some g87:=by kernel_rfl
abbrev r88_0:=[mv 3 0,
 z1 4 (.len .slice) 3,
 mv 2 4]
abbrev r88_1:=[mv 5 0,
 mv 6 2,
 mv 7 2,
 z1 8 (.toInt .u64) 7,
 ca 9 [.f 53,.t 8],
 ca 10 [.f 112,.t 5,.c (.int .i64 0),.t 6,.t 9]]
abbrev c88:IC:=(.seq (.reg r88_0) (.reg r88_1))
abbrev g88:FC:=⟨c88,11,[]⟩
theorem comp88:compF qi (fun _=>0) 88=some g88:=by kernel_rfl
abbrev r89_0:=[o1 2 (.mov) [.c (.nils)]]
abbrev r89_1:=[mv 6 0,
 z1 7 (.len .slice) 6,
 zk 8 (.bin .lss .prim) 7 (.int .i64 2)]
abbrev r89_2:=[mv 9 0,
 mv 2 9]
abbrev r89_3:=[o1 3 (.mov) [.c (.int .i64 1)]]
abbrev r89_4:=[mv 10 3,
 mv 11 0,
 z1 12 (.len .slice) 11,
 z2 13 (.bin .lss .prim) 10 12]
abbrev r89_5:=[mv 16 0,
 mv 17 3,
 z2 18 (.iaddr 1) 16 17,
 z1 19 (.load none) 18,
 mv 20 0,
 mv 21 3,
 zk 22 (.bin .sub .prim) 21 (.int .i64 1),
 z2 23 (.iaddr 1) 20 22,
 z1 24 (.load none) 23,
 z2 25 (.bin .eql .prim) 19 24]
abbrev r89_6:=[mv 26 0,
 mv 27 3,
 z2 28 (.slice 1 true false false) 26 27,
 mv 4 28]
abbrev r89_7:=[o1 5 (.mov) [.c (.int .i64 1)]]
abbrev r89_8:=[mv 29 5,
 mv 30 4,
 z1 31 (.len .slice) 30,
 z2 32 (.bin .lss .prim) 29 31]
abbrev r89_9:=[mv 35 4,
 mv 36 5,
 z2 37 (.iaddr 1) 35 36,
 z1 38 (.load none) 37,
 mv 39 4,
 mv 40 5,
 zk 41 (.bin .sub .prim) 40 (.int .i64 1),
 z2 42 (.iaddr 1) 39 41,
 z1 43 (.load none) 42,
 z2 44 (.bin .neq .prim) 38 43]
abbrev r89_10:=[mv 45 0,
 mv 46 3,
 mv 47 4,
 mv 48 5,
 z2 49 (.iaddr 1) 47 48,
 z1 50 (.load none) 49,
 z2 51 (.iaddr 1) 45 46,
 sr 1 [.t 51,.t 50]]
abbrev r89_11:=[mv 52 3,
 zk 53 (.bin .add .prim) 52 (.int .i64 1),
 mv 3 53]
abbrev r89_12:=[mv 33 5,
 zk 34 (.bin .add .prim) 33 (.int .i64 1),
 mv 5 34]
abbrev b89_0:IC:=(.seq (.seq (.reg r89_8) (.cond (.t 32) .skip (.exit 2))) (.seq (.block 3 (.seq (.regD .wild r89_9 (.take 0 (.take 1 (.take 2 (.take 3 (.take 4 (.take 5 (.take 6 (.take 7 (.take 8 (.take 9 (.done)))))))))))) (.cond (.t 44) (.seq (.reg r89_10) (.reg r89_11)) .skip))) (.reg r89_12)))
abbrev r89_13:=[mv 54 0,
 mv 55 3,
 z2 56 (.slice 1 true false false) 54 55,
 ⟨none,.op (.clear [.int .u8 0]),[.t 56],none⟩]
abbrev r89_14:=[mv 57 0,
 mv 58 3,
 z2 59 (.slice 1 false true false) 57 58,
 mv 2 59]
abbrev r89_15:=[mv 14 3,
 zk 15 (.bin .add .prim) 14 (.int .i64 1),
 mv 3 15]
abbrev b89_1:IC:=(.seq (.seq (.reg r89_4) (.cond (.t 13) .skip (.exit 0))) (.seq (.block 1 (.seq (.regD .wild r89_5 (.take 0 (.take 1 (.take 2 (.take 3 (.take 4 (.take 5 (.take 6 (.take 7 (.take 8 (.take 9 (.done)))))))))))) (.cond (.t 25) (.seq (.reg r89_6) (.seq (.seq (.reg r89_7) (.block 2 (.loop b89_0))) (.seq (.reg r89_13) (.seq (.reg r89_14) .ret)))) .skip))) (.reg r89_15)))
abbrev r89_16:=[mv 60 0,
 mv 2 60]
abbrev c89:IC:=(.seq (.reg r89_0) (.seq (.seq (.reg r89_1) (.cond (.t 8) (.seq (.reg r89_2) .ret) .skip)) (.seq (.seq (.reg r89_3) (.block 0 (.loop b89_1))) (.seq (.reg r89_16) .ret))))
abbrev g89:FC:=⟨c89,61,[.t 2]⟩
theorem comp89:compF qi (hintL [(6,6),(11,6)]) 89=some g89:=by kernel_rfl
abbrev r90_0:=[o1 4 (.mov) [.c (.int .i64 0)],
 o1 5 (.mov) [.c (.bool false)]]
abbrev r90_1:=[mv 10 0,
 z1 11 (.len .slice) 10,
 mv 6 11]
abbrev r90_2:=[mv 12 6,
 o1 7 (.mov) [.c (.int .i64 0)],
 mv 8 12]
abbrev r90_3:=[mv 13 7,
 mv 14 8,
 z2 15 (.bin .lss .prim) 13 14]
abbrev r90_4:=[mv 16 7,
 mv 17 8,
 z2 18 (.bin .add .prim) 16 17,
 z1 19 (.toInt .u64) 18,
 zk 20 (.bin .shr .prim) 19 (.int .u64 1),
 z1 21 (.toInt .i64) 20,
 mv 9 21]
abbrev r90_5:=[mv 22 0,
 mv 23 9,
 z2 24 (.iaddr 1) 22 23,
 z1 25 (.load none) 24,
 mv 26 1,
 ca 27 [.f 113,.t 25,.t 26]]
abbrev r90_6:=[mv 28 9,
 zk 29 (.bin .add .prim) 28 (.int .i64 1),
 mv 7 29]
abbrev r90_7:=[mv 30 9,
 mv 8 30]
abbrev b90_0:IC:=(.seq (.seq (.reg r90_3) (.cond (.t 15) .skip (.exit 0))) (.block 1 (.seq (.reg r90_4) (.seq (.reg r90_5) (.cond (.t 27) (.reg r90_6) (.reg r90_7))))))
abbrev r90_8:=[mv 31 7,
 mv 32 7,
 mv 33 6,
 z2 34 (.bin .lss .prim) 32 33,
 mv 35 34,
 o2 36 (.mov) [.t 0] 35 true,
 o2 37 (.mov) [.t 7] 35 true,
 o2 38 (.iaddr 1) [.t 36,.t 37] 35 true,
 o2 39 (.load none) [.t 38] 35 true,
 o2 40 (.mov) [.t 1] 35 true,
 o2 41 (.bin .eql .prim) [.t 39,.t 40] 35 true,
 o2 42 (.mov) [.t 41] 35 true,
 o2 43 (.mov) [.t 0] 42 false,
 o2 44 (.mov) [.t 7] 42 false,
 o2 45 (.iaddr 1) [.t 43,.t 44] 42 false,
 o2 46 (.load none) [.t 45] 42 false,
 ⟨some 47,.call none,[.f 114,.t 46],some (42,false)⟩,
 o2 48 (.mov) [.t 47] 42 false,
 o2 49 (.mov) [.t 1] 48 true,
 ⟨some 50,.call none,[.f 114,.t 49],some (48,true)⟩,
 o2 51 (.pick) [.t 48,.t 50,.c (.bool false)] 42 false,
 o2 52 (.pick) [.t 42,.c (.bool true),.t 51] 35 true,
 o1 53 (.pick) [.t 35,.t 52,.c (.bool false)],
 mv 4 31,
 mv 5 53]
abbrev c90:IC:=(.seq (.reg r90_0) (.seq (.reg r90_1) (.seq (.reg r90_2) (.seq (.block 0 (.loop b90_0)) (.seq (.reg r90_8) .ret)))))
abbrev g90:FC:=⟨c90,54,[.t 4,.t 5]⟩
theorem comp90:compF qi (fun _=>0) 90=some g90:=by kernel_rfl
abbrev r61_0:List IOp:=[⟨some 2,.op (.mov),[.c (.str [])],none⟩]
abbrev r61_1:=[o1 3 (.mov) [.c (.nils)]]
abbrev r61_2:=[mv 6 0,
 z1 7 (.len .slice) 6,
 o1 8 (.mov) [.c (.int .i64 0)]]
abbrev r61_3:=[z2 9 (.bin .lss .prim) 8 7]
abbrev r61_4:=[z2 10 (.iaddr 1) 6 8,
 z1 11 (.load none) 10,
 mv 5 11]
abbrev r61_5:=[mv 12 3,
 mv 13 5,
 z1 14 (.toInt .u8) 13,
 z1 15 (.bsl 5 1 false) 14,
 z2 16 (.app 5 1 1) 12 15,
 mv 3 16]
abbrev r61_6:=[zk 17 (.bin .add .prim) 8 (.int .i64 1),
 mv 8 17]
abbrev b61_0:IC:=(.seq (.reg r61_3) (.seq (.cond (.t 9) .skip (.exit 0)) (.seq (.block 1 (.seq (.reg r61_4) (.reg r61_5))) (.reg r61_6))))
abbrev r61_7:=[mv 18 3,
 z1 19 (.b2s) 18,
 mv 2 19]
abbrev c61:IC:=(.seq (.reg r61_0) (.seq (.reg r61_1) (.seq (.seq (.reg r61_2) (.block 0 (.loop b61_0))) (.seq (.reg r61_7) .ret))))
abbrev g61:FC:=⟨c61,20,[.t 2]⟩
theorem comp61:compF qi (fun _=>0) 61=some g61:=by kernel_rfl
abbrev r92_0:=[o1 2 (.mov) [.c (.nils)]]
abbrev r92_1:=[o1 3 (.alloc 28 [.nils]) []]
abbrev r92_2:=[mv 5 0,
 ca 6 [.f 117,.t 5]]
abbrev r92_3:=[z1 12 (.load none) 3,
 mv 2 12]
abbrev r92_4:=[mv 4 7]
abbrev r92_5:=[z1 8 (.load none) 3,
 mv 9 4,
 z1 10 (.bsl 3 1 false) 9,
 z2 11 (.app 3 1 8) 8 10,
 sr 1 [.t 3,.t 11]]
abbrev c92:IC:=(.seq (.reg r92_0) (.seq (.reg r92_1) (.seq (.seq (.reg r92_2) (.block 0 (.rangeF 92000 13 (.t 6)))) (.seq (.reg r92_3) .ret))))
abbrev g92:FC:=⟨c92,13,[.t 2]⟩
theorem comp92:compF qi (hintL [(1000003,92000),(2000003,13)]) 92=some g92:=by kernel_rfl
abbrev li92000:LI:=⟨13,[7],(IC.reg r92_4),(IC.block 1 (IC.reg r92_5))⟩
theorem keys92:KeysF qi (hintL [(1000003,92000),(2000003,13)]) 92:=keysF_of (by kernel_rfl)
theorem lok92000:LOk qi 92000 li92000:=⟨hintL [(1000003,92000),(2000003,13)],by kernel_rfl,by kernel_rfl,by kernel_rfl,by kernel_rfl,by decide⟩
abbrev r94_0:=[o1 4 (.mov) [.c (.nils)]]
abbrev r94_1:=[mv 8 0,
 ca 9 [.f 115,.t 8],
 z2 10 (.make 4 [.bool false] 1) 9 9,
 mv 5 10]
abbrev r94_2:=[mv 11 1,
 z1 12 (.len .slice) 11,
 o1 13 (.mov) [.c (.int .i64 0)]]
abbrev r94_3:=[z2 14 (.bin .lss .prim) 13 12]
abbrev r94_4:=[z2 15 (.iaddr 1) 11 13,
 z1 16 (.load none) 15,
 mv 7 16]
abbrev r94_5:=[mv 17 7,
 zk 18 (.bin .geq .prim) 17 (.int .i64 0),
 mv 19 18,
 o2 20 (.mov) [.t 7] 19 true,
 o2 21 (.mov) [.t 5] 19 true,
 o2 22 (.len .slice) [.t 21] 19 true,
 o2 23 (.bin .lss .prim) [.t 20,.t 22] 19 true,
 o1 24 (.pick) [.t 19,.t 23,.c (.bool false)]]
abbrev r94_6:=[mv 25 5,
 mv 26 7,
 z2 27 (.iaddr 1) 25 26,
 sr 1 [.t 27,.c (.bool true)]]
abbrev r94_7:=[zk 28 (.bin .add .prim) 13 (.int .i64 1),
 mv 13 28]
abbrev b94_0:IC:=(.seq (.reg r94_3) (.seq (.cond (.t 14) .skip (.exit 0)) (.seq (.block 1 (.seq (.reg r94_4) (.seq (.reg r94_5) (.cond (.t 24) (.reg r94_6) .skip)))) (.reg r94_7))))
abbrev r94_8:=[mv 29 5,
 mv 4 29]
abbrev c94:IC:=(.seq (.reg r94_0) (.seq (.reg r94_1) (.seq (.seq (.reg r94_2) (.block 0 (.loop b94_0))) (.seq (.reg r94_8) .ret))))
abbrev g94:FC:=⟨c94,30,[.t 4]⟩
theorem comp94:compF qi (fun _=>0) 94=some g94:=by kernel_rfl
abbrev r117_0:=[z1 1 (.box 150) 0,
 o1 2 (.mov) [.c (.nilf)]]
abbrev r117_1:=[z1 3 (.mkfn 135) 1,
 mv 2 3]
abbrev c117:IC:=(.seq (.reg r117_0) (.seq (.reg r117_1) .ret))
abbrev g117:FC:=⟨c117,4,[.t 2]⟩
theorem comp117:compF qi (fun _=>0) 117=some g117:=by kernel_rfl
abbrev r116_0:=[mv 6 1,
 mv 7 2,
 z2 8 (.iaddr 1) 6 7,
 sr 1 [.t 8,.c (.bool true)]]
abbrev r116_1:=[mv 9 2,
 mv 10 0,
 z1 11 (.nilchk) 10,
 z1 12 (.faddr 0) 11,
 z1 13 (.load none) 12,
 z1 14 (.len .str) 13,
 z2 15 (.bin .lss .prim) 9 14,
 mv 16 15,
 o2 17 (.mov) [.t 0] 16 true,
 o2 18 (.nilchk) [.t 17] 16 true,
 o2 19 (.faddr 0) [.t 18] 16 true,
 o2 20 (.load none) [.t 19] 16 true,
 o2 21 (.mov) [.t 2] 16 true,
 o2 22 (.idxs) [.t 20,.t 21] 16 true,
 o2 23 (.bin .eql .prim) [.t 22,.c (.int .u8 42)] 16 true,
 o1 24 (.pick) [.t 16,.t 23,.c (.bool false)]]
abbrev r116_2:=[mv 28 2,
 zk 29 (.bin .add .prim) 28 (.int .i64 1),
 mv 2 29]
abbrev r116_3:=[mv 25 1,
 mv 26 2,
 z2 27 (.iaddr 1) 25 26,
 sr 1 [.t 27,.c (.bool true)]]
abbrev b116_0:IC:=(.seq (.seq (.reg r116_1) (.cond (.t 24) .skip (.exit 0))) (.seq (.block 1 (.reg r116_2)) (.reg r116_3)))
abbrev c116:IC:=(.seq (.reg r116_0) (.block 0 (.loop b116_0)))
abbrev g116:FC:=⟨c116,30,[]⟩
theorem comp116:compF qi (fun _=>0) 116=some g116:=by kernel_rfl
abbrev r115_0:=[o1 2 (.mov) [.c (.int .i64 0)]]
abbrev r115_1:=[mv 3 0,
 zk 4 (.bin .eql .ptr) 3 (.nilp),
 mv 5 4,
 o2 6 (.mov) [.t 0] 5 false,
 o2 7 (.nilchk) [.t 6] 5 false,
 o2 8 (.faddr 0) [.t 7] 5 false,
 o2 9 (.load none) [.t 8] 5 false,
 ⟨some 10,.op (.bin .eql .prim),[.t 9,.c (.str [])],some (5,false)⟩,
 o1 11 (.pick) [.t 5,.c (.bool true),.t 10]]
abbrev r115_2:=[o1 2 (.mov) [.c (.int .i64 0)]]
abbrev r115_3:=[mv 12 0,
 z1 13 (.nilchk) 12,
 z1 14 (.faddr 0) 13,
 z1 15 (.load none) 14,
 z1 16 (.len .str) 15,
 zk 17 (.bin .add .prim) 16 (.int .i64 1),
 mv 2 17]
abbrev c115:IC:=(.seq (.reg r115_0) (.seq (.seq (.reg r115_1) (.cond (.t 11) (.seq (.reg r115_2) .ret) .skip)) (.seq (.reg r115_3) .ret)))
abbrev g115:FC:=⟨c115,18,[.t 2]⟩
theorem comp115:compF qi (fun _=>0) 115=some g115:=by kernel_rfl
abbrev r106_0:=[o1 2 (.mov) [.c (.int .i32 0)],
 o1 3 (.mov) [.c (.int .i64 0)]]
abbrev r106_1:=[mv 13 0,
 z1 14 (.len .slice) 13,
 mv 4 14]
abbrev r106_2:=[mv 15 4,
 zk 16 (.bin .lss .prim) 15 (.int .i64 1)]
abbrev r106_3:=[o1 2 (.mov) [.c (.int .i32 65533)],
 o1 3 (.mov) [.c (.int .i64 0)]]
abbrev r106_4:=[mv 17 0,
 zk 18 (.iaddr 1) 17 (.int .i64 0),
 z1 19 (.load none) 18,
 mv 5 19]
abbrev r106_5:=[mv 20 5,
 o1 21 (.aaddr 256 1) [.c (.fptr (gv 1) 0),.t 20],
 z1 22 (.load none) 21,
 mv 6 22]
abbrev r106_6:=[mv 23 6,
 zk 24 (.bin .geq .prim) 23 (.int .u8 240)]
abbrev r106_7:=[mv 25 6,
 z1 26 (.toInt .i32) 25,
 zk 27 (.bin .shl .prim) 26 (.int .u64 31),
 zk 28 (.bin .shr .prim) 27 (.int .u64 31),
 mv 7 28]
abbrev r106_8:=[mv 29 0,
 zk 30 (.iaddr 1) 29 (.int .i64 0),
 z1 31 (.load none) 30,
 z1 32 (.toInt .i32) 31,
 mv 33 7,
 z2 34 (.bin .andNot .prim) 32 33,
 mv 35 7,
 o1 36 (.bin .and .prim) [.c (.int .i32 65533),.t 35],
 z2 37 (.bin .or .prim) 34 36,
 mv 2 37,
 o1 3 (.mov) [.c (.int .i64 1)]]
abbrev r106_9:=[mv 38 6,
 zk 39 (.bin .and .prim) 38 (.int .u8 7),
 z1 40 (.toInt .i64) 39,
 mv 8 40]
abbrev r106_10:=[mv 41 6,
 zk 42 (.bin .shr .prim) 41 (.int .u64 4),
 o1 43 (.aaddr 16 2) [.c (.fptr (gv 2) 0),.t 42],
 z1 44 (.load (some 2)) 43,
 o1 9 (.alloc 176 [.int .u8 0,.int .u8 0]) [],
 sr 2 [.t 9,.t 44]]
abbrev r106_11:=[mv 45 4,
 mv 46 8,
 z2 47 (.bin .lss .prim) 45 46]
abbrev r106_12:=[o1 2 (.mov) [.c (.int .i32 65533)],
 o1 3 (.mov) [.c (.int .i64 1)]]
abbrev r106_13:=[mv 48 0,
 zk 49 (.iaddr 1) 48 (.int .i64 1),
 z1 50 (.load none) 49,
 mv 10 50]
abbrev r106_14:=[mv 51 10,
 z1 52 (.faddr 0) 9,
 z1 53 (.load none) 52,
 z2 54 (.bin .lss .prim) 51 53,
 mv 55 54,
 o2 56 (.faddr 1) [.t 9] 55 false,
 o2 57 (.load none) [.t 56] 55 false,
 o2 58 (.mov) [.t 10] 55 false,
 o2 59 (.bin .lss .prim) [.t 57,.t 58] 55 false,
 o1 60 (.pick) [.t 55,.c (.bool true),.t 59]]
abbrev r106_15:=[o1 2 (.mov) [.c (.int .i32 65533)],
 o1 3 (.mov) [.c (.int .i64 1)]]
abbrev r106_16:=[mv 61 8,
 zk 62 (.bin .leq .prim) 61 (.int .i64 2)]
abbrev r106_17:=[mv 63 5,
 zk 64 (.bin .and .prim) 63 (.int .u8 31),
 z1 65 (.toInt .i32) 64,
 zk 66 (.bin .shl .prim) 65 (.int .u64 6),
 mv 67 10,
 zk 68 (.bin .and .prim) 67 (.int .u8 63),
 z1 69 (.toInt .i32) 68,
 z2 70 (.bin .or .prim) 66 69,
 mv 2 70,
 o1 3 (.mov) [.c (.int .i64 2)]]
abbrev r106_18:=[mv 71 0,
 zk 72 (.iaddr 1) 71 (.int .i64 2),
 z1 73 (.load none) 72,
 mv 11 73]
abbrev r106_19:=[mv 74 11,
 zk 75 (.bin .lss .prim) 74 (.int .u8 128),
 mv 76 75,
 o2 77 (.mov) [.t 11] 76 false,
 o2 78 (.bin .lss .prim) [.c (.int .u8 191),.t 77] 76 false,
 o1 79 (.pick) [.t 76,.c (.bool true),.t 78]]
abbrev r106_20:=[o1 2 (.mov) [.c (.int .i32 65533)],
 o1 3 (.mov) [.c (.int .i64 1)]]
abbrev r106_21:=[mv 80 8,
 zk 81 (.bin .leq .prim) 80 (.int .i64 3)]
abbrev r106_22:=[mv 82 5,
 zk 83 (.bin .and .prim) 82 (.int .u8 15),
 z1 84 (.toInt .i32) 83,
 zk 85 (.bin .shl .prim) 84 (.int .u64 12),
 mv 86 10,
 zk 87 (.bin .and .prim) 86 (.int .u8 63),
 z1 88 (.toInt .i32) 87,
 zk 89 (.bin .shl .prim) 88 (.int .u64 6),
 z2 90 (.bin .or .prim) 85 89,
 mv 91 11,
 zk 92 (.bin .and .prim) 91 (.int .u8 63),
 z1 93 (.toInt .i32) 92,
 z2 94 (.bin .or .prim) 90 93,
 mv 2 94,
 o1 3 (.mov) [.c (.int .i64 3)]]
abbrev r106_23:=[mv 95 0,
 zk 96 (.iaddr 1) 95 (.int .i64 3),
 z1 97 (.load none) 96,
 mv 12 97]
abbrev r106_24:=[mv 98 12,
 zk 99 (.bin .lss .prim) 98 (.int .u8 128),
 mv 100 99,
 o2 101 (.mov) [.t 12] 100 false,
 o2 102 (.bin .lss .prim) [.c (.int .u8 191),.t 101] 100 false,
 o1 103 (.pick) [.t 100,.c (.bool true),.t 102]]
abbrev r106_25:=[o1 2 (.mov) [.c (.int .i32 65533)],
 o1 3 (.mov) [.c (.int .i64 1)]]
abbrev r106_26:=[mv 104 5,
 zk 105 (.bin .and .prim) 104 (.int .u8 7),
 z1 106 (.toInt .i32) 105,
 zk 107 (.bin .shl .prim) 106 (.int .u64 18),
 mv 108 10,
 zk 109 (.bin .and .prim) 108 (.int .u8 63),
 z1 110 (.toInt .i32) 109,
 zk 111 (.bin .shl .prim) 110 (.int .u64 12),
 z2 112 (.bin .or .prim) 107 111,
 mv 113 11,
 zk 114 (.bin .and .prim) 113 (.int .u8 63),
 z1 115 (.toInt .i32) 114,
 zk 116 (.bin .shl .prim) 115 (.int .u64 6),
 z2 117 (.bin .or .prim) 112 116,
 mv 118 12,
 zk 119 (.bin .and .prim) 118 (.int .u8 63),
 z1 120 (.toInt .i32) 119,
 z2 121 (.bin .or .prim) 117 120,
 mv 2 121,
 o1 3 (.mov) [.c (.int .i64 4)]]
abbrev c106:IC:=(.seq (.reg r106_0) (.seq (.reg r106_1) (.seq (.seq (.reg r106_2) (.cond (.t 16) (.seq (.reg r106_3) .ret) .skip)) (.seq (.reg r106_4) (.seq (.reg r106_5) (.seq (.seq (.reg r106_6) (.cond (.t 24) (.seq (.reg r106_7) (.seq (.reg r106_8) .ret)) .skip)) (.seq (.reg r106_9) (.seq (.reg r106_10) (.seq (.seq (.reg r106_11) (.cond (.t 47) (.seq (.reg r106_12) .ret) .skip)) (.seq (.reg r106_13) (.seq (.seq (.reg r106_14) (.cond (.t 60) (.seq (.reg r106_15) .ret) .skip)) (.seq (.seq (.reg r106_16) (.cond (.t 62) (.seq (.reg r106_17) .ret) .skip)) (.seq (.reg r106_18) (.seq (.seq (.reg r106_19) (.cond (.t 79) (.seq (.reg r106_20) .ret) .skip)) (.seq (.seq (.reg r106_21) (.cond (.t 81) (.seq (.reg r106_22) .ret) .skip)) (.seq (.reg r106_23) (.seq (.seq (.reg r106_24) (.cond (.t 103) (.seq (.reg r106_25) .ret) .skip)) (.seq (.reg r106_26) .ret))))))))))))))))))
abbrev g106:FC:=⟨c106,122,[.t 2,.t 3]⟩
theorem comp106:compF qi (fun _=>0) 106=some g106:=by kernel_rfl
abbrev r110_0:=[o1 4 (.mov) [.c (.int .u64 0)],
 o1 5 (.mov) [.c (.int .u64 0)]]
abbrev r110_1:=[mv 11 0,
 z1 12 (.toInt .u32) 11,
 mv 13 1,
 z1 14 (.toInt .u32) 13,
 ca 15 [.f 124,.t 12,.t 14],
 mv 10 15,
 z1 16 (.extract 0) 10,
 z1 17 (.extract 1) 10,
 mv 6 16,
 mv 7 17]
abbrev r110_2:=[mv 18 6,
 z1 19 (.toInt .u64) 18,
 mv 20 7,
 z1 21 (.toInt .u64) 20,
 mv 4 19,
 mv 5 21]
abbrev r110_3:=[mv 23 0,
 mv 24 1,
 ca 25 [.f 125,.t 23,.t 24],
 mv 22 25,
 z1 26 (.extract 0) 22,
 z1 27 (.extract 1) 22,
 mv 8 26,
 mv 9 27]
abbrev r110_4:=[mv 28 8,
 mv 29 9,
 mv 4 28,
 mv 5 29]
abbrev c110:IC:=(.seq (.reg r110_0) (.seq (.cond (.c (.bool false)) (.seq (.reg r110_1) (.seq (.reg r110_2) .ret)) .skip) (.seq (.reg r110_3) (.seq (.reg r110_4) .ret))))
abbrev g110:FC:=⟨c110,30,[.t 4,.t 5]⟩
theorem comp110:compF qi (fun _=>0) 110=some g110:=by kernel_rfl
abbrev r113_0:=[o1 4 (.mov) [.c (.bool false)]]
abbrev r113_1:=[mv 5 0,
 ca 6 [.f 134,.t 5],
 mv 7 6,
 o2 8 (.mov) [.t 1] 7 true,
 ⟨some 9,.call none,[.f 134,.t 8],some (7,true)⟩,
 o2 10 (.un .not) [.t 9] 7 true,
 o1 11 (.pick) [.t 7,.t 10,.c (.bool false)],
 mv 12 11,
 o2 13 (.mov) [.t 0] 12 false,
 o2 14 (.mov) [.t 1] 12 false,
 o2 15 (.bin .lss .prim) [.t 13,.t 14] 12 false,
 o1 16 (.pick) [.t 12,.c (.bool true),.t 15],
 mv 4 16]
abbrev c113:IC:=(.seq (.reg r113_0) (.seq (.reg r113_1) .ret))
abbrev g113:FC:=⟨c113,17,[.t 4]⟩
theorem comp113:compF qi (fun _=>0) 113=some g113:=by kernel_rfl
abbrev r114_0:=[o1 2 (.mov) [.c (.bool false)]]
abbrev r114_1:=[mv 3 0,
 mv 4 0,
 z2 5 (.bin .neq .prim) 3 4,
 mv 2 5]
abbrev c114:IC:=(.seq (.reg r114_0) (.seq (.reg r114_1) .ret))
abbrev g114:FC:=⟨c114,6,[.t 2]⟩
theorem comp114:compF qi (fun _=>0) 114=some g114:=by kernel_rfl
abbrev r135_0:=[z1 5 (.load none) 1,
 z1 6 (.len .slice) 5,
 o1 7 (.mov) [.c (.int .i64 0)]]
abbrev r135_1:=[z2 8 (.bin .lss .prim) 7 6]
abbrev r135_2:=[mv 9 7,
 z2 10 (.iaddr 1) 5 7,
 z1 11 (.load none) 10,
 mv 3 9,
 mv 4 11]
abbrev r135_3:=[mv 12 4,
 mv 13 12,
 o2 14 (.mov) [.t 0] 13 true,
 o2 15 (.mov) [.t 3] 13 true,
 ⟨some 16,.call none,[.t 14,.t 15],some (13,true)⟩,
 o2 17 (.un .not) [.t 16] 13 true,
 o1 18 (.pick) [.t 13,.t 17,.c (.bool false)]]
abbrev r135_4:=[zk 19 (.bin .add .prim) 7 (.int .i64 1),
 mv 7 19]
abbrev b135_0:IC:=(.seq (.reg r135_1) (.seq (.cond (.t 8) .skip (.exit 0)) (.seq (.block 1 (.seq (.reg r135_2) (.seq (.reg r135_3) (.cond (.t 18) .ret .skip)))) (.reg r135_4))))
abbrev c135:IC:=(.seq (.reg r135_0) (.block 0 (.loop b135_0)))
abbrev g135:FC:=⟨c135,20,[]⟩
theorem comp135:compF qi (fun _=>0) 135=some g135:=by kernel_rfl
abbrev r125_0:=[o1 4 (.mov) [.c (.int .u64 0)],
 o1 5 (.mov) [.c (.int .u64 0)]]
abbrev r125_1:=[mv 14 0,
 zk 15 (.bin .and .prim) 14 (.int .u64 4294967295),
 mv 6 15]
abbrev r125_2:=[mv 16 0,
 zk 17 (.bin .shr .prim) 16 (.int .u64 32),
 mv 7 17]
abbrev r125_3:=[mv 18 1,
 zk 19 (.bin .and .prim) 18 (.int .u64 4294967295),
 mv 8 19]
abbrev r125_4:=[mv 20 1,
 zk 21 (.bin .shr .prim) 20 (.int .u64 32),
 mv 9 21]
abbrev r125_5:=[mv 22 6,
 mv 23 8,
 z2 24 (.bin .mul .prim) 22 23,
 mv 10 24]
abbrev r125_6:=[mv 25 7,
 mv 26 8,
 z2 27 (.bin .mul .prim) 25 26,
 mv 28 10,
 zk 29 (.bin .shr .prim) 28 (.int .u64 32),
 z2 30 (.bin .add .prim) 27 29,
 mv 11 30]
abbrev r125_7:=[mv 31 11,
 zk 32 (.bin .and .prim) 31 (.int .u64 4294967295),
 mv 12 32]
abbrev r125_8:=[mv 33 11,
 zk 34 (.bin .shr .prim) 33 (.int .u64 32),
 mv 13 34]
abbrev r125_9:=[mv 35 12,
 mv 36 6,
 mv 37 9,
 z2 38 (.bin .mul .prim) 36 37,
 z2 39 (.bin .add .prim) 35 38,
 mv 12 39]
abbrev r125_10:=[mv 40 7,
 mv 41 9,
 z2 42 (.bin .mul .prim) 40 41,
 mv 43 13,
 z2 44 (.bin .add .prim) 42 43,
 mv 45 12,
 zk 46 (.bin .shr .prim) 45 (.int .u64 32),
 z2 47 (.bin .add .prim) 44 46,
 mv 4 47]
abbrev r125_11:=[mv 48 0,
 mv 49 1,
 z2 50 (.bin .mul .prim) 48 49,
 mv 5 50]
abbrev c125:IC:=(.seq (.reg r125_0) (.seq (.reg r125_1) (.seq (.reg r125_2) (.seq (.reg r125_3) (.seq (.reg r125_4) (.seq (.reg r125_5) (.seq (.reg r125_6) (.seq (.reg r125_7) (.seq (.reg r125_8) (.seq (.reg r125_9) (.seq (.reg r125_10) (.seq (.reg r125_11) .ret))))))))))))
abbrev g125:FC:=⟨c125,51,[.t 4,.t 5]⟩
theorem comp125:compF qi (fun _=>0) 125=some g125:=by kernel_rfl
abbrev r134_0:=[o1 2 (.mov) [.c (.bool false)]]
abbrev r134_1:=[mv 3 0,
 mv 4 0,
 z2 5 (.bin .neq .prim) 3 4,
 mv 2 5]
abbrev c134:IC:=(.seq (.reg r134_0) (.seq (.reg r134_1) .ret))
abbrev g134:FC:=⟨c134,6,[.t 2]⟩
theorem comp134:compF qi (fun _=>0) 134=some g134:=by kernel_rfl
end Go.Gi
