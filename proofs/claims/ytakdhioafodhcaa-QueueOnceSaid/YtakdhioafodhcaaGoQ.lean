/- Functions of the program in the form of the abstract machine, printed by a program; each is checked against the translation. -/
import Derived.Test.YtakdhioafodhcaaGiAU
import Derived.Test.YtakdhioafodhcaaProg
import Derived.KernelRfl
set_option linter.unusedVariables false
namespace Go.Gi
open Go
abbrev mv (d s : Nat) : IOp := ⟨some d, .op .mov, [.t s], none⟩
abbrev o1 (d : Nat) (r : ROp) (xs : List Opd) : IOp := ⟨some d, .op r, xs, none⟩
abbrev o2 (d : Nat) (r : ROp) (xs : List Opd) (g : Nat) (b : Bool) : IOp := ⟨some d, .op r, xs, some (g, b)⟩
def hintL (l : List (Nat × Nat)) (i : Nat) : Nat := (l.lookup i).getD 0
-- outlaw/outlawlaw22.QueueOnce
abbrev r4_0 : List IOp := [o1 2 (.mov) [.c (.bool false)]]
abbrev r4_1 : List IOp := [⟨some 21, .call none, [.f 10], none⟩,
  o1 22 (.un .not) [.t 21]]
abbrev r4_2 : List IOp := [o1 2 (.mov) [.c (.bool false)]]
abbrev r4_3 : List IOp := [mv 23 0,
  ⟨some 24, .call none, [.f 21, .t 23], none⟩,
  o1 25 (.un .not) [.t 24]]
abbrev r4_4 : List IOp := [o1 2 (.mov) [.c (.bool true)]]
abbrev r4_5 : List IOp := [⟨some 26, .call none, [.f 13], none⟩,
  o1 3 (.alloc 29 [.nils, .int .i64 0, .int .i64 0, .nils, .nils, .bool false]) [],
  ⟨none, .op (.store 6), [.t 3, .t 26], none⟩]
abbrev r4_6 : List IOp := [o1 27 (.mkmap false) [],
  mv 4 27]
abbrev r4_7 : List IOp := [o1 5 (.mov) [.c (.int .i64 0)]]
abbrev r4_8 : List IOp := [mv 28 5,
  mv 29 0,
  o1 30 (.len .slice) [.t 29],
  o1 31 (.bin .lss .prim) [.t 28, .t 30]]
abbrev r4_9 : List IOp := [mv 34 0,
  mv 35 5,
  o1 36 (.iaddr 10) [.t 34, .t 35],
  o1 37 (.faddr 0) [.t 36],
  o1 38 (.load none) [.t 37],
  ⟨some 39, .call none, [.f 18, .t 38, .c (.int .i64 9)], none⟩,
  mv 6 39]
abbrev r4_10 : List IOp := [o1 41 (.load (some 6)) [.t 3],
  ⟨some 42, .call none, [.f 23, .t 41], none⟩,
  mv 43 0,
  mv 44 5,
  o1 45 (.iaddr 10) [.t 43, .t 44],
  o1 46 (.load (some 10)) [.t 45],
  ⟨some 47, .call none, [.f 22, .t 42, .t 46], none⟩,
  mv 40 47,
  o1 48 (.extract 0) [.t 40],
  o1 49 (.extract 1) [.t 40],
  o1 50 (.extract 2) [.t 40],
  o1 51 (.extract 3) [.t 40],
  o1 52 (.extract 4) [.t 40],
  o1 7 (.alloc 29 [.nils, .int .i64 0, .int .i64 0, .nils, .nils, .bool false]) [],
  ⟨none, .op (.store 6), [.t 7, .t 48], none⟩,
  mv 8 49,
  mv 9 50,
  mv 10 51,
  mv 11 52]
abbrev r4_11 : List IOp := [mv 53 6,
  o1 54 (.bin .lss .prim) [.t 53, .c (.int .i64 2)],
  mv 55 54,
  o2 56 (.mov) [.t 8] 55 true,
  o2 57 (.bin .eql .prim) [.t 56, .c (.int .i64 0)] 55 true,
  o1 58 (.pick) [.t 55, .t 57, .c (.bool false)]]
abbrev r4_12 : List IOp := [mv 60 4,
  mv 61 10,
  o1 62 (.look .int (.agg [.int .i64 0, .str [], .str [], .str [], .str []]) true) [.t 60, .t 61],
  mv 59 62,
  o1 63 (.extract 0) [.t 59],
  o1 64 (.extract 1) [.t 59],
  o1 12 (.alloc 23 [.int .i64 0, .str [], .str [], .str [], .str []]) [],
  ⟨none, .op (.store 5), [.t 12, .t 63], none⟩,
  mv 13 64]
abbrev r4_13 : List IOp := [mv 65 13]
abbrev r4_14 : List IOp := [o1 2 (.mov) [.c (.bool false)]]
abbrev r4_15 : List IOp := [mv 66 4,
  mv 67 10,
  mv 68 0,
  mv 69 5,
  o1 70 (.iaddr 10) [.t 68, .t 69],
  o1 71 (.faddr 1) [.t 70],
  o1 72 (.load (some 5)) [.t 71],
  ⟨none, .op (.mapup .int), [.t 66, .t 67, .t 72], none⟩]
abbrev r4_16 : List IOp := [o1 73 (.faddr 3) [.t 3],
  o1 74 (.load none) [.t 73],
  ⟨some 75, .call none, [.f 24, .t 74], none⟩,
  o1 76 (.faddr 4) [.t 3],
  o1 77 (.load none) [.t 76],
  o1 78 (.app 23 5 72) [.t 75, .t 77],
  mv 14 78]
abbrev r4_17 : List IOp := [o1 15 (.mov) [.c (.int .i64 0)]]
abbrev r4_18 : List IOp := [mv 79 15,
  mv 80 14,
  o1 81 (.len .slice) [.t 80],
  o1 82 (.bin .lss .prim) [.t 79, .t 81]]
abbrev r4_19 : List IOp := [mv 85 14,
  mv 86 15,
  o1 87 (.iaddr 5) [.t 85, .t 86],
  o1 88 (.load (some 5)) [.t 87],
  mv 89 0,
  mv 90 5,
  o1 91 (.iaddr 10) [.t 89, .t 90],
  o1 92 (.faddr 1) [.t 91],
  o1 93 (.load (some 5)) [.t 92],
  ⟨some 94, .call none, [.f 25, .t 88, .t 93], none⟩]
abbrev r4_20 : List IOp := [o1 2 (.mov) [.c (.bool false)]]
abbrev r4_21 : List IOp := [mv 83 15,
  o1 84 (.bin .add .prim) [.t 83, .c (.int .i64 1)],
  mv 15 84]
abbrev b4_0 : IC := (IC.seq (IC.seq (IC.reg r4_18) (IC.cond (.t 82) IC.skip (IC.exit 2))) (IC.seq (IC.block 3 (IC.seq (IC.regD .wild r4_19 (.take 0 (.take 1 (.take 2 (.take 3 (.take 4 (.take 5 (.take 6 (.take 7 (.take 8 (.take 9 (.done)))))))))))) (IC.cond (.t 94) (IC.seq (IC.reg r4_20) IC.ret) IC.skip))) (IC.reg r4_21)))
abbrev r4_22 : List IOp := [o1 16 (.mov) [.c (.int .i64 0)]]
abbrev r4_23 : List IOp := [mv 95 16,
  mv 96 11,
  o1 97 (.len .slice) [.t 96],
  o1 98 (.bin .lss .prim) [.t 95, .t 97]]
abbrev r4_24 : List IOp := [mv 101 11,
  mv 102 16,
  o1 103 (.iaddr 10) [.t 101, .t 102],
  o1 104 (.faddr 6) [.t 103],
  o1 105 (.load none) [.t 104],
  mv 106 105,
  o2 107 (.mov) [.t 11] 106 false,
  o2 108 (.mov) [.t 16] 106 false,
  o2 109 (.iaddr 10) [.t 107, .t 108] 106 false,
  o2 110 (.faddr 7) [.t 109] 106 false,
  o2 111 (.load none) [.t 110] 106 false,
  o1 112 (.pick) [.t 106, .c (.bool true), .t 111],
  mv 113 112,
  o2 114 (.mov) [.t 4] 113 false,
  o2 115 (.mov) [.t 11] 113 false,
  o2 116 (.mov) [.t 16] 113 false,
  o2 117 (.iaddr 10) [.t 115, .t 116] 113 false,
  o2 118 (.faddr 0) [.t 117] 113 false,
  o2 119 (.load none) [.t 118] 113 false,
  o2 120 (.look .int (.agg [.int .i64 0, .str [], .str [], .str [], .str []]) false) [.t 114, .t 119] 113 false,
  o2 121 (.mov) [.t 11] 113 false,
  o2 122 (.mov) [.t 16] 113 false,
  o2 123 (.iaddr 10) [.t 121, .t 122] 113 false,
  o2 124 (.faddr 1) [.t 123] 113 false,
  o2 125 (.load (some 5)) [.t 124] 113 false,
  o2 126 (.bin .neq (.st [.int, .str, .str, .str, .str])) [.t 120, .t 125] 113 false,
  o1 127 (.pick) [.t 113, .c (.bool true), .t 126]]
abbrev r4_25 : List IOp := [o1 2 (.mov) [.c (.bool false)]]
abbrev r4_26 : List IOp := [mv 128 4,
  mv 129 11,
  mv 130 16,
  o1 131 (.iaddr 10) [.t 129, .t 130],
  o1 132 (.faddr 0) [.t 131],
  o1 133 (.load none) [.t 132],
  ⟨none, .op (.del .int), [.t 128, .t 133], none⟩]
abbrev r4_27 : List IOp := [mv 99 16,
  o1 100 (.bin .add .prim) [.t 99, .c (.int .i64 1)],
  mv 16 100]
abbrev b4_1 : IC := (IC.seq (IC.seq (IC.reg r4_23) (IC.cond (.t 98) IC.skip (IC.exit 4))) (IC.seq (IC.block 5 (IC.seq (IC.seq (IC.regD .wild r4_24 (.take 0 (.take 1 (.take 2 (.take 3 (.take 4 (.take 5 (.take 6 (.take 7 (.take 8 (.take 9 (.take 10 (.take 11 (.take 12 (.take 13 (.take 14 (.take 15 (.take 16 (.take 17 (.take 18 (.take 19 (.take 20 (.take 21 (.take 22 (.take 23 (.take 24 (.take 25 (.take 26 (.done))))))))))))))))))))))))))))) (IC.cond (.t 127) (IC.seq (IC.reg r4_25) IC.ret) IC.skip)) (IC.reg r4_26))) (IC.reg r4_27)))
abbrev r4_28 : List IOp := [mv 134 6,
  o1 135 (.bin .eql .prim) [.t 134, .c (.int .i64 4)],
  mv 136 135,
  o2 137 (.mov) [.t 8] 136 true,
  o2 138 (.bin .eql .prim) [.t 137, .c (.int .i64 0)] 136 true,
  o1 139 (.pick) [.t 136, .t 138, .c (.bool false)],
  mv 140 139,
  o2 141 (.mov) [.t 9] 140 true,
  o2 142 (.bin .neq .prim) [.t 141, .c (.int .i64 2)] 140 true,
  o1 143 (.pick) [.t 140, .t 142, .c (.bool false)]]
abbrev r4_29 : List IOp := [mv 144 4,
  mv 145 0,
  mv 146 5,
  o1 147 (.iaddr 10) [.t 145, .t 146],
  o1 148 (.faddr 6) [.t 147],
  o1 149 (.load none) [.t 148],
  ⟨none, .op (.del .int), [.t 144, .t 149], none⟩]
abbrev r4_30 : List IOp := [o1 17 (.mov) [.c (.int .i64 0)]]
abbrev r4_31 : List IOp := [o1 18 (.mov) [.c (.int .i64 0)]]
abbrev r4_32 : List IOp := [mv 150 18,
  o1 151 (.faddr 0) [.t 7],
  o1 152 (.load none) [.t 151],
  o1 153 (.len .slice) [.t 152],
  o1 154 (.bin .lss .prim) [.t 150, .t 153]]
abbrev r4_33 : List IOp := [mv 158 4,
  o1 159 (.faddr 0) [.t 7],
  o1 160 (.load none) [.t 159],
  mv 161 18,
  o1 162 (.iaddr 10) [.t 160, .t 161],
  o1 163 (.faddr 0) [.t 162],
  o1 164 (.load none) [.t 163],
  o1 165 (.look .int (.agg [.int .i64 0, .str [], .str [], .str [], .str []]) true) [.t 158, .t 164],
  mv 157 165,
  o1 166 (.extract 0) [.t 157],
  o1 167 (.extract 1) [.t 157],
  o1 19 (.alloc 23 [.int .i64 0, .str [], .str [], .str [], .str []]) [],
  ⟨none, .op (.store 5), [.t 19, .t 166], none⟩,
  mv 20 167]
abbrev r4_34 : List IOp := [mv 168 20,
  o1 169 (.un .not) [.t 168],
  mv 170 169,
  o2 171 (.load (some 5)) [.t 19] 170 false,
  o2 172 (.faddr 0) [.t 7] 170 false,
  o2 173 (.load none) [.t 172] 170 false,
  o2 174 (.mov) [.t 18] 170 false,
  o2 175 (.iaddr 10) [.t 173, .t 174] 170 false,
  o2 176 (.faddr 1) [.t 175] 170 false,
  o2 177 (.load (some 5)) [.t 176] 170 false,
  o2 178 (.bin .neq (.st [.int, .str, .str, .str, .str])) [.t 171, .t 177] 170 false,
  o1 179 (.pick) [.t 170, .c (.bool true), .t 178]]
abbrev r4_35 : List IOp := [o1 2 (.mov) [.c (.bool false)]]
abbrev r4_36 : List IOp := [o1 180 (.faddr 0) [.t 7],
  o1 181 (.load none) [.t 180],
  mv 182 18,
  o1 183 (.iaddr 10) [.t 181, .t 182],
  o1 184 (.faddr 6) [.t 183],
  o1 185 (.load none) [.t 184]]
abbrev r4_37 : List IOp := [mv 186 17,
  o1 187 (.bin .add .prim) [.t 186, .c (.int .i64 1)],
  mv 17 187]
abbrev r4_38 : List IOp := [mv 155 18,
  o1 156 (.bin .add .prim) [.t 155, .c (.int .i64 1)],
  mv 18 156]
abbrev b4_2 : IC := (IC.seq (IC.seq (IC.reg r4_32) (IC.cond (.t 154) IC.skip (IC.exit 6))) (IC.seq (IC.block 7 (IC.seq (IC.reg r4_33) (IC.seq (IC.seq (IC.regD .wild r4_34 (.take 0 (.take 1 (.take 2 (.take 3 (.take 4 (.take 5 (.take 6 (.take 7 (.take 8 (.take 9 (.take 10 (.take 11 (.done)))))))))))))) (IC.cond (.t 179) (IC.seq (IC.reg r4_35) IC.ret) IC.skip)) (IC.seq (IC.reg r4_36) (IC.cond (.t 185) (IC.reg r4_37) IC.skip))))) (IC.reg r4_38)))
abbrev r4_39 : List IOp := [o1 188 (.faddr 0) [.t 7],
  o1 189 (.load none) [.t 188],
  o1 190 (.len .slice) [.t 189],
  mv 191 4,
  o1 192 (.len .map) [.t 191],
  o1 193 (.bin .neq .prim) [.t 190, .t 192],
  mv 194 193,
  o2 195 (.mov) [.t 17] 194 false,
  o2 196 (.bin .gtr .prim) [.t 195, .c (.int .i64 4)] 194 false,
  o1 197 (.pick) [.t 194, .c (.bool true), .t 196]]
abbrev r4_40 : List IOp := [o1 2 (.mov) [.c (.bool false)]]
abbrev r4_41 : List IOp := [o1 198 (.load (some 6)) [.t 7],
  ⟨none, .op (.store 6), [.t 3, .t 198], none⟩]
abbrev r4_42 : List IOp := [mv 32 5,
  o1 33 (.bin .add .prim) [.t 32, .c (.int .i64 1)],
  mv 5 33]
abbrev b4_3 : IC := (IC.seq (IC.seq (IC.reg r4_8) (IC.cond (.t 31) IC.skip (IC.exit 0))) (IC.seq (IC.block 1 (IC.seq (IC.reg r4_9) (IC.seq (IC.regD .wild r4_10 (.take 0 (.take 2 (.take 3 (.take 4 (.fork [(1, .take 5 (.fork [(6, .take 7 (.take 8 (.take 9 (.take 10 (.take 11 (.take 12 (.take 13 (.take 14 (.take 15 (.take 16 (.take 17 (.take 18 (.done))))))))))))), (13, .take 6 (.take 7 (.take 8 (.take 9 (.take 10 (.take 11 (.take 12 (.take 14 (.take 15 (.take 16 (.take 17 (.take 18 (.done)))))))))))))])), (5, .fork [(1, .fork [(6, .take 7 (.take 8 (.take 9 (.take 10 (.take 11 (.take 12 (.take 13 (.take 14 (.take 15 (.take 16 (.take 17 (.take 18 (.done))))))))))))), (13, .take 6 (.take 7 (.take 8 (.take 9 (.take 10 (.take 11 (.take 12 (.take 14 (.take 15 (.take 16 (.take 17 (.take 18 (.done)))))))))))))]), (13, .take 1 (.take 6 (.take 7 (.take 8 (.take 9 (.take 10 (.take 11 (.take 12 (.take 14 (.take 15 (.take 16 (.take 17 (.take 18 (.done))))))))))))))]), (13, .fork [(1, .take 5 (.take 6 (.take 7 (.take 8 (.take 9 (.take 10 (.take 11 (.take 12 (.take 14 (.take 15 (.take 16 (.take 17 (.take 18 (.done)))))))))))))), (5, .take 1 (.take 6 (.take 7 (.take 8 (.take 9 (.take 10 (.take 11 (.take 12 (.take 14 (.take 15 (.take 16 (.take 17 (.take 18 (.done))))))))))))))])])))))) (IC.seq (IC.seq (IC.reg r4_11) (IC.cond (.t 58) (IC.seq (IC.seq (IC.reg r4_12) (IC.seq (IC.reg r4_13) (IC.cond (.t 65) (IC.seq (IC.reg r4_14) IC.ret) IC.skip))) (IC.seq (IC.reg r4_15) (IC.seq (IC.regD .alloc r4_16 (.take 0 (.take 1 (.take 3 (.take 4 (.take 2 (.take 5 (.take 6 (.done))))))))) (IC.seq (IC.reg r4_17) (IC.block 2 (IC.loop b4_0)))))) IC.skip)) (IC.seq (IC.seq (IC.reg r4_22) (IC.block 4 (IC.loop b4_1))) (IC.seq (IC.seq (IC.reg r4_28) (IC.cond (.t 143) (IC.reg r4_29) IC.skip)) (IC.seq (IC.reg r4_30) (IC.seq (IC.seq (IC.reg r4_31) (IC.block 6 (IC.loop b4_2))) (IC.seq (IC.seq (IC.reg r4_39) (IC.cond (.t 197) (IC.seq (IC.reg r4_40) IC.ret) IC.skip)) (IC.reg r4_41)))))))))) (IC.reg r4_42)))
abbrev r4_43 : List IOp := [o1 2 (.mov) [.c (.bool true)]]
abbrev c4 : IC := (IC.seq (IC.reg r4_0) (IC.seq (IC.seq (IC.reg r4_1) (IC.cond (.t 22) (IC.seq (IC.reg r4_2) IC.ret) IC.skip)) (IC.seq (IC.seq (IC.reg r4_3) (IC.cond (.t 25) (IC.seq (IC.reg r4_4) IC.ret) IC.skip)) (IC.seq (IC.reg r4_5) (IC.seq (IC.reg r4_6) (IC.seq (IC.seq (IC.reg r4_7) (IC.block 0 (IC.loop b4_3))) (IC.seq (IC.reg r4_43) IC.ret)))))))
abbrev g4 : FC := ⟨c4, 199, [.t 2]⟩
theorem comp4 : compF Go.Proofs.Try.prog (hintL [(11, 6), (17, 7), (21, 6), (26, 6), (36, 6)]) 4 = some g4 := by kernel_rfl

-- outlaw/outlawlaw22.lives
abbrev r10_0 : List IOp := [o1 0 (.mov) [.c (.bool false)]]
abbrev r10_1 : List IOp := [⟨some 16, .call none, [.f 13], none⟩,
  ⟨some 17, .call none, [.f 54, .c (.str [64, 97, 58, 98])], none⟩,
  ⟨some 18, .call none, [.f 12, .t 16, .t 17], none⟩,
  mv 15 18,
  o1 19 (.extract 0) [.t 15],
  o1 20 (.extract 1) [.t 15],
  o1 21 (.extract 2) [.t 15],
  o1 1 (.alloc 29 [.nils, .int .i64 0, .int .i64 0, .nils, .nils, .bool false]) [],
  ⟨none, .op (.store 6), [.t 1, .t 19], none⟩,
  mv 2 20,
  mv 3 21]
abbrev r10_2 : List IOp := [o1 23 (.load (some 6)) [.t 1],
  ⟨some 24, .call none, [.f 14, .t 23, .c (.int .i64 1)], none⟩,
  mv 22 24,
  o1 25 (.extract 0) [.t 22],
  o1 26 (.extract 1) [.t 22],
  ⟨none, .op (.store 6), [.t 1, .t 25], none⟩,
  mv 4 26]
abbrev r10_3 : List IOp := [o1 28 (.load (some 6)) [.t 1],
  ⟨some 29, .call none, [.f 55, .t 28], none⟩,
  ⟨some 30, .call none, [.f 20, .t 29, .c (.nils)], none⟩,
  mv 27 30,
  o1 31 (.extract 0) [.t 27],
  o1 32 (.extract 1) [.t 27],
  o1 5 (.alloc 42 [.int .i64 0, .int .i64 0, .str [], .str [], .str [], .str [], .bool false, .bool false, .int .i64 0, .int .i64 0]) [],
  ⟨none, .op (.store 10), [.t 5, .t 31], none⟩,
  mv 6 32]
abbrev r10_4 : List IOp := [o1 34 (.load (some 6)) [.t 1],
  ⟨some 35, .call none, [.f 15, .t 34, .c (.int .i64 1), .c (.bool false)], none⟩,
  mv 33 35,
  o1 36 (.extract 0) [.t 33],
  o1 37 (.extract 1) [.t 33],
  o1 38 (.extract 2) [.t 33],
  o1 7 (.alloc 29 [.nils, .int .i64 0, .int .i64 0, .nils, .nils, .bool false]) [],
  ⟨none, .op (.store 6), [.t 7, .t 36], none⟩,
  mv 8 37,
  mv 9 38]
abbrev r10_5 : List IOp := [o1 40 (.load (some 6)) [.t 7],
  ⟨some 41, .call none, [.f 20, .t 40, .c (.nils)], none⟩,
  mv 39 41,
  o1 42 (.extract 0) [.t 39],
  o1 43 (.extract 1) [.t 39],
  o1 10 (.alloc 42 [.int .i64 0, .int .i64 0, .str [], .str [], .str [], .str [], .bool false, .bool false, .int .i64 0, .int .i64 0]) [],
  ⟨none, .op (.store 10), [.t 10, .t 42], none⟩,
  mv 11 43]
abbrev r10_6 : List IOp := [o1 45 (.load (some 6)) [.t 7],
  ⟨some 46, .call none, [.f 19, .t 45, .c (.int .i64 2)], none⟩,
  mv 44 46,
  o1 47 (.extract 0) [.t 44],
  o1 48 (.extract 1) [.t 44],
  ⟨none, .op (.store 6), [.t 7, .t 47], none⟩,
  mv 12 48]
abbrev r10_7 : List IOp := [o1 50 (.load (some 6)) [.t 7],
  ⟨some 51, .call none, [.f 20, .t 50, .c (.nils)], none⟩,
  mv 49 51,
  o1 52 (.extract 0) [.t 49],
  o1 53 (.extract 1) [.t 49],
  o1 13 (.alloc 42 [.int .i64 0, .int .i64 0, .str [], .str [], .str [], .str [], .bool false, .bool false, .int .i64 0, .int .i64 0]) [],
  ⟨none, .op (.store 10), [.t 13, .t 52], none⟩,
  mv 14 53]
abbrev r10_8 : List IOp := [mv 54 3,
  o1 55 (.bin .eql .prim) [.t 54, .c (.int .i64 0)],
  mv 56 55,
  o2 57 (.mov) [.t 2] 56 true,
  o2 58 (.bin .eql .prim) [.t 57, .c (.int .i64 1)] 56 true,
  o1 59 (.pick) [.t 56, .t 58, .c (.bool false)],
  mv 60 59,
  o2 61 (.mov) [.t 4] 60 true,
  o2 62 (.bin .eql .prim) [.t 61, .c (.int .i64 0)] 60 true,
  o1 63 (.pick) [.t 60, .t 62, .c (.bool false)],
  mv 64 63,
  o2 65 (.mov) [.t 6] 64 true,
  o1 66 (.pick) [.t 64, .t 65, .c (.bool false)],
  mv 67 66,
  o2 68 (.faddr 0) [.t 5] 67 true,
  o2 69 (.load none) [.t 68] 67 true,
  o2 70 (.bin .eql .prim) [.t 69, .c (.int .i64 1)] 67 true,
  o1 71 (.pick) [.t 67, .t 70, .c (.bool false)],
  mv 72 71,
  o2 73 (.faddr 7) [.t 5] 72 true,
  o2 74 (.load none) [.t 73] 72 true,
  o1 75 (.pick) [.t 72, .t 74, .c (.bool false)],
  mv 76 75,
  o2 77 (.mov) [.t 9] 76 true,
  o2 78 (.bin .eql .prim) [.t 77, .c (.int .i64 0)] 76 true,
  o1 79 (.pick) [.t 76, .t 78, .c (.bool false)],
  mv 80 79,
  o2 81 (.mov) [.t 8] 80 true,
  o2 82 (.bin .eql .prim) [.t 81, .c (.int .i64 2)] 80 true,
  o1 83 (.pick) [.t 80, .t 82, .c (.bool false)],
  mv 84 83,
  o2 85 (.mov) [.t 11] 84 true,
  o2 86 (.un .not) [.t 85] 84 true,
  o1 87 (.pick) [.t 84, .t 86, .c (.bool false)],
  mv 88 87,
  o2 89 (.mov) [.t 12] 88 true,
  o2 90 (.bin .eql .prim) [.t 89, .c (.int .i64 0)] 88 true,
  o1 91 (.pick) [.t 88, .t 90, .c (.bool false)],
  mv 92 91,
  o2 93 (.mov) [.t 14] 92 true,
  o1 94 (.pick) [.t 92, .t 93, .c (.bool false)],
  mv 95 94,
  o2 96 (.faddr 0) [.t 13] 95 true,
  o2 97 (.load none) [.t 96] 95 true,
  o2 98 (.bin .eql .prim) [.t 97, .c (.int .i64 1)] 95 true,
  o1 99 (.pick) [.t 95, .t 98, .c (.bool false)],
  mv 0 99]
abbrev c10 : IC := (IC.seq (IC.reg r10_0) (IC.seq (IC.reg r10_1) (IC.seq (IC.reg r10_2) (IC.seq (IC.reg r10_3) (IC.seq (IC.reg r10_4) (IC.seq (IC.reg r10_5) (IC.seq (IC.reg r10_6) (IC.seq (IC.reg r10_7) (IC.seq (IC.reg r10_8) IC.ret)))))))))
abbrev g10 : FC := ⟨c10, 100, [.t 0]⟩
theorem comp10 : compF Go.Proofs.Try.prog (fun _ => 0) 10 = some g10 := by kernel_rfl

-- outlaw/outlawkit.LightAction
abbrev r11_0 : List IOp := [o1 1 (.box 23) [.t 0],
  o1 2 (.mov) [.c (.bool false)]]
abbrev r11_1 : List IOp := [o1 3 (.faddr 1) [.t 1],
  o1 4 (.load none) [.t 3],
  o1 5 (.len .str) [.t 4],
  o1 6 (.bin .leq .prim) [.t 5, .c (.int .i64 300)],
  mv 7 6,
  o2 8 (.faddr 2) [.t 1] 7 true,
  o2 9 (.load none) [.t 8] 7 true,
  o2 10 (.len .str) [.t 9] 7 true,
  o2 11 (.bin .leq .prim) [.t 10, .c (.int .i64 300)] 7 true,
  o1 12 (.pick) [.t 7, .t 11, .c (.bool false)],
  mv 13 12,
  o2 14 (.faddr 3) [.t 1] 13 true,
  o2 15 (.load none) [.t 14] 13 true,
  o2 16 (.len .str) [.t 15] 13 true,
  o2 17 (.bin .leq .prim) [.t 16, .c (.int .i64 300)] 13 true,
  o1 18 (.pick) [.t 13, .t 17, .c (.bool false)],
  mv 19 18,
  o2 20 (.faddr 4) [.t 1] 19 true,
  o2 21 (.load none) [.t 20] 19 true,
  o2 22 (.len .str) [.t 21] 19 true,
  o2 23 (.bin .leq .prim) [.t 22, .c (.int .i64 3000)] 19 true,
  o1 24 (.pick) [.t 19, .t 23, .c (.bool false)],
  mv 2 24]
abbrev c11 : IC := (IC.seq (IC.reg r11_0) (IC.seq (IC.reg r11_1) IC.ret))
abbrev g11 : FC := ⟨c11, 25, [.t 2]⟩
theorem comp11 : compF Go.Proofs.Try.prog (fun _ => 0) 11 = some g11 := by kernel_rfl

-- outlaw/queue.Put
abbrev r12_0 : List IOp := [o1 2 (.box 29) [.t 0],
  o1 3 (.box 23) [.t 1],
  o1 4 (.alloc 29 [.nils, .int .i64 0, .int .i64 0, .nils, .nils, .bool false]) [],
  o1 5 (.mov) [.c (.int .i64 0)],
  o1 6 (.mov) [.c (.int .i64 0)]]
abbrev r12_1 : List IOp := [o1 8 (.load (some 6)) [.t 2],
  ⟨some 9, .call none, [.f 56, .t 8], none⟩,
  ⟨none, .op (.store 6), [.t 2, .t 9], none⟩]
abbrev r12_2 : List IOp := [o1 11 (.load (some 5)) [.t 3],
  ⟨some 12, .call none, [.f 57, .t 11], none⟩,
  o1 13 (.un .not) [.t 12],
  mv 10 13]
abbrev r12_3 : List IOp := [o1 14 (.load (some 6)) [.t 2],
  ⟨none, .op (.store 6), [.t 4, .t 14], none⟩,
  o1 5 (.mov) [.c (.int .i64 0)],
  o1 6 (.mov) [.c (.int .i64 2)]]
abbrev r12_4 : List IOp := [o1 16 (.load (some 6)) [.t 2],
  ⟨some 17, .call none, [.f 59, .t 16], none⟩,
  o1 18 (.mkfn 60) [.t 3],
  ⟨some 19, .call none, [.f 58, .t 17, .t 18], none⟩,
  mv 15 19]
abbrev r12_5 : List IOp := [o1 20 (.load (some 6)) [.t 2],
  ⟨none, .op (.store 6), [.t 4, .t 20], none⟩,
  o1 5 (.mov) [.c (.int .i64 0)],
  o1 6 (.mov) [.c (.int .i64 8)]]
abbrev r12_6 : List IOp := [o1 22 (.faddr 0) [.t 2],
  o1 23 (.load none) [.t 22],
  o1 24 (.len .slice) [.t 23],
  o1 25 (.bin .geq .prim) [.t 24, .c (.int .i64 32)],
  mv 26 25,
  o2 27 (.faddr 1) [.t 2] 26 false,
  o2 28 (.load none) [.t 27] 26 false,
  o2 29 (.bin .geq .prim) [.t 28, .c (.int .i64 1152921504606846976)] 26 false,
  o1 30 (.pick) [.t 26, .c (.bool true), .t 29],
  mv 21 30]
abbrev r12_7 : List IOp := [o1 31 (.faddr 5) [.t 2],
  ⟨none, .op (.store 1), [.t 31, .c (.bool true)], none⟩]
abbrev r12_8 : List IOp := [o1 32 (.load (some 6)) [.t 2],
  ⟨none, .op (.store 6), [.t 4, .t 32], none⟩,
  o1 5 (.mov) [.c (.int .i64 0)],
  o1 6 (.mov) [.c (.int .i64 13)]]
abbrev r12_9 : List IOp := [o1 33 (.faddr 1) [.t 2],
  o1 34 (.load none) [.t 33],
  mv 7 34]
abbrev r12_10 : List IOp := [o1 35 (.faddr 0) [.t 2],
  o1 36 (.load none) [.t 35],
  mv 37 7,
  o1 38 (.load (some 5)) [.t 3],
  o1 39 (.faddr 2) [.t 2],
  o1 40 (.load none) [.t 39],
  o1 41 (.bst [.int .i64 0, .int .i64 0, .str [], .str [], .str [], .str [], .bool false, .bool false, .int .i64 0, .int .i64 0] [(0, 1), (1, 5), (6, 1), (7, 1), (8, 1), (9, 1)] [0, 1, 5]) [.t 37, .t 38, .t 40],
  o1 42 (.bsl 42 10 false) [.t 41],
  o1 43 (.app 42 10 104) [.t 36, .t 42],
  o1 44 (.faddr 0) [.t 2],
  ⟨none, .op (.store 1), [.t 44, .t 43], none⟩]
abbrev r12_11 : List IOp := [o1 45 (.faddr 1) [.t 2],
  o1 46 (.load none) [.t 45],
  o1 47 (.bin .add .prim) [.t 46, .c (.int .i64 1)],
  o1 48 (.faddr 1) [.t 2],
  ⟨none, .op (.store 1), [.t 48, .t 47], none⟩]
abbrev r12_12 : List IOp := [o1 49 (.load (some 6)) [.t 2],
  mv 50 7,
  ⟨none, .op (.store 6), [.t 4, .t 49], none⟩,
  mv 5 50,
  o1 6 (.mov) [.c (.int .i64 0)]]
abbrev c12 : IC := (IC.seq (IC.reg r12_0) (IC.seq (IC.reg r12_1) (IC.seq (IC.block 0 (IC.seq (IC.reg r12_2) (IC.cond (.t 10) (IC.seq (IC.reg r12_3) IC.ret) (IC.seq (IC.reg r12_4) (IC.cond (.t 15) (IC.seq (IC.reg r12_5) IC.ret) (IC.seq (IC.reg r12_6) (IC.cond (.t 21) (IC.seq (IC.reg r12_7) (IC.seq (IC.reg r12_8) IC.ret)) IC.skip))))))) (IC.seq (IC.reg r12_9) (IC.seq (IC.reg r12_10) (IC.seq (IC.reg r12_11) (IC.seq (IC.reg r12_12) IC.ret)))))))
abbrev g12 : FC := ⟨c12, 51, [.cell 4 (some 6), .t 5, .t 6]⟩
theorem comp12 : compF Go.Proofs.Try.prog (fun _ => 0) 12 = some g12 := by kernel_rfl

-- outlaw/queue.Empty
abbrev r13_0 : List IOp := [o1 0 (.alloc 29 [.nils, .int .i64 0, .int .i64 0, .nils, .nils, .bool false]) []]
abbrev r13_1 : List IOp := [o1 1 (.bst [.nils, .int .i64 0, .int .i64 0, .nils, .nils, .bool false] [(0, 1), (1, 1), (2, 1), (3, 1), (4, 1), (5, 1)] [1]) [.c (.int .i64 1)],
  ⟨none, .op (.store 6), [.t 0, .t 1], none⟩]
abbrev c13 : IC := (IC.seq (IC.reg r13_0) (IC.seq (IC.reg r13_1) IC.ret))
abbrev g13 : FC := ⟨c13, 2, [.cell 0 (some 6)]⟩
theorem comp13 : compF Go.Proofs.Try.prog (fun _ => 0) 13 = some g13 := by kernel_rfl

-- outlaw/queue.Send
abbrev r14_0 : List IOp := [o1 2 (.box 29) [.t 0],
  o1 4 (.alloc 29 [.nils, .int .i64 0, .int .i64 0, .nils, .nils, .bool false]) [],
  o1 5 (.mov) [.c (.int .i64 0)]]
abbrev r14_1 : List IOp := [o1 7 (.load (some 6)) [.t 2],
  ⟨some 8, .call none, [.f 56, .t 7], none⟩,
  ⟨none, .op (.store 6), [.t 2, .t 8], none⟩]
abbrev r14_2 : List IOp := [o1 9 (.load (some 6)) [.t 2],
  mv 10 1,
  ⟨some 11, .call none, [.f 61, .t 9, .t 10], none⟩,
  mv 6 11]
abbrev r14_3 : List IOp := [mv 13 6,
  o1 14 (.bin .lss .prim) [.t 13, .c (.int .i64 0)],
  mv 12 14]
abbrev r14_4 : List IOp := [o1 15 (.load (some 6)) [.t 2],
  ⟨none, .op (.store 6), [.t 4, .t 15], none⟩,
  o1 5 (.mov) [.c (.int .i64 12)]]
abbrev r14_5 : List IOp := [o1 17 (.faddr 0) [.t 2],
  o1 18 (.load none) [.t 17],
  mv 19 6,
  o1 20 (.iaddr 10) [.t 18, .t 19],
  o1 21 (.faddr 6) [.t 20],
  o1 22 (.load none) [.t 21],
  mv 16 22]
abbrev r14_6 : List IOp := [o1 23 (.faddr 0) [.t 2],
  o1 24 (.load none) [.t 23],
  mv 25 6,
  o1 26 (.iaddr 10) [.t 24, .t 25],
  o1 27 (.load (some 10)) [.t 26],
  ⟨some 28, .call none, [.f 62, .t 27], none⟩,
  mv 29 28,
  o2 30 (.faddr 0) [.t 2] 29 true,
  o2 31 (.load none) [.t 30] 29 true,
  o2 32 (.mov) [.t 6] 29 true,
  o2 33 (.iaddr 10) [.t 31, .t 32] 29 true,
  o2 34 (.faddr 9) [.t 33] 29 true,
  o2 35 (.load none) [.t 34] 29 true,
  o2 36 (.faddr 2) [.t 2] 29 true,
  o2 37 (.load none) [.t 36] 29 true,
  o2 38 (.bin .gtr .prim) [.t 35, .t 37] 29 true,
  o1 39 (.pick) [.t 29, .t 38, .c (.bool false)],
  mv 16 39]
abbrev r14_7 : List IOp := [o1 40 (.load (some 6)) [.t 2],
  ⟨some 41, .call none, [.f 63, .t 40], none⟩,
  o1 42 (.bin .geq .prim) [.t 41, .c (.int .i64 4)],
  mv 16 42]
abbrev r14_8 : List IOp := [o1 43 (.load (some 6)) [.t 2],
  ⟨none, .op (.store 6), [.t 4, .t 43], none⟩,
  o1 5 (.mov) [.c (.int .i64 14)]]
abbrev r14_9 : List IOp := [o1 44 (.faddr 0) [.t 2],
  o1 45 (.load none) [.t 44],
  mv 46 6,
  o1 47 (.iaddr 10) [.t 45, .t 46],
  o1 48 (.faddr 6) [.t 47],
  ⟨none, .op (.store 1), [.t 48, .c (.bool true)], none⟩]
abbrev r14_10 : List IOp := [o1 49 (.load (some 6)) [.t 2],
  ⟨none, .op (.store 6), [.t 4, .t 49], none⟩,
  o1 5 (.mov) [.c (.int .i64 0)]]
abbrev c14 : IC := (IC.seq (IC.reg r14_0) (IC.seq (IC.reg r14_1) (IC.seq (IC.reg r14_2) (IC.seq (IC.block 0 (IC.seq (IC.reg r14_3) (IC.cond (.t 12) (IC.seq (IC.reg r14_4) IC.ret) (IC.seq (IC.seq (IC.reg r14_5) (IC.cond (.t 16) IC.skip (IC.seq (IC.regD .wild r14_6 (.take 0 (.take 1 (.take 2 (.take 3 (.take 4 (.take 5 (.take 6 (.take 7 (.take 8 (.take 9 (.take 10 (.take 11 (.take 12 (.take 13 (.take 14 (.take 15 (.take 16 (.take 17 (.done)))))))))))))))))))) (IC.cond (.t 16) IC.skip (IC.reg r14_7))))) (IC.cond (.t 16) (IC.seq (IC.reg r14_8) IC.ret) IC.skip))))) (IC.seq (IC.reg r14_9) (IC.seq (IC.reg r14_10) IC.ret))))))
abbrev g14 : FC := ⟨c14, 50, [.cell 4 (some 6), .t 5]⟩
theorem comp14 : compF Go.Proofs.Try.prog (hintL [(6, 6)]) 14 = some g14 := by kernel_rfl

-- outlaw/queue.Reply
abbrev r15_0 : List IOp := [o1 3 (.box 29) [.t 0],
  o1 6 (.alloc 29 [.nils, .int .i64 0, .int .i64 0, .nils, .nils, .bool false]) [],
  o1 7 (.mov) [.c (.int .i64 0)],
  o1 8 (.mov) [.c (.int .i64 0)]]
abbrev r15_1 : List IOp := [o1 12 (.load (some 6)) [.t 3],
  ⟨some 13, .call none, [.f 56, .t 12], none⟩,
  ⟨none, .op (.store 6), [.t 3, .t 13], none⟩]
abbrev r15_2 : List IOp := [o1 14 (.load (some 6)) [.t 3],
  mv 15 1,
  ⟨some 16, .call none, [.f 61, .t 14, .t 15], none⟩,
  mv 9 16]
abbrev r15_3 : List IOp := [mv 17 9,
  o1 18 (.bin .lss .prim) [.t 17, .c (.int .i64 0)]]
abbrev r15_4 : List IOp := [o1 19 (.load (some 6)) [.t 3],
  ⟨none, .op (.store 6), [.t 6, .t 19], none⟩,
  o1 7 (.mov) [.c (.int .i64 0)],
  o1 8 (.mov) [.c (.int .i64 12)]]
abbrev r15_5 : List IOp := [o1 20 (.faddr 0) [.t 3],
  o1 21 (.load none) [.t 20],
  mv 22 9,
  o1 23 (.iaddr 10) [.t 21, .t 22],
  o1 24 (.load (some 10)) [.t 23],
  o1 10 (.alloc 42 [.int .i64 0, .int .i64 0, .str [], .str [], .str [], .str [], .bool false, .bool false, .int .i64 0, .int .i64 0]) [],
  ⟨none, .op (.store 10), [.t 10, .t 24], none⟩]
abbrev r15_6 : List IOp := [o1 11 (.mov) [.c (.int .i64 2)]]
abbrev r15_7 : List IOp := [o1 26 (.load (some 10)) [.t 10],
  ⟨some 27, .call none, [.f 62, .t 26], none⟩,
  mv 25 27]
abbrev r15_8 : List IOp := [o1 28 (.load (some 6)) [.t 3],
  ⟨none, .op (.store 6), [.t 6, .t 28], none⟩,
  o1 7 (.mov) [.c (.int .i64 0)],
  o1 8 (.mov) [.c (.int .i64 14)]]
abbrev r15_9 : List IOp := [mv 30 2,
  mv 29 30]
abbrev r15_10 : List IOp := [o1 11 (.mov) [.c (.int .i64 1)]]
abbrev r15_11 : List IOp := [o1 32 (.faddr 8) [.t 10],
  o1 33 (.load none) [.t 32],
  o1 34 (.bin .add .prim) [.t 33, .c (.int .i64 1)],
  o1 35 (.bin .lss .prim) [.t 34, .c (.int .i64 5)],
  mv 31 35]
abbrev r15_12 : List IOp := [o1 37 (.faddr 3) [.t 3],
  o1 38 (.load none) [.t 37],
  o1 39 (.len .slice) [.t 38],
  o1 40 (.bin .lss .prim) [.t 39, .c (.int .i64 64)],
  mv 36 40]
abbrev r15_13 : List IOp := [o1 11 (.mov) [.c (.int .i64 3)]]
abbrev r15_14 : List IOp := [mv 41 11]
abbrev r15_15 : List IOp := [o1 64 (.bin .eql .prim) [.t 41, .c (.int .i64 1)],
  mv 63 64]
abbrev r15_16 : List IOp := [o1 65 (.faddr 4) [.t 3],
  o1 66 (.load none) [.t 65],
  o1 67 (.faddr 1) [.t 10],
  o1 68 (.load (some 5)) [.t 67],
  o1 69 (.bsl 23 5 false) [.t 68],
  o1 70 (.app 23 5 72) [.t 66, .t 69],
  o1 71 (.faddr 4) [.t 3],
  ⟨none, .op (.store 1), [.t 71, .t 70], none⟩]
abbrev r15_17 : List IOp := [o1 72 (.faddr 4) [.t 3],
  o1 73 (.load none) [.t 72],
  o1 74 (.faddr 4) [.t 3],
  o1 75 (.load none) [.t 74],
  o1 76 (.len .slice) [.t 75],
  o1 77 (.bin .sub .prim) [.t 76, .c (.int .i64 64)],
  o1 78 (.max) [.c (.int .i64 0), .t 77],
  ⟨some 79, .call none, [.f 64, .t 73, .c (.int .i64 0), .t 78], none⟩,
  o1 80 (.faddr 4) [.t 3],
  ⟨none, .op (.store 1), [.t 80, .t 79], none⟩]
abbrev r15_18 : List IOp := [o1 82 (.bin .eql .prim) [.t 41, .c (.int .i64 3)],
  mv 81 82]
abbrev r15_19 : List IOp := [o1 83 (.faddr 3) [.t 3],
  o1 84 (.load none) [.t 83],
  o1 85 (.faddr 1) [.t 10],
  o1 86 (.load (some 5)) [.t 85],
  o1 87 (.bsl 23 5 false) [.t 86],
  o1 88 (.app 23 5 72) [.t 84, .t 87],
  o1 89 (.faddr 3) [.t 3],
  ⟨none, .op (.store 1), [.t 89, .t 88], none⟩]
abbrev r15_20 : List IOp := [o1 42 (.faddr 8) [.t 10],
  o1 43 (.load none) [.t 42],
  o1 44 (.bin .add .prim) [.t 43, .c (.int .i64 1)],
  o1 45 (.min) [.t 44, .c (.int .i64 4)],
  o1 46 (.faddr 6) [.t 10],
  ⟨none, .op (.store 1), [.t 46, .c (.bool false)], none⟩,
  o1 47 (.faddr 7) [.t 10],
  ⟨none, .op (.store 1), [.t 47, .c (.bool false)], none⟩,
  o1 48 (.faddr 8) [.t 10],
  ⟨none, .op (.store 1), [.t 48, .t 45], none⟩]
abbrev r15_21 : List IOp := [o1 49 (.faddr 2) [.t 3],
  o1 50 (.load none) [.t 49],
  o1 51 (.faddr 8) [.t 10],
  o1 52 (.load none) [.t 51],
  ⟨some 53, .call none, [.f 30, .t 52], none⟩,
  o1 54 (.bin .add .prim) [.t 50, .t 53],
  o1 55 (.faddr 9) [.t 10],
  ⟨none, .op (.store 1), [.t 55, .t 54], none⟩]
abbrev r15_22 : List IOp := [o1 56 (.faddr 0) [.t 3],
  o1 57 (.load none) [.t 56],
  mv 58 9,
  o1 59 (.load (some 10)) [.t 10],
  o1 60 (.iaddr 10) [.t 57, .t 58],
  ⟨none, .op (.store 10), [.t 60, .t 59], none⟩]
abbrev r15_23 : List IOp := [o1 61 (.load (some 6)) [.t 3],
  mv 62 11,
  ⟨none, .op (.store 6), [.t 6, .t 61], none⟩,
  mv 7 62,
  o1 8 (.mov) [.c (.int .i64 0)]]
abbrev r15_24 : List IOp := [o1 90 (.faddr 0) [.t 3],
  o1 91 (.load none) [.t 90],
  mv 92 9,
  mv 93 9,
  o1 94 (.bin .add .prim) [.t 93, .c (.int .i64 1)],
  ⟨some 95, .call none, [.f 65, .t 91, .t 92, .t 94], none⟩,
  o1 96 (.faddr 0) [.t 3],
  ⟨none, .op (.store 1), [.t 96, .t 95], none⟩]
abbrev r15_25 : List IOp := [o1 97 (.load (some 6)) [.t 3],
  mv 98 11,
  ⟨none, .op (.store 6), [.t 6, .t 97], none⟩,
  mv 7 98,
  o1 8 (.mov) [.c (.int .i64 0)]]
abbrev c15 : IC := (IC.seq (IC.reg r15_0) (IC.seq (IC.reg r15_1) (IC.seq (IC.reg r15_2) (IC.seq (IC.seq (IC.reg r15_3) (IC.cond (.t 18) (IC.seq (IC.reg r15_4) IC.ret) IC.skip)) (IC.seq (IC.reg r15_5) (IC.seq (IC.reg r15_6) (IC.seq IC.skip (IC.seq (IC.block 0 (IC.seq (IC.reg r15_7) (IC.cond (.t 25) (IC.seq (IC.reg r15_8) IC.ret) (IC.seq (IC.reg r15_9) (IC.cond (.t 29) (IC.reg r15_10) (IC.seq (IC.reg r15_11) (IC.cond (.t 31) (IC.exit 0) (IC.seq (IC.reg r15_12) (IC.cond (.t 36) (IC.reg r15_13) IC.skip))))))))) (IC.seq (IC.seq (IC.reg r15_14) (IC.block 1 (IC.seq (IC.reg r15_15) (IC.cond (.t 63) (IC.seq (IC.reg r15_16) (IC.reg r15_17)) (IC.seq (IC.reg r15_18) (IC.cond (.t 81) (IC.reg r15_19) (IC.seq (IC.reg r15_20) (IC.seq (IC.regD .alloc r15_21 (.take 0 (.take 1 (.take 2 (.take 3 (.take 4 (.take 5 (.take 6 (.take 7 (.done)))))))))) (IC.seq (IC.reg r15_22) (IC.seq (IC.reg r15_23) IC.ret)))))))))) (IC.seq (IC.reg r15_24) (IC.seq (IC.reg r15_25) IC.ret)))))))))))
abbrev g15 : FC := ⟨c15, 99, [.cell 6 (some 6), .t 7, .t 8]⟩
theorem comp15 : compF Go.Proofs.Try.prog (hintL [(16, 7)]) 15 = some g15 := by kernel_rfl

-- outlaw/queue.Clear
abbrev r16_0 : List IOp := [o1 1 (.box 29) [.t 0],
  o1 2 (.alloc 29 [.nils, .int .i64 0, .int .i64 0, .nils, .nils, .bool false]) []]
abbrev r16_1 : List IOp := [o1 3 (.load (some 6)) [.t 1],
  ⟨some 4, .call none, [.f 56, .t 3], none⟩,
  ⟨none, .op (.store 6), [.t 1, .t 4], none⟩]
abbrev r16_2 : List IOp := [o1 5 (.faddr 3) [.t 1],
  ⟨none, .op (.store 1), [.t 5, .c (.nils)], none⟩,
  o1 6 (.faddr 4) [.t 1],
  ⟨none, .op (.store 1), [.t 6, .c (.nils)], none⟩]
abbrev r16_3 : List IOp := [o1 7 (.load (some 6)) [.t 1],
  ⟨none, .op (.store 6), [.t 2, .t 7], none⟩]
abbrev c16 : IC := (IC.seq (IC.reg r16_0) (IC.seq (IC.reg r16_1) (IC.seq (IC.reg r16_2) (IC.seq (IC.reg r16_3) IC.ret))))
abbrev g16 : FC := ⟨c16, 8, [.cell 2 (some 6)]⟩
theorem comp16 : compF Go.Proofs.Try.prog (fun _ => 0) 16 = some g16 := by kernel_rfl

-- outlaw/outlawkit.Same[outlaw/api.Action]
abbrev r17_0 : List IOp := [o1 4 (.mov) [.c (.bool false)]]
abbrev r17_1 : List IOp := [mv 6 0,
  o1 7 (.len .slice) [.t 6],
  mv 8 1,
  o1 9 (.len .slice) [.t 8],
  o1 10 (.bin .neq .prim) [.t 7, .t 9]]
abbrev r17_2 : List IOp := [o1 4 (.mov) [.c (.bool false)]]
abbrev r17_3 : List IOp := [o1 5 (.mov) [.c (.int .i64 0)]]
abbrev r17_4 : List IOp := [mv 11 5,
  mv 12 0,
  o1 13 (.len .slice) [.t 12],
  o1 14 (.bin .lss .prim) [.t 11, .t 13]]
abbrev r17_5 : List IOp := [mv 17 0,
  mv 18 5,
  o1 19 (.iaddr 5) [.t 17, .t 18],
  o1 20 (.load (some 5)) [.t 19],
  mv 21 1,
  mv 22 5,
  o1 23 (.iaddr 5) [.t 21, .t 22],
  o1 24 (.load (some 5)) [.t 23],
  o1 25 (.bin .neq (.st [.int, .str, .str, .str, .str])) [.t 20, .t 24]]
abbrev r17_6 : List IOp := [o1 4 (.mov) [.c (.bool false)]]
abbrev r17_7 : List IOp := [mv 15 5,
  o1 16 (.bin .add .prim) [.t 15, .c (.int .i64 1)],
  mv 5 16]
abbrev b17_0 : IC := (IC.seq (IC.seq (IC.reg r17_4) (IC.cond (.t 14) IC.skip (IC.exit 0))) (IC.seq (IC.block 1 (IC.seq (IC.regD .wild r17_5 (.take 0 (.take 1 (.take 2 (.take 3 (.take 4 (.take 5 (.take 6 (.take 7 (.take 8 (.done))))))))))) (IC.cond (.t 25) (IC.seq (IC.reg r17_6) IC.ret) IC.skip))) (IC.reg r17_7)))
abbrev r17_8 : List IOp := [o1 4 (.mov) [.c (.bool true)]]
abbrev c17 : IC := (IC.seq (IC.reg r17_0) (IC.seq (IC.seq (IC.reg r17_1) (IC.cond (.t 10) (IC.seq (IC.reg r17_2) IC.ret) IC.skip)) (IC.seq (IC.seq (IC.reg r17_3) (IC.block 0 (IC.loop b17_0))) (IC.seq (IC.reg r17_8) IC.ret))))
abbrev g17 : FC := ⟨c17, 26, [.t 4]⟩
theorem comp17 : compF Go.Proofs.Try.prog (hintL [(6, 6)]) 17 = some g17 := by kernel_rfl

-- outlaw/outlawkit.Pick
abbrev r18_0 : List IOp := [o1 4 (.mov) [.c (.int .i64 0)]]
abbrev r18_1 : List IOp := [mv 6 1,
  o1 7 (.bin .lss .prim) [.t 6, .c (.int .i64 1)]]
abbrev r18_2 : List IOp := [o1 4 (.mov) [.c (.int .i64 0)]]
abbrev r18_3 : List IOp := [mv 8 0,
  mv 9 1,
  o1 10 (.bin .rem .prim) [.t 8, .t 9],
  mv 5 10]
abbrev r18_4 : List IOp := [mv 11 5,
  o1 12 (.bin .lss .prim) [.t 11, .c (.int .i64 0)]]
abbrev r18_5 : List IOp := [mv 13 5,
  mv 14 1,
  o1 15 (.bin .add .prim) [.t 13, .t 14],
  mv 5 15]
abbrev r18_6 : List IOp := [mv 16 5,
  mv 4 16]
abbrev c18 : IC := (IC.seq (IC.reg r18_0) (IC.seq (IC.seq (IC.reg r18_1) (IC.cond (.t 7) (IC.seq (IC.reg r18_2) IC.ret) IC.skip)) (IC.seq (IC.reg r18_3) (IC.seq (IC.seq (IC.reg r18_4) (IC.cond (.t 12) (IC.reg r18_5) IC.skip)) (IC.seq (IC.reg r18_6) IC.ret)))))
abbrev g18 : FC := ⟨c18, 17, [.t 4]⟩
theorem comp18 : compF Go.Proofs.Try.prog (fun _ => 0) 18 = some g18 := by kernel_rfl

-- outlaw/queue.Pass
abbrev r19_0 : List IOp := [o1 2 (.box 29) [.t 0],
  o1 4 (.alloc 29 [.nils, .int .i64 0, .int .i64 0, .nils, .nils, .bool false]) [],
  o1 5 (.mov) [.c (.int .i64 0)]]
abbrev r19_1 : List IOp := [o1 6 (.load (some 6)) [.t 2],
  ⟨some 7, .call none, [.f 56, .t 6], none⟩,
  ⟨none, .op (.store 6), [.t 2, .t 7], none⟩]
abbrev r19_2 : List IOp := [mv 9 1,
  o1 10 (.bin .lss .prim) [.t 9, .c (.int .i64 0)],
  mv 11 10,
  o2 12 (.mov) [.t 1] 11 false,
  o2 13 (.bin .gtr .prim) [.t 12, .c (.int .i64 1000000)] 11 false,
  o1 14 (.pick) [.t 11, .c (.bool true), .t 13],
  mv 8 14]
abbrev r19_3 : List IOp := [o1 15 (.load (some 6)) [.t 2],
  ⟨none, .op (.store 6), [.t 4, .t 15], none⟩,
  o1 5 (.mov) [.c (.int .i64 2)]]
abbrev r19_4 : List IOp := [o1 17 (.faddr 2) [.t 2],
  o1 18 (.load none) [.t 17],
  mv 19 1,
  o1 20 (.bin .sub .prim) [.c (.int .i64 1152921504606846976), .t 19],
  o1 21 (.bin .gtr .prim) [.t 18, .t 20],
  mv 16 21]
abbrev r19_5 : List IOp := [o1 22 (.load (some 6)) [.t 2],
  ⟨none, .op (.store 6), [.t 4, .t 22], none⟩,
  o1 5 (.mov) [.c (.int .i64 13)]]
abbrev r19_6 : List IOp := [o1 23 (.faddr 2) [.t 2],
  o1 24 (.load none) [.t 23],
  mv 25 1,
  o1 26 (.bin .add .prim) [.t 24, .t 25],
  o1 27 (.faddr 2) [.t 2],
  ⟨none, .op (.store 1), [.t 27, .t 26], none⟩]
abbrev r19_7 : List IOp := [o1 28 (.load (some 6)) [.t 2],
  ⟨none, .op (.store 6), [.t 4, .t 28], none⟩,
  o1 5 (.mov) [.c (.int .i64 0)]]
abbrev c19 : IC := (IC.seq (IC.reg r19_0) (IC.seq (IC.reg r19_1) (IC.seq (IC.block 0 (IC.seq (IC.reg r19_2) (IC.cond (.t 8) (IC.seq (IC.reg r19_3) IC.ret) (IC.seq (IC.reg r19_4) (IC.cond (.t 16) (IC.seq (IC.reg r19_5) IC.ret) IC.skip))))) (IC.seq (IC.reg r19_6) (IC.seq (IC.reg r19_7) IC.ret)))))
abbrev g19 : FC := ⟨c19, 29, [.cell 4 (some 6), .t 5]⟩
theorem comp19 : compF Go.Proofs.Try.prog (fun _ => 0) 19 = some g19 := by kernel_rfl

-- outlaw/queue.Next
abbrev r20_0 : List IOp := [o1 2 (.box 29) [.t 0],
  o1 4 (.alloc 42 [.int .i64 0, .int .i64 0, .str [], .str [], .str [], .str [], .bool false, .bool false, .int .i64 0, .int .i64 0]) [],
  o1 5 (.mov) [.c (.bool false)]]
abbrev r20_1 : List IOp := [o1 10 (.load (some 6)) [.t 2],
  ⟨some 11, .call none, [.f 63, .t 10], none⟩,
  o1 12 (.bin .geq .prim) [.t 11, .c (.int .i64 4)]]
abbrev r20_2 : List IOp := [o1 13 (.bst [.int .i64 0, .int .i64 0, .str [], .str [], .str [], .str [], .bool false, .bool false, .int .i64 0, .int .i64 0] [(0, 1), (1, 5), (6, 1), (7, 1), (8, 1), (9, 1)] []) [],
  ⟨none, .op (.store 10), [.t 4, .t 13], none⟩,
  o1 5 (.mov) [.c (.bool false)]]
abbrev r20_3 : List IOp := [o1 14 (.mkfn 67) [.t 2],
  o1 15 (.bst [.nilf, .nilf] [(0, 1), (1, 1)] [0, 1]) [.f 66, .t 14],
  o1 16 (.mov) [.c (.int .i64 0)]]
abbrev r20_4 : List IOp := [o1 17 (.bin .lss .prim) [.t 16, .c (.int .i64 2)]]
abbrev r20_5 : List IOp := [o1 18 (.idxa 2 1 none) [.t 15, .t 16],
  mv 7 18]
abbrev r20_6 : List IOp := [o1 19 (.faddr 0) [.t 2],
  o1 20 (.load none) [.t 19],
  o1 21 (.len .slice) [.t 20],
  o1 22 (.mov) [.c (.int .i64 0)]]
abbrev r20_7 : List IOp := [o1 23 (.bin .lss .prim) [.t 22, .t 21]]
abbrev r20_8 : List IOp := [o1 24 (.iaddr 10) [.t 20, .t 22],
  o1 25 (.load (some 10)) [.t 24],
  o1 9 (.alloc 42 [.int .i64 0, .int .i64 0, .str [], .str [], .str [], .str [], .bool false, .bool false, .int .i64 0, .int .i64 0]) [],
  ⟨none, .op (.store 10), [.t 9, .t 25], none⟩]
abbrev r20_9 : List IOp := [mv 26 7,
  o1 27 (.load (some 10)) [.t 9],
  ⟨some 28, .call none, [.t 26, .t 27], none⟩,
  mv 29 28,
  o2 30 (.mov) [.t 1] 29 true,
  o2 31 (.faddr 0) [.t 9] 29 true,
  o2 32 (.load none) [.t 31] 29 true,
  ⟨some 33, .call none, [.f 68, .t 30, .t 32], some (29, true)⟩,
  o2 34 (.un .not) [.t 33] 29 true,
  o1 35 (.pick) [.t 29, .t 34, .c (.bool false)]]
abbrev r20_10 : List IOp := [o1 36 (.load (some 10)) [.t 9],
  ⟨none, .op (.store 10), [.t 4, .t 36], none⟩,
  o1 5 (.mov) [.c (.bool true)]]
abbrev r20_11 : List IOp := [o1 37 (.bin .add .prim) [.t 22, .c (.int .i64 1)],
  mv 22 37]
abbrev b20_0 : IC := (IC.seq (IC.reg r20_7) (IC.seq (IC.cond (.t 23) IC.skip (IC.exit 2)) (IC.seq (IC.block 3 (IC.seq (IC.reg r20_8) (IC.seq (IC.reg r20_9) (IC.cond (.t 35) (IC.seq (IC.reg r20_10) IC.ret) IC.skip)))) (IC.reg r20_11))))
abbrev r20_12 : List IOp := [o1 38 (.bin .add .prim) [.t 16, .c (.int .i64 1)],
  mv 16 38]
abbrev b20_1 : IC := (IC.seq (IC.reg r20_4) (IC.seq (IC.cond (.t 17) IC.skip (IC.exit 0)) (IC.seq (IC.block 1 (IC.seq (IC.reg r20_5) (IC.seq (IC.reg r20_6) (IC.block 2 (IC.loop b20_0))))) (IC.reg r20_12))))
abbrev r20_13 : List IOp := [o1 39 (.bst [.int .i64 0, .int .i64 0, .str [], .str [], .str [], .str [], .bool false, .bool false, .int .i64 0, .int .i64 0] [(0, 1), (1, 5), (6, 1), (7, 1), (8, 1), (9, 1)] []) [],
  ⟨none, .op (.store 10), [.t 4, .t 39], none⟩,
  o1 5 (.mov) [.c (.bool false)]]
abbrev c20 : IC := (IC.seq (IC.reg r20_0) (IC.seq (IC.seq (IC.reg r20_1) (IC.cond (.t 12) (IC.seq (IC.reg r20_2) IC.ret) IC.skip)) (IC.seq (IC.seq (IC.reg r20_3) (IC.block 0 (IC.loop b20_1))) (IC.seq (IC.reg r20_13) IC.ret))))
abbrev g20 : FC := ⟨c20, 40, [.cell 4 (some 10), .t 5]⟩
theorem comp20 : compF Go.Proofs.Try.prog (fun _ => 0) 20 = some g20 := by kernel_rfl

-- outlaw/outlawlaw22.light
abbrev r21_0 : List IOp := [o1 2 (.mov) [.c (.bool false)]]
abbrev r21_1 : List IOp := [o1 3 (.mov) [.c (.int .i64 0)]]
abbrev r21_2 : List IOp := [mv 5 3,
  mv 6 0,
  o1 7 (.len .slice) [.t 6],
  o1 8 (.bin .lss .prim) [.t 5, .t 7]]
abbrev r21_3 : List IOp := [mv 11 0,
  mv 12 3,
  o1 13 (.iaddr 10) [.t 11, .t 12],
  o1 14 (.faddr 1) [.t 13],
  o1 15 (.load (some 5)) [.t 14],
  ⟨some 16, .call none, [.f 11, .t 15], none⟩,
  o1 17 (.un .not) [.t 16],
  mv 18 17,
  o2 19 (.mov) [.t 0] 18 false,
  o2 20 (.mov) [.t 3] 18 false,
  o2 21 (.iaddr 10) [.t 19, .t 20] 18 false,
  o2 22 (.faddr 9) [.t 21] 18 false,
  o2 23 (.load none) [.t 22] 18 false,
  o2 24 (.len .slice) [.t 23] 18 false,
  o2 25 (.bin .gtr .prim) [.t 24, .c (.int .i64 40)] 18 false,
  o1 26 (.pick) [.t 18, .c (.bool true), .t 25]]
abbrev r21_4 : List IOp := [o1 2 (.mov) [.c (.bool false)]]
abbrev r21_5 : List IOp := [o1 4 (.mov) [.c (.int .i64 0)]]
abbrev r21_6 : List IOp := [mv 27 4,
  mv 28 0,
  mv 29 3,
  o1 30 (.iaddr 10) [.t 28, .t 29],
  o1 31 (.faddr 9) [.t 30],
  o1 32 (.load none) [.t 31],
  o1 33 (.len .slice) [.t 32],
  o1 34 (.bin .lss .prim) [.t 27, .t 33]]
abbrev r21_7 : List IOp := [mv 37 0,
  mv 38 3,
  o1 39 (.iaddr 10) [.t 37, .t 38],
  o1 40 (.faddr 9) [.t 39],
  o1 41 (.load none) [.t 40],
  mv 42 4,
  o1 43 (.iaddr 5) [.t 41, .t 42],
  o1 44 (.load (some 5)) [.t 43],
  ⟨some 45, .call none, [.f 11, .t 44], none⟩,
  o1 46 (.un .not) [.t 45]]
abbrev r21_8 : List IOp := [o1 2 (.mov) [.c (.bool false)]]
abbrev r21_9 : List IOp := [mv 35 4,
  o1 36 (.bin .add .prim) [.t 35, .c (.int .i64 1)],
  mv 4 36]
abbrev b21_0 : IC := (IC.seq (IC.seq (IC.reg r21_6) (IC.cond (.t 34) IC.skip (IC.exit 2))) (IC.seq (IC.block 3 (IC.seq (IC.reg r21_7) (IC.cond (.t 46) (IC.seq (IC.reg r21_8) IC.ret) IC.skip))) (IC.reg r21_9)))
abbrev r21_10 : List IOp := [mv 9 3,
  o1 10 (.bin .add .prim) [.t 9, .c (.int .i64 1)],
  mv 3 10]
abbrev b21_1 : IC := (IC.seq (IC.seq (IC.reg r21_2) (IC.cond (.t 8) IC.skip (IC.exit 0))) (IC.seq (IC.block 1 (IC.seq (IC.seq (IC.reg r21_3) (IC.cond (.t 26) (IC.seq (IC.reg r21_4) IC.ret) IC.skip)) (IC.seq (IC.reg r21_5) (IC.block 2 (IC.loop b21_0))))) (IC.reg r21_10)))
abbrev r21_11 : List IOp := [mv 47 0,
  o1 48 (.len .slice) [.t 47],
  o1 49 (.bin .leq .prim) [.t 48, .c (.int .i64 60)],
  mv 2 49]
abbrev c21 : IC := (IC.seq (IC.reg r21_0) (IC.seq (IC.seq (IC.reg r21_1) (IC.block 0 (IC.loop b21_1))) (IC.seq (IC.reg r21_11) IC.ret)))
abbrev g21 : FC := ⟨c21, 50, [.t 2]⟩
theorem comp21 : compF Go.Proofs.Try.prog (fun _ => 0) 21 = some g21 := by kernel_rfl

-- outlaw/outlawlaw22.do
abbrev r22_0 : List IOp := [o1 2 (.box 29) [.t 0],
  o1 3 (.box 50) [.t 1],
  o1 4 (.alloc 29 [.nils, .int .i64 0, .int .i64 0, .nils, .nils, .bool false]) [],
  o1 5 (.mov) [.c (.int .i64 0)],
  o1 6 (.mov) [.c (.int .i64 0)],
  o1 7 (.mov) [.c (.int .i64 0)],
  o1 8 (.mov) [.c (.nils)]]
abbrev r22_1 : List IOp := [o1 25 (.faddr 0) [.t 3],
  o1 26 (.load none) [.t 25],
  ⟨some 27, .call none, [.f 18, .t 26, .c (.int .i64 9)], none⟩]
abbrev r22_2 : List IOp := [o1 29 (.bin .eql .prim) [.t 27, .c (.int .i64 0)],
  mv 28 29]
abbrev r22_3 : List IOp := [o1 30 (.bin .eql .prim) [.t 27, .c (.int .i64 1)],
  mv 28 30]
abbrev r22_4 : List IOp := [o1 32 (.load (some 6)) [.t 2],
  o1 33 (.faddr 1) [.t 3],
  o1 34 (.load (some 5)) [.t 33],
  ⟨some 35, .call none, [.f 12, .t 32, .t 34], none⟩,
  mv 31 35,
  o1 36 (.extract 0) [.t 31],
  o1 37 (.extract 1) [.t 31],
  o1 38 (.extract 2) [.t 31],
  o1 9 (.alloc 29 [.nils, .int .i64 0, .int .i64 0, .nils, .nils, .bool false]) [],
  ⟨none, .op (.store 6), [.t 9, .t 36], none⟩,
  mv 10 37,
  mv 11 38]
abbrev r22_5 : List IOp := [o1 39 (.load (some 6)) [.t 9],
  mv 40 11,
  mv 41 10,
  ⟨none, .op (.store 6), [.t 4, .t 39], none⟩,
  mv 5 40,
  o1 6 (.mov) [.c (.int .i64 0)],
  mv 7 41,
  o1 8 (.mov) [.c (.nils)]]
abbrev r22_6 : List IOp := [o1 43 (.bin .eql .prim) [.t 27, .c (.int .i64 2)],
  mv 42 43]
abbrev r22_7 : List IOp := [o1 45 (.load (some 6)) [.t 2],
  ⟨some 46, .call none, [.f 20, .t 45, .c (.nils)], none⟩,
  mv 44 46,
  o1 47 (.extract 0) [.t 44],
  o1 48 (.extract 1) [.t 44],
  o1 12 (.alloc 42 [.int .i64 0, .int .i64 0, .str [], .str [], .str [], .str [], .bool false, .bool false, .int .i64 0, .int .i64 0]) [],
  ⟨none, .op (.store 10), [.t 12, .t 47], none⟩,
  mv 13 48]
abbrev r22_8 : List IOp := [o1 50 (.load (some 6)) [.t 2],
  o1 51 (.faddr 0) [.t 12],
  o1 52 (.load none) [.t 51],
  ⟨some 53, .call none, [.f 14, .t 50, .t 52], none⟩,
  mv 49 53,
  o1 54 (.extract 0) [.t 49],
  o1 55 (.extract 1) [.t 49],
  o1 14 (.alloc 29 [.nils, .int .i64 0, .int .i64 0, .nils, .nils, .bool false]) [],
  ⟨none, .op (.store 6), [.t 14, .t 54], none⟩,
  mv 15 55]
abbrev r22_9 : List IOp := [o1 56 (.load (some 6)) [.t 14],
  mv 57 15,
  o1 58 (.faddr 0) [.t 12],
  o1 59 (.load none) [.t 58],
  ⟨none, .op (.store 6), [.t 4, .t 56], none⟩,
  mv 5 57,
  o1 6 (.mov) [.c (.int .i64 0)],
  mv 7 59,
  o1 8 (.mov) [.c (.nils)]]
abbrev r22_10 : List IOp := [o1 61 (.bin .eql .prim) [.t 27, .c (.int .i64 3)],
  mv 60 61]
abbrev r22_11 : List IOp := [o1 63 (.load (some 6)) [.t 2],
  o1 64 (.faddr 6) [.t 3],
  o1 65 (.load none) [.t 64],
  ⟨some 66, .call none, [.f 14, .t 63, .t 65], none⟩,
  mv 62 66,
  o1 67 (.extract 0) [.t 62],
  o1 68 (.extract 1) [.t 62],
  o1 16 (.alloc 29 [.nils, .int .i64 0, .int .i64 0, .nils, .nils, .bool false]) [],
  ⟨none, .op (.store 6), [.t 16, .t 67], none⟩,
  mv 17 68]
abbrev r22_12 : List IOp := [o1 69 (.load (some 6)) [.t 16],
  mv 70 17,
  ⟨none, .op (.store 6), [.t 4, .t 69], none⟩,
  mv 5 70,
  o1 6 (.mov) [.c (.int .i64 0)],
  o1 7 (.mov) [.c (.int .i64 0)],
  o1 8 (.mov) [.c (.nils)]]
abbrev r22_13 : List IOp := [o1 72 (.bin .eql .prim) [.t 27, .c (.int .i64 4)],
  mv 71 72]
abbrev r22_14 : List IOp := [o1 74 (.load (some 6)) [.t 2],
  o1 75 (.faddr 6) [.t 3],
  o1 76 (.load none) [.t 75],
  o1 77 (.faddr 8) [.t 3],
  o1 78 (.load none) [.t 77],
  ⟨some 79, .call none, [.f 15, .t 74, .t 76, .t 78], none⟩,
  mv 73 79,
  o1 80 (.extract 0) [.t 73],
  o1 81 (.extract 1) [.t 73],
  o1 82 (.extract 2) [.t 73],
  o1 18 (.alloc 29 [.nils, .int .i64 0, .int .i64 0, .nils, .nils, .bool false]) [],
  ⟨none, .op (.store 6), [.t 18, .t 80], none⟩,
  mv 19 81,
  mv 20 82]
abbrev r22_15 : List IOp := [o1 83 (.load (some 6)) [.t 18],
  mv 84 20,
  mv 85 19,
  ⟨none, .op (.store 6), [.t 4, .t 83], none⟩,
  mv 5 84,
  mv 6 85,
  o1 7 (.mov) [.c (.int .i64 0)],
  o1 8 (.mov) [.c (.nils)]]
abbrev r22_16 : List IOp := [o1 87 (.bin .eql .prim) [.t 27, .c (.int .i64 5)],
  mv 86 87]
abbrev r22_17 : List IOp := [o1 89 (.load (some 6)) [.t 2],
  o1 90 (.faddr 7) [.t 3],
  o1 91 (.load none) [.t 90],
  ⟨some 92, .call none, [.f 19, .t 89, .t 91], none⟩,
  mv 88 92,
  o1 93 (.extract 0) [.t 88],
  o1 94 (.extract 1) [.t 88],
  o1 21 (.alloc 29 [.nils, .int .i64 0, .int .i64 0, .nils, .nils, .bool false]) [],
  ⟨none, .op (.store 6), [.t 21, .t 93], none⟩,
  mv 22 94]
abbrev r22_18 : List IOp := [o1 95 (.load (some 6)) [.t 21],
  mv 96 22,
  ⟨none, .op (.store 6), [.t 4, .t 95], none⟩,
  mv 5 96,
  o1 6 (.mov) [.c (.int .i64 0)],
  o1 7 (.mov) [.c (.int .i64 0)],
  o1 8 (.mov) [.c (.nils)]]
abbrev r22_19 : List IOp := [o1 98 (.bin .eql .prim) [.t 27, .c (.int .i64 6)],
  mv 97 98]
abbrev r22_20 : List IOp := [o1 100 (.load (some 6)) [.t 2],
  o1 101 (.faddr 9) [.t 3],
  o1 102 (.load none) [.t 101],
  ⟨some 103, .call none, [.f 24, .t 102], none⟩,
  ⟨some 104, .call none, [.f 69, .t 100, .t 103], none⟩,
  mv 99 104,
  o1 105 (.extract 0) [.t 99],
  o1 106 (.extract 1) [.t 99],
  o1 23 (.alloc 29 [.nils, .int .i64 0, .int .i64 0, .nils, .nils, .bool false]) [],
  ⟨none, .op (.store 6), [.t 23, .t 105], none⟩,
  mv 24 106]
abbrev r22_21 : List IOp := [o1 107 (.load (some 6)) [.t 23],
  mv 108 24,
  ⟨none, .op (.store 6), [.t 4, .t 107], none⟩,
  o1 5 (.mov) [.c (.int .i64 0)],
  o1 6 (.mov) [.c (.int .i64 0)],
  o1 7 (.mov) [.c (.int .i64 0)],
  mv 8 108]
abbrev r22_22 : List IOp := [o1 110 (.bin .eql .prim) [.t 27, .c (.int .i64 7)],
  mv 109 110]
abbrev r22_23 : List IOp := [o1 111 (.load (some 6)) [.t 2],
  ⟨some 112, .call none, [.f 55, .t 111], none⟩,
  ⟨none, .op (.store 6), [.t 4, .t 112], none⟩,
  o1 5 (.mov) [.c (.int .i64 0)],
  o1 6 (.mov) [.c (.int .i64 0)],
  o1 7 (.mov) [.c (.int .i64 0)],
  o1 8 (.mov) [.c (.nils)]]
abbrev r22_24 : List IOp := [o1 113 (.load (some 6)) [.t 2],
  ⟨some 114, .call none, [.f 16, .t 113], none⟩,
  ⟨none, .op (.store 6), [.t 4, .t 114], none⟩,
  o1 5 (.mov) [.c (.int .i64 0)],
  o1 6 (.mov) [.c (.int .i64 0)],
  o1 7 (.mov) [.c (.int .i64 0)],
  o1 8 (.mov) [.c (.nils)]]
abbrev c22 : IC := (IC.seq (IC.reg r22_0) (IC.seq (IC.seq (IC.reg r22_1) (IC.block 0 (IC.seq (IC.seq (IC.reg r22_2) (IC.cond (.t 28) IC.skip (IC.reg r22_3))) (IC.cond (.t 28) (IC.seq (IC.reg r22_4) (IC.seq (IC.reg r22_5) IC.ret)) (IC.seq (IC.reg r22_6) (IC.cond (.t 42) (IC.seq (IC.reg r22_7) (IC.seq (IC.reg r22_8) (IC.seq (IC.regD .wild r22_9 (.take 0 (.take 1 (.take 2 (.fork [(3, .take 4 (.take 5 (.take 6 (.take 7 (.take 8 (.done)))))), (4, .take 3 (.take 5 (.take 6 (.take 7 (.take 8 (.done))))))]))))) IC.ret))) (IC.seq (IC.reg r22_10) (IC.cond (.t 60) (IC.seq (IC.reg r22_11) (IC.seq (IC.reg r22_12) IC.ret)) (IC.seq (IC.reg r22_13) (IC.cond (.t 71) (IC.seq (IC.reg r22_14) (IC.seq (IC.reg r22_15) IC.ret)) (IC.seq (IC.reg r22_16) (IC.cond (.t 86) (IC.seq (IC.reg r22_17) (IC.seq (IC.reg r22_18) IC.ret)) (IC.seq (IC.reg r22_19) (IC.cond (.t 97) (IC.seq (IC.regD .wild r22_20 (.take 1 (.take 2 (.fork [(0, .fork [(3, .fork [(4, .take 5 (.take 6 (.take 7 (.take 8 (.take 9 (.take 10 (.done))))))), (8, .take 4 (.take 5 (.take 6 (.take 7 (.take 9 (.take 10 (.done)))))))]), (8, .take 3 (.take 4 (.take 5 (.take 6 (.take 7 (.take 9 (.take 10 (.done))))))))]), (3, .take 0 (.fork [(4, .take 5 (.take 6 (.take 7 (.take 8 (.take 9 (.take 10 (.done))))))), (8, .take 4 (.take 5 (.take 6 (.take 7 (.take 9 (.take 10 (.done)))))))])), (8, .fork [(0, .take 3 (.take 4 (.take 5 (.take 6 (.take 7 (.take 9 (.take 10 (.done)))))))), (3, .take 0 (.take 4 (.take 5 (.take 6 (.take 7 (.take 9 (.take 10 (.done))))))))])])))) (IC.seq (IC.reg r22_21) IC.ret)) (IC.seq (IC.reg r22_22) (IC.cond (.t 109) (IC.seq (IC.reg r22_23) IC.ret) IC.skip)))))))))))))))) (IC.seq (IC.reg r22_24) IC.ret)))
abbrev g22 : FC := ⟨c22, 115, [.cell 4 (some 6), .t 5, .t 6, .t 7, .t 8]⟩
theorem comp22 : compF Go.Proofs.Try.prog (hintL [(9, 6), (20, 6)]) 22 = some g22 := by kernel_rfl

-- outlaw/outlawlaw22.own
abbrev r23_0 : List IOp := [o1 1 (.box 29) [.t 0],
  o1 2 (.alloc 29 [.nils, .int .i64 0, .int .i64 0, .nils, .nils, .bool false]) []]
abbrev r23_1 : List IOp := [o1 3 (.faddr 0) [.t 1],
  o1 4 (.load none) [.t 3],
  ⟨some 5, .call none, [.f 70, .t 4], none⟩,
  o1 6 (.faddr 3) [.t 1],
  o1 7 (.load none) [.t 6],
  ⟨some 8, .call none, [.f 24, .t 7], none⟩,
  o1 9 (.faddr 4) [.t 1],
  o1 10 (.load none) [.t 9],
  ⟨some 11, .call none, [.f 24, .t 10], none⟩,
  o1 12 (.faddr 0) [.t 1],
  ⟨none, .op (.store 1), [.t 12, .t 5], none⟩,
  o1 13 (.faddr 3) [.t 1],
  ⟨none, .op (.store 1), [.t 13, .t 8], none⟩,
  o1 14 (.faddr 4) [.t 1],
  ⟨none, .op (.store 1), [.t 14, .t 11], none⟩]
abbrev r23_2 : List IOp := [o1 15 (.load (some 6)) [.t 1],
  ⟨none, .op (.store 6), [.t 2, .t 15], none⟩]
abbrev c23 : IC := (IC.seq (IC.reg r23_0) (IC.seq (IC.regD .alloc r23_1 (.take 0 (.take 1 (.take 3 (.take 4 (.take 6 (.take 7 (.take 2 (.take 5 (.take 8 (.take 9 (.take 10 (.take 11 (.take 12 (.take 13 (.take 14 (.done))))))))))))))))) (IC.seq (IC.reg r23_2) IC.ret)))
abbrev g23 : FC := ⟨c23, 16, [.cell 2 (some 6)]⟩
theorem comp23 : compF Go.Proofs.Try.prog (hintL [(1, 7)]) 23 = some g23 := by kernel_rfl

-- outlaw/outlawkit.Own[outlaw/api.Action]
abbrev r24_0 : List IOp := [o1 2 (.mov) [.c (.nils)]]
abbrev r24_1 : List IOp := [o1 3 (.bsl 23 5 false) [],
  mv 4 0,
  o1 5 (.app 23 5 72) [.t 3, .t 4],
  mv 2 5]
abbrev c24 : IC := (IC.seq (IC.reg r24_0) (IC.seq (IC.reg r24_1) IC.ret))
abbrev g24 : FC := ⟨c24, 6, [.t 2]⟩
theorem comp24 : compF Go.Proofs.Try.prog (fun _ => 0) 24 = some g24 := by kernel_rfl

-- outlaw/queue.Alike
abbrev r25_0 : List IOp := [o1 2 (.box 23) [.t 0],
  o1 3 (.box 23) [.t 1],
  o1 4 (.mov) [.c (.bool false)]]
abbrev r25_1 : List IOp := [o1 5 (.faddr 1) [.t 2],
  o1 6 (.load none) [.t 5],
  o1 7 (.faddr 1) [.t 3],
  o1 8 (.load none) [.t 7],
  o1 9 (.bin .eql .prim) [.t 6, .t 8],
  mv 10 9,
  o2 11 (.faddr 0) [.t 2] 10 true,
  o2 12 (.load none) [.t 11] 10 true,
  o2 13 (.faddr 0) [.t 3] 10 true,
  o2 14 (.load none) [.t 13] 10 true,
  o2 15 (.bin .eql .prim) [.t 12, .t 14] 10 true,
  o1 16 (.pick) [.t 10, .t 15, .c (.bool false)],
  mv 17 16,
  o2 18 (.faddr 2) [.t 2] 17 true,
  o2 19 (.load none) [.t 18] 17 true,
  o2 20 (.faddr 2) [.t 3] 17 true,
  o2 21 (.load none) [.t 20] 17 true,
  o2 22 (.bin .eql .prim) [.t 19, .t 21] 17 true,
  o1 23 (.pick) [.t 17, .t 22, .c (.bool false)],
  mv 4 23]
abbrev c25 : IC := (IC.seq (IC.reg r25_0) (IC.seq (IC.reg r25_1) IC.ret))
abbrev g25 : FC := ⟨c25, 24, [.t 4]⟩
theorem comp25 : compF Go.Proofs.Try.prog (fun _ => 0) 25 = some g25 := by kernel_rfl

-- outlaw/outlawkit.LightQueue
abbrev r26_0 : List IOp := [o1 1 (.box 29) [.t 0],
  o1 2 (.mov) [.c (.bool false)]]
abbrev r26_1 : List IOp := [o1 3 (.mov) [.c (.int .i64 0)]]
abbrev r26_2 : List IOp := [mv 6 3,
  o1 7 (.faddr 0) [.t 1],
  o1 8 (.load none) [.t 7],
  o1 9 (.len .slice) [.t 8],
  o1 10 (.bin .lss .prim) [.t 6, .t 9]]
abbrev r26_3 : List IOp := [o1 13 (.faddr 0) [.t 1],
  o1 14 (.load none) [.t 13],
  mv 15 3,
  o1 16 (.iaddr 10) [.t 14, .t 15],
  o1 17 (.faddr 1) [.t 16],
  o1 18 (.load (some 5)) [.t 17],
  ⟨some 19, .call none, [.f 11, .t 18], none⟩,
  o1 20 (.un .not) [.t 19]]
abbrev r26_4 : List IOp := [o1 2 (.mov) [.c (.bool false)]]
abbrev r26_5 : List IOp := [mv 11 3,
  o1 12 (.bin .add .prim) [.t 11, .c (.int .i64 1)],
  mv 3 12]
abbrev b26_0 : IC := (IC.seq (IC.seq (IC.reg r26_2) (IC.cond (.t 10) IC.skip (IC.exit 0))) (IC.seq (IC.block 1 (IC.seq (IC.reg r26_3) (IC.cond (.t 20) (IC.seq (IC.reg r26_4) IC.ret) IC.skip))) (IC.reg r26_5)))
abbrev r26_6 : List IOp := [o1 21 (.faddr 3) [.t 1],
  o1 22 (.load none) [.t 21],
  ⟨some 23, .call none, [.f 24, .t 22], none⟩,
  o1 24 (.faddr 4) [.t 1],
  o1 25 (.load none) [.t 24],
  o1 26 (.app 23 5 72) [.t 23, .t 25],
  mv 4 26]
abbrev r26_7 : List IOp := [o1 5 (.mov) [.c (.int .i64 0)]]
abbrev r26_8 : List IOp := [mv 27 5,
  mv 28 4,
  o1 29 (.len .slice) [.t 28],
  o1 30 (.bin .lss .prim) [.t 27, .t 29]]
abbrev r26_9 : List IOp := [mv 33 4,
  mv 34 5,
  o1 35 (.iaddr 5) [.t 33, .t 34],
  o1 36 (.load (some 5)) [.t 35],
  ⟨some 37, .call none, [.f 11, .t 36], none⟩,
  o1 38 (.un .not) [.t 37]]
abbrev r26_10 : List IOp := [o1 2 (.mov) [.c (.bool false)]]
abbrev r26_11 : List IOp := [mv 31 5,
  o1 32 (.bin .add .prim) [.t 31, .c (.int .i64 1)],
  mv 5 32]
abbrev b26_1 : IC := (IC.seq (IC.seq (IC.reg r26_8) (IC.cond (.t 30) IC.skip (IC.exit 2))) (IC.seq (IC.block 3 (IC.seq (IC.reg r26_9) (IC.cond (.t 38) (IC.seq (IC.reg r26_10) IC.ret) IC.skip))) (IC.reg r26_11)))
abbrev r26_12 : List IOp := [o1 39 (.faddr 0) [.t 1],
  o1 40 (.load none) [.t 39],
  o1 41 (.len .slice) [.t 40],
  o1 42 (.bin .leq .prim) [.t 41, .c (.int .i64 40)],
  mv 43 42,
  o2 44 (.faddr 3) [.t 1] 43 true,
  o2 45 (.load none) [.t 44] 43 true,
  o2 46 (.len .slice) [.t 45] 43 true,
  o2 47 (.bin .leq .prim) [.t 46, .c (.int .i64 70)] 43 true,
  o1 48 (.pick) [.t 43, .t 47, .c (.bool false)],
  mv 49 48,
  o2 50 (.faddr 4) [.t 1] 49 true,
  o2 51 (.load none) [.t 50] 49 true,
  o2 52 (.len .slice) [.t 51] 49 true,
  o2 53 (.bin .leq .prim) [.t 52, .c (.int .i64 70)] 49 true,
  o1 54 (.pick) [.t 49, .t 53, .c (.bool false)],
  mv 2 54]
abbrev c26 : IC := (IC.seq (IC.reg r26_0) (IC.seq (IC.seq (IC.reg r26_1) (IC.block 0 (IC.loop b26_0))) (IC.seq (IC.regD .alloc r26_6 (.take 0 (.take 1 (.take 3 (.take 4 (.take 2 (.take 5 (.take 6 (.done))))))))) (IC.seq (IC.seq (IC.reg r26_7) (IC.block 2 (IC.loop b26_1))) (IC.seq (IC.reg r26_12) IC.ret)))))
abbrev g26 : FC := ⟨c26, 55, [.t 2]⟩
theorem comp26 : compF Go.Proofs.Try.prog (hintL [(6, 7)]) 26 = some g26 := by kernel_rfl

-- outlaw/queue.Check
abbrev r27_0 : List IOp := [o1 1 (.box 29) [.t 0],
  o1 2 (.mov) [.c (.int .i64 0)]]
abbrev r27_1 : List IOp := [o1 10 (.faddr 0) [.t 1],
  o1 11 (.load none) [.t 10],
  o1 12 (.len .slice) [.t 11],
  o1 13 (.bin .leq .prim) [.t 12, .c (.int .i64 32)],
  mv 14 13,
  o2 15 (.faddr 1) [.t 1] 14 true,
  o2 16 (.load none) [.t 15] 14 true,
  o2 17 (.bin .geq .prim) [.t 16, .c (.int .i64 1)] 14 true,
  o1 18 (.pick) [.t 14, .t 17, .c (.bool false)],
  mv 19 18,
  o2 20 (.faddr 1) [.t 1] 19 true,
  o2 21 (.load none) [.t 20] 19 true,
  o2 22 (.bin .leq .prim) [.t 21, .c (.int .i64 1152921504606846976)] 19 true,
  o1 23 (.pick) [.t 19, .t 22, .c (.bool false)],
  mv 24 23,
  o2 25 (.faddr 2) [.t 1] 24 true,
  o2 26 (.load none) [.t 25] 24 true,
  o2 27 (.bin .geq .prim) [.t 26, .c (.int .i64 0)] 24 true,
  o1 28 (.pick) [.t 24, .t 27, .c (.bool false)],
  mv 29 28,
  o2 30 (.faddr 2) [.t 1] 29 true,
  o2 31 (.load none) [.t 30] 29 true,
  o2 32 (.bin .leq .prim) [.t 31, .c (.int .i64 1152921504606846976)] 29 true,
  o1 33 (.pick) [.t 29, .t 32, .c (.bool false)],
  mv 34 33,
  o2 35 (.faddr 3) [.t 1] 34 true,
  o2 36 (.load none) [.t 35] 34 true,
  o2 37 (.len .slice) [.t 36] 34 true,
  o2 38 (.bin .leq .prim) [.t 37, .c (.int .i64 64)] 34 true,
  o1 39 (.pick) [.t 34, .t 38, .c (.bool false)],
  mv 40 39,
  o2 41 (.faddr 4) [.t 1] 40 true,
  o2 42 (.load none) [.t 41] 40 true,
  o2 43 (.len .slice) [.t 42] 40 true,
  o2 44 (.bin .leq .prim) [.t 43, .c (.int .i64 64)] 40 true,
  o1 45 (.pick) [.t 40, .t 44, .c (.bool false)],
  mv 46 45,
  o2 47 (.load (some 6)) [.t 1] 46 true,
  ⟨some 48, .call none, [.f 63, .t 47], some (46, true)⟩,
  o2 49 (.bin .leq .prim) [.t 48, .c (.int .i64 4)] 46 true,
  o1 50 (.pick) [.t 46, .t 49, .c (.bool false)],
  mv 3 50]
abbrev r27_2 : List IOp := [mv 51 3,
  o1 52 (.un .not) [.t 51]]
abbrev r27_3 : List IOp := [o1 2 (.mov) [.c (.int .i64 2)]]
abbrev r27_4 : List IOp := [o1 4 (.mov) [.c (.int .i64 0)]]
abbrev r27_5 : List IOp := [o1 53 (.faddr 0) [.t 1],
  o1 54 (.load none) [.t 53],
  o1 55 (.len .slice) [.t 54],
  o1 56 (.mov) [.c (.int .i64 0)]]
abbrev r27_6 : List IOp := [o1 57 (.bin .lss .prim) [.t 56, .t 55]]
abbrev r27_7 : List IOp := [o1 58 (.iaddr 10) [.t 54, .t 56],
  o1 59 (.load (some 10)) [.t 58],
  o1 6 (.alloc 42 [.int .i64 0, .int .i64 0, .str [], .str [], .str [], .str [], .bool false, .bool false, .int .i64 0, .int .i64 0]) [],
  ⟨none, .op (.store 10), [.t 6, .t 59], none⟩]
abbrev r27_8 : List IOp := [o1 60 (.faddr 0) [.t 6],
  o1 61 (.load none) [.t 60],
  mv 62 4,
  o1 63 (.bin .leq .prim) [.t 61, .t 62],
  mv 64 63,
  o2 65 (.faddr 0) [.t 6] 64 false,
  o2 66 (.load none) [.t 65] 64 false,
  o2 67 (.faddr 1) [.t 1] 64 false,
  o2 68 (.load none) [.t 67] 64 false,
  o2 69 (.bin .geq .prim) [.t 66, .t 68] 64 false,
  o1 70 (.pick) [.t 64, .c (.bool true), .t 69],
  mv 71 70,
  o2 72 (.faddr 8) [.t 6] 71 false,
  o2 73 (.load none) [.t 72] 71 false,
  o2 74 (.bin .lss .prim) [.t 73, .c (.int .i64 0)] 71 false,
  o1 75 (.pick) [.t 71, .c (.bool true), .t 74],
  mv 76 75,
  o2 77 (.faddr 8) [.t 6] 76 false,
  o2 78 (.load none) [.t 77] 76 false,
  o2 79 (.bin .geq .prim) [.t 78, .c (.int .i64 5)] 76 false,
  o1 80 (.pick) [.t 76, .c (.bool true), .t 79],
  mv 81 80,
  o2 82 (.faddr 9) [.t 6] 81 false,
  o2 83 (.load none) [.t 82] 81 false,
  o2 84 (.bin .lss .prim) [.t 83, .c (.int .i64 0)] 81 false,
  o1 85 (.pick) [.t 81, .c (.bool true), .t 84],
  mv 86 85,
  o2 87 (.faddr 9) [.t 6] 86 false,
  o2 88 (.load none) [.t 87] 86 false,
  o2 89 (.bin .gtr .prim) [.t 88, .c (.int .i64 1152921504606847040)] 86 false,
  o1 90 (.pick) [.t 86, .c (.bool true), .t 89]]
abbrev r27_9 : List IOp := [o1 2 (.mov) [.c (.int .i64 2)]]
abbrev r27_10 : List IOp := [o1 91 (.faddr 0) [.t 6],
  o1 92 (.load none) [.t 91],
  mv 4 92]
abbrev r27_11 : List IOp := [o1 93 (.bin .add .prim) [.t 56, .c (.int .i64 1)],
  mv 56 93]
abbrev b27_0 : IC := (IC.seq (IC.reg r27_6) (IC.seq (IC.cond (.t 57) IC.skip (IC.exit 0)) (IC.seq (IC.block 1 (IC.seq (IC.reg r27_7) (IC.seq (IC.seq (IC.reg r27_8) (IC.cond (.t 90) (IC.seq (IC.reg r27_9) IC.ret) IC.skip)) (IC.reg r27_10)))) (IC.reg r27_11))))
abbrev r27_12 : List IOp := [o1 94 (.load (some 6)) [.t 1],
  ⟨some 95, .call none, [.f 59, .t 94], none⟩,
  mv 7 95]
abbrev r27_13 : List IOp := [mv 96 7,
  o1 97 (.len .slice) [.t 96],
  o1 98 (.mov) [.c (.int .i64 0)]]
abbrev r27_14 : List IOp := [o1 99 (.bin .lss .prim) [.t 98, .t 97]]
abbrev r27_15 : List IOp := [mv 100 98,
  o1 101 (.iaddr 5) [.t 96, .t 98],
  o1 102 (.load (some 5)) [.t 101],
  o1 9 (.alloc 23 [.int .i64 0, .str [], .str [], .str [], .str []]) [],
  mv 8 100,
  ⟨none, .op (.store 5), [.t 9, .t 102], none⟩]
abbrev r27_16 : List IOp := [o1 103 (.load (some 5)) [.t 9],
  ⟨some 104, .call none, [.f 57, .t 103], none⟩,
  o1 105 (.un .not) [.t 104],
  mv 106 105,
  o2 107 (.mov) [.t 7] 106 false,
  o2 108 (.mov) [.t 8] 106 false,
  o2 109 (.slice 5 false true false) [.t 107, .t 108] 106 false,
  o2 110 (.mkfn 71) [.t 9] 106 false,
  ⟨some 111, .call none, [.f 58, .t 109, .t 110], some (106, false)⟩,
  o1 112 (.pick) [.t 106, .c (.bool true), .t 111]]
abbrev r27_17 : List IOp := [o1 2 (.mov) [.c (.int .i64 2)]]
abbrev r27_18 : List IOp := [o1 113 (.bin .add .prim) [.t 98, .c (.int .i64 1)],
  mv 98 113]
abbrev b27_1 : IC := (IC.seq (IC.reg r27_14) (IC.seq (IC.cond (.t 99) IC.skip (IC.exit 2)) (IC.seq (IC.block 3 (IC.seq (IC.reg r27_15) (IC.seq (IC.reg r27_16) (IC.cond (.t 112) (IC.seq (IC.reg r27_17) IC.ret) IC.skip)))) (IC.reg r27_18))))
abbrev r27_19 : List IOp := [o1 2 (.mov) [.c (.int .i64 0)]]
abbrev c27 : IC := (IC.seq (IC.reg r27_0) (IC.seq (IC.reg r27_1) (IC.seq (IC.seq (IC.reg r27_2) (IC.cond (.t 52) (IC.seq (IC.reg r27_3) IC.ret) IC.skip)) (IC.seq (IC.reg r27_4) (IC.seq (IC.seq (IC.reg r27_5) (IC.block 0 (IC.loop b27_0))) (IC.seq (IC.reg r27_12) (IC.seq (IC.seq (IC.reg r27_13) (IC.block 2 (IC.loop b27_1))) (IC.seq (IC.reg r27_19) IC.ret))))))))
abbrev g27 : FC := ⟨c27, 114, [.t 2]⟩
theorem comp27 : compF Go.Proofs.Try.prog (fun _ => 0) 27 = some g27 := by kernel_rfl

-- outlaw/queue.Same
abbrev r28_0 : List IOp := [o1 2 (.box 29) [.t 0],
  o1 3 (.box 29) [.t 1],
  o1 4 (.mov) [.c (.bool false)]]
abbrev r28_1 : List IOp := [o1 5 (.faddr 1) [.t 2],
  o1 6 (.load none) [.t 5],
  o1 7 (.faddr 1) [.t 3],
  o1 8 (.load none) [.t 7],
  o1 9 (.bin .eql .prim) [.t 6, .t 8],
  mv 10 9,
  o2 11 (.faddr 2) [.t 2] 10 true,
  o2 12 (.load none) [.t 11] 10 true,
  o2 13 (.faddr 2) [.t 3] 10 true,
  o2 14 (.load none) [.t 13] 10 true,
  o2 15 (.bin .eql .prim) [.t 12, .t 14] 10 true,
  o1 16 (.pick) [.t 10, .t 15, .c (.bool false)],
  mv 17 16,
  o2 18 (.faddr 5) [.t 2] 17 true,
  o2 19 (.load none) [.t 18] 17 true,
  o2 20 (.faddr 5) [.t 3] 17 true,
  o2 21 (.load none) [.t 20] 17 true,
  o2 22 (.bin .eql .bool) [.t 19, .t 21] 17 true,
  o1 23 (.pick) [.t 17, .t 22, .c (.bool false)],
  mv 24 23,
  o2 25 (.faddr 0) [.t 2] 24 true,
  o2 26 (.load none) [.t 25] 24 true,
  o2 27 (.faddr 0) [.t 3] 24 true,
  o2 28 (.load none) [.t 27] 24 true,
  ⟨some 29, .call none, [.f 72, .t 26, .t 28], some (24, true)⟩,
  o1 30 (.pick) [.t 24, .t 29, .c (.bool false)],
  mv 31 30,
  o2 32 (.faddr 3) [.t 2] 31 true,
  o2 33 (.load none) [.t 32] 31 true,
  o2 34 (.faddr 3) [.t 3] 31 true,
  o2 35 (.load none) [.t 34] 31 true,
  ⟨some 36, .call none, [.f 73, .t 33, .t 35], some (31, true)⟩,
  o1 37 (.pick) [.t 31, .t 36, .c (.bool false)],
  mv 38 37,
  o2 39 (.faddr 4) [.t 2] 38 true,
  o2 40 (.load none) [.t 39] 38 true,
  o2 41 (.faddr 4) [.t 3] 38 true,
  o2 42 (.load none) [.t 41] 38 true,
  ⟨some 43, .call none, [.f 73, .t 40, .t 42], some (38, true)⟩,
  o1 44 (.pick) [.t 38, .t 43, .c (.bool false)],
  mv 4 44]
abbrev c28 : IC := (IC.seq (IC.reg r28_0) (IC.seq (IC.reg r28_1) IC.ret))
abbrev g28 : FC := ⟨c28, 45, [.t 4]⟩
theorem comp28 : compF Go.Proofs.Try.prog (fun _ => 0) 28 = some g28 := by kernel_rfl

-- outlaw/queue.Backoff
abbrev r30_0 : List IOp := [o1 2 (.mov) [.c (.int .i64 0)]]
abbrev r30_1 : List IOp := [mv 3 0,
  o1 4 (.bin .lss .prim) [.t 3, .c (.int .i64 1)]]
abbrev r30_2 : List IOp := [o1 2 (.mov) [.c (.int .i64 0)]]
abbrev r30_3 : List IOp := [mv 5 0,
  o1 6 (.min) [.t 5, .c (.int .i64 20)],
  o1 7 (.bin .shl .prim) [.c (.int .i64 1), .t 6],
  o1 8 (.min) [.c (.int .i64 64), .t 7],
  mv 2 8]
abbrev c30 : IC := (IC.seq (IC.reg r30_0) (IC.seq (IC.seq (IC.reg r30_1) (IC.cond (.t 4) (IC.seq (IC.reg r30_2) IC.ret) IC.skip)) (IC.seq (IC.reg r30_3) IC.ret)))
abbrev g30 : FC := ⟨c30, 9, [.t 2]⟩
theorem comp30 : compF Go.Proofs.Try.prog (fun _ => 0) 30 = some g30 := by kernel_rfl

-- outlaw/queue.Find
abbrev r35_0 : List IOp := [o1 2 (.box 29) [.t 0],
  o1 4 (.alloc 42 [.int .i64 0, .int .i64 0, .str [], .str [], .str [], .str [], .bool false, .bool false, .int .i64 0, .int .i64 0]) [],
  o1 5 (.mov) [.c (.bool false)]]
abbrev r35_1 : List IOp := [o1 7 (.load (some 6)) [.t 2],
  mv 8 1,
  ⟨some 9, .call none, [.f 61, .t 7, .t 8], none⟩,
  mv 6 9]
abbrev r35_2 : List IOp := [mv 10 6,
  o1 11 (.bin .geq .prim) [.t 10, .c (.int .i64 0)]]
abbrev r35_3 : List IOp := [o1 12 (.faddr 0) [.t 2],
  o1 13 (.load none) [.t 12],
  mv 14 6,
  o1 15 (.iaddr 10) [.t 13, .t 14],
  o1 16 (.load (some 10)) [.t 15],
  ⟨none, .op (.store 10), [.t 4, .t 16], none⟩,
  o1 5 (.mov) [.c (.bool true)]]
abbrev r35_4 : List IOp := [o1 17 (.bst [.int .i64 0, .int .i64 0, .str [], .str [], .str [], .str [], .bool false, .bool false, .int .i64 0, .int .i64 0] [(0, 1), (1, 5), (6, 1), (7, 1), (8, 1), (9, 1)] []) [],
  ⟨none, .op (.store 10), [.t 4, .t 17], none⟩,
  o1 5 (.mov) [.c (.bool false)]]
abbrev c35 : IC := (IC.seq (IC.reg r35_0) (IC.seq (IC.seq (IC.reg r35_1) (IC.seq (IC.reg r35_2) (IC.cond (.t 11) (IC.seq (IC.reg r35_3) IC.ret) IC.skip))) (IC.seq (IC.reg r35_4) IC.ret)))
abbrev g35 : FC := ⟨c35, 18, [.cell 4 (some 10), .t 5]⟩
theorem comp35 : compF Go.Proofs.Try.prog (fun _ => 0) 35 = some g35 := by kernel_rfl

-- outlaw/outlawlaw22.ban
abbrev r54_0 : List IOp := [o1 2 (.alloc 23 [.int .i64 0, .str [], .str [], .str [], .str []]) []]
abbrev r54_1 : List IOp := [mv 3 0,
  ⟨some 4, .op (.bst [.int .i64 0, .str [], .str [], .str [], .str []] [(0, 1), (1, 1), (2, 1), (3, 1), (4, 1)] [0, 1, 2]), [.c (.int .i64 1), .c (.str [33, 114, 58, 120]), .t 3], none⟩,
  ⟨none, .op (.store 5), [.t 2, .t 4], none⟩]
abbrev c54 : IC := (IC.seq (IC.reg r54_0) (IC.seq (IC.reg r54_1) IC.ret))
abbrev g54 : FC := ⟨c54, 5, [.cell 2 (some 5)]⟩
theorem comp54 : compF Go.Proofs.Try.prog (fun _ => 0) 54 = some g54 := by kernel_rfl

-- outlaw/queue.Land
abbrev r55_0 : List IOp := [o1 1 (.box 29) [.t 0],
  o1 2 (.alloc 29 [.nils, .int .i64 0, .int .i64 0, .nils, .nils, .bool false]) []]
abbrev r55_1 : List IOp := [o1 5 (.load (some 6)) [.t 1],
  ⟨some 6, .call none, [.f 56, .t 5], none⟩,
  ⟨none, .op (.store 6), [.t 1, .t 6], none⟩]
abbrev r55_2 : List IOp := [o1 7 (.faddr 0) [.t 1],
  o1 8 (.load none) [.t 7],
  o1 9 (.len .slice) [.t 8],
  o1 10 (.mov) [.c (.int .i64 0)]]
abbrev r55_3 : List IOp := [o1 11 (.bin .lss .prim) [.t 10, .t 9]]
abbrev r55_4 : List IOp := [mv 12 10,
  mv 3 12]
abbrev r55_5 : List IOp := [o1 13 (.faddr 0) [.t 1],
  o1 14 (.load none) [.t 13],
  mv 15 3,
  o1 16 (.iaddr 10) [.t 14, .t 15],
  mv 4 16]
abbrev r55_6 : List IOp := [mv 17 4,
  mv 18 4,
  mv 19 4,
  o1 20 (.nilchk) [.t 19],
  o1 21 (.faddr 7) [.t 20],
  o1 22 (.load none) [.t 21],
  mv 23 22,
  o2 24 (.mov) [.t 4] 23 false,
  o2 25 (.nilchk) [.t 24] 23 false,
  o2 26 (.faddr 6) [.t 25] 23 false,
  o2 27 (.load none) [.t 26] 23 false,
  o1 28 (.pick) [.t 23, .c (.bool true), .t 27],
  o1 29 (.nilchk) [.t 17],
  o1 30 (.faddr 6) [.t 29],
  ⟨none, .op (.store 1), [.t 30, .c (.bool false)], none⟩,
  o1 31 (.nilchk) [.t 18],
  o1 32 (.faddr 7) [.t 31],
  ⟨none, .op (.store 1), [.t 32, .t 28], none⟩]
abbrev r55_7 : List IOp := [o1 33 (.bin .add .prim) [.t 10, .c (.int .i64 1)],
  mv 10 33]
abbrev b55_0 : IC := (IC.seq (IC.reg r55_3) (IC.seq (IC.cond (.t 11) IC.skip (IC.exit 0)) (IC.seq (IC.block 1 (IC.seq (IC.reg r55_4) (IC.seq (IC.reg r55_5) (IC.reg r55_6)))) (IC.reg r55_7))))
abbrev r55_8 : List IOp := [o1 34 (.load (some 6)) [.t 1],
  ⟨none, .op (.store 6), [.t 2, .t 34], none⟩]
abbrev c55 : IC := (IC.seq (IC.reg r55_0) (IC.seq (IC.reg r55_1) (IC.seq (IC.seq (IC.reg r55_2) (IC.block 0 (IC.loop b55_0))) (IC.seq (IC.reg r55_8) IC.ret))))
abbrev g55 : FC := ⟨c55, 35, [.cell 2 (some 6)]⟩
theorem comp55 : compF Go.Proofs.Try.prog (fun _ => 0) 55 = some g55 := by kernel_rfl

-- outlaw/queue.clone
abbrev r56_0 : List IOp := [o1 1 (.box 29) [.t 0],
  o1 2 (.alloc 29 [.nils, .int .i64 0, .int .i64 0, .nils, .nils, .bool false]) []]
abbrev r56_1 : List IOp := [o1 3 (.faddr 0) [.t 1],
  o1 4 (.load none) [.t 3],
  ⟨some 5, .call none, [.f 104, .t 4], none⟩,
  o1 6 (.faddr 3) [.t 1],
  o1 7 (.load none) [.t 6],
  ⟨some 8, .call none, [.f 105, .t 7], none⟩,
  o1 9 (.faddr 4) [.t 1],
  o1 10 (.load none) [.t 9],
  ⟨some 11, .call none, [.f 105, .t 10], none⟩,
  o1 12 (.faddr 0) [.t 1],
  ⟨none, .op (.store 1), [.t 12, .t 5], none⟩,
  o1 13 (.faddr 3) [.t 1],
  ⟨none, .op (.store 1), [.t 13, .t 8], none⟩,
  o1 14 (.faddr 4) [.t 1],
  ⟨none, .op (.store 1), [.t 14, .t 11], none⟩]
abbrev r56_2 : List IOp := [o1 15 (.load (some 6)) [.t 1],
  ⟨none, .op (.store 6), [.t 2, .t 15], none⟩]
abbrev c56 : IC := (IC.seq (IC.reg r56_0) (IC.seq (IC.regD .alloc r56_1 (.take 0 (.take 1 (.take 3 (.take 4 (.take 6 (.take 7 (.take 2 (.take 5 (.take 8 (.take 9 (.take 10 (.take 11 (.take 12 (.take 13 (.take 14 (.done))))))))))))))))) (IC.seq (IC.reg r56_2) IC.ret)))
abbrev g56 : FC := ⟨c56, 16, [.cell 2 (some 6)]⟩
theorem comp56 : compF Go.Proofs.Try.prog (hintL [(1, 7)]) 56 = some g56 := by kernel_rfl

-- outlaw/queue.known
abbrev r57_0 : List IOp := [o1 1 (.box 23) [.t 0],
  o1 2 (.mov) [.c (.bool false)]]
abbrev r57_1 : List IOp := [o1 3 (.faddr 0) [.t 1],
  o1 4 (.load none) [.t 3],
  o1 5 (.bin .geq .prim) [.t 4, .c (.int .i64 1)],
  mv 6 5,
  o2 7 (.faddr 0) [.t 1] 6 true,
  o2 8 (.load none) [.t 7] 6 true,
  o2 9 (.bin .leq .prim) [.t 8, .c (.int .i64 4)] 6 true,
  o1 10 (.pick) [.t 6, .t 9, .c (.bool false)],
  mv 2 10]
abbrev c57 : IC := (IC.seq (IC.reg r57_0) (IC.seq (IC.reg r57_1) IC.ret))
abbrev g57 : FC := ⟨c57, 11, [.t 2]⟩
theorem comp57 : compF Go.Proofs.Try.prog (fun _ => 0) 57 = some g57 := by kernel_rfl

-- slices.ContainsFunc[[]outlaw/api.Action,outlaw/api.Action]
abbrev r58_0 : List IOp := [o1 4 (.mov) [.c (.bool false)]]
abbrev r58_1 : List IOp := [mv 5 0,
  mv 6 1,
  ⟨some 7, .call none, [.f 106, .t 5, .t 6], none⟩,
  o1 8 (.bin .geq .prim) [.t 7, .c (.int .i64 0)],
  mv 4 8]
abbrev c58 : IC := (IC.seq (IC.reg r58_0) (IC.seq (IC.reg r58_1) IC.ret))
abbrev g58 : FC := ⟨c58, 9, [.t 4]⟩
theorem comp58 : compF Go.Proofs.Try.prog (fun _ => 0) 58 = some g58 := by kernel_rfl

-- outlaw/queue.actions
abbrev r59_0 : List IOp := [o1 1 (.box 29) [.t 0],
  o1 2 (.mov) [.c (.nils)]]
abbrev r59_1 : List IOp := [o1 3 (.mov) [.c (.nils)]]
abbrev r59_2 : List IOp := [o1 6 (.faddr 0) [.t 1],
  o1 7 (.load none) [.t 6],
  o1 8 (.len .slice) [.t 7],
  o1 9 (.mov) [.c (.int .i64 0)]]
abbrev r59_3 : List IOp := [o1 10 (.bin .lss .prim) [.t 9, .t 8]]
abbrev r59_4 : List IOp := [o1 11 (.iaddr 10) [.t 7, .t 9],
  o1 12 (.load (some 10)) [.t 11],
  o1 5 (.alloc 42 [.int .i64 0, .int .i64 0, .str [], .str [], .str [], .str [], .bool false, .bool false, .int .i64 0, .int .i64 0]) [],
  ⟨none, .op (.store 10), [.t 5, .t 12], none⟩]
abbrev r59_5 : List IOp := [mv 13 3,
  o1 14 (.faddr 1) [.t 5],
  o1 15 (.load (some 5)) [.t 14],
  o1 16 (.bsl 23 5 false) [.t 15],
  o1 17 (.app 23 5 72) [.t 13, .t 16],
  mv 3 17]
abbrev r59_6 : List IOp := [o1 18 (.bin .add .prim) [.t 9, .c (.int .i64 1)],
  mv 9 18]
abbrev b59_0 : IC := (IC.seq (IC.reg r59_3) (IC.seq (IC.cond (.t 10) IC.skip (IC.exit 0)) (IC.seq (IC.block 1 (IC.seq (IC.reg r59_4) (IC.reg r59_5))) (IC.reg r59_6))))
abbrev r59_7 : List IOp := [mv 19 3,
  o1 20 (.faddr 3) [.t 1],
  o1 21 (.load none) [.t 20],
  o1 22 (.faddr 4) [.t 1],
  o1 23 (.load none) [.t 22],
  o1 24 (.bsl 27 1 false) [.t 19, .t 21, .t 23],
  ⟨some 25, .call none, [.f 107, .t 24], none⟩,
  mv 2 25]
abbrev c59 : IC := (IC.seq (IC.reg r59_0) (IC.seq (IC.reg r59_1) (IC.seq (IC.seq (IC.reg r59_2) (IC.block 0 (IC.loop b59_0))) (IC.seq (IC.reg r59_7) IC.ret))))
abbrev g59 : FC := ⟨c59, 26, [.t 2]⟩
theorem comp59 : compF Go.Proofs.Try.prog (fun _ => 0) 59 = some g59 := by kernel_rfl

-- outlaw/queue.Put$1
abbrev r60_0 : List IOp := [o1 2 (.box 23) [.t 0],
  o1 3 (.mov) [.c (.bool false)]]
abbrev r60_1 : List IOp := [o1 4 (.load (some 5)) [.t 1],
  o1 5 (.load (some 5)) [.t 2],
  ⟨some 6, .call none, [.f 25, .t 4, .t 5], none⟩,
  mv 3 6]
abbrev c60 : IC := (IC.seq (IC.reg r60_0) (IC.seq (IC.reg r60_1) IC.ret))
abbrev g60 : FC := ⟨c60, 7, [.t 3]⟩
theorem comp60 : compF Go.Proofs.Try.prog (fun _ => 0) 60 = some g60 := by kernel_rfl

-- outlaw/queue.at
abbrev r61_0 : List IOp := [o1 2 (.box 29) [.t 0],
  o1 3 (.box 2) [.t 1],
  o1 4 (.mov) [.c (.int .i64 0)]]
abbrev r61_1 : List IOp := [o1 5 (.faddr 0) [.t 2],
  o1 6 (.load none) [.t 5],
  o1 7 (.mkfn 109) [.t 3],
  ⟨some 8, .call none, [.f 108, .t 6, .t 7], none⟩,
  mv 4 8]
abbrev c61 : IC := (IC.seq (IC.reg r61_0) (IC.seq (IC.reg r61_1) IC.ret))
abbrev g61 : FC := ⟨c61, 9, [.t 4]⟩
theorem comp61 : compF Go.Proofs.Try.prog (fun _ => 0) 61 = some g61 := by kernel_rfl

-- outlaw/queue.waits
abbrev r62_0 : List IOp := [o1 1 (.box 42) [.t 0],
  o1 2 (.mov) [.c (.bool false)]]
abbrev r62_1 : List IOp := [o1 3 (.faddr 6) [.t 1],
  o1 4 (.load none) [.t 3],
  o1 5 (.un .not) [.t 4],
  mv 6 5,
  o2 7 (.faddr 7) [.t 1] 6 true,
  o2 8 (.load none) [.t 7] 6 true,
  o2 9 (.un .not) [.t 8] 6 true,
  o1 10 (.pick) [.t 6, .t 9, .c (.bool false)],
  mv 2 10]
abbrev c62 : IC := (IC.seq (IC.reg r62_0) (IC.seq (IC.reg r62_1) IC.ret))
abbrev g62 : FC := ⟨c62, 11, [.t 2]⟩
theorem comp62 : compF Go.Proofs.Try.prog (fun _ => 0) 62 = some g62 := by kernel_rfl

-- outlaw/queue.flying
abbrev r63_0 : List IOp := [o1 1 (.box 29) [.t 0],
  o1 2 (.mov) [.c (.int .i64 0)]]
abbrev r63_1 : List IOp := [o1 3 (.mov) [.c (.int .i64 0)]]
abbrev r63_2 : List IOp := [o1 6 (.faddr 0) [.t 1],
  o1 7 (.load none) [.t 6],
  o1 8 (.len .slice) [.t 7],
  o1 9 (.mov) [.c (.int .i64 0)]]
abbrev r63_3 : List IOp := [o1 10 (.bin .lss .prim) [.t 9, .t 8]]
abbrev r63_4 : List IOp := [o1 11 (.iaddr 10) [.t 7, .t 9],
  o1 12 (.load (some 10)) [.t 11],
  o1 5 (.alloc 42 [.int .i64 0, .int .i64 0, .str [], .str [], .str [], .str [], .bool false, .bool false, .int .i64 0, .int .i64 0]) [],
  ⟨none, .op (.store 10), [.t 5, .t 12], none⟩]
abbrev r63_5 : List IOp := [o1 13 (.faddr 6) [.t 5],
  o1 14 (.load none) [.t 13]]
abbrev r63_6 : List IOp := [mv 15 3,
  o1 16 (.bin .add .prim) [.t 15, .c (.int .i64 1)],
  mv 3 16]
abbrev r63_7 : List IOp := [o1 17 (.bin .add .prim) [.t 9, .c (.int .i64 1)],
  mv 9 17]
abbrev b63_0 : IC := (IC.seq (IC.reg r63_3) (IC.seq (IC.cond (.t 10) IC.skip (IC.exit 0)) (IC.seq (IC.block 1 (IC.seq (IC.reg r63_4) (IC.seq (IC.reg r63_5) (IC.cond (.t 14) (IC.reg r63_6) IC.skip)))) (IC.reg r63_7))))
abbrev r63_8 : List IOp := [mv 18 3,
  mv 2 18]
abbrev c63 : IC := (IC.seq (IC.reg r63_0) (IC.seq (IC.reg r63_1) (IC.seq (IC.seq (IC.reg r63_2) (IC.block 0 (IC.loop b63_0))) (IC.seq (IC.reg r63_8) IC.ret))))
abbrev g63 : FC := ⟨c63, 19, [.t 2]⟩
theorem comp63 : compF Go.Proofs.Try.prog (fun _ => 0) 63 = some g63 := by kernel_rfl

-- slices.Delete[[]outlaw/api.Action,outlaw/api.Action]
abbrev r64_0 : List IOp := [o1 6 (.mov) [.c (.nils)]]
abbrev r64_1 : List IOp := [mv 8 0,
  mv 9 1,
  mv 10 2,
  mv 11 0,
  o1 12 (.len .slice) [.t 11],
  o1 13 (.slice 5 true true true) [.t 8, .t 9, .t 10, .t 12]]
abbrev r64_2 : List IOp := [mv 14 1,
  mv 15 2,
  o1 16 (.bin .eql .prim) [.t 14, .t 15]]
abbrev r64_3 : List IOp := [mv 17 0,
  mv 6 17]
abbrev r64_4 : List IOp := [mv 18 0,
  o1 19 (.len .slice) [.t 18],
  mv 7 19]
abbrev r64_5 : List IOp := [mv 20 0,
  mv 21 1,
  o1 22 (.slice 5 false true false) [.t 20, .t 21],
  mv 23 0,
  mv 24 2,
  o1 25 (.slice 5 true false false) [.t 23, .t 24],
  o1 26 (.app 23 5 72) [.t 22, .t 25],
  mv 0 26]
abbrev r64_6 : List IOp := [mv 27 0,
  mv 28 0,
  o1 29 (.len .slice) [.t 28],
  mv 30 7,
  o1 31 (.slice 5 true true false) [.t 27, .t 29, .t 30],
  ⟨none, .op (.clear [.int .i64 0, .str [], .str [], .str [], .str []]), [.t 31], none⟩]
abbrev r64_7 : List IOp := [mv 32 0,
  mv 6 32]
abbrev c64 : IC := (IC.seq (IC.reg r64_0) (IC.seq (IC.reg r64_1) (IC.seq (IC.seq (IC.reg r64_2) (IC.cond (.t 16) (IC.seq (IC.reg r64_3) IC.ret) IC.skip)) (IC.seq (IC.reg r64_4) (IC.seq (IC.regD .wild r64_5 (.take 0 (.take 1 (.take 2 (.take 3 (.take 4 (.take 5 (.take 6 (.take 7 (.done)))))))))) (IC.seq (IC.reg r64_6) (IC.seq (IC.reg r64_7) IC.ret)))))))
abbrev g64 : FC := ⟨c64, 33, [.t 6]⟩
theorem comp64 : compF Go.Proofs.Try.prog (hintL [(5, 6)]) 64 = some g64 := by kernel_rfl

-- slices.Delete[[]outlaw/api.Job,outlaw/api.Job]
abbrev r65_0 : List IOp := [o1 6 (.mov) [.c (.nils)]]
abbrev r65_1 : List IOp := [mv 8 0,
  mv 9 1,
  mv 10 2,
  mv 11 0,
  o1 12 (.len .slice) [.t 11],
  o1 13 (.slice 10 true true true) [.t 8, .t 9, .t 10, .t 12]]
abbrev r65_2 : List IOp := [mv 14 1,
  mv 15 2,
  o1 16 (.bin .eql .prim) [.t 14, .t 15]]
abbrev r65_3 : List IOp := [mv 17 0,
  mv 6 17]
abbrev r65_4 : List IOp := [mv 18 0,
  o1 19 (.len .slice) [.t 18],
  mv 7 19]
abbrev r65_5 : List IOp := [mv 20 0,
  mv 21 1,
  o1 22 (.slice 10 false true false) [.t 20, .t 21],
  mv 23 0,
  mv 24 2,
  o1 25 (.slice 10 true false false) [.t 23, .t 24],
  o1 26 (.app 42 10 104) [.t 22, .t 25],
  mv 0 26]
abbrev r65_6 : List IOp := [mv 27 0,
  mv 28 0,
  o1 29 (.len .slice) [.t 28],
  mv 30 7,
  o1 31 (.slice 10 true true false) [.t 27, .t 29, .t 30],
  ⟨none, .op (.clear [.int .i64 0, .int .i64 0, .str [], .str [], .str [], .str [], .bool false, .bool false, .int .i64 0, .int .i64 0]), [.t 31], none⟩]
abbrev r65_7 : List IOp := [mv 32 0,
  mv 6 32]
abbrev c65 : IC := (IC.seq (IC.reg r65_0) (IC.seq (IC.reg r65_1) (IC.seq (IC.seq (IC.reg r65_2) (IC.cond (.t 16) (IC.seq (IC.reg r65_3) IC.ret) IC.skip)) (IC.seq (IC.reg r65_4) (IC.seq (IC.regD .wild r65_5 (.take 0 (.take 1 (.take 2 (.take 3 (.take 4 (.take 5 (.take 6 (.take 7 (.done)))))))))) (IC.seq (IC.reg r65_6) (IC.seq (IC.reg r65_7) IC.ret)))))))
abbrev g65 : FC := ⟨c65, 33, [.t 6]⟩
theorem comp65 : compF Go.Proofs.Try.prog (hintL [(5, 6)]) 65 = some g65 := by kernel_rfl

-- outlaw/queue.Next$1
abbrev r66_0 : List IOp := [o1 1 (.box 42) [.t 0],
  o1 2 (.mov) [.c (.bool false)]]
abbrev r66_1 : List IOp := [o1 3 (.faddr 7) [.t 1],
  o1 4 (.load none) [.t 3],
  mv 5 4,
  o2 6 (.faddr 6) [.t 1] 5 true,
  o2 7 (.load none) [.t 6] 5 true,
  o2 8 (.un .not) [.t 7] 5 true,
  o1 9 (.pick) [.t 5, .t 8, .c (.bool false)],
  mv 2 9]
abbrev c66 : IC := (IC.seq (IC.reg r66_0) (IC.seq (IC.reg r66_1) IC.ret))
abbrev g66 : FC := ⟨c66, 10, [.t 2]⟩
theorem comp66 : compF Go.Proofs.Try.prog (fun _ => 0) 66 = some g66 := by kernel_rfl

-- outlaw/queue.Next$2
abbrev r67_0 : List IOp := [o1 2 (.box 42) [.t 0],
  o1 3 (.mov) [.c (.bool false)]]
abbrev r67_1 : List IOp := [o1 4 (.load (some 10)) [.t 2],
  ⟨some 5, .call none, [.f 62, .t 4], none⟩,
  mv 6 5,
  o2 7 (.faddr 9) [.t 2] 6 true,
  o2 8 (.load none) [.t 7] 6 true,
  o2 9 (.faddr 2) [.t 1] 6 true,
  o2 10 (.load none) [.t 9] 6 true,
  o2 11 (.bin .leq .prim) [.t 8, .t 10] 6 true,
  o1 12 (.pick) [.t 6, .t 11, .c (.bool false)],
  mv 3 12]
abbrev c67 : IC := (IC.seq (IC.reg r67_0) (IC.seq (IC.reg r67_1) IC.ret))
abbrev g67 : FC := ⟨c67, 13, [.t 3]⟩
theorem comp67 : compF Go.Proofs.Try.prog (fun _ => 0) 67 = some g67 := by kernel_rfl

-- slices.Contains[[]int64,int64]
abbrev r68_0 : List IOp := [o1 4 (.mov) [.c (.bool false)]]
abbrev r68_1 : List IOp := [mv 5 0,
  mv 6 1,
  ⟨some 7, .call none, [.f 110, .t 5, .t 6], none⟩,
  o1 8 (.bin .geq .prim) [.t 7, .c (.int .i64 0)],
  mv 4 8]
abbrev c68 : IC := (IC.seq (IC.reg r68_0) (IC.seq (IC.reg r68_1) IC.ret))
abbrev g68 : FC := ⟨c68, 9, [.t 4]⟩
theorem comp68 : compF Go.Proofs.Try.prog (fun _ => 0) 68 = some g68 := by kernel_rfl

-- outlaw/queue.Withdraw
abbrev r69_0 : List IOp := [o1 2 (.box 29) [.t 0],
  o1 3 (.box 27) [.t 1],
  o1 4 (.alloc 29 [.nils, .int .i64 0, .int .i64 0, .nils, .nils, .bool false]) [],
  o1 5 (.mov) [.c (.nils)]]
abbrev r69_1 : List IOp := [o1 7 (.load (some 6)) [.t 2],
  ⟨some 8, .call none, [.f 56, .t 7], none⟩,
  ⟨none, .op (.store 6), [.t 2, .t 8], none⟩]
abbrev r69_2 : List IOp := [o1 6 (.alloc 26 [.nils]) []]
abbrev r69_3 : List IOp := [o1 9 (.faddr 0) [.t 2],
  o1 10 (.load none) [.t 9],
  o1 11 (.mkfn 112) [.t 3, .t 6],
  ⟨some 12, .call none, [.f 111, .t 10, .t 11], none⟩,
  o1 13 (.faddr 0) [.t 2],
  ⟨none, .op (.store 1), [.t 13, .t 12], none⟩]
abbrev r69_4 : List IOp := [o1 14 (.faddr 4) [.t 2],
  o1 15 (.load none) [.t 14],
  o1 16 (.mkfn 115) [.t 3],
  ⟨some 17, .call none, [.f 114, .t 15, .t 16], none⟩,
  o1 18 (.faddr 4) [.t 2],
  ⟨none, .op (.store 1), [.t 18, .t 17], none⟩]
abbrev r69_5 : List IOp := [o1 19 (.load (some 6)) [.t 2],
  o1 20 (.load none) [.t 6],
  ⟨none, .op (.store 6), [.t 4, .t 19], none⟩,
  mv 5 20]
abbrev c69 : IC := (IC.seq (IC.reg r69_0) (IC.seq (IC.reg r69_1) (IC.seq (IC.reg r69_2) (IC.seq (IC.reg r69_3) (IC.seq (IC.reg r69_4) (IC.seq (IC.regD .wild r69_5 (.take 0 (.fork [(1, .take 2 (.take 3 (.done))), (2, .take 1 (.take 3 (.done)))]))) IC.ret))))))
abbrev g69 : FC := ⟨c69, 21, [.cell 4 (some 6), .t 5]⟩
theorem comp69 : compF Go.Proofs.Try.prog (hintL [(5, 6)]) 69 = some g69 := by kernel_rfl

-- outlaw/outlawkit.Own[outlaw/api.Job]
abbrev r70_0 : List IOp := [o1 2 (.mov) [.c (.nils)]]
abbrev r70_1 : List IOp := [o1 3 (.bsl 42 10 false) [],
  mv 4 0,
  o1 5 (.app 42 10 104) [.t 3, .t 4],
  mv 2 5]
abbrev c70 : IC := (IC.seq (IC.reg r70_0) (IC.seq (IC.reg r70_1) IC.ret))
abbrev g70 : FC := ⟨c70, 6, [.t 2]⟩
theorem comp70 : compF Go.Proofs.Try.prog (fun _ => 0) 70 = some g70 := by kernel_rfl

-- outlaw/queue.Check$1
abbrev r71_0 : List IOp := [o1 2 (.box 23) [.t 0],
  o1 3 (.mov) [.c (.bool false)]]
abbrev r71_1 : List IOp := [o1 4 (.load (some 5)) [.t 1],
  o1 5 (.load (some 5)) [.t 2],
  ⟨some 6, .call none, [.f 25, .t 4, .t 5], none⟩,
  mv 3 6]
abbrev c71 : IC := (IC.seq (IC.reg r71_0) (IC.seq (IC.reg r71_1) IC.ret))
abbrev g71 : FC := ⟨c71, 7, [.t 3]⟩
theorem comp71 : compF Go.Proofs.Try.prog (fun _ => 0) 71 = some g71 := by kernel_rfl

-- slices.Equal[[]outlaw/api.Job,outlaw/api.Job]
abbrev r72_0 : List IOp := [o1 4 (.mov) [.c (.bool false)]]
abbrev r72_1 : List IOp := [mv 6 0,
  o1 7 (.len .slice) [.t 6],
  mv 8 1,
  o1 9 (.len .slice) [.t 8],
  o1 10 (.bin .neq .prim) [.t 7, .t 9]]
abbrev r72_2 : List IOp := [o1 4 (.mov) [.c (.bool false)]]
abbrev r72_3 : List IOp := [mv 11 0,
  o1 12 (.len .slice) [.t 11],
  o1 13 (.mov) [.c (.int .i64 0)]]
abbrev r72_4 : List IOp := [o1 14 (.bin .lss .prim) [.t 13, .t 12]]
abbrev r72_5 : List IOp := [mv 15 13,
  mv 5 15]
abbrev r72_6 : List IOp := [mv 16 0,
  mv 17 5,
  o1 18 (.iaddr 10) [.t 16, .t 17],
  o1 19 (.load (some 10)) [.t 18],
  mv 20 1,
  mv 21 5,
  o1 22 (.iaddr 10) [.t 20, .t 21],
  o1 23 (.load (some 10)) [.t 22],
  o1 24 (.bin .neq (.st [.int, .int, .str, .str, .str, .str, .bool, .bool, .int, .int])) [.t 19, .t 23]]
abbrev r72_7 : List IOp := [o1 4 (.mov) [.c (.bool false)]]
abbrev r72_8 : List IOp := [o1 25 (.bin .add .prim) [.t 13, .c (.int .i64 1)],
  mv 13 25]
abbrev b72_0 : IC := (IC.seq (IC.reg r72_4) (IC.seq (IC.cond (.t 14) IC.skip (IC.exit 0)) (IC.seq (IC.block 1 (IC.seq (IC.reg r72_5) (IC.seq (IC.regD .wild r72_6 (.take 0 (.take 1 (.take 2 (.take 3 (.take 4 (.take 5 (.take 6 (.take 7 (.take 8 (.done))))))))))) (IC.cond (.t 24) (IC.seq (IC.reg r72_7) IC.ret) IC.skip)))) (IC.reg r72_8))))
abbrev r72_9 : List IOp := [o1 4 (.mov) [.c (.bool true)]]
abbrev c72 : IC := (IC.seq (IC.reg r72_0) (IC.seq (IC.seq (IC.reg r72_1) (IC.cond (.t 10) (IC.seq (IC.reg r72_2) IC.ret) IC.skip)) (IC.seq (IC.seq (IC.reg r72_3) (IC.block 0 (IC.loop b72_0))) (IC.seq (IC.reg r72_9) IC.ret))))
abbrev g72 : FC := ⟨c72, 26, [.t 4]⟩
theorem comp72 : compF Go.Proofs.Try.prog (hintL [(6, 6)]) 72 = some g72 := by kernel_rfl

-- slices.Equal[[]outlaw/api.Action,outlaw/api.Action]
abbrev r73_0 : List IOp := [o1 4 (.mov) [.c (.bool false)]]
abbrev r73_1 : List IOp := [mv 6 0,
  o1 7 (.len .slice) [.t 6],
  mv 8 1,
  o1 9 (.len .slice) [.t 8],
  o1 10 (.bin .neq .prim) [.t 7, .t 9]]
abbrev r73_2 : List IOp := [o1 4 (.mov) [.c (.bool false)]]
abbrev r73_3 : List IOp := [mv 11 0,
  o1 12 (.len .slice) [.t 11],
  o1 13 (.mov) [.c (.int .i64 0)]]
abbrev r73_4 : List IOp := [o1 14 (.bin .lss .prim) [.t 13, .t 12]]
abbrev r73_5 : List IOp := [mv 15 13,
  mv 5 15]
abbrev r73_6 : List IOp := [mv 16 0,
  mv 17 5,
  o1 18 (.iaddr 5) [.t 16, .t 17],
  o1 19 (.load (some 5)) [.t 18],
  mv 20 1,
  mv 21 5,
  o1 22 (.iaddr 5) [.t 20, .t 21],
  o1 23 (.load (some 5)) [.t 22],
  o1 24 (.bin .neq (.st [.int, .str, .str, .str, .str])) [.t 19, .t 23]]
abbrev r73_7 : List IOp := [o1 4 (.mov) [.c (.bool false)]]
abbrev r73_8 : List IOp := [o1 25 (.bin .add .prim) [.t 13, .c (.int .i64 1)],
  mv 13 25]
abbrev b73_0 : IC := (IC.seq (IC.reg r73_4) (IC.seq (IC.cond (.t 14) IC.skip (IC.exit 0)) (IC.seq (IC.block 1 (IC.seq (IC.reg r73_5) (IC.seq (IC.regD .wild r73_6 (.take 0 (.take 1 (.take 2 (.take 3 (.take 4 (.take 5 (.take 6 (.take 7 (.take 8 (.done))))))))))) (IC.cond (.t 24) (IC.seq (IC.reg r73_7) IC.ret) IC.skip)))) (IC.reg r73_8))))
abbrev r73_9 : List IOp := [o1 4 (.mov) [.c (.bool true)]]
abbrev c73 : IC := (IC.seq (IC.reg r73_0) (IC.seq (IC.seq (IC.reg r73_1) (IC.cond (.t 10) (IC.seq (IC.reg r73_2) IC.ret) IC.skip)) (IC.seq (IC.seq (IC.reg r73_3) (IC.block 0 (IC.loop b73_0))) (IC.seq (IC.reg r73_9) IC.ret))))
abbrev g73 : FC := ⟨c73, 26, [.t 4]⟩
theorem comp73 : compF Go.Proofs.Try.prog (hintL [(6, 6)]) 73 = some g73 := by kernel_rfl

-- slices.Clone[[]outlaw/api.Job,outlaw/api.Job]
abbrev r104_0 : List IOp := [o1 2 (.mov) [.c (.nils)]]
abbrev r104_1 : List IOp := [mv 3 0,
  o1 4 (.bin .eql .slice) [.t 3, .c (.nils)]]
abbrev r104_2 : List IOp := [o1 2 (.mov) [.c (.nils)]]
abbrev r104_3 : List IOp := [o1 5 (.bsl 42 10 false) [],
  mv 6 0,
  o1 7 (.app 42 10 104) [.t 5, .t 6],
  mv 2 7]
abbrev c104 : IC := (IC.seq (IC.reg r104_0) (IC.seq (IC.seq (IC.reg r104_1) (IC.cond (.t 4) (IC.seq (IC.reg r104_2) IC.ret) IC.skip)) (IC.seq (IC.reg r104_3) IC.ret)))
abbrev g104 : FC := ⟨c104, 8, [.t 2]⟩
theorem comp104 : compF Go.Proofs.Try.prog (fun _ => 0) 104 = some g104 := by kernel_rfl

-- slices.Clone[[]outlaw/api.Action,outlaw/api.Action]
abbrev r105_0 : List IOp := [o1 2 (.mov) [.c (.nils)]]
abbrev r105_1 : List IOp := [mv 3 0,
  o1 4 (.bin .eql .slice) [.t 3, .c (.nils)]]
abbrev r105_2 : List IOp := [o1 2 (.mov) [.c (.nils)]]
abbrev r105_3 : List IOp := [o1 5 (.bsl 23 5 false) [],
  mv 6 0,
  o1 7 (.app 23 5 72) [.t 5, .t 6],
  mv 2 7]
abbrev c105 : IC := (IC.seq (IC.reg r105_0) (IC.seq (IC.seq (IC.reg r105_1) (IC.cond (.t 4) (IC.seq (IC.reg r105_2) IC.ret) IC.skip)) (IC.seq (IC.reg r105_3) IC.ret)))
abbrev g105 : FC := ⟨c105, 8, [.t 2]⟩
theorem comp105 : compF Go.Proofs.Try.prog (fun _ => 0) 105 = some g105 := by kernel_rfl

-- slices.IndexFunc[[]outlaw/api.Action,outlaw/api.Action]
abbrev r106_0 : List IOp := [o1 4 (.mov) [.c (.int .i64 0)]]
abbrev r106_1 : List IOp := [mv 6 0,
  o1 7 (.len .slice) [.t 6],
  o1 8 (.mov) [.c (.int .i64 0)]]
abbrev r106_2 : List IOp := [o1 9 (.bin .lss .prim) [.t 8, .t 7]]
abbrev r106_3 : List IOp := [mv 10 8,
  mv 5 10]
abbrev r106_4 : List IOp := [mv 11 1,
  mv 12 0,
  mv 13 5,
  o1 14 (.iaddr 5) [.t 12, .t 13],
  o1 15 (.load (some 5)) [.t 14],
  ⟨some 16, .call none, [.t 11, .t 15], none⟩]
abbrev r106_5 : List IOp := [mv 17 5,
  mv 4 17]
abbrev r106_6 : List IOp := [o1 18 (.bin .add .prim) [.t 8, .c (.int .i64 1)],
  mv 8 18]
abbrev b106_0 : IC := (IC.seq (IC.reg r106_2) (IC.seq (IC.cond (.t 9) IC.skip (IC.exit 0)) (IC.seq (IC.block 1 (IC.seq (IC.reg r106_3) (IC.seq (IC.reg r106_4) (IC.cond (.t 16) (IC.seq (IC.reg r106_5) IC.ret) IC.skip)))) (IC.reg r106_6))))
abbrev r106_7 : List IOp := [o1 4 (.mov) [.c (.int .i64 (-1))]]
abbrev c106 : IC := (IC.seq (IC.reg r106_0) (IC.seq (IC.seq (IC.reg r106_1) (IC.block 0 (IC.loop b106_0))) (IC.seq (IC.reg r106_7) IC.ret)))
abbrev g106 : FC := ⟨c106, 19, [.t 4]⟩
theorem comp106 : compF Go.Proofs.Try.prog (fun _ => 0) 106 = some g106 := by kernel_rfl

-- slices.Concat[[]outlaw/api.Action,outlaw/api.Action]
abbrev r107_0 : List IOp := [o1 2 (.mov) [.c (.nils)]]
abbrev r107_1 : List IOp := [o1 3 (.mov) [.c (.int .i64 0)]]
abbrev r107_2 : List IOp := [mv 9 0,
  o1 10 (.len .slice) [.t 9],
  o1 11 (.mov) [.c (.int .i64 0)]]
abbrev r107_3 : List IOp := [o1 12 (.bin .lss .prim) [.t 11, .t 10]]
abbrev r107_4 : List IOp := [o1 13 (.iaddr 1) [.t 9, .t 11],
  o1 14 (.load none) [.t 13],
  mv 5 14]
abbrev r107_5 : List IOp := [mv 15 3,
  mv 16 5,
  o1 17 (.len .slice) [.t 16],
  o1 18 (.bin .add .prim) [.t 15, .t 17],
  mv 3 18]
abbrev r107_6 : List IOp := [mv 19 3,
  o1 20 (.bin .lss .prim) [.t 19, .c (.int .i64 0)]]
abbrev r107_7 : List IOp := [⟨some 21, .op (.mkif 9), [.c (.str [108, 101, 110, 32, 111, 117, 116, 32, 111, 102, 32, 114, 97, 110, 103, 101])], none⟩,
  ⟨none, .op (.never), [], none⟩]
abbrev r107_8 : List IOp := [o1 22 (.bin .add .prim) [.t 11, .c (.int .i64 1)],
  mv 11 22]
abbrev b107_0 : IC := (IC.seq (IC.reg r107_3) (IC.seq (IC.cond (.t 12) IC.skip (IC.exit 0)) (IC.seq (IC.block 1 (IC.seq (IC.reg r107_4) (IC.seq (IC.reg r107_5) (IC.seq (IC.reg r107_6) (IC.cond (.t 20) (IC.reg r107_7) IC.skip))))) (IC.reg r107_8))))
abbrev r107_9 : List IOp := [mv 23 3,
  ⟨some 24, .call none, [.f 129, .c (.nils), .t 23], none⟩,
  mv 6 24]
abbrev r107_10 : List IOp := [mv 25 0,
  o1 26 (.len .slice) [.t 25],
  o1 27 (.mov) [.c (.int .i64 0)]]
abbrev r107_11 : List IOp := [o1 28 (.bin .lss .prim) [.t 27, .t 26]]
abbrev r107_12 : List IOp := [o1 29 (.iaddr 1) [.t 25, .t 27],
  o1 30 (.load none) [.t 29],
  mv 8 30]
abbrev r107_13 : List IOp := [mv 31 6,
  mv 32 8,
  o1 33 (.app 23 5 72) [.t 31, .t 32],
  mv 6 33]
abbrev r107_14 : List IOp := [o1 34 (.bin .add .prim) [.t 27, .c (.int .i64 1)],
  mv 27 34]
abbrev b107_1 : IC := (IC.seq (IC.reg r107_11) (IC.seq (IC.cond (.t 28) IC.skip (IC.exit 2)) (IC.seq (IC.block 3 (IC.seq (IC.reg r107_12) (IC.reg r107_13))) (IC.reg r107_14))))
abbrev r107_15 : List IOp := [mv 35 6,
  mv 2 35]
abbrev c107 : IC := (IC.seq (IC.reg r107_0) (IC.seq (IC.reg r107_1) (IC.seq (IC.seq (IC.reg r107_2) (IC.block 0 (IC.loop b107_0))) (IC.seq (IC.reg r107_9) (IC.seq (IC.seq (IC.reg r107_10) (IC.block 2 (IC.loop b107_1))) (IC.seq (IC.reg r107_15) IC.ret))))))
abbrev g107 : FC := ⟨c107, 36, [.t 2]⟩
theorem comp107 : compF Go.Proofs.Try.prog (fun _ => 0) 107 = some g107 := by kernel_rfl

-- slices.IndexFunc[[]outlaw/api.Job,outlaw/api.Job]
abbrev r108_0 : List IOp := [o1 4 (.mov) [.c (.int .i64 0)]]
abbrev r108_1 : List IOp := [mv 6 0,
  o1 7 (.len .slice) [.t 6],
  o1 8 (.mov) [.c (.int .i64 0)]]
abbrev r108_2 : List IOp := [o1 9 (.bin .lss .prim) [.t 8, .t 7]]
abbrev r108_3 : List IOp := [mv 10 8,
  mv 5 10]
abbrev r108_4 : List IOp := [mv 11 1,
  mv 12 0,
  mv 13 5,
  o1 14 (.iaddr 10) [.t 12, .t 13],
  o1 15 (.load (some 10)) [.t 14],
  ⟨some 16, .call none, [.t 11, .t 15], none⟩]
abbrev r108_5 : List IOp := [mv 17 5,
  mv 4 17]
abbrev r108_6 : List IOp := [o1 18 (.bin .add .prim) [.t 8, .c (.int .i64 1)],
  mv 8 18]
abbrev b108_0 : IC := (IC.seq (IC.reg r108_2) (IC.seq (IC.cond (.t 9) IC.skip (IC.exit 0)) (IC.seq (IC.block 1 (IC.seq (IC.reg r108_3) (IC.seq (IC.reg r108_4) (IC.cond (.t 16) (IC.seq (IC.reg r108_5) IC.ret) IC.skip)))) (IC.reg r108_6))))
abbrev r108_7 : List IOp := [o1 4 (.mov) [.c (.int .i64 (-1))]]
abbrev c108 : IC := (IC.seq (IC.reg r108_0) (IC.seq (IC.seq (IC.reg r108_1) (IC.block 0 (IC.loop b108_0))) (IC.seq (IC.reg r108_7) IC.ret)))
abbrev g108 : FC := ⟨c108, 19, [.t 4]⟩
theorem comp108 : compF Go.Proofs.Try.prog (fun _ => 0) 108 = some g108 := by kernel_rfl

-- outlaw/queue.at$1
abbrev r109_0 : List IOp := [o1 2 (.box 42) [.t 0],
  o1 3 (.mov) [.c (.bool false)]]
abbrev r109_1 : List IOp := [o1 4 (.faddr 0) [.t 2],
  o1 5 (.load none) [.t 4],
  o1 6 (.load none) [.t 1],
  o1 7 (.bin .eql .prim) [.t 5, .t 6],
  mv 3 7]
abbrev c109 : IC := (IC.seq (IC.reg r109_0) (IC.seq (IC.reg r109_1) IC.ret))
abbrev g109 : FC := ⟨c109, 8, [.t 3]⟩
theorem comp109 : compF Go.Proofs.Try.prog (fun _ => 0) 109 = some g109 := by kernel_rfl

-- slices.Index[[]int64,int64]
abbrev r110_0 : List IOp := [o1 4 (.mov) [.c (.int .i64 0)]]
abbrev r110_1 : List IOp := [mv 6 0,
  o1 7 (.len .slice) [.t 6],
  o1 8 (.mov) [.c (.int .i64 0)]]
abbrev r110_2 : List IOp := [o1 9 (.bin .lss .prim) [.t 8, .t 7]]
abbrev r110_3 : List IOp := [mv 10 8,
  mv 5 10]
abbrev r110_4 : List IOp := [mv 11 1,
  mv 12 0,
  mv 13 5,
  o1 14 (.iaddr 1) [.t 12, .t 13],
  o1 15 (.load none) [.t 14],
  o1 16 (.bin .eql .prim) [.t 11, .t 15]]
abbrev r110_5 : List IOp := [mv 17 5,
  mv 4 17]
abbrev r110_6 : List IOp := [o1 18 (.bin .add .prim) [.t 8, .c (.int .i64 1)],
  mv 8 18]
abbrev b110_0 : IC := (IC.seq (IC.reg r110_2) (IC.seq (IC.cond (.t 9) IC.skip (IC.exit 0)) (IC.seq (IC.block 1 (IC.seq (IC.reg r110_3) (IC.seq (IC.reg r110_4) (IC.cond (.t 16) (IC.seq (IC.reg r110_5) IC.ret) IC.skip)))) (IC.reg r110_6))))
abbrev r110_7 : List IOp := [o1 4 (.mov) [.c (.int .i64 (-1))]]
abbrev c110 : IC := (IC.seq (IC.reg r110_0) (IC.seq (IC.seq (IC.reg r110_1) (IC.block 0 (IC.loop b110_0))) (IC.seq (IC.reg r110_7) IC.ret)))
abbrev g110 : FC := ⟨c110, 19, [.t 4]⟩
theorem comp110 : compF Go.Proofs.Try.prog (fun _ => 0) 110 = some g110 := by kernel_rfl

-- slices.DeleteFunc[[]outlaw/api.Job,outlaw/api.Job]
abbrev r111_0 : List IOp := [o1 4 (.mov) [.c (.nils)]]
abbrev r111_1 : List IOp := [mv 8 0,
  mv 9 1,
  ⟨some 10, .call none, [.f 108, .t 8, .t 9], none⟩,
  mv 5 10]
abbrev r111_2 : List IOp := [mv 11 5,
  o1 12 (.bin .eql .prim) [.t 11, .c (.int .i64 (-1))]]
abbrev r111_3 : List IOp := [mv 13 0,
  mv 4 13]
abbrev r111_4 : List IOp := [mv 14 5,
  o1 15 (.bin .add .prim) [.t 14, .c (.int .i64 1)],
  mv 6 15]
abbrev r111_5 : List IOp := [mv 16 6,
  mv 17 0,
  o1 18 (.len .slice) [.t 17],
  o1 19 (.bin .lss .prim) [.t 16, .t 18]]
abbrev r111_6 : List IOp := [mv 22 0,
  mv 23 6,
  o1 24 (.iaddr 10) [.t 22, .t 23],
  o1 25 (.load (some 10)) [.t 24],
  o1 7 (.alloc 42 [.int .i64 0, .int .i64 0, .str [], .str [], .str [], .str [], .bool false, .bool false, .int .i64 0, .int .i64 0]) [],
  ⟨none, .op (.store 10), [.t 7, .t 25], none⟩]
abbrev r111_7 : List IOp := [mv 26 1,
  o1 27 (.load (some 10)) [.t 7],
  ⟨some 28, .call none, [.t 26, .t 27], none⟩,
  o1 29 (.un .not) [.t 28]]
abbrev r111_8 : List IOp := [mv 30 0,
  mv 31 5,
  o1 32 (.load (some 10)) [.t 7],
  o1 33 (.iaddr 10) [.t 30, .t 31],
  ⟨none, .op (.store 10), [.t 33, .t 32], none⟩]
abbrev r111_9 : List IOp := [mv 34 5,
  o1 35 (.bin .add .prim) [.t 34, .c (.int .i64 1)],
  mv 5 35]
abbrev r111_10 : List IOp := [mv 20 6,
  o1 21 (.bin .add .prim) [.t 20, .c (.int .i64 1)],
  mv 6 21]
abbrev b111_0 : IC := (IC.seq (IC.seq (IC.reg r111_5) (IC.cond (.t 19) IC.skip (IC.exit 0))) (IC.seq (IC.block 1 (IC.seq (IC.reg r111_6) (IC.seq (IC.reg r111_7) (IC.cond (.t 29) (IC.seq (IC.reg r111_8) (IC.reg r111_9)) IC.skip)))) (IC.reg r111_10)))
abbrev r111_11 : List IOp := [mv 36 0,
  mv 37 5,
  o1 38 (.slice 10 true false false) [.t 36, .t 37],
  ⟨none, .op (.clear [.int .i64 0, .int .i64 0, .str [], .str [], .str [], .str [], .bool false, .bool false, .int .i64 0, .int .i64 0]), [.t 38], none⟩]
abbrev r111_12 : List IOp := [mv 39 0,
  mv 40 5,
  o1 41 (.slice 10 false true false) [.t 39, .t 40],
  mv 4 41]
abbrev c111 : IC := (IC.seq (IC.reg r111_0) (IC.seq (IC.reg r111_1) (IC.seq (IC.seq (IC.reg r111_2) (IC.cond (.t 12) (IC.seq (IC.reg r111_3) IC.ret) IC.skip)) (IC.seq (IC.seq (IC.reg r111_4) (IC.block 0 (IC.loop b111_0))) (IC.seq (IC.reg r111_11) (IC.seq (IC.reg r111_12) IC.ret))))))
abbrev g111 : FC := ⟨c111, 42, [.t 4]⟩
theorem comp111 : compF Go.Proofs.Try.prog (fun _ => 0) 111 = some g111 := by kernel_rfl

-- outlaw/queue.Withdraw$1
abbrev r112_0 : List IOp := [o1 3 (.box 42) [.t 0],
  o1 4 (.mov) [.c (.bool false)]]
abbrev r112_1 : List IOp := [o1 6 (.load (some 10)) [.t 3],
  ⟨some 7, .call none, [.f 62, .t 6], none⟩,
  mv 8 7,
  o2 9 (.load none) [.t 1] 8 true,
  o2 10 (.faddr 1) [.t 3] 8 true,
  o2 11 (.load (some 5)) [.t 10] 8 true,
  ⟨some 12, .call none, [.f 113, .t 9, .t 11], some (8, true)⟩,
  o2 13 (.un .not) [.t 12] 8 true,
  o1 14 (.pick) [.t 8, .t 13, .c (.bool false)],
  mv 5 14]
abbrev r112_2 : List IOp := [mv 15 5]
abbrev r112_3 : List IOp := [o1 16 (.load none) [.t 2],
  o1 17 (.load (some 10)) [.t 3],
  o1 18 (.bsl 42 10 false) [.t 17],
  o1 19 (.app 42 10 104) [.t 16, .t 18],
  ⟨none, .op (.store 1), [.t 2, .t 19], none⟩]
abbrev r112_4 : List IOp := [mv 20 5,
  mv 4 20]
abbrev c112 : IC := (IC.seq (IC.reg r112_0) (IC.seq (IC.reg r112_1) (IC.seq (IC.seq (IC.reg r112_2) (IC.cond (.t 15) (IC.reg r112_3) IC.skip)) (IC.seq (IC.reg r112_4) IC.ret))))
abbrev g112 : FC := ⟨c112, 21, [.t 4]⟩
theorem comp112 : compF Go.Proofs.Try.prog (fun _ => 0) 112 = some g112 := by kernel_rfl

-- slices.Contains[[]outlaw/api.Action,outlaw/api.Action]
abbrev r113_0 : List IOp := [o1 3 (.box 23) [.t 1],
  o1 4 (.mov) [.c (.bool false)]]
abbrev r113_1 : List IOp := [mv 5 0,
  o1 6 (.load (some 5)) [.t 3],
  ⟨some 7, .call none, [.f 130, .t 5, .t 6], none⟩,
  o1 8 (.bin .geq .prim) [.t 7, .c (.int .i64 0)],
  mv 4 8]
abbrev c113 : IC := (IC.seq (IC.reg r113_0) (IC.seq (IC.reg r113_1) IC.ret))
abbrev g113 : FC := ⟨c113, 9, [.t 4]⟩
theorem comp113 : compF Go.Proofs.Try.prog (fun _ => 0) 113 = some g113 := by kernel_rfl

-- slices.DeleteFunc[[]outlaw/api.Action,outlaw/api.Action]
abbrev r114_0 : List IOp := [o1 4 (.mov) [.c (.nils)]]
abbrev r114_1 : List IOp := [mv 8 0,
  mv 9 1,
  ⟨some 10, .call none, [.f 106, .t 8, .t 9], none⟩,
  mv 5 10]
abbrev r114_2 : List IOp := [mv 11 5,
  o1 12 (.bin .eql .prim) [.t 11, .c (.int .i64 (-1))]]
abbrev r114_3 : List IOp := [mv 13 0,
  mv 4 13]
abbrev r114_4 : List IOp := [mv 14 5,
  o1 15 (.bin .add .prim) [.t 14, .c (.int .i64 1)],
  mv 6 15]
abbrev r114_5 : List IOp := [mv 16 6,
  mv 17 0,
  o1 18 (.len .slice) [.t 17],
  o1 19 (.bin .lss .prim) [.t 16, .t 18]]
abbrev r114_6 : List IOp := [mv 22 0,
  mv 23 6,
  o1 24 (.iaddr 5) [.t 22, .t 23],
  o1 25 (.load (some 5)) [.t 24],
  o1 7 (.alloc 23 [.int .i64 0, .str [], .str [], .str [], .str []]) [],
  ⟨none, .op (.store 5), [.t 7, .t 25], none⟩]
abbrev r114_7 : List IOp := [mv 26 1,
  o1 27 (.load (some 5)) [.t 7],
  ⟨some 28, .call none, [.t 26, .t 27], none⟩,
  o1 29 (.un .not) [.t 28]]
abbrev r114_8 : List IOp := [mv 30 0,
  mv 31 5,
  o1 32 (.load (some 5)) [.t 7],
  o1 33 (.iaddr 5) [.t 30, .t 31],
  ⟨none, .op (.store 5), [.t 33, .t 32], none⟩]
abbrev r114_9 : List IOp := [mv 34 5,
  o1 35 (.bin .add .prim) [.t 34, .c (.int .i64 1)],
  mv 5 35]
abbrev r114_10 : List IOp := [mv 20 6,
  o1 21 (.bin .add .prim) [.t 20, .c (.int .i64 1)],
  mv 6 21]
abbrev b114_0 : IC := (IC.seq (IC.seq (IC.reg r114_5) (IC.cond (.t 19) IC.skip (IC.exit 0))) (IC.seq (IC.block 1 (IC.seq (IC.reg r114_6) (IC.seq (IC.reg r114_7) (IC.cond (.t 29) (IC.seq (IC.reg r114_8) (IC.reg r114_9)) IC.skip)))) (IC.reg r114_10)))
abbrev r114_11 : List IOp := [mv 36 0,
  mv 37 5,
  o1 38 (.slice 5 true false false) [.t 36, .t 37],
  ⟨none, .op (.clear [.int .i64 0, .str [], .str [], .str [], .str []]), [.t 38], none⟩]
abbrev r114_12 : List IOp := [mv 39 0,
  mv 40 5,
  o1 41 (.slice 5 false true false) [.t 39, .t 40],
  mv 4 41]
abbrev c114 : IC := (IC.seq (IC.reg r114_0) (IC.seq (IC.reg r114_1) (IC.seq (IC.seq (IC.reg r114_2) (IC.cond (.t 12) (IC.seq (IC.reg r114_3) IC.ret) IC.skip)) (IC.seq (IC.seq (IC.reg r114_4) (IC.block 0 (IC.loop b114_0))) (IC.seq (IC.reg r114_11) (IC.seq (IC.reg r114_12) IC.ret))))))
abbrev g114 : FC := ⟨c114, 42, [.t 4]⟩
theorem comp114 : compF Go.Proofs.Try.prog (fun _ => 0) 114 = some g114 := by kernel_rfl

-- outlaw/queue.Withdraw$2
abbrev r115_0 : List IOp := [o1 2 (.box 23) [.t 0],
  o1 3 (.mov) [.c (.bool false)]]
abbrev r115_1 : List IOp := [o1 4 (.load none) [.t 1],
  o1 5 (.load (some 5)) [.t 2],
  ⟨some 6, .call none, [.f 113, .t 4, .t 5], none⟩,
  o1 7 (.un .not) [.t 6],
  mv 3 7]
abbrev c115 : IC := (IC.seq (IC.reg r115_0) (IC.seq (IC.reg r115_1) IC.ret))
abbrev g115 : FC := ⟨c115, 8, [.t 3]⟩
theorem comp115 : compF Go.Proofs.Try.prog (fun _ => 0) 115 = some g115 := by kernel_rfl

-- slices.Grow[[]outlaw/api.Action,outlaw/api.Action]
abbrev r129_0 : List IOp := [o1 4 (.mov) [.c (.nils)]]
abbrev r129_1 : List IOp := [mv 5 1,
  o1 6 (.bin .lss .prim) [.t 5, .c (.int .i64 0)]]
abbrev r129_2 : List IOp := [⟨some 7, .op (.mkif 9), [.c (.str [99, 97, 110, 110, 111, 116, 32, 98, 101, 32, 110, 101, 103, 97, 116, 105, 118, 101])], none⟩,
  ⟨none, .op (.never), [], none⟩]
abbrev r129_3 : List IOp := [mv 8 1,
  mv 9 0,
  o1 10 (.cap) [.t 9],
  mv 11 0,
  o1 12 (.len .slice) [.t 11],
  o1 13 (.bin .sub .prim) [.t 10, .t 12],
  o1 14 (.bin .sub .prim) [.t 8, .t 13],
  mv 1 14]
abbrev r129_4 : List IOp := [mv 15 1,
  o1 16 (.bin .gtr .prim) [.t 15, .c (.int .i64 0)]]
abbrev r129_5 : List IOp := [mv 17 0,
  mv 18 0,
  o1 19 (.cap) [.t 18],
  o1 20 (.slice 5 false true false) [.t 17, .t 19],
  mv 21 1,
  o1 22 (.appz 23 [.int .i64 0, .str [], .str [], .str [], .str []] 72) [.t 20, .t 21],
  mv 23 0,
  o1 24 (.len .slice) [.t 23],
  o1 25 (.slice 5 false true false) [.t 22, .t 24],
  mv 0 25]
abbrev r129_6 : List IOp := [mv 26 0,
  mv 4 26]
abbrev c129 : IC := (IC.seq (IC.reg r129_0) (IC.seq (IC.seq (IC.reg r129_1) (IC.cond (.t 6) (IC.reg r129_2) IC.skip)) (IC.seq (IC.seq (IC.reg r129_3) (IC.seq (IC.reg r129_4) (IC.cond (.t 16) (IC.reg r129_5) IC.skip))) (IC.seq (IC.reg r129_6) IC.ret))))
abbrev g129 : FC := ⟨c129, 27, [.t 4]⟩
theorem comp129 : compF Go.Proofs.Try.prog (fun _ => 0) 129 = some g129 := by kernel_rfl

-- slices.Index[[]outlaw/api.Action,outlaw/api.Action]
abbrev r130_0 : List IOp := [o1 3 (.box 23) [.t 1],
  o1 4 (.mov) [.c (.int .i64 0)]]
abbrev r130_1 : List IOp := [mv 6 0,
  o1 7 (.len .slice) [.t 6],
  o1 8 (.mov) [.c (.int .i64 0)]]
abbrev r130_2 : List IOp := [o1 9 (.bin .lss .prim) [.t 8, .t 7]]
abbrev r130_3 : List IOp := [mv 10 8,
  mv 5 10]
abbrev r130_4 : List IOp := [o1 11 (.load (some 5)) [.t 3],
  mv 12 0,
  mv 13 5,
  o1 14 (.iaddr 5) [.t 12, .t 13],
  o1 15 (.load (some 5)) [.t 14],
  o1 16 (.bin .eql (.st [.int, .str, .str, .str, .str])) [.t 11, .t 15]]
abbrev r130_5 : List IOp := [mv 17 5,
  mv 4 17]
abbrev r130_6 : List IOp := [o1 18 (.bin .add .prim) [.t 8, .c (.int .i64 1)],
  mv 8 18]
abbrev b130_0 : IC := (IC.seq (IC.reg r130_2) (IC.seq (IC.cond (.t 9) IC.skip (IC.exit 0)) (IC.seq (IC.block 1 (IC.seq (IC.reg r130_3) (IC.seq (IC.regD .wild r130_4 (.take 0 (.take 1 (.take 2 (.take 3 (.take 4 (.take 5 (.done)))))))) (IC.cond (.t 16) (IC.seq (IC.reg r130_5) IC.ret) IC.skip)))) (IC.reg r130_6))))
abbrev r130_7 : List IOp := [o1 4 (.mov) [.c (.int .i64 (-1))]]
abbrev c130 : IC := (IC.seq (IC.reg r130_0) (IC.seq (IC.seq (IC.reg r130_1) (IC.block 0 (IC.loop b130_0))) (IC.seq (IC.reg r130_7) IC.ret)))
abbrev g130 : FC := ⟨c130, 19, [.t 4]⟩
theorem comp130 : compF Go.Proofs.Try.prog (hintL [(4, 6)]) 130 = some g130 := by kernel_rfl

end Go.Gi
