/- Functions of the program in the form of the abstract machine, printed by a program; each is checked against the translation. -/
import Derived.Test.YtakdhioafodhcaaGiAU
import Derived.Test.YtakdhioafodhcaaProg
import Derived.KernelRfl
set_option linter.unusedVariables false
namespace Go.Gi
open Go
abbrev mv (d s : Nat) : IOp := ⟨some d, .op .mov, [.t s], none⟩
abbrev o1 (d : Nat) (r : ROp) (xs : List Opd) : IOp := ⟨some d, .op r, xs, none⟩
abbrev o2 (d : Nat) (r : ROp) (xs : List Opd) (g : Nat) (b : Bool) : IOp := ⟨some d, .op r, xs, some (g, b)⟩
abbrev ca (d : Nat) (xs : List Opd) : IOp := ⟨some d, .call none, xs, none⟩
abbrev sr (n : Nat) (xs : List Opd) : IOp := ⟨none, .op (.store n), xs, none⟩
def hintL (l : List (Nat × Nat)) (i : Nat) : Nat := (l.lookup i).getD 0
-- outlaw/outlawlaw22.QueueScript
abbrev r6_0 : List IOp := [o1 4 (.box 29) [.t 0],
  o1 8 (.mov) [.c (.bool false)]]
abbrev r6_1 : List IOp := [ca 28 [.f 10],
  o1 29 (.un .not) [.t 28]]
abbrev r6_2 : List IOp := [o1 8 (.mov) [.c (.bool false)]]
abbrev r6_3 : List IOp := [mv 30 1,
  ca 31 [.f 21, .t 30],
  o1 32 (.un .not) [.t 31],
  mv 33 32,
  o2 34 (.load (some 6)) [.t 4] 33 false,
  ⟨some 35, .call none, [.f 26, .t 34], some (33, false)⟩,
  o2 36 (.un .not) [.t 35] 33 false,
  o1 37 (.pick) [.t 33, .c (.bool true), .t 36],
  mv 38 37,
  o2 39 (.mov) [.t 2] 38 false,
  o2 40 (.len .slice) [.t 39] 38 false,
  o2 41 (.bin .gtr .prim) [.t 40, .c (.int .i64 40)] 38 false,
  o1 42 (.pick) [.t 38, .c (.bool true), .t 41]]
abbrev r6_4 : List IOp := [o1 8 (.mov) [.c (.bool true)]]
abbrev r6_5 : List IOp := [o1 43 (.load (some 6)) [.t 4],
  ca 44 [.f 27, .t 43],
  o1 45 (.load (some 6)) [.t 4],
  ca 46 [.f 29, .t 45],
  o1 47 (.bin .neq .prim) [.t 44, .t 46],
  mv 48 47,
  o2 49 (.mov) [.t 3] 48 false,
  ⟨some 50, .call none, [.f 30, .t 49], some (48, false)⟩,
  o2 51 (.mov) [.t 3] 48 false,
  ⟨some 52, .call none, [.f 31, .t 51], some (48, false)⟩,
  o2 53 (.bin .neq .prim) [.t 50, .t 52] 48 false,
  o1 54 (.pick) [.t 48, .c (.bool true), .t 53],
  mv 55 54,
  o2 56 (.load (some 6)) [.t 4] 55 false,
  o2 57 (.load (some 6)) [.t 4] 55 false,
  ⟨some 58, .call none, [.f 23, .t 57], some (55, false)⟩,
  ⟨some 59, .call none, [.f 28, .t 56, .t 58], some (55, false)⟩,
  o2 60 (.un .not) [.t 59] 55 false,
  o1 61 (.pick) [.t 55, .c (.bool true), .t 60]]
abbrev r6_6 : List IOp := [o1 8 (.mov) [.c (.bool false)]]
abbrev r6_7 : List IOp := [o1 62 (.load (some 6)) [.t 4],
  ca 63 [.f 29, .t 62],
  o1 64 (.bin .neq .prim) [.t 63, .c (.int .i64 0)]]
abbrev r6_8 : List IOp := [o1 65 (.bst [.nils, .int .i64 0, .int .i64 0, .nils, .nils, .bool false] [(0, 1), (1, 1), (2, 1), (3, 1), (4, 1), (5, 1)] [1]) [.c (.int .i64 1)],
  ca 66 [.f 32, .t 65],
  sr 6 [.t 4, .t 66]]
abbrev r6_9 : List IOp := [o1 9 (.mov) [.c (.int .i64 0)]]
abbrev r6_10 : List IOp := [mv 67 9,
  mv 68 1,
  o1 69 (.len .slice) [.t 68],
  o1 70 (.bin .lss .prim) [.t 67, .t 69]]
abbrev r6_11 : List IOp := [o1 74 (.load (some 6)) [.t 4],
  ca 75 [.f 23, .t 74],
  mv 76 1,
  mv 77 9,
  o1 78 (.iaddr 10) [.t 76, .t 77],
  o1 79 (.load (some 10)) [.t 78],
  ca 80 [.f 22, .t 75, .t 79],
  mv 73 80,
  o1 81 (.extract 0) [.t 73],
  o1 82 (.extract 1) [.t 73],
  o1 83 (.extract 2) [.t 73],
  o1 84 (.extract 3) [.t 73],
  o1 85 (.extract 4) [.t 73],
  o1 10 (.alloc 29 [.nils, .int .i64 0, .int .i64 0, .nils, .nils, .bool false]) [],
  sr 6 [.t 10, .t 81],
  mv 11 82,
  mv 12 83,
  mv 13 84,
  mv 14 85]
abbrev r6_12 : List IOp := [o1 87 (.load (some 6)) [.t 4],
  mv 88 1,
  mv 89 9,
  o1 90 (.iaddr 10) [.t 88, .t 89],
  o1 91 (.load (some 10)) [.t 90],
  ca 92 [.f 33, .t 87, .t 91],
  mv 86 92,
  o1 93 (.extract 0) [.t 86],
  o1 94 (.extract 1) [.t 86],
  o1 95 (.extract 2) [.t 86],
  o1 96 (.extract 3) [.t 86],
  o1 97 (.extract 4) [.t 86],
  o1 15 (.alloc 29 [.nils, .int .i64 0, .int .i64 0, .nils, .nils, .bool false]) [],
  sr 6 [.t 15, .t 93],
  mv 16 94,
  mv 17 95,
  mv 18 96,
  mv 19 97]
abbrev r6_13 : List IOp := [o1 99 (.load (some 6)) [.t 15],
  mv 100 2,
  ca 101 [.f 20, .t 99, .t 100],
  mv 98 101,
  o1 102 (.extract 0) [.t 98],
  o1 103 (.extract 1) [.t 98],
  o1 20 (.alloc 42 [.int .i64 0, .int .i64 0, .str [], .str [], .str [], .str [], .bool false, .bool false, .int .i64 0, .int .i64 0]) [],
  sr 10 [.t 20, .t 102],
  mv 21 103]
abbrev r6_14 : List IOp := [o1 105 (.load (some 6)) [.t 15],
  mv 106 2,
  ca 107 [.f 34, .t 105, .t 106],
  mv 104 107,
  o1 108 (.extract 0) [.t 104],
  o1 109 (.extract 1) [.t 104],
  o1 22 (.alloc 42 [.int .i64 0, .int .i64 0, .str [], .str [], .str [], .str [], .bool false, .bool false, .int .i64 0, .int .i64 0]) [],
  sr 10 [.t 22, .t 108],
  mv 23 109]
abbrev r6_15 : List IOp := [o1 111 (.load (some 6)) [.t 15],
  mv 112 1,
  mv 113 9,
  o1 114 (.iaddr 10) [.t 112, .t 113],
  o1 115 (.faddr 6) [.t 114],
  o1 116 (.load none) [.t 115],
  ca 117 [.f 35, .t 111, .t 116],
  mv 110 117,
  o1 118 (.extract 0) [.t 110],
  o1 119 (.extract 1) [.t 110],
  o1 24 (.alloc 42 [.int .i64 0, .int .i64 0, .str [], .str [], .str [], .str [], .bool false, .bool false, .int .i64 0, .int .i64 0]) [],
  sr 10 [.t 24, .t 118],
  mv 25 119]
abbrev r6_16 : List IOp := [o1 121 (.load (some 6)) [.t 15],
  mv 122 1,
  mv 123 9,
  o1 124 (.iaddr 10) [.t 122, .t 123],
  o1 125 (.faddr 6) [.t 124],
  o1 126 (.load none) [.t 125],
  ca 127 [.f 36, .t 121, .t 126],
  mv 120 127,
  o1 128 (.extract 0) [.t 120],
  o1 129 (.extract 1) [.t 120],
  o1 26 (.alloc 42 [.int .i64 0, .int .i64 0, .str [], .str [], .str [], .str [], .bool false, .bool false, .int .i64 0, .int .i64 0]) [],
  sr 10 [.t 26, .t 128],
  mv 27 129]
abbrev r6_17 : List IOp := [o1 130 (.load (some 6)) [.t 10],
  o1 131 (.load (some 6)) [.t 15],
  ca 132 [.f 37, .t 130, .t 131],
  o1 133 (.un .not) [.t 132],
  mv 134 133,
  o2 135 (.mov) [.t 11] 134 false,
  o2 136 (.mov) [.t 16] 134 false,
  o2 137 (.bin .neq .prim) [.t 135, .t 136] 134 false,
  o1 138 (.pick) [.t 134, .c (.bool true), .t 137],
  mv 139 138,
  o2 140 (.mov) [.t 12] 139 false,
  o2 141 (.mov) [.t 17] 139 false,
  o2 142 (.bin .neq .prim) [.t 140, .t 141] 139 false,
  o1 143 (.pick) [.t 139, .c (.bool true), .t 142],
  mv 144 143,
  o2 145 (.mov) [.t 13] 144 false,
  o2 146 (.mov) [.t 18] 144 false,
  o2 147 (.bin .neq .prim) [.t 145, .t 146] 144 false,
  o1 148 (.pick) [.t 144, .c (.bool true), .t 147],
  mv 149 148,
  o2 150 (.mov) [.t 14] 149 false,
  o2 151 (.mov) [.t 19] 149 false,
  ⟨some 152, .call none, [.f 38, .t 150, .t 151], some (149, false)⟩,
  o2 153 (.un .not) [.t 152] 149 false,
  o1 154 (.pick) [.t 149, .c (.bool true), .t 153],
  mv 155 154,
  o2 156 (.load (some 10)) [.t 20] 155 false,
  o2 157 (.load (some 10)) [.t 22] 155 false,
  o2 158 (.bin .neq (.st [.int, .int, .str, .str, .str, .str, .bool, .bool, .int, .int])) [.t 156, .t 157] 155 false,
  o1 159 (.pick) [.t 155, .c (.bool true), .t 158],
  mv 160 159,
  o2 161 (.mov) [.t 21] 160 false,
  o2 162 (.mov) [.t 23] 160 false,
  o2 163 (.bin .neq .bool) [.t 161, .t 162] 160 false,
  o1 164 (.pick) [.t 160, .c (.bool true), .t 163],
  mv 165 164,
  o2 166 (.load (some 10)) [.t 24] 165 false,
  o2 167 (.load (some 10)) [.t 26] 165 false,
  o2 168 (.bin .neq (.st [.int, .int, .str, .str, .str, .str, .bool, .bool, .int, .int])) [.t 166, .t 167] 165 false,
  o1 169 (.pick) [.t 165, .c (.bool true), .t 168],
  mv 170 169,
  o2 171 (.mov) [.t 25] 170 false,
  o2 172 (.mov) [.t 27] 170 false,
  o2 173 (.bin .neq .bool) [.t 171, .t 172] 170 false,
  o1 174 (.pick) [.t 170, .c (.bool true), .t 173],
  mv 175 174,
  o2 176 (.load (some 6)) [.t 10] 175 false,
  o2 177 (.load (some 6)) [.t 4] 175 false,
  ⟨some 178, .call none, [.f 28, .t 176, .t 177], some (175, false)⟩,
  o2 179 (.load (some 6)) [.t 15] 175 false,
  o2 180 (.load (some 6)) [.t 4] 175 false,
  ⟨some 181, .call none, [.f 37, .t 179, .t 180], some (175, false)⟩,
  o2 182 (.bin .neq .bool) [.t 178, .t 181] 175 false,
  o1 183 (.pick) [.t 175, .c (.bool true), .t 182],
  mv 184 183,
  o2 185 (.mov) [.t 1] 184 false,
  o2 186 (.iaddr 10) [.t 185, .c (.int .i64 0)] 184 false,
  o2 187 (.faddr 1) [.t 186] 184 false,
  o2 188 (.load (some 5)) [.t 187] 184 false,
  o2 189 (.mov) [.t 1] 184 false,
  o2 190 (.mov) [.t 9] 184 false,
  o2 191 (.iaddr 10) [.t 189, .t 190] 184 false,
  o2 192 (.faddr 1) [.t 191] 184 false,
  o2 193 (.load (some 5)) [.t 192] 184 false,
  ⟨some 194, .call none, [.f 25, .t 188, .t 193], some (184, false)⟩,
  o2 195 (.mov) [.t 1] 184 false,
  o2 196 (.iaddr 10) [.t 195, .c (.int .i64 0)] 184 false,
  o2 197 (.faddr 1) [.t 196] 184 false,
  o2 198 (.load (some 5)) [.t 197] 184 false,
  o2 199 (.mov) [.t 1] 184 false,
  o2 200 (.mov) [.t 9] 184 false,
  o2 201 (.iaddr 10) [.t 199, .t 200] 184 false,
  o2 202 (.faddr 1) [.t 201] 184 false,
  o2 203 (.load (some 5)) [.t 202] 184 false,
  ⟨some 204, .call none, [.f 39, .t 198, .t 203], some (184, false)⟩,
  o2 205 (.bin .neq .bool) [.t 194, .t 204] 184 false,
  o1 206 (.pick) [.t 184, .c (.bool true), .t 205]]
abbrev r6_18 : List IOp := [o1 8 (.mov) [.c (.bool false)]]
abbrev r6_19 : List IOp := [o1 207 (.load (some 6)) [.t 15],
  sr 6 [.t 4, .t 207]]
abbrev r6_20 : List IOp := [mv 71 9,
  o1 72 (.bin .add .prim) [.t 71, .c (.int .i64 1)],
  mv 9 72]
abbrev b6_0 : IC := (IC.seq (IC.seq (IC.reg r6_10) (IC.cond (.t 70) IC.skip (IC.exit 0))) (IC.seq (IC.block 1 (IC.seq (IC.regD .wild r6_11 (.take 0 (.take 2 (.take 3 (.take 4 (.fork [(1, .take 5 (.fork [(6, .take 7 (.take 8 (.take 9 (.take 10 (.take 11 (.take 12 (.take 13 (.take 14 (.take 15 (.take 16 (.take 17 (.take 18 (.done))))))))))))), (13, .take 6 (.take 7 (.take 8 (.take 9 (.take 10 (.take 11 (.take 12 (.take 14 (.take 15 (.take 16 (.take 17 (.take 18 (.done)))))))))))))])), (5, .fork [(1, .fork [(6, .take 7 (.take 8 (.take 9 (.take 10 (.take 11 (.take 12 (.take 13 (.take 14 (.take 15 (.take 16 (.take 17 (.take 18 (.done))))))))))))), (13, .take 6 (.take 7 (.take 8 (.take 9 (.take 10 (.take 11 (.take 12 (.take 14 (.take 15 (.take 16 (.take 17 (.take 18 (.done)))))))))))))]), (13, .take 1 (.take 6 (.take 7 (.take 8 (.take 9 (.take 10 (.take 11 (.take 12 (.take 14 (.take 15 (.take 16 (.take 17 (.take 18 (.done))))))))))))))]), (13, .fork [(1, .take 5 (.take 6 (.take 7 (.take 8 (.take 9 (.take 10 (.take 11 (.take 12 (.take 14 (.take 15 (.take 16 (.take 17 (.take 18 (.done)))))))))))))), (5, .take 1 (.take 6 (.take 7 (.take 8 (.take 9 (.take 10 (.take 11 (.take 12 (.take 14 (.take 15 (.take 16 (.take 17 (.take 18 (.done))))))))))))))])])))))) (IC.seq (IC.regD .wild r6_12 (.take 0 (.take 1 (.take 2 (.take 3 (.take 4 (.fork [(5, .take 6 (.take 7 (.take 8 (.take 9 (.take 10 (.take 11 (.take 12 (.take 13 (.take 14 (.take 15 (.take 16 (.take 17 (.done))))))))))))), (12, .take 5 (.take 6 (.take 7 (.take 8 (.take 9 (.take 10 (.take 11 (.take 13 (.take 14 (.take 15 (.take 16 (.take 17 (.done)))))))))))))]))))))) (IC.seq (IC.reg r6_13) (IC.seq (IC.reg r6_14) (IC.seq (IC.regD .wild r6_15 (.take 0 (.take 1 (.take 2 (.take 3 (.take 4 (.take 5 (.fork [(6, .take 7 (.take 8 (.take 9 (.take 10 (.take 11 (.take 12 (.done))))))), (10, .take 6 (.take 7 (.take 8 (.take 9 (.take 11 (.take 12 (.done)))))))])))))))) (IC.seq (IC.regD .wild r6_16 (.take 0 (.take 1 (.take 2 (.take 3 (.take 4 (.take 5 (.fork [(6, .take 7 (.take 8 (.take 9 (.take 10 (.take 11 (.take 12 (.done))))))), (10, .take 6 (.take 7 (.take 8 (.take 9 (.take 11 (.take 12 (.done)))))))])))))))) (IC.seq (IC.seq (IC.regD .alloc r6_17 (.take 0 (.take 1 (.take 2 (.take 3 (.take 4 (.take 5 (.take 6 (.take 7 (.take 8 (.take 9 (.take 10 (.take 11 (.take 12 (.take 13 (.take 14 (.take 15 (.take 16 (.take 17 (.take 18 (.take 19 (.take 20 (.take 21 (.take 22 (.take 23 (.take 24 (.take 25 (.take 26 (.take 27 (.take 28 (.take 29 (.take 30 (.take 31 (.take 32 (.take 33 (.take 34 (.take 35 (.take 36 (.take 37 (.take 38 (.take 39 (.take 40 (.take 41 (.take 42 (.take 43 (.take 44 (.take 45 (.take 46 (.take 47 (.take 49 (.take 50 (.take 48 (.take 51 (.take 52 (.take 53 (.take 54 (.take 55 (.take 56 (.take 57 (.take 58 (.take 59 (.take 60 (.take 61 (.take 62 (.take 63 (.take 65 (.take 66 (.take 67 (.take 68 (.take 69 (.take 70 (.take 71 (.take 72 (.take 73 (.take 64 (.take 74 (.take 75 (.take 76 (.done))))))))))))))))))))))))))))))))))))))))))))))))))))))))))))))))))))))))))))))) (IC.cond (.t 206) (IC.seq (IC.reg r6_18) IC.ret) IC.skip)) (IC.reg r6_19))))))))) (IC.reg r6_20)))
abbrev r6_21 : List IOp := [o1 8 (.mov) [.c (.bool true)]]
abbrev c6 : IC := (IC.seq (IC.reg r6_0) (IC.seq (IC.seq (IC.reg r6_1) (IC.cond (.t 29) (IC.seq (IC.reg r6_2) IC.ret) IC.skip)) (IC.seq (IC.seq (IC.reg r6_3) (IC.cond (.t 42) (IC.seq (IC.reg r6_4) IC.ret) IC.skip)) (IC.seq (IC.seq (IC.regD .alloc r6_5 (.take 0 (.take 2 (.take 1 (.take 3 (.take 4 (.take 5 (.take 6 (.take 7 (.take 8 (.take 9 (.take 10 (.take 11 (.take 12 (.take 13 (.take 14 (.take 15 (.take 16 (.take 17 (.take 18 (.done))))))))))))))))))))) (IC.cond (.t 61) (IC.seq (IC.reg r6_6) IC.ret) IC.skip)) (IC.seq (IC.seq (IC.reg r6_7) (IC.cond (.t 64) (IC.reg r6_8) IC.skip)) (IC.seq (IC.seq (IC.reg r6_9) (IC.block 0 (IC.loop b6_0))) (IC.seq (IC.reg r6_21) IC.ret)))))))
abbrev g6 : FC := ⟨c6, 208, [.t 8]⟩
theorem comp6 : compF Go.Proofs.Try.prog (hintL [(5, 7), (12, 6), (13, 6), (16, 6), (17, 6), (18, 7)]) 6 = some g6 := by kernel_rfl

-- outlaw/outlawlaw22.lives
abbrev r10_0 : List IOp := [o1 0 (.mov) [.c (.bool false)]]
abbrev r10_1 : List IOp := [ca 16 [.f 13],
  ca 17 [.f 54, .c (.str [64, 97, 58, 98])],
  ca 18 [.f 12, .t 16, .t 17],
  mv 15 18,
  o1 19 (.extract 0) [.t 15],
  o1 20 (.extract 1) [.t 15],
  o1 21 (.extract 2) [.t 15],
  o1 1 (.alloc 29 [.nils, .int .i64 0, .int .i64 0, .nils, .nils, .bool false]) [],
  sr 6 [.t 1, .t 19],
  mv 2 20,
  mv 3 21]
abbrev r10_2 : List IOp := [o1 23 (.load (some 6)) [.t 1],
  ca 24 [.f 14, .t 23, .c (.int .i64 1)],
  mv 22 24,
  o1 25 (.extract 0) [.t 22],
  o1 26 (.extract 1) [.t 22],
  sr 6 [.t 1, .t 25],
  mv 4 26]
abbrev r10_3 : List IOp := [o1 28 (.load (some 6)) [.t 1],
  ca 29 [.f 55, .t 28],
  ca 30 [.f 20, .t 29, .c (.nils)],
  mv 27 30,
  o1 31 (.extract 0) [.t 27],
  o1 32 (.extract 1) [.t 27],
  o1 5 (.alloc 42 [.int .i64 0, .int .i64 0, .str [], .str [], .str [], .str [], .bool false, .bool false, .int .i64 0, .int .i64 0]) [],
  sr 10 [.t 5, .t 31],
  mv 6 32]
abbrev r10_4 : List IOp := [o1 34 (.load (some 6)) [.t 1],
  ca 35 [.f 15, .t 34, .c (.int .i64 1), .c (.bool false)],
  mv 33 35,
  o1 36 (.extract 0) [.t 33],
  o1 37 (.extract 1) [.t 33],
  o1 38 (.extract 2) [.t 33],
  o1 7 (.alloc 29 [.nils, .int .i64 0, .int .i64 0, .nils, .nils, .bool false]) [],
  sr 6 [.t 7, .t 36],
  mv 8 37,
  mv 9 38]
abbrev r10_5 : List IOp := [o1 40 (.load (some 6)) [.t 7],
  ca 41 [.f 20, .t 40, .c (.nils)],
  mv 39 41,
  o1 42 (.extract 0) [.t 39],
  o1 43 (.extract 1) [.t 39],
  o1 10 (.alloc 42 [.int .i64 0, .int .i64 0, .str [], .str [], .str [], .str [], .bool false, .bool false, .int .i64 0, .int .i64 0]) [],
  sr 10 [.t 10, .t 42],
  mv 11 43]
abbrev r10_6 : List IOp := [o1 45 (.load (some 6)) [.t 7],
  ca 46 [.f 19, .t 45, .c (.int .i64 2)],
  mv 44 46,
  o1 47 (.extract 0) [.t 44],
  o1 48 (.extract 1) [.t 44],
  sr 6 [.t 7, .t 47],
  mv 12 48]
abbrev r10_7 : List IOp := [o1 50 (.load (some 6)) [.t 7],
  ca 51 [.f 20, .t 50, .c (.nils)],
  mv 49 51,
  o1 52 (.extract 0) [.t 49],
  o1 53 (.extract 1) [.t 49],
  o1 13 (.alloc 42 [.int .i64 0, .int .i64 0, .str [], .str [], .str [], .str [], .bool false, .bool false, .int .i64 0, .int .i64 0]) [],
  sr 10 [.t 13, .t 52],
  mv 14 53]
abbrev r10_8 : List IOp := [mv 54 3,
  o1 55 (.bin .eql .prim) [.t 54, .c (.int .i64 0)],
  mv 56 55,
  o2 57 (.mov) [.t 2] 56 true,
  o2 58 (.bin .eql .prim) [.t 57, .c (.int .i64 1)] 56 true,
  o1 59 (.pick) [.t 56, .t 58, .c (.bool false)],
  mv 60 59,
  o2 61 (.mov) [.t 4] 60 true,
  o2 62 (.bin .eql .prim) [.t 61, .c (.int .i64 0)] 60 true,
  o1 63 (.pick) [.t 60, .t 62, .c (.bool false)],
  mv 64 63,
  o2 65 (.mov) [.t 6] 64 true,
  o1 66 (.pick) [.t 64, .t 65, .c (.bool false)],
  mv 67 66,
  o2 68 (.faddr 0) [.t 5] 67 true,
  o2 69 (.load none) [.t 68] 67 true,
  o2 70 (.bin .eql .prim) [.t 69, .c (.int .i64 1)] 67 true,
  o1 71 (.pick) [.t 67, .t 70, .c (.bool false)],
  mv 72 71,
  o2 73 (.faddr 7) [.t 5] 72 true,
  o2 74 (.load none) [.t 73] 72 true,
  o1 75 (.pick) [.t 72, .t 74, .c (.bool false)],
  mv 76 75,
  o2 77 (.mov) [.t 9] 76 true,
  o2 78 (.bin .eql .prim) [.t 77, .c (.int .i64 0)] 76 true,
  o1 79 (.pick) [.t 76, .t 78, .c (.bool false)],
  mv 80 79,
  o2 81 (.mov) [.t 8] 80 true,
  o2 82 (.bin .eql .prim) [.t 81, .c (.int .i64 2)] 80 true,
  o1 83 (.pick) [.t 80, .t 82, .c (.bool false)],
  mv 84 83,
  o2 85 (.mov) [.t 11] 84 true,
  o2 86 (.un .not) [.t 85] 84 true,
  o1 87 (.pick) [.t 84, .t 86, .c (.bool false)],
  mv 88 87,
  o2 89 (.mov) [.t 12] 88 true,
  o2 90 (.bin .eql .prim) [.t 89, .c (.int .i64 0)] 88 true,
  o1 91 (.pick) [.t 88, .t 90, .c (.bool false)],
  mv 92 91,
  o2 93 (.mov) [.t 14] 92 true,
  o1 94 (.pick) [.t 92, .t 93, .c (.bool false)],
  mv 95 94,
  o2 96 (.faddr 0) [.t 13] 95 true,
  o2 97 (.load none) [.t 96] 95 true,
  o2 98 (.bin .eql .prim) [.t 97, .c (.int .i64 1)] 95 true,
  o1 99 (.pick) [.t 95, .t 98, .c (.bool false)],
  mv 0 99]
abbrev c10 : IC := (IC.seq (IC.reg r10_0) (IC.seq (IC.reg r10_1) (IC.seq (IC.reg r10_2) (IC.seq (IC.reg r10_3) (IC.seq (IC.reg r10_4) (IC.seq (IC.reg r10_5) (IC.seq (IC.reg r10_6) (IC.seq (IC.reg r10_7) (IC.seq (IC.reg r10_8) IC.ret)))))))))
abbrev g10 : FC := ⟨c10, 100, [.t 0]⟩
theorem comp10 : compF Go.Proofs.Try.prog (fun _ => 0) 10 = some g10 := by kernel_rfl

-- outlaw/outlawkit.LightAction
abbrev r11_0 : List IOp := [o1 1 (.box 23) [.t 0],
  o1 2 (.mov) [.c (.bool false)]]
abbrev r11_1 : List IOp := [o1 3 (.faddr 1) [.t 1],
  o1 4 (.load none) [.t 3],
  o1 5 (.len .str) [.t 4],
  o1 6 (.bin .leq .prim) [.t 5, .c (.int .i64 300)],
  mv 7 6,
  o2 8 (.faddr 2) [.t 1] 7 true,
  o2 9 (.load none) [.t 8] 7 true,
  o2 10 (.len .str) [.t 9] 7 true,
  o2 11 (.bin .leq .prim) [.t 10, .c (.int .i64 300)] 7 true,
  o1 12 (.pick) [.t 7, .t 11, .c (.bool false)],
  mv 13 12,
  o2 14 (.faddr 3) [.t 1] 13 true,
  o2 15 (.load none) [.t 14] 13 true,
  o2 16 (.len .str) [.t 15] 13 true,
  o2 17 (.bin .leq .prim) [.t 16, .c (.int .i64 300)] 13 true,
  o1 18 (.pick) [.t 13, .t 17, .c (.bool false)],
  mv 19 18,
  o2 20 (.faddr 4) [.t 1] 19 true,
  o2 21 (.load none) [.t 20] 19 true,
  o2 22 (.len .str) [.t 21] 19 true,
  o2 23 (.bin .leq .prim) [.t 22, .c (.int .i64 3000)] 19 true,
  o1 24 (.pick) [.t 19, .t 23, .c (.bool false)],
  mv 2 24]
abbrev c11 : IC := (IC.seq (IC.reg r11_0) (IC.seq (IC.reg r11_1) IC.ret))
abbrev g11 : FC := ⟨c11, 25, [.t 2]⟩
theorem comp11 : compF Go.Proofs.Try.prog (fun _ => 0) 11 = some g11 := by kernel_rfl

-- outlaw/queue.Empty
abbrev r13_0 : List IOp := [o1 0 (.alloc 29 [.nils, .int .i64 0, .int .i64 0, .nils, .nils, .bool false]) []]
abbrev r13_1 : List IOp := [o1 1 (.bst [.nils, .int .i64 0, .int .i64 0, .nils, .nils, .bool false] [(0, 1), (1, 1), (2, 1), (3, 1), (4, 1), (5, 1)] [1]) [.c (.int .i64 1)],
  sr 6 [.t 0, .t 1]]
abbrev c13 : IC := (IC.seq (IC.reg r13_0) (IC.seq (IC.reg r13_1) IC.ret))
abbrev g13 : FC := ⟨c13, 2, [.cell 0 (some 6)]⟩
theorem comp13 : compF Go.Proofs.Try.prog (fun _ => 0) 13 = some g13 := by kernel_rfl

-- outlaw/queue.Put
abbrev r12_0 : List IOp := [o1 2 (.box 29) [.t 0],
  o1 3 (.box 23) [.t 1],
  o1 4 (.alloc 29 [.nils, .int .i64 0, .int .i64 0, .nils, .nils, .bool false]) [],
  o1 5 (.mov) [.c (.int .i64 0)],
  o1 6 (.mov) [.c (.int .i64 0)]]
abbrev r12_1 : List IOp := [o1 8 (.load (some 6)) [.t 2],
  ca 9 [.f 56, .t 8],
  sr 6 [.t 2, .t 9]]
abbrev r12_2 : List IOp := [o1 11 (.load (some 5)) [.t 3],
  ca 12 [.f 57, .t 11],
  o1 13 (.un .not) [.t 12],
  mv 10 13]
abbrev r12_3 : List IOp := [o1 14 (.load (some 6)) [.t 2],
  sr 6 [.t 4, .t 14],
  o1 5 (.mov) [.c (.int .i64 0)],
  o1 6 (.mov) [.c (.int .i64 2)]]
abbrev r12_4 : List IOp := [o1 16 (.load (some 6)) [.t 2],
  ca 17 [.f 59, .t 16],
  o1 18 (.mkfn 60) [.t 3],
  ca 19 [.f 58, .t 17, .t 18],
  mv 15 19]
abbrev r12_5 : List IOp := [o1 20 (.load (some 6)) [.t 2],
  sr 6 [.t 4, .t 20],
  o1 5 (.mov) [.c (.int .i64 0)],
  o1 6 (.mov) [.c (.int .i64 8)]]
abbrev r12_6 : List IOp := [o1 22 (.faddr 0) [.t 2],
  o1 23 (.load none) [.t 22],
  o1 24 (.len .slice) [.t 23],
  o1 25 (.bin .geq .prim) [.t 24, .c (.int .i64 32)],
  mv 26 25,
  o2 27 (.faddr 1) [.t 2] 26 false,
  o2 28 (.load none) [.t 27] 26 false,
  o2 29 (.bin .geq .prim) [.t 28, .c (.int .i64 1152921504606846976)] 26 false,
  o1 30 (.pick) [.t 26, .c (.bool true), .t 29],
  mv 21 30]
abbrev r12_7 : List IOp := [o1 31 (.faddr 5) [.t 2],
  sr 1 [.t 31, .c (.bool true)]]
abbrev r12_8 : List IOp := [o1 32 (.load (some 6)) [.t 2],
  sr 6 [.t 4, .t 32],
  o1 5 (.mov) [.c (.int .i64 0)],
  o1 6 (.mov) [.c (.int .i64 13)]]
abbrev r12_9 : List IOp := [o1 33 (.faddr 1) [.t 2],
  o1 34 (.load none) [.t 33],
  mv 7 34]
abbrev r12_10 : List IOp := [o1 35 (.faddr 0) [.t 2],
  o1 36 (.load none) [.t 35],
  mv 37 7,
  o1 38 (.load (some 5)) [.t 3],
  o1 39 (.faddr 2) [.t 2],
  o1 40 (.load none) [.t 39],
  o1 41 (.bst [.int .i64 0, .int .i64 0, .str [], .str [], .str [], .str [], .bool false, .bool false, .int .i64 0, .int .i64 0] [(0, 1), (1, 5), (6, 1), (7, 1), (8, 1), (9, 1)] [0, 1, 5]) [.t 37, .t 38, .t 40],
  o1 42 (.bsl 42 10 false) [.t 41],
  o1 43 (.app 42 10 104) [.t 36, .t 42],
  o1 44 (.faddr 0) [.t 2],
  sr 1 [.t 44, .t 43]]
abbrev r12_11 : List IOp := [o1 45 (.faddr 1) [.t 2],
  o1 46 (.load none) [.t 45],
  o1 47 (.bin .add .prim) [.t 46, .c (.int .i64 1)],
  o1 48 (.faddr 1) [.t 2],
  sr 1 [.t 48, .t 47]]
abbrev r12_12 : List IOp := [o1 49 (.load (some 6)) [.t 2],
  mv 50 7,
  sr 6 [.t 4, .t 49],
  mv 5 50,
  o1 6 (.mov) [.c (.int .i64 0)]]
abbrev c12 : IC := (IC.seq (IC.reg r12_0) (IC.seq (IC.reg r12_1) (IC.seq (IC.block 0 (IC.seq (IC.reg r12_2) (IC.cond (.t 10) (IC.seq (IC.reg r12_3) IC.ret) (IC.seq (IC.reg r12_4) (IC.cond (.t 15) (IC.seq (IC.reg r12_5) IC.ret) (IC.seq (IC.reg r12_6) (IC.cond (.t 21) (IC.seq (IC.reg r12_7) (IC.seq (IC.reg r12_8) IC.ret)) IC.skip))))))) (IC.seq (IC.reg r12_9) (IC.seq (IC.reg r12_10) (IC.seq (IC.reg r12_11) (IC.seq (IC.reg r12_12) IC.ret)))))))
abbrev g12 : FC := ⟨c12, 51, [.cell 4 (some 6), .t 5, .t 6]⟩
theorem comp12 : compF Go.Proofs.Try.prog (fun _ => 0) 12 = some g12 := by kernel_rfl

-- outlaw/queue.Send
abbrev r14_0 : List IOp := [o1 2 (.box 29) [.t 0],
  o1 4 (.alloc 29 [.nils, .int .i64 0, .int .i64 0, .nils, .nils, .bool false]) [],
  o1 5 (.mov) [.c (.int .i64 0)]]
abbrev r14_1 : List IOp := [o1 7 (.load (some 6)) [.t 2],
  ca 8 [.f 56, .t 7],
  sr 6 [.t 2, .t 8]]
abbrev r14_2 : List IOp := [o1 9 (.load (some 6)) [.t 2],
  mv 10 1,
  ca 11 [.f 61, .t 9, .t 10],
  mv 6 11]
abbrev r14_3 : List IOp := [mv 13 6,
  o1 14 (.bin .lss .prim) [.t 13, .c (.int .i64 0)],
  mv 12 14]
abbrev r14_4 : List IOp := [o1 15 (.load (some 6)) [.t 2],
  sr 6 [.t 4, .t 15],
  o1 5 (.mov) [.c (.int .i64 12)]]
abbrev r14_5 : List IOp := [o1 17 (.faddr 0) [.t 2],
  o1 18 (.load none) [.t 17],
  mv 19 6,
  o1 20 (.iaddr 10) [.t 18, .t 19],
  o1 21 (.faddr 6) [.t 20],
  o1 22 (.load none) [.t 21],
  mv 16 22]
abbrev r14_6 : List IOp := [o1 23 (.faddr 0) [.t 2],
  o1 24 (.load none) [.t 23],
  mv 25 6,
  o1 26 (.iaddr 10) [.t 24, .t 25],
  o1 27 (.load (some 10)) [.t 26],
  ca 28 [.f 62, .t 27],
  mv 29 28,
  o2 30 (.faddr 0) [.t 2] 29 true,
  o2 31 (.load none) [.t 30] 29 true,
  o2 32 (.mov) [.t 6] 29 true,
  o2 33 (.iaddr 10) [.t 31, .t 32] 29 true,
  o2 34 (.faddr 9) [.t 33] 29 true,
  o2 35 (.load none) [.t 34] 29 true,
  o2 36 (.faddr 2) [.t 2] 29 true,
  o2 37 (.load none) [.t 36] 29 true,
  o2 38 (.bin .gtr .prim) [.t 35, .t 37] 29 true,
  o1 39 (.pick) [.t 29, .t 38, .c (.bool false)],
  mv 16 39]
abbrev r14_7 : List IOp := [o1 40 (.load (some 6)) [.t 2],
  ca 41 [.f 63, .t 40],
  o1 42 (.bin .geq .prim) [.t 41, .c (.int .i64 4)],
  mv 16 42]
abbrev r14_8 : List IOp := [o1 43 (.load (some 6)) [.t 2],
  sr 6 [.t 4, .t 43],
  o1 5 (.mov) [.c (.int .i64 14)]]
abbrev r14_9 : List IOp := [o1 44 (.faddr 0) [.t 2],
  o1 45 (.load none) [.t 44],
  mv 46 6,
  o1 47 (.iaddr 10) [.t 45, .t 46],
  o1 48 (.faddr 6) [.t 47],
  sr 1 [.t 48, .c (.bool true)]]
abbrev r14_10 : List IOp := [o1 49 (.load (some 6)) [.t 2],
  sr 6 [.t 4, .t 49],
  o1 5 (.mov) [.c (.int .i64 0)]]
abbrev c14 : IC := (IC.seq (IC.reg r14_0) (IC.seq (IC.reg r14_1) (IC.seq (IC.reg r14_2) (IC.seq (IC.block 0 (IC.seq (IC.reg r14_3) (IC.cond (.t 12) (IC.seq (IC.reg r14_4) IC.ret) (IC.seq (IC.seq (IC.reg r14_5) (IC.cond (.t 16) IC.skip (IC.seq (IC.regD .wild r14_6 (.take 0 (.take 1 (.take 2 (.take 3 (.take 4 (.take 5 (.take 6 (.take 7 (.take 8 (.take 9 (.take 10 (.take 11 (.take 12 (.take 13 (.take 14 (.take 15 (.take 16 (.take 17 (.done)))))))))))))))))))) (IC.cond (.t 16) IC.skip (IC.reg r14_7))))) (IC.cond (.t 16) (IC.seq (IC.reg r14_8) IC.ret) IC.skip))))) (IC.seq (IC.reg r14_9) (IC.seq (IC.reg r14_10) IC.ret))))))
abbrev g14 : FC := ⟨c14, 50, [.cell 4 (some 6), .t 5]⟩
theorem comp14 : compF Go.Proofs.Try.prog (hintL [(6, 6)]) 14 = some g14 := by kernel_rfl

-- outlaw/queue.Reply
abbrev r15_0 : List IOp := [o1 3 (.box 29) [.t 0],
  o1 6 (.alloc 29 [.nils, .int .i64 0, .int .i64 0, .nils, .nils, .bool false]) [],
  o1 7 (.mov) [.c (.int .i64 0)],
  o1 8 (.mov) [.c (.int .i64 0)]]
abbrev r15_1 : List IOp := [o1 12 (.load (some 6)) [.t 3],
  ca 13 [.f 56, .t 12],
  sr 6 [.t 3, .t 13]]
abbrev r15_2 : List IOp := [o1 14 (.load (some 6)) [.t 3],
  mv 15 1,
  ca 16 [.f 61, .t 14, .t 15],
  mv 9 16]
abbrev r15_3 : List IOp := [mv 17 9,
  o1 18 (.bin .lss .prim) [.t 17, .c (.int .i64 0)]]
abbrev r15_4 : List IOp := [o1 19 (.load (some 6)) [.t 3],
  sr 6 [.t 6, .t 19],
  o1 7 (.mov) [.c (.int .i64 0)],
  o1 8 (.mov) [.c (.int .i64 12)]]
abbrev r15_5 : List IOp := [o1 20 (.faddr 0) [.t 3],
  o1 21 (.load none) [.t 20],
  mv 22 9,
  o1 23 (.iaddr 10) [.t 21, .t 22],
  o1 24 (.load (some 10)) [.t 23],
  o1 10 (.alloc 42 [.int .i64 0, .int .i64 0, .str [], .str [], .str [], .str [], .bool false, .bool false, .int .i64 0, .int .i64 0]) [],
  sr 10 [.t 10, .t 24]]
abbrev r15_6 : List IOp := [o1 11 (.mov) [.c (.int .i64 2)]]
abbrev r15_7 : List IOp := [o1 26 (.load (some 10)) [.t 10],
  ca 27 [.f 62, .t 26],
  mv 25 27]
abbrev r15_8 : List IOp := [o1 28 (.load (some 6)) [.t 3],
  sr 6 [.t 6, .t 28],
  o1 7 (.mov) [.c (.int .i64 0)],
  o1 8 (.mov) [.c (.int .i64 14)]]
abbrev r15_9 : List IOp := [mv 30 2,
  mv 29 30]
abbrev r15_10 : List IOp := [o1 11 (.mov) [.c (.int .i64 1)]]
abbrev r15_11 : List IOp := [o1 32 (.faddr 8) [.t 10],
  o1 33 (.load none) [.t 32],
  o1 34 (.bin .add .prim) [.t 33, .c (.int .i64 1)],
  o1 35 (.bin .lss .prim) [.t 34, .c (.int .i64 5)],
  mv 31 35]
abbrev r15_12 : List IOp := [o1 37 (.faddr 3) [.t 3],
  o1 38 (.load none) [.t 37],
  o1 39 (.len .slice) [.t 38],
  o1 40 (.bin .lss .prim) [.t 39, .c (.int .i64 64)],
  mv 36 40]
abbrev r15_13 : List IOp := [o1 11 (.mov) [.c (.int .i64 3)]]
abbrev r15_14 : List IOp := [mv 41 11]
abbrev r15_15 : List IOp := [o1 64 (.bin .eql .prim) [.t 41, .c (.int .i64 1)],
  mv 63 64]
abbrev r15_16 : List IOp := [o1 65 (.faddr 4) [.t 3],
  o1 66 (.load none) [.t 65],
  o1 67 (.faddr 1) [.t 10],
  o1 68 (.load (some 5)) [.t 67],
  o1 69 (.bsl 23 5 false) [.t 68],
  o1 70 (.app 23 5 72) [.t 66, .t 69],
  o1 71 (.faddr 4) [.t 3],
  sr 1 [.t 71, .t 70]]
abbrev r15_17 : List IOp := [o1 72 (.faddr 4) [.t 3],
  o1 73 (.load none) [.t 72],
  o1 74 (.faddr 4) [.t 3],
  o1 75 (.load none) [.t 74],
  o1 76 (.len .slice) [.t 75],
  o1 77 (.bin .sub .prim) [.t 76, .c (.int .i64 64)],
  o1 78 (.max) [.c (.int .i64 0), .t 77],
  ca 79 [.f 64, .t 73, .c (.int .i64 0), .t 78],
  o1 80 (.faddr 4) [.t 3],
  sr 1 [.t 80, .t 79]]
abbrev r15_18 : List IOp := [o1 82 (.bin .eql .prim) [.t 41, .c (.int .i64 3)],
  mv 81 82]
abbrev r15_19 : List IOp := [o1 83 (.faddr 3) [.t 3],
  o1 84 (.load none) [.t 83],
  o1 85 (.faddr 1) [.t 10],
  o1 86 (.load (some 5)) [.t 85],
  o1 87 (.bsl 23 5 false) [.t 86],
  o1 88 (.app 23 5 72) [.t 84, .t 87],
  o1 89 (.faddr 3) [.t 3],
  sr 1 [.t 89, .t 88]]
abbrev r15_20 : List IOp := [o1 42 (.faddr 8) [.t 10],
  o1 43 (.load none) [.t 42],
  o1 44 (.bin .add .prim) [.t 43, .c (.int .i64 1)],
  o1 45 (.min) [.t 44, .c (.int .i64 4)],
  o1 46 (.faddr 6) [.t 10],
  sr 1 [.t 46, .c (.bool false)],
  o1 47 (.faddr 7) [.t 10],
  sr 1 [.t 47, .c (.bool false)],
  o1 48 (.faddr 8) [.t 10],
  sr 1 [.t 48, .t 45]]
abbrev r15_21 : List IOp := [o1 49 (.faddr 2) [.t 3],
  o1 50 (.load none) [.t 49],
  o1 51 (.faddr 8) [.t 10],
  o1 52 (.load none) [.t 51],
  ca 53 [.f 30, .t 52],
  o1 54 (.bin .add .prim) [.t 50, .t 53],
  o1 55 (.faddr 9) [.t 10],
  sr 1 [.t 55, .t 54]]
abbrev r15_22 : List IOp := [o1 56 (.faddr 0) [.t 3],
  o1 57 (.load none) [.t 56],
  mv 58 9,
  o1 59 (.load (some 10)) [.t 10],
  o1 60 (.iaddr 10) [.t 57, .t 58],
  sr 10 [.t 60, .t 59]]
abbrev r15_23 : List IOp := [o1 61 (.load (some 6)) [.t 3],
  mv 62 11,
  sr 6 [.t 6, .t 61],
  mv 7 62,
  o1 8 (.mov) [.c (.int .i64 0)]]
abbrev r15_24 : List IOp := [o1 90 (.faddr 0) [.t 3],
  o1 91 (.load none) [.t 90],
  mv 92 9,
  mv 93 9,
  o1 94 (.bin .add .prim) [.t 93, .c (.int .i64 1)],
  ca 95 [.f 65, .t 91, .t 92, .t 94],
  o1 96 (.faddr 0) [.t 3],
  sr 1 [.t 96, .t 95]]
abbrev r15_25 : List IOp := [o1 97 (.load (some 6)) [.t 3],
  mv 98 11,
  sr 6 [.t 6, .t 97],
  mv 7 98,
  o1 8 (.mov) [.c (.int .i64 0)]]
abbrev c15 : IC := (IC.seq (IC.reg r15_0) (IC.seq (IC.reg r15_1) (IC.seq (IC.reg r15_2) (IC.seq (IC.seq (IC.reg r15_3) (IC.cond (.t 18) (IC.seq (IC.reg r15_4) IC.ret) IC.skip)) (IC.seq (IC.reg r15_5) (IC.seq (IC.reg r15_6) (IC.seq IC.skip (IC.seq (IC.block 0 (IC.seq (IC.reg r15_7) (IC.cond (.t 25) (IC.seq (IC.reg r15_8) IC.ret) (IC.seq (IC.reg r15_9) (IC.cond (.t 29) (IC.reg r15_10) (IC.seq (IC.reg r15_11) (IC.cond (.t 31) (IC.exit 0) (IC.seq (IC.reg r15_12) (IC.cond (.t 36) (IC.reg r15_13) IC.skip))))))))) (IC.seq (IC.seq (IC.reg r15_14) (IC.block 1 (IC.seq (IC.reg r15_15) (IC.cond (.t 63) (IC.seq (IC.reg r15_16) (IC.reg r15_17)) (IC.seq (IC.reg r15_18) (IC.cond (.t 81) (IC.reg r15_19) (IC.seq (IC.reg r15_20) (IC.seq (IC.regD .alloc r15_21 (.take 0 (.take 1 (.take 2 (.take 3 (.take 4 (.take 5 (.take 6 (.take 7 (.done)))))))))) (IC.seq (IC.reg r15_22) (IC.seq (IC.reg r15_23) IC.ret)))))))))) (IC.seq (IC.reg r15_24) (IC.seq (IC.reg r15_25) IC.ret)))))))))))
abbrev g15 : FC := ⟨c15, 99, [.cell 6 (some 6), .t 7, .t 8]⟩
theorem comp15 : compF Go.Proofs.Try.prog (hintL [(16, 7)]) 15 = some g15 := by kernel_rfl

-- outlaw/queue.Clear
abbrev r16_0 : List IOp := [o1 1 (.box 29) [.t 0],
  o1 2 (.alloc 29 [.nils, .int .i64 0, .int .i64 0, .nils, .nils, .bool false]) []]
abbrev r16_1 : List IOp := [o1 3 (.load (some 6)) [.t 1],
  ca 4 [.f 56, .t 3],
  sr 6 [.t 1, .t 4]]
abbrev r16_2 : List IOp := [o1 5 (.faddr 3) [.t 1],
  sr 1 [.t 5, .c (.nils)],
  o1 6 (.faddr 4) [.t 1],
  sr 1 [.t 6, .c (.nils)]]
abbrev r16_3 : List IOp := [o1 7 (.load (some 6)) [.t 1],
  sr 6 [.t 2, .t 7]]
abbrev c16 : IC := (IC.seq (IC.reg r16_0) (IC.seq (IC.reg r16_1) (IC.seq (IC.reg r16_2) (IC.seq (IC.reg r16_3) IC.ret))))
abbrev g16 : FC := ⟨c16, 8, [.cell 2 (some 6)]⟩
theorem comp16 : compF Go.Proofs.Try.prog (fun _ => 0) 16 = some g16 := by kernel_rfl

-- outlaw/outlawkit.Same[outlaw/api.Action]
abbrev r17_0 : List IOp := [o1 4 (.mov) [.c (.bool false)]]
abbrev r17_1 : List IOp := [mv 6 0,
  o1 7 (.len .slice) [.t 6],
  mv 8 1,
  o1 9 (.len .slice) [.t 8],
  o1 10 (.bin .neq .prim) [.t 7, .t 9]]
abbrev r17_2 : List IOp := [o1 4 (.mov) [.c (.bool false)]]
abbrev r17_3 : List IOp := [o1 5 (.mov) [.c (.int .i64 0)]]
abbrev r17_4 : List IOp := [mv 11 5,
  mv 12 0,
  o1 13 (.len .slice) [.t 12],
  o1 14 (.bin .lss .prim) [.t 11, .t 13]]
abbrev r17_5 : List IOp := [mv 17 0,
  mv 18 5,
  o1 19 (.iaddr 5) [.t 17, .t 18],
  o1 20 (.load (some 5)) [.t 19],
  mv 21 1,
  mv 22 5,
  o1 23 (.iaddr 5) [.t 21, .t 22],
  o1 24 (.load (some 5)) [.t 23],
  o1 25 (.bin .neq (.st [.int, .str, .str, .str, .str])) [.t 20, .t 24]]
abbrev r17_6 : List IOp := [o1 4 (.mov) [.c (.bool false)]]
abbrev r17_7 : List IOp := [mv 15 5,
  o1 16 (.bin .add .prim) [.t 15, .c (.int .i64 1)],
  mv 5 16]
abbrev b17_0 : IC := (IC.seq (IC.seq (IC.reg r17_4) (IC.cond (.t 14) IC.skip (IC.exit 0))) (IC.seq (IC.block 1 (IC.seq (IC.regD .wild r17_5 (.take 0 (.take 1 (.take 2 (.take 3 (.take 4 (.take 5 (.take 6 (.take 7 (.take 8 (.done))))))))))) (IC.cond (.t 25) (IC.seq (IC.reg r17_6) IC.ret) IC.skip))) (IC.reg r17_7)))
abbrev r17_8 : List IOp := [o1 4 (.mov) [.c (.bool true)]]
abbrev c17 : IC := (IC.seq (IC.reg r17_0) (IC.seq (IC.seq (IC.reg r17_1) (IC.cond (.t 10) (IC.seq (IC.reg r17_2) IC.ret) IC.skip)) (IC.seq (IC.seq (IC.reg r17_3) (IC.block 0 (IC.loop b17_0))) (IC.seq (IC.reg r17_8) IC.ret))))
abbrev g17 : FC := ⟨c17, 26, [.t 4]⟩
theorem comp17 : compF Go.Proofs.Try.prog (hintL [(6, 6)]) 17 = some g17 := by kernel_rfl

-- outlaw/outlawkit.Pick
abbrev r18_0 : List IOp := [o1 4 (.mov) [.c (.int .i64 0)]]
abbrev r18_1 : List IOp := [mv 6 1,
  o1 7 (.bin .lss .prim) [.t 6, .c (.int .i64 1)]]
abbrev r18_2 : List IOp := [o1 4 (.mov) [.c (.int .i64 0)]]
abbrev r18_3 : List IOp := [mv 8 0,
  mv 9 1,
  o1 10 (.bin .rem .prim) [.t 8, .t 9],
  mv 5 10]
abbrev r18_4 : List IOp := [mv 11 5,
  o1 12 (.bin .lss .prim) [.t 11, .c (.int .i64 0)]]
abbrev r18_5 : List IOp := [mv 13 5,
  mv 14 1,
  o1 15 (.bin .add .prim) [.t 13, .t 14],
  mv 5 15]
abbrev r18_6 : List IOp := [mv 16 5,
  mv 4 16]
abbrev c18 : IC := (IC.seq (IC.reg r18_0) (IC.seq (IC.seq (IC.reg r18_1) (IC.cond (.t 7) (IC.seq (IC.reg r18_2) IC.ret) IC.skip)) (IC.seq (IC.reg r18_3) (IC.seq (IC.seq (IC.reg r18_4) (IC.cond (.t 12) (IC.reg r18_5) IC.skip)) (IC.seq (IC.reg r18_6) IC.ret)))))
abbrev g18 : FC := ⟨c18, 17, [.t 4]⟩
theorem comp18 : compF Go.Proofs.Try.prog (fun _ => 0) 18 = some g18 := by kernel_rfl

-- outlaw/queue.Pass
abbrev r19_0 : List IOp := [o1 2 (.box 29) [.t 0],
  o1 4 (.alloc 29 [.nils, .int .i64 0, .int .i64 0, .nils, .nils, .bool false]) [],
  o1 5 (.mov) [.c (.int .i64 0)]]
abbrev r19_1 : List IOp := [o1 6 (.load (some 6)) [.t 2],
  ca 7 [.f 56, .t 6],
  sr 6 [.t 2, .t 7]]
abbrev r19_2 : List IOp := [mv 9 1,
  o1 10 (.bin .lss .prim) [.t 9, .c (.int .i64 0)],
  mv 11 10,
  o2 12 (.mov) [.t 1] 11 false,
  o2 13 (.bin .gtr .prim) [.t 12, .c (.int .i64 1000000)] 11 false,
  o1 14 (.pick) [.t 11, .c (.bool true), .t 13],
  mv 8 14]
abbrev r19_3 : List IOp := [o1 15 (.load (some 6)) [.t 2],
  sr 6 [.t 4, .t 15],
  o1 5 (.mov) [.c (.int .i64 2)]]
abbrev r19_4 : List IOp := [o1 17 (.faddr 2) [.t 2],
  o1 18 (.load none) [.t 17],
  mv 19 1,
  o1 20 (.bin .sub .prim) [.c (.int .i64 1152921504606846976), .t 19],
  o1 21 (.bin .gtr .prim) [.t 18, .t 20],
  mv 16 21]
abbrev r19_5 : List IOp := [o1 22 (.load (some 6)) [.t 2],
  sr 6 [.t 4, .t 22],
  o1 5 (.mov) [.c (.int .i64 13)]]
abbrev r19_6 : List IOp := [o1 23 (.faddr 2) [.t 2],
  o1 24 (.load none) [.t 23],
  mv 25 1,
  o1 26 (.bin .add .prim) [.t 24, .t 25],
  o1 27 (.faddr 2) [.t 2],
  sr 1 [.t 27, .t 26]]
abbrev r19_7 : List IOp := [o1 28 (.load (some 6)) [.t 2],
  sr 6 [.t 4, .t 28],
  o1 5 (.mov) [.c (.int .i64 0)]]
abbrev c19 : IC := (IC.seq (IC.reg r19_0) (IC.seq (IC.reg r19_1) (IC.seq (IC.block 0 (IC.seq (IC.reg r19_2) (IC.cond (.t 8) (IC.seq (IC.reg r19_3) IC.ret) (IC.seq (IC.reg r19_4) (IC.cond (.t 16) (IC.seq (IC.reg r19_5) IC.ret) IC.skip))))) (IC.seq (IC.reg r19_6) (IC.seq (IC.reg r19_7) IC.ret)))))
abbrev g19 : FC := ⟨c19, 29, [.cell 4 (some 6), .t 5]⟩
theorem comp19 : compF Go.Proofs.Try.prog (fun _ => 0) 19 = some g19 := by kernel_rfl

-- outlaw/queue.Next
abbrev r20_0 : List IOp := [o1 2 (.box 29) [.t 0],
  o1 4 (.alloc 42 [.int .i64 0, .int .i64 0, .str [], .str [], .str [], .str [], .bool false, .bool false, .int .i64 0, .int .i64 0]) [],
  o1 5 (.mov) [.c (.bool false)]]
abbrev r20_1 : List IOp := [o1 10 (.load (some 6)) [.t 2],
  ca 11 [.f 63, .t 10],
  o1 12 (.bin .geq .prim) [.t 11, .c (.int .i64 4)]]
abbrev r20_2 : List IOp := [o1 13 (.bst [.int .i64 0, .int .i64 0, .str [], .str [], .str [], .str [], .bool false, .bool false, .int .i64 0, .int .i64 0] [(0, 1), (1, 5), (6, 1), (7, 1), (8, 1), (9, 1)] []) [],
  sr 10 [.t 4, .t 13],
  o1 5 (.mov) [.c (.bool false)]]
abbrev r20_3 : List IOp := [o1 14 (.mkfn 67) [.t 2],
  o1 15 (.bst [.nilf, .nilf] [(0, 1), (1, 1)] [0, 1]) [.f 66, .t 14],
  o1 16 (.mov) [.c (.int .i64 0)]]
abbrev r20_4 : List IOp := [o1 17 (.bin .lss .prim) [.t 16, .c (.int .i64 2)]]
abbrev r20_5 : List IOp := [o1 18 (.idxa 2 1 none) [.t 15, .t 16],
  mv 7 18]
abbrev r20_6 : List IOp := [o1 19 (.faddr 0) [.t 2],
  o1 20 (.load none) [.t 19],
  o1 21 (.len .slice) [.t 20],
  o1 22 (.mov) [.c (.int .i64 0)]]
abbrev r20_7 : List IOp := [o1 23 (.bin .lss .prim) [.t 22, .t 21]]
abbrev r20_8 : List IOp := [o1 24 (.iaddr 10) [.t 20, .t 22],
  o1 25 (.load (some 10)) [.t 24],
  o1 9 (.alloc 42 [.int .i64 0, .int .i64 0, .str [], .str [], .str [], .str [], .bool false, .bool false, .int .i64 0, .int .i64 0]) [],
  sr 10 [.t 9, .t 25]]
abbrev r20_9 : List IOp := [mv 26 7,
  o1 27 (.load (some 10)) [.t 9],
  ca 28 [.t 26, .t 27],
  mv 29 28,
  o2 30 (.mov) [.t 1] 29 true,
  o2 31 (.faddr 0) [.t 9] 29 true,
  o2 32 (.load none) [.t 31] 29 true,
  ⟨some 33, .call none, [.f 68, .t 30, .t 32], some (29, true)⟩,
  o2 34 (.un .not) [.t 33] 29 true,
  o1 35 (.pick) [.t 29, .t 34, .c (.bool false)]]
abbrev r20_10 : List IOp := [o1 36 (.load (some 10)) [.t 9],
  sr 10 [.t 4, .t 36],
  o1 5 (.mov) [.c (.bool true)]]
abbrev r20_11 : List IOp := [o1 37 (.bin .add .prim) [.t 22, .c (.int .i64 1)],
  mv 22 37]
abbrev b20_0 : IC := (IC.seq (IC.reg r20_7) (IC.seq (IC.cond (.t 23) IC.skip (IC.exit 2)) (IC.seq (IC.block 3 (IC.seq (IC.reg r20_8) (IC.seq (IC.reg r20_9) (IC.cond (.t 35) (IC.seq (IC.reg r20_10) IC.ret) IC.skip)))) (IC.reg r20_11))))
abbrev r20_12 : List IOp := [o1 38 (.bin .add .prim) [.t 16, .c (.int .i64 1)],
  mv 16 38]
abbrev b20_1 : IC := (IC.seq (IC.reg r20_4) (IC.seq (IC.cond (.t 17) IC.skip (IC.exit 0)) (IC.seq (IC.block 1 (IC.seq (IC.reg r20_5) (IC.seq (IC.reg r20_6) (IC.block 2 (IC.loop b20_0))))) (IC.reg r20_12))))
abbrev r20_13 : List IOp := [o1 39 (.bst [.int .i64 0, .int .i64 0, .str [], .str [], .str [], .str [], .bool false, .bool false, .int .i64 0, .int .i64 0] [(0, 1), (1, 5), (6, 1), (7, 1), (8, 1), (9, 1)] []) [],
  sr 10 [.t 4, .t 39],
  o1 5 (.mov) [.c (.bool false)]]
abbrev c20 : IC := (IC.seq (IC.reg r20_0) (IC.seq (IC.seq (IC.reg r20_1) (IC.cond (.t 12) (IC.seq (IC.reg r20_2) IC.ret) IC.skip)) (IC.seq (IC.seq (IC.reg r20_3) (IC.block 0 (IC.loop b20_1))) (IC.seq (IC.reg r20_13) IC.ret))))
abbrev g20 : FC := ⟨c20, 40, [.cell 4 (some 10), .t 5]⟩
theorem comp20 : compF Go.Proofs.Try.prog (fun _ => 0) 20 = some g20 := by kernel_rfl

-- outlaw/outlawlaw22.light
abbrev r21_0 : List IOp := [o1 2 (.mov) [.c (.bool false)]]
abbrev r21_1 : List IOp := [o1 3 (.mov) [.c (.int .i64 0)]]
abbrev r21_2 : List IOp := [mv 5 3,
  mv 6 0,
  o1 7 (.len .slice) [.t 6],
  o1 8 (.bin .lss .prim) [.t 5, .t 7]]
abbrev r21_3 : List IOp := [mv 11 0,
  mv 12 3,
  o1 13 (.iaddr 10) [.t 11, .t 12],
  o1 14 (.faddr 1) [.t 13],
  o1 15 (.load (some 5)) [.t 14],
  ca 16 [.f 11, .t 15],
  o1 17 (.un .not) [.t 16],
  mv 18 17,
  o2 19 (.mov) [.t 0] 18 false,
  o2 20 (.mov) [.t 3] 18 false,
  o2 21 (.iaddr 10) [.t 19, .t 20] 18 false,
  o2 22 (.faddr 9) [.t 21] 18 false,
  o2 23 (.load none) [.t 22] 18 false,
  o2 24 (.len .slice) [.t 23] 18 false,
  o2 25 (.bin .gtr .prim) [.t 24, .c (.int .i64 40)] 18 false,
  o1 26 (.pick) [.t 18, .c (.bool true), .t 25]]
abbrev r21_4 : List IOp := [o1 2 (.mov) [.c (.bool false)]]
abbrev r21_5 : List IOp := [o1 4 (.mov) [.c (.int .i64 0)]]
abbrev r21_6 : List IOp := [mv 27 4,
  mv 28 0,
  mv 29 3,
  o1 30 (.iaddr 10) [.t 28, .t 29],
  o1 31 (.faddr 9) [.t 30],
  o1 32 (.load none) [.t 31],
  o1 33 (.len .slice) [.t 32],
  o1 34 (.bin .lss .prim) [.t 27, .t 33]]
abbrev r21_7 : List IOp := [mv 37 0,
  mv 38 3,
  o1 39 (.iaddr 10) [.t 37, .t 38],
  o1 40 (.faddr 9) [.t 39],
  o1 41 (.load none) [.t 40],
  mv 42 4,
  o1 43 (.iaddr 5) [.t 41, .t 42],
  o1 44 (.load (some 5)) [.t 43],
  ca 45 [.f 11, .t 44],
  o1 46 (.un .not) [.t 45]]
abbrev r21_8 : List IOp := [o1 2 (.mov) [.c (.bool false)]]
abbrev r21_9 : List IOp := [mv 35 4,
  o1 36 (.bin .add .prim) [.t 35, .c (.int .i64 1)],
  mv 4 36]
abbrev b21_0 : IC := (IC.seq (IC.seq (IC.reg r21_6) (IC.cond (.t 34) IC.skip (IC.exit 2))) (IC.seq (IC.block 3 (IC.seq (IC.reg r21_7) (IC.cond (.t 46) (IC.seq (IC.reg r21_8) IC.ret) IC.skip))) (IC.reg r21_9)))
abbrev r21_10 : List IOp := [mv 9 3,
  o1 10 (.bin .add .prim) [.t 9, .c (.int .i64 1)],
  mv 3 10]
abbrev b21_1 : IC := (IC.seq (IC.seq (IC.reg r21_2) (IC.cond (.t 8) IC.skip (IC.exit 0))) (IC.seq (IC.block 1 (IC.seq (IC.seq (IC.reg r21_3) (IC.cond (.t 26) (IC.seq (IC.reg r21_4) IC.ret) IC.skip)) (IC.seq (IC.reg r21_5) (IC.block 2 (IC.loop b21_0))))) (IC.reg r21_10)))
abbrev r21_11 : List IOp := [mv 47 0,
  o1 48 (.len .slice) [.t 47],
  o1 49 (.bin .leq .prim) [.t 48, .c (.int .i64 60)],
  mv 2 49]
abbrev c21 : IC := (IC.seq (IC.reg r21_0) (IC.seq (IC.seq (IC.reg r21_1) (IC.block 0 (IC.loop b21_1))) (IC.seq (IC.reg r21_11) IC.ret)))
abbrev g21 : FC := ⟨c21, 50, [.t 2]⟩
theorem comp21 : compF Go.Proofs.Try.prog (fun _ => 0) 21 = some g21 := by kernel_rfl

-- outlaw/outlawlaw22.own
abbrev r23_0 : List IOp := [o1 1 (.box 29) [.t 0],
  o1 2 (.alloc 29 [.nils, .int .i64 0, .int .i64 0, .nils, .nils, .bool false]) []]
abbrev r23_1 : List IOp := [o1 3 (.faddr 0) [.t 1],
  o1 4 (.load none) [.t 3],
  ca 5 [.f 70, .t 4],
  o1 6 (.faddr 3) [.t 1],
  o1 7 (.load none) [.t 6],
  ca 8 [.f 24, .t 7],
  o1 9 (.faddr 4) [.t 1],
  o1 10 (.load none) [.t 9],
  ca 11 [.f 24, .t 10],
  o1 12 (.faddr 0) [.t 1],
  sr 1 [.t 12, .t 5],
  o1 13 (.faddr 3) [.t 1],
  sr 1 [.t 13, .t 8],
  o1 14 (.faddr 4) [.t 1],
  sr 1 [.t 14, .t 11]]
abbrev r23_2 : List IOp := [o1 15 (.load (some 6)) [.t 1],
  sr 6 [.t 2, .t 15]]
abbrev c23 : IC := (IC.seq (IC.reg r23_0) (IC.seq (IC.regD .alloc r23_1 (.take 0 (.take 1 (.take 3 (.take 4 (.take 6 (.take 7 (.take 2 (.take 5 (.take 8 (.take 9 (.take 10 (.take 11 (.take 12 (.take 13 (.take 14 (.done))))))))))))))))) (IC.seq (IC.reg r23_2) IC.ret)))
abbrev g23 : FC := ⟨c23, 16, [.cell 2 (some 6)]⟩
theorem comp23 : compF Go.Proofs.Try.prog (hintL [(1, 7)]) 23 = some g23 := by kernel_rfl

-- outlaw/outlawlaw22.do
abbrev r22_0 : List IOp := [o1 2 (.box 29) [.t 0],
  o1 3 (.box 50) [.t 1],
  o1 4 (.alloc 29 [.nils, .int .i64 0, .int .i64 0, .nils, .nils, .bool false]) [],
  o1 5 (.mov) [.c (.int .i64 0)],
  o1 6 (.mov) [.c (.int .i64 0)],
  o1 7 (.mov) [.c (.int .i64 0)],
  o1 8 (.mov) [.c (.nils)]]
abbrev r22_1 : List IOp := [o1 25 (.faddr 0) [.t 3],
  o1 26 (.load none) [.t 25],
  ca 27 [.f 18, .t 26, .c (.int .i64 9)]]
abbrev r22_2 : List IOp := [o1 29 (.bin .eql .prim) [.t 27, .c (.int .i64 0)],
  mv 28 29]
abbrev r22_3 : List IOp := [o1 30 (.bin .eql .prim) [.t 27, .c (.int .i64 1)],
  mv 28 30]
abbrev r22_4 : List IOp := [o1 32 (.load (some 6)) [.t 2],
  o1 33 (.faddr 1) [.t 3],
  o1 34 (.load (some 5)) [.t 33],
  ca 35 [.f 12, .t 32, .t 34],
  mv 31 35,
  o1 36 (.extract 0) [.t 31],
  o1 37 (.extract 1) [.t 31],
  o1 38 (.extract 2) [.t 31],
  o1 9 (.alloc 29 [.nils, .int .i64 0, .int .i64 0, .nils, .nils, .bool false]) [],
  sr 6 [.t 9, .t 36],
  mv 10 37,
  mv 11 38]
abbrev r22_5 : List IOp := [o1 39 (.load (some 6)) [.t 9],
  mv 40 11,
  mv 41 10,
  sr 6 [.t 4, .t 39],
  mv 5 40,
  o1 6 (.mov) [.c (.int .i64 0)],
  mv 7 41,
  o1 8 (.mov) [.c (.nils)]]
abbrev r22_6 : List IOp := [o1 43 (.bin .eql .prim) [.t 27, .c (.int .i64 2)],
  mv 42 43]
abbrev r22_7 : List IOp := [o1 45 (.load (some 6)) [.t 2],
  ca 46 [.f 20, .t 45, .c (.nils)],
  mv 44 46,
  o1 47 (.extract 0) [.t 44],
  o1 48 (.extract 1) [.t 44],
  o1 12 (.alloc 42 [.int .i64 0, .int .i64 0, .str [], .str [], .str [], .str [], .bool false, .bool false, .int .i64 0, .int .i64 0]) [],
  sr 10 [.t 12, .t 47],
  mv 13 48]
abbrev r22_8 : List IOp := [o1 50 (.load (some 6)) [.t 2],
  o1 51 (.faddr 0) [.t 12],
  o1 52 (.load none) [.t 51],
  ca 53 [.f 14, .t 50, .t 52],
  mv 49 53,
  o1 54 (.extract 0) [.t 49],
  o1 55 (.extract 1) [.t 49],
  o1 14 (.alloc 29 [.nils, .int .i64 0, .int .i64 0, .nils, .nils, .bool false]) [],
  sr 6 [.t 14, .t 54],
  mv 15 55]
abbrev r22_9 : List IOp := [o1 56 (.load (some 6)) [.t 14],
  mv 57 15,
  o1 58 (.faddr 0) [.t 12],
  o1 59 (.load none) [.t 58],
  sr 6 [.t 4, .t 56],
  mv 5 57,
  o1 6 (.mov) [.c (.int .i64 0)],
  mv 7 59,
  o1 8 (.mov) [.c (.nils)]]
abbrev r22_10 : List IOp := [o1 61 (.bin .eql .prim) [.t 27, .c (.int .i64 3)],
  mv 60 61]
abbrev r22_11 : List IOp := [o1 63 (.load (some 6)) [.t 2],
  o1 64 (.faddr 6) [.t 3],
  o1 65 (.load none) [.t 64],
  ca 66 [.f 14, .t 63, .t 65],
  mv 62 66,
  o1 67 (.extract 0) [.t 62],
  o1 68 (.extract 1) [.t 62],
  o1 16 (.alloc 29 [.nils, .int .i64 0, .int .i64 0, .nils, .nils, .bool false]) [],
  sr 6 [.t 16, .t 67],
  mv 17 68]
abbrev r22_12 : List IOp := [o1 69 (.load (some 6)) [.t 16],
  mv 70 17,
  sr 6 [.t 4, .t 69],
  mv 5 70,
  o1 6 (.mov) [.c (.int .i64 0)],
  o1 7 (.mov) [.c (.int .i64 0)],
  o1 8 (.mov) [.c (.nils)]]
abbrev r22_13 : List IOp := [o1 72 (.bin .eql .prim) [.t 27, .c (.int .i64 4)],
  mv 71 72]
abbrev r22_14 : List IOp := [o1 74 (.load (some 6)) [.t 2],
  o1 75 (.faddr 6) [.t 3],
  o1 76 (.load none) [.t 75],
  o1 77 (.faddr 8) [.t 3],
  o1 78 (.load none) [.t 77],
  ca 79 [.f 15, .t 74, .t 76, .t 78],
  mv 73 79,
  o1 80 (.extract 0) [.t 73],
  o1 81 (.extract 1) [.t 73],
  o1 82 (.extract 2) [.t 73],
  o1 18 (.alloc 29 [.nils, .int .i64 0, .int .i64 0, .nils, .nils, .bool false]) [],
  sr 6 [.t 18, .t 80],
  mv 19 81,
  mv 20 82]
abbrev r22_15 : List IOp := [o1 83 (.load (some 6)) [.t 18],
  mv 84 20,
  mv 85 19,
  sr 6 [.t 4, .t 83],
  mv 5 84,
  mv 6 85,
  o1 7 (.mov) [.c (.int .i64 0)],
  o1 8 (.mov) [.c (.nils)]]
abbrev r22_16 : List IOp := [o1 87 (.bin .eql .prim) [.t 27, .c (.int .i64 5)],
  mv 86 87]
abbrev r22_17 : List IOp := [o1 89 (.load (some 6)) [.t 2],
  o1 90 (.faddr 7) [.t 3],
  o1 91 (.load none) [.t 90],
  ca 92 [.f 19, .t 89, .t 91],
  mv 88 92,
  o1 93 (.extract 0) [.t 88],
  o1 94 (.extract 1) [.t 88],
  o1 21 (.alloc 29 [.nils, .int .i64 0, .int .i64 0, .nils, .nils, .bool false]) [],
  sr 6 [.t 21, .t 93],
  mv 22 94]
abbrev r22_18 : List IOp := [o1 95 (.load (some 6)) [.t 21],
  mv 96 22,
  sr 6 [.t 4, .t 95],
  mv 5 96,
  o1 6 (.mov) [.c (.int .i64 0)],
  o1 7 (.mov) [.c (.int .i64 0)],
  o1 8 (.mov) [.c (.nils)]]
abbrev r22_19 : List IOp := [o1 98 (.bin .eql .prim) [.t 27, .c (.int .i64 6)],
  mv 97 98]
abbrev r22_20 : List IOp := [o1 100 (.load (some 6)) [.t 2],
  o1 101 (.faddr 9) [.t 3],
  o1 102 (.load none) [.t 101],
  ca 103 [.f 24, .t 102],
  ca 104 [.f 69, .t 100, .t 103],
  mv 99 104,
  o1 105 (.extract 0) [.t 99],
  o1 106 (.extract 1) [.t 99],
  o1 23 (.alloc 29 [.nils, .int .i64 0, .int .i64 0, .nils, .nils, .bool false]) [],
  sr 6 [.t 23, .t 105],
  mv 24 106]
abbrev r22_21 : List IOp := [o1 107 (.load (some 6)) [.t 23],
  mv 108 24,
  sr 6 [.t 4, .t 107],
  o1 5 (.mov) [.c (.int .i64 0)],
  o1 6 (.mov) [.c (.int .i64 0)],
  o1 7 (.mov) [.c (.int .i64 0)],
  mv 8 108]
abbrev r22_22 : List IOp := [o1 110 (.bin .eql .prim) [.t 27, .c (.int .i64 7)],
  mv 109 110]
abbrev r22_23 : List IOp := [o1 111 (.load (some 6)) [.t 2],
  ca 112 [.f 55, .t 111],
  sr 6 [.t 4, .t 112],
  o1 5 (.mov) [.c (.int .i64 0)],
  o1 6 (.mov) [.c (.int .i64 0)],
  o1 7 (.mov) [.c (.int .i64 0)],
  o1 8 (.mov) [.c (.nils)]]
abbrev r22_24 : List IOp := [o1 113 (.load (some 6)) [.t 2],
  ca 114 [.f 16, .t 113],
  sr 6 [.t 4, .t 114],
  o1 5 (.mov) [.c (.int .i64 0)],
  o1 6 (.mov) [.c (.int .i64 0)],
  o1 7 (.mov) [.c (.int .i64 0)],
  o1 8 (.mov) [.c (.nils)]]
abbrev c22 : IC := (IC.seq (IC.reg r22_0) (IC.seq (IC.seq (IC.reg r22_1) (IC.block 0 (IC.seq (IC.seq (IC.reg r22_2) (IC.cond (.t 28) IC.skip (IC.reg r22_3))) (IC.cond (.t 28) (IC.seq (IC.reg r22_4) (IC.seq (IC.reg r22_5) IC.ret)) (IC.seq (IC.reg r22_6) (IC.cond (.t 42) (IC.seq (IC.reg r22_7) (IC.seq (IC.reg r22_8) (IC.seq (IC.regD .wild r22_9 (.take 0 (.take 1 (.take 2 (.fork [(3, .take 4 (.take 5 (.take 6 (.take 7 (.take 8 (.done)))))), (4, .take 3 (.take 5 (.take 6 (.take 7 (.take 8 (.done))))))]))))) IC.ret))) (IC.seq (IC.reg r22_10) (IC.cond (.t 60) (IC.seq (IC.reg r22_11) (IC.seq (IC.reg r22_12) IC.ret)) (IC.seq (IC.reg r22_13) (IC.cond (.t 71) (IC.seq (IC.reg r22_14) (IC.seq (IC.reg r22_15) IC.ret)) (IC.seq (IC.reg r22_16) (IC.cond (.t 86) (IC.seq (IC.reg r22_17) (IC.seq (IC.reg r22_18) IC.ret)) (IC.seq (IC.reg r22_19) (IC.cond (.t 97) (IC.seq (IC.regD .wild r22_20 (.take 1 (.take 2 (.fork [(0, .fork [(3, .fork [(4, .take 5 (.take 6 (.take 7 (.take 8 (.take 9 (.take 10 (.done))))))), (8, .take 4 (.take 5 (.take 6 (.take 7 (.take 9 (.take 10 (.done)))))))]), (8, .take 3 (.take 4 (.take 5 (.take 6 (.take 7 (.take 9 (.take 10 (.done))))))))]), (3, .take 0 (.fork [(4, .take 5 (.take 6 (.take 7 (.take 8 (.take 9 (.take 10 (.done))))))), (8, .take 4 (.take 5 (.take 6 (.take 7 (.take 9 (.take 10 (.done)))))))])), (8, .fork [(0, .take 3 (.take 4 (.take 5 (.take 6 (.take 7 (.take 9 (.take 10 (.done)))))))), (3, .take 0 (.take 4 (.take 5 (.take 6 (.take 7 (.take 9 (.take 10 (.done))))))))])])))) (IC.seq (IC.reg r22_21) IC.ret)) (IC.seq (IC.reg r22_22) (IC.cond (.t 109) (IC.seq (IC.reg r22_23) IC.ret) IC.skip)))))))))))))))) (IC.seq (IC.reg r22_24) IC.ret)))
abbrev g22 : FC := ⟨c22, 115, [.cell 4 (some 6), .t 5, .t 6, .t 7, .t 8]⟩
theorem comp22 : compF Go.Proofs.Try.prog (hintL [(9, 6), (20, 6)]) 22 = some g22 := by kernel_rfl

-- outlaw/outlawkit.Own[outlaw/api.Action]
abbrev r24_0 : List IOp := [o1 2 (.mov) [.c (.nils)]]
abbrev r24_1 : List IOp := [o1 3 (.bsl 23 5 false) [],
  mv 4 0,
  o1 5 (.app 23 5 72) [.t 3, .t 4],
  mv 2 5]
abbrev c24 : IC := (IC.seq (IC.reg r24_0) (IC.seq (IC.reg r24_1) IC.ret))
abbrev g24 : FC := ⟨c24, 6, [.t 2]⟩
theorem comp24 : compF Go.Proofs.Try.prog (fun _ => 0) 24 = some g24 := by kernel_rfl

-- outlaw/queue.Alike
abbrev r25_0 : List IOp := [o1 2 (.box 23) [.t 0],
  o1 3 (.box 23) [.t 1],
  o1 4 (.mov) [.c (.bool false)]]
abbrev r25_1 : List IOp := [o1 5 (.faddr 1) [.t 2],
  o1 6 (.load none) [.t 5],
  o1 7 (.faddr 1) [.t 3],
  o1 8 (.load none) [.t 7],
  o1 9 (.bin .eql .prim) [.t 6, .t 8],
  mv 10 9,
  o2 11 (.faddr 0) [.t 2] 10 true,
  o2 12 (.load none) [.t 11] 10 true,
  o2 13 (.faddr 0) [.t 3] 10 true,
  o2 14 (.load none) [.t 13] 10 true,
  o2 15 (.bin .eql .prim) [.t 12, .t 14] 10 true,
  o1 16 (.pick) [.t 10, .t 15, .c (.bool false)],
  mv 17 16,
  o2 18 (.faddr 2) [.t 2] 17 true,
  o2 19 (.load none) [.t 18] 17 true,
  o2 20 (.faddr 2) [.t 3] 17 true,
  o2 21 (.load none) [.t 20] 17 true,
  o2 22 (.bin .eql .prim) [.t 19, .t 21] 17 true,
  o1 23 (.pick) [.t 17, .t 22, .c (.bool false)],
  mv 4 23]
abbrev c25 : IC := (IC.seq (IC.reg r25_0) (IC.seq (IC.reg r25_1) IC.ret))
abbrev g25 : FC := ⟨c25, 24, [.t 4]⟩
theorem comp25 : compF Go.Proofs.Try.prog (fun _ => 0) 25 = some g25 := by kernel_rfl

-- outlaw/outlawkit.LightQueue
abbrev r26_0 : List IOp := [o1 1 (.box 29) [.t 0],
  o1 2 (.mov) [.c (.bool false)]]
abbrev r26_1 : List IOp := [o1 3 (.mov) [.c (.int .i64 0)]]
abbrev r26_2 : List IOp := [mv 6 3,
  o1 7 (.faddr 0) [.t 1],
  o1 8 (.load none) [.t 7],
  o1 9 (.len .slice) [.t 8],
  o1 10 (.bin .lss .prim) [.t 6, .t 9]]
abbrev r26_3 : List IOp := [o1 13 (.faddr 0) [.t 1],
  o1 14 (.load none) [.t 13],
  mv 15 3,
  o1 16 (.iaddr 10) [.t 14, .t 15],
  o1 17 (.faddr 1) [.t 16],
  o1 18 (.load (some 5)) [.t 17],
  ca 19 [.f 11, .t 18],
  o1 20 (.un .not) [.t 19]]
abbrev r26_4 : List IOp := [o1 2 (.mov) [.c (.bool false)]]
abbrev r26_5 : List IOp := [mv 11 3,
  o1 12 (.bin .add .prim) [.t 11, .c (.int .i64 1)],
  mv 3 12]
abbrev b26_0 : IC := (IC.seq (IC.seq (IC.reg r26_2) (IC.cond (.t 10) IC.skip (IC.exit 0))) (IC.seq (IC.block 1 (IC.seq (IC.reg r26_3) (IC.cond (.t 20) (IC.seq (IC.reg r26_4) IC.ret) IC.skip))) (IC.reg r26_5)))
abbrev r26_6 : List IOp := [o1 21 (.faddr 3) [.t 1],
  o1 22 (.load none) [.t 21],
  ca 23 [.f 24, .t 22],
  o1 24 (.faddr 4) [.t 1],
  o1 25 (.load none) [.t 24],
  o1 26 (.app 23 5 72) [.t 23, .t 25],
  mv 4 26]
abbrev r26_7 : List IOp := [o1 5 (.mov) [.c (.int .i64 0)]]
abbrev r26_8 : List IOp := [mv 27 5,
  mv 28 4,
  o1 29 (.len .slice) [.t 28],
  o1 30 (.bin .lss .prim) [.t 27, .t 29]]
abbrev r26_9 : List IOp := [mv 33 4,
  mv 34 5,
  o1 35 (.iaddr 5) [.t 33, .t 34],
  o1 36 (.load (some 5)) [.t 35],
  ca 37 [.f 11, .t 36],
  o1 38 (.un .not) [.t 37]]
abbrev r26_10 : List IOp := [o1 2 (.mov) [.c (.bool false)]]
abbrev r26_11 : List IOp := [mv 31 5,
  o1 32 (.bin .add .prim) [.t 31, .c (.int .i64 1)],
  mv 5 32]
abbrev b26_1 : IC := (IC.seq (IC.seq (IC.reg r26_8) (IC.cond (.t 30) IC.skip (IC.exit 2))) (IC.seq (IC.block 3 (IC.seq (IC.reg r26_9) (IC.cond (.t 38) (IC.seq (IC.reg r26_10) IC.ret) IC.skip))) (IC.reg r26_11)))
abbrev r26_12 : List IOp := [o1 39 (.faddr 0) [.t 1],
  o1 40 (.load none) [.t 39],
  o1 41 (.len .slice) [.t 40],
  o1 42 (.bin .leq .prim) [.t 41, .c (.int .i64 40)],
  mv 43 42,
  o2 44 (.faddr 3) [.t 1] 43 true,
  o2 45 (.load none) [.t 44] 43 true,
  o2 46 (.len .slice) [.t 45] 43 true,
  o2 47 (.bin .leq .prim) [.t 46, .c (.int .i64 70)] 43 true,
  o1 48 (.pick) [.t 43, .t 47, .c (.bool false)],
  mv 49 48,
  o2 50 (.faddr 4) [.t 1] 49 true,
  o2 51 (.load none) [.t 50] 49 true,
  o2 52 (.len .slice) [.t 51] 49 true,
  o2 53 (.bin .leq .prim) [.t 52, .c (.int .i64 70)] 49 true,
  o1 54 (.pick) [.t 49, .t 53, .c (.bool false)],
  mv 2 54]
abbrev c26 : IC := (IC.seq (IC.reg r26_0) (IC.seq (IC.seq (IC.reg r26_1) (IC.block 0 (IC.loop b26_0))) (IC.seq (IC.regD .alloc r26_6 (.take 0 (.take 1 (.take 3 (.take 4 (.take 2 (.take 5 (.take 6 (.done))))))))) (IC.seq (IC.seq (IC.reg r26_7) (IC.block 2 (IC.loop b26_1))) (IC.seq (IC.reg r26_12) IC.ret)))))
abbrev g26 : FC := ⟨c26, 55, [.t 2]⟩
theorem comp26 : compF Go.Proofs.Try.prog (hintL [(6, 7)]) 26 = some g26 := by kernel_rfl

-- outlaw/queue.Check
abbrev r27_0 : List IOp := [o1 1 (.box 29) [.t 0],
  o1 2 (.mov) [.c (.int .i64 0)]]
abbrev r27_1 : List IOp := [o1 10 (.faddr 0) [.t 1],
  o1 11 (.load none) [.t 10],
  o1 12 (.len .slice) [.t 11],
  o1 13 (.bin .leq .prim) [.t 12, .c (.int .i64 32)],
  mv 14 13,
  o2 15 (.faddr 1) [.t 1] 14 true,
  o2 16 (.load none) [.t 15] 14 true,
  o2 17 (.bin .geq .prim) [.t 16, .c (.int .i64 1)] 14 true,
  o1 18 (.pick) [.t 14, .t 17, .c (.bool false)],
  mv 19 18,
  o2 20 (.faddr 1) [.t 1] 19 true,
  o2 21 (.load none) [.t 20] 19 true,
  o2 22 (.bin .leq .prim) [.t 21, .c (.int .i64 1152921504606846976)] 19 true,
  o1 23 (.pick) [.t 19, .t 22, .c (.bool false)],
  mv 24 23,
  o2 25 (.faddr 2) [.t 1] 24 true,
  o2 26 (.load none) [.t 25] 24 true,
  o2 27 (.bin .geq .prim) [.t 26, .c (.int .i64 0)] 24 true,
  o1 28 (.pick) [.t 24, .t 27, .c (.bool false)],
  mv 29 28,
  o2 30 (.faddr 2) [.t 1] 29 true,
  o2 31 (.load none) [.t 30] 29 true,
  o2 32 (.bin .leq .prim) [.t 31, .c (.int .i64 1152921504606846976)] 29 true,
  o1 33 (.pick) [.t 29, .t 32, .c (.bool false)],
  mv 34 33,
  o2 35 (.faddr 3) [.t 1] 34 true,
  o2 36 (.load none) [.t 35] 34 true,
  o2 37 (.len .slice) [.t 36] 34 true,
  o2 38 (.bin .leq .prim) [.t 37, .c (.int .i64 64)] 34 true,
  o1 39 (.pick) [.t 34, .t 38, .c (.bool false)],
  mv 40 39,
  o2 41 (.faddr 4) [.t 1] 40 true,
  o2 42 (.load none) [.t 41] 40 true,
  o2 43 (.len .slice) [.t 42] 40 true,
  o2 44 (.bin .leq .prim) [.t 43, .c (.int .i64 64)] 40 true,
  o1 45 (.pick) [.t 40, .t 44, .c (.bool false)],
  mv 46 45,
  o2 47 (.load (some 6)) [.t 1] 46 true,
  ⟨some 48, .call none, [.f 63, .t 47], some (46, true)⟩,
  o2 49 (.bin .leq .prim) [.t 48, .c (.int .i64 4)] 46 true,
  o1 50 (.pick) [.t 46, .t 49, .c (.bool false)],
  mv 3 50]
abbrev r27_2 : List IOp := [mv 51 3,
  o1 52 (.un .not) [.t 51]]
abbrev r27_3 : List IOp := [o1 2 (.mov) [.c (.int .i64 2)]]
abbrev r27_4 : List IOp := [o1 4 (.mov) [.c (.int .i64 0)]]
abbrev r27_5 : List IOp := [o1 53 (.faddr 0) [.t 1],
  o1 54 (.load none) [.t 53],
  o1 55 (.len .slice) [.t 54],
  o1 56 (.mov) [.c (.int .i64 0)]]
abbrev r27_6 : List IOp := [o1 57 (.bin .lss .prim) [.t 56, .t 55]]
abbrev r27_7 : List IOp := [o1 58 (.iaddr 10) [.t 54, .t 56],
  o1 59 (.load (some 10)) [.t 58],
  o1 6 (.alloc 42 [.int .i64 0, .int .i64 0, .str [], .str [], .str [], .str [], .bool false, .bool false, .int .i64 0, .int .i64 0]) [],
  sr 10 [.t 6, .t 59]]
abbrev r27_8 : List IOp := [o1 60 (.faddr 0) [.t 6],
  o1 61 (.load none) [.t 60],
  mv 62 4,
  o1 63 (.bin .leq .prim) [.t 61, .t 62],
  mv 64 63,
  o2 65 (.faddr 0) [.t 6] 64 false,
  o2 66 (.load none) [.t 65] 64 false,
  o2 67 (.faddr 1) [.t 1] 64 false,
  o2 68 (.load none) [.t 67] 64 false,
  o2 69 (.bin .geq .prim) [.t 66, .t 68] 64 false,
  o1 70 (.pick) [.t 64, .c (.bool true), .t 69],
  mv 71 70,
  o2 72 (.faddr 8) [.t 6] 71 false,
  o2 73 (.load none) [.t 72] 71 false,
  o2 74 (.bin .lss .prim) [.t 73, .c (.int .i64 0)] 71 false,
  o1 75 (.pick) [.t 71, .c (.bool true), .t 74],
  mv 76 75,
  o2 77 (.faddr 8) [.t 6] 76 false,
  o2 78 (.load none) [.t 77] 76 false,
  o2 79 (.bin .geq .prim) [.t 78, .c (.int .i64 5)] 76 false,
  o1 80 (.pick) [.t 76, .c (.bool true), .t 79],
  mv 81 80,
  o2 82 (.faddr 9) [.t 6] 81 false,
  o2 83 (.load none) [.t 82] 81 false,
  o2 84 (.bin .lss .prim) [.t 83, .c (.int .i64 0)] 81 false,
  o1 85 (.pick) [.t 81, .c (.bool true), .t 84],
  mv 86 85,
  o2 87 (.faddr 9) [.t 6] 86 false,
  o2 88 (.load none) [.t 87] 86 false,
  o2 89 (.bin .gtr .prim) [.t 88, .c (.int .i64 1152921504606847040)] 86 false,
  o1 90 (.pick) [.t 86, .c (.bool true), .t 89]]
abbrev r27_9 : List IOp := [o1 2 (.mov) [.c (.int .i64 2)]]
abbrev r27_10 : List IOp := [o1 91 (.faddr 0) [.t 6],
  o1 92 (.load none) [.t 91],
  mv 4 92]
abbrev r27_11 : List IOp := [o1 93 (.bin .add .prim) [.t 56, .c (.int .i64 1)],
  mv 56 93]
abbrev b27_0 : IC := (IC.seq (IC.reg r27_6) (IC.seq (IC.cond (.t 57) IC.skip (IC.exit 0)) (IC.seq (IC.block 1 (IC.seq (IC.reg r27_7) (IC.seq (IC.seq (IC.reg r27_8) (IC.cond (.t 90) (IC.seq (IC.reg r27_9) IC.ret) IC.skip)) (IC.reg r27_10)))) (IC.reg r27_11))))
abbrev r27_12 : List IOp := [o1 94 (.load (some 6)) [.t 1],
  ca 95 [.f 59, .t 94],
  mv 7 95]
abbrev r27_13 : List IOp := [mv 96 7,
  o1 97 (.len .slice) [.t 96],
  o1 98 (.mov) [.c (.int .i64 0)]]
abbrev r27_14 : List IOp := [o1 99 (.bin .lss .prim) [.t 98, .t 97]]
abbrev r27_15 : List IOp := [mv 100 98,
  o1 101 (.iaddr 5) [.t 96, .t 98],
  o1 102 (.load (some 5)) [.t 101],
  o1 9 (.alloc 23 [.int .i64 0, .str [], .str [], .str [], .str []]) [],
  mv 8 100,
  sr 5 [.t 9, .t 102]]
abbrev r27_16 : List IOp := [o1 103 (.load (some 5)) [.t 9],
  ca 104 [.f 57, .t 103],
  o1 105 (.un .not) [.t 104],
  mv 106 105,
  o2 107 (.mov) [.t 7] 106 false,
  o2 108 (.mov) [.t 8] 106 false,
  o2 109 (.slice 5 false true false) [.t 107, .t 108] 106 false,
  o2 110 (.mkfn 71) [.t 9] 106 false,
  ⟨some 111, .call none, [.f 58, .t 109, .t 110], some (106, false)⟩,
  o1 112 (.pick) [.t 106, .c (.bool true), .t 111]]
abbrev r27_17 : List IOp := [o1 2 (.mov) [.c (.int .i64 2)]]
abbrev r27_18 : List IOp := [o1 113 (.bin .add .prim) [.t 98, .c (.int .i64 1)],
  mv 98 113]
abbrev b27_1 : IC := (IC.seq (IC.reg r27_14) (IC.seq (IC.cond (.t 99) IC.skip (IC.exit 2)) (IC.seq (IC.block 3 (IC.seq (IC.reg r27_15) (IC.seq (IC.reg r27_16) (IC.cond (.t 112) (IC.seq (IC.reg r27_17) IC.ret) IC.skip)))) (IC.reg r27_18))))
abbrev r27_19 : List IOp := [o1 2 (.mov) [.c (.int .i64 0)]]
abbrev c27 : IC := (IC.seq (IC.reg r27_0) (IC.seq (IC.reg r27_1) (IC.seq (IC.seq (IC.reg r27_2) (IC.cond (.t 52) (IC.seq (IC.reg r27_3) IC.ret) IC.skip)) (IC.seq (IC.reg r27_4) (IC.seq (IC.seq (IC.reg r27_5) (IC.block 0 (IC.loop b27_0))) (IC.seq (IC.reg r27_12) (IC.seq (IC.seq (IC.reg r27_13) (IC.block 2 (IC.loop b27_1))) (IC.seq (IC.reg r27_19) IC.ret))))))))
abbrev g27 : FC := ⟨c27, 114, [.t 2]⟩
theorem comp27 : compF Go.Proofs.Try.prog (fun _ => 0) 27 = some g27 := by kernel_rfl

-- outlaw/queue.Same
abbrev r28_0 : List IOp := [o1 2 (.box 29) [.t 0],
  o1 3 (.box 29) [.t 1],
  o1 4 (.mov) [.c (.bool false)]]
abbrev r28_1 : List IOp := [o1 5 (.faddr 1) [.t 2],
  o1 6 (.load none) [.t 5],
  o1 7 (.faddr 1) [.t 3],
  o1 8 (.load none) [.t 7],
  o1 9 (.bin .eql .prim) [.t 6, .t 8],
  mv 10 9,
  o2 11 (.faddr 2) [.t 2] 10 true,
  o2 12 (.load none) [.t 11] 10 true,
  o2 13 (.faddr 2) [.t 3] 10 true,
  o2 14 (.load none) [.t 13] 10 true,
  o2 15 (.bin .eql .prim) [.t 12, .t 14] 10 true,
  o1 16 (.pick) [.t 10, .t 15, .c (.bool false)],
  mv 17 16,
  o2 18 (.faddr 5) [.t 2] 17 true,
  o2 19 (.load none) [.t 18] 17 true,
  o2 20 (.faddr 5) [.t 3] 17 true,
  o2 21 (.load none) [.t 20] 17 true,
  o2 22 (.bin .eql .bool) [.t 19, .t 21] 17 true,
  o1 23 (.pick) [.t 17, .t 22, .c (.bool false)],
  mv 24 23,
  o2 25 (.faddr 0) [.t 2] 24 true,
  o2 26 (.load none) [.t 25] 24 true,
  o2 27 (.faddr 0) [.t 3] 24 true,
  o2 28 (.load none) [.t 27] 24 true,
  ⟨some 29, .call none, [.f 72, .t 26, .t 28], some (24, true)⟩,
  o1 30 (.pick) [.t 24, .t 29, .c (.bool false)],
  mv 31 30,
  o2 32 (.faddr 3) [.t 2] 31 true,
  o2 33 (.load none) [.t 32] 31 true,
  o2 34 (.faddr 3) [.t 3] 31 true,
  o2 35 (.load none) [.t 34] 31 true,
  ⟨some 36, .call none, [.f 73, .t 33, .t 35], some (31, true)⟩,
  o1 37 (.pick) [.t 31, .t 36, .c (.bool false)],
  mv 38 37,
  o2 39 (.faddr 4) [.t 2] 38 true,
  o2 40 (.load none) [.t 39] 38 true,
  o2 41 (.faddr 4) [.t 3] 38 true,
  o2 42 (.load none) [.t 41] 38 true,
  ⟨some 43, .call none, [.f 73, .t 40, .t 42], some (38, true)⟩,
  o1 44 (.pick) [.t 38, .t 43, .c (.bool false)],
  mv 4 44]
abbrev c28 : IC := (IC.seq (IC.reg r28_0) (IC.seq (IC.reg r28_1) IC.ret))
abbrev g28 : FC := ⟨c28, 45, [.t 4]⟩
theorem comp28 : compF Go.Proofs.Try.prog (fun _ => 0) 28 = some g28 := by kernel_rfl

-- outlaw/outlawref22.Check
abbrev r29_0 : List IOp := [o1 1 (.box 29) [.t 0],
  o1 2 (.mov) [.c (.int .i64 0)]]
abbrev r29_1 : List IOp := [o1 8 (.faddr 0) [.t 1],
  o1 9 (.load none) [.t 8],
  o1 10 (.len .slice) [.t 9],
  o1 11 (.bin .gtr .prim) [.t 10, .c (.int .i64 32)],
  mv 12 11,
  o2 13 (.faddr 1) [.t 1] 12 false,
  o2 14 (.load none) [.t 13] 12 false,
  o2 15 (.bin .lss .prim) [.t 14, .c (.int .i64 1)] 12 false,
  o1 16 (.pick) [.t 12, .c (.bool true), .t 15],
  mv 17 16,
  o2 18 (.faddr 1) [.t 1] 17 false,
  o2 19 (.load none) [.t 18] 17 false,
  o2 20 (.bin .gtr .prim) [.t 19, .c (.int .i64 1152921504606846976)] 17 false,
  o1 21 (.pick) [.t 17, .c (.bool true), .t 20],
  mv 22 21,
  o2 23 (.faddr 2) [.t 1] 22 false,
  o2 24 (.load none) [.t 23] 22 false,
  o2 25 (.bin .lss .prim) [.t 24, .c (.int .i64 0)] 22 false,
  o1 26 (.pick) [.t 22, .c (.bool true), .t 25],
  mv 27 26,
  o2 28 (.faddr 2) [.t 1] 27 false,
  o2 29 (.load none) [.t 28] 27 false,
  o2 30 (.bin .gtr .prim) [.t 29, .c (.int .i64 1152921504606846976)] 27 false,
  o1 31 (.pick) [.t 27, .c (.bool true), .t 30],
  mv 32 31,
  o2 33 (.faddr 3) [.t 1] 32 false,
  o2 34 (.load none) [.t 33] 32 false,
  o2 35 (.len .slice) [.t 34] 32 false,
  o2 36 (.bin .gtr .prim) [.t 35, .c (.int .i64 64)] 32 false,
  o1 37 (.pick) [.t 32, .c (.bool true), .t 36],
  mv 38 37,
  o2 39 (.faddr 4) [.t 1] 38 false,
  o2 40 (.load none) [.t 39] 38 false,
  o2 41 (.len .slice) [.t 40] 38 false,
  o2 42 (.bin .gtr .prim) [.t 41, .c (.int .i64 64)] 38 false,
  o1 43 (.pick) [.t 38, .c (.bool true), .t 42]]
abbrev r29_2 : List IOp := [o1 2 (.mov) [.c (.int .i64 2)]]
abbrev r29_3 : List IOp := [o1 3 (.mov) [.c (.nils)]]
abbrev r29_4 : List IOp := [o1 4 (.mov) [.c (.int .i64 0)]]
abbrev r29_5 : List IOp := [o1 5 (.mov) [.c (.int .i64 0)]]
abbrev r29_6 : List IOp := [mv 44 5,
  o1 45 (.faddr 0) [.t 1],
  o1 46 (.load none) [.t 45],
  o1 47 (.len .slice) [.t 46],
  o1 48 (.bin .lss .prim) [.t 44, .t 47]]
abbrev r29_7 : List IOp := [o1 51 (.faddr 0) [.t 1],
  o1 52 (.load none) [.t 51],
  mv 53 5,
  o1 54 (.iaddr 10) [.t 52, .t 53],
  o1 55 (.load (some 10)) [.t 54],
  mv 56 4,
  o1 57 (.faddr 1) [.t 1],
  o1 58 (.load none) [.t 57],
  ca 59 [.f 74, .t 55, .t 56, .t 58],
  o1 60 (.un .not) [.t 59]]
abbrev r29_8 : List IOp := [o1 2 (.mov) [.c (.int .i64 2)]]
abbrev r29_9 : List IOp := [o1 61 (.faddr 0) [.t 1],
  o1 62 (.load none) [.t 61],
  mv 63 5,
  o1 64 (.iaddr 10) [.t 62, .t 63],
  o1 65 (.faddr 0) [.t 64],
  o1 66 (.load none) [.t 65],
  mv 4 66]
abbrev r29_10 : List IOp := [mv 67 3,
  o1 68 (.faddr 0) [.t 1],
  o1 69 (.load none) [.t 68],
  mv 70 5,
  o1 71 (.iaddr 10) [.t 69, .t 70],
  o1 72 (.faddr 1) [.t 71],
  o1 73 (.load (some 5)) [.t 72],
  o1 74 (.bsl 23 5 false) [.t 73],
  o1 75 (.app 23 5 72) [.t 67, .t 74],
  mv 3 75]
abbrev r29_11 : List IOp := [mv 49 5,
  o1 50 (.bin .add .prim) [.t 49, .c (.int .i64 1)],
  mv 5 50]
abbrev b29_0 : IC := (IC.seq (IC.seq (IC.reg r29_6) (IC.cond (.t 48) IC.skip (IC.exit 0))) (IC.seq (IC.block 1 (IC.seq (IC.seq (IC.regD .wild r29_7 (.take 0 (.take 1 (.take 2 (.take 3 (.take 4 (.take 5 (.take 6 (.take 7 (.take 8 (.take 9 (.done)))))))))))) (IC.cond (.t 60) (IC.seq (IC.reg r29_8) IC.ret) IC.skip)) (IC.seq (IC.reg r29_9) (IC.reg r29_10)))) (IC.reg r29_11)))
abbrev r29_12 : List IOp := [mv 76 3,
  o1 77 (.faddr 3) [.t 1],
  o1 78 (.load none) [.t 77],
  o1 79 (.app 23 5 72) [.t 76, .t 78],
  o1 80 (.faddr 4) [.t 1],
  o1 81 (.load none) [.t 80],
  o1 82 (.app 23 5 72) [.t 79, .t 81],
  mv 3 82]
abbrev r29_13 : List IOp := [o1 6 (.mov) [.c (.int .i64 0)]]
abbrev r29_14 : List IOp := [mv 83 6,
  mv 84 3,
  o1 85 (.len .slice) [.t 84],
  o1 86 (.bin .lss .prim) [.t 83, .t 85]]
abbrev r29_15 : List IOp := [mv 89 3,
  mv 90 6,
  o1 91 (.iaddr 5) [.t 89, .t 90],
  o1 92 (.faddr 0) [.t 91],
  o1 93 (.load none) [.t 92],
  ca 94 [.f 75, .t 93],
  o1 95 (.un .not) [.t 94]]
abbrev r29_16 : List IOp := [o1 2 (.mov) [.c (.int .i64 2)]]
abbrev r29_17 : List IOp := [o1 7 (.mov) [.c (.int .i64 0)]]
abbrev r29_18 : List IOp := [mv 96 7,
  mv 97 6,
  o1 98 (.bin .lss .prim) [.t 96, .t 97]]
abbrev r29_19 : List IOp := [mv 101 3,
  mv 102 6,
  o1 103 (.iaddr 5) [.t 101, .t 102],
  o1 104 (.load (some 5)) [.t 103],
  mv 105 3,
  mv 106 7,
  o1 107 (.iaddr 5) [.t 105, .t 106],
  o1 108 (.load (some 5)) [.t 107],
  ca 109 [.f 39, .t 104, .t 108]]
abbrev r29_20 : List IOp := [o1 2 (.mov) [.c (.int .i64 2)]]
abbrev r29_21 : List IOp := [mv 99 7,
  o1 100 (.bin .add .prim) [.t 99, .c (.int .i64 1)],
  mv 7 100]
abbrev b29_1 : IC := (IC.seq (IC.seq (IC.reg r29_18) (IC.cond (.t 98) IC.skip (IC.exit 4))) (IC.seq (IC.block 5 (IC.seq (IC.regD .wild r29_19 (.take 0 (.take 1 (.take 2 (.take 3 (.take 4 (.take 5 (.take 6 (.take 7 (.take 8 (.done))))))))))) (IC.cond (.t 109) (IC.seq (IC.reg r29_20) IC.ret) IC.skip))) (IC.reg r29_21)))
abbrev r29_22 : List IOp := [mv 87 6,
  o1 88 (.bin .add .prim) [.t 87, .c (.int .i64 1)],
  mv 6 88]
abbrev b29_2 : IC := (IC.seq (IC.seq (IC.reg r29_14) (IC.cond (.t 86) IC.skip (IC.exit 2))) (IC.seq (IC.block 3 (IC.seq (IC.seq (IC.reg r29_15) (IC.cond (.t 95) (IC.seq (IC.reg r29_16) IC.ret) IC.skip)) (IC.seq (IC.reg r29_17) (IC.block 4 (IC.loop b29_1))))) (IC.reg r29_22)))
abbrev r29_23 : List IOp := [o1 110 (.load (some 6)) [.t 1],
  ca 111 [.f 76, .t 110],
  o1 112 (.bin .gtr .prim) [.t 111, .c (.int .i64 4)]]
abbrev r29_24 : List IOp := [o1 2 (.mov) [.c (.int .i64 2)]]
abbrev r29_25 : List IOp := [o1 2 (.mov) [.c (.int .i64 0)]]
abbrev c29 : IC := (IC.seq (IC.reg r29_0) (IC.seq (IC.seq (IC.reg r29_1) (IC.cond (.t 43) (IC.seq (IC.reg r29_2) IC.ret) IC.skip)) (IC.seq (IC.reg r29_3) (IC.seq (IC.reg r29_4) (IC.seq (IC.seq (IC.reg r29_5) (IC.block 0 (IC.loop b29_0))) (IC.seq (IC.regD .wild r29_12 (.take 0 (.take 1 (.take 2 (.take 4 (.fork [(3, .take 5 (.take 6 (.take 7 (.done)))), (5, .take 3 (.take 6 (.take 7 (.done))))])))))) (IC.seq (IC.seq (IC.reg r29_13) (IC.block 2 (IC.loop b29_2))) (IC.seq (IC.seq (IC.reg r29_23) (IC.cond (.t 112) (IC.seq (IC.reg r29_24) IC.ret) IC.skip)) (IC.seq (IC.reg r29_25) IC.ret)))))))))
abbrev g29 : FC := ⟨c29, 113, [.t 2]⟩
theorem comp29 : compF Go.Proofs.Try.prog (hintL [(8, 6), (12, 6), (21, 6)]) 29 = some g29 := by kernel_rfl

-- outlaw/queue.Backoff
abbrev r30_0 : List IOp := [o1 2 (.mov) [.c (.int .i64 0)]]
abbrev r30_1 : List IOp := [mv 3 0,
  o1 4 (.bin .lss .prim) [.t 3, .c (.int .i64 1)]]
abbrev r30_2 : List IOp := [o1 2 (.mov) [.c (.int .i64 0)]]
abbrev r30_3 : List IOp := [mv 5 0,
  o1 6 (.min) [.t 5, .c (.int .i64 20)],
  o1 7 (.bin .shl .prim) [.c (.int .i64 1), .t 6],
  o1 8 (.min) [.c (.int .i64 64), .t 7],
  mv 2 8]
abbrev c30 : IC := (IC.seq (IC.reg r30_0) (IC.seq (IC.seq (IC.reg r30_1) (IC.cond (.t 4) (IC.seq (IC.reg r30_2) IC.ret) IC.skip)) (IC.seq (IC.reg r30_3) IC.ret)))
abbrev g30 : FC := ⟨c30, 9, [.t 2]⟩
theorem comp30 : compF Go.Proofs.Try.prog (fun _ => 0) 30 = some g30 := by kernel_rfl

-- outlaw/outlawref22.Backoff
abbrev r31_0 : List IOp := [o1 2 (.mov) [.c (.int .i64 0)]]
abbrev r31_1 : List IOp := [mv 5 0,
  o1 6 (.bin .lss .prim) [.t 5, .c (.int .i64 1)]]
abbrev r31_2 : List IOp := [o1 2 (.mov) [.c (.int .i64 0)]]
abbrev r31_3 : List IOp := [o1 3 (.mov) [.c (.int .i64 1)]]
abbrev r31_4 : List IOp := [o1 4 (.mov) [.c (.int .i64 0)]]
abbrev r31_5 : List IOp := [mv 7 4,
  mv 8 0,
  o1 9 (.bin .lss .prim) [.t 7, .t 8],
  mv 10 9,
  o2 11 (.mov) [.t 3] 10 true,
  o2 12 (.bin .lss .prim) [.t 11, .c (.int .i64 64)] 10 true,
  o1 13 (.pick) [.t 10, .t 12, .c (.bool false)]]
abbrev r31_6 : List IOp := [mv 16 3,
  o1 17 (.bin .mul .prim) [.c (.int .i64 2), .t 16],
  mv 3 17]
abbrev r31_7 : List IOp := [mv 14 4,
  o1 15 (.bin .add .prim) [.t 14, .c (.int .i64 1)],
  mv 4 15]
abbrev b31_0 : IC := (IC.seq (IC.seq (IC.reg r31_5) (IC.cond (.t 13) IC.skip (IC.exit 0))) (IC.seq (IC.block 1 (IC.reg r31_6)) (IC.reg r31_7)))
abbrev r31_8 : List IOp := [mv 18 3,
  mv 2 18]
abbrev c31 : IC := (IC.seq (IC.reg r31_0) (IC.seq (IC.seq (IC.reg r31_1) (IC.cond (.t 6) (IC.seq (IC.reg r31_2) IC.ret) IC.skip)) (IC.seq (IC.reg r31_3) (IC.seq (IC.seq (IC.reg r31_4) (IC.block 0 (IC.loop b31_0))) (IC.seq (IC.reg r31_8) IC.ret)))))
abbrev g31 : FC := ⟨c31, 19, [.t 2]⟩
theorem comp31 : compF Go.Proofs.Try.prog (fun _ => 0) 31 = some g31 := by kernel_rfl

-- outlaw/outlawref22.Own
abbrev r32_0 : List IOp := [o1 1 (.box 29) [.t 0],
  o1 2 (.alloc 29 [.nils, .int .i64 0, .int .i64 0, .nils, .nils, .bool false]) []]
abbrev r32_1 : List IOp := [o1 3 (.bsl 42 10 true) [],
  o1 4 (.faddr 0) [.t 1],
  o1 5 (.load none) [.t 4],
  o1 6 (.app 42 10 104) [.t 3, .t 5],
  o1 7 (.bsl 23 5 true) [],
  o1 8 (.faddr 3) [.t 1],
  o1 9 (.load none) [.t 8],
  o1 10 (.app 23 5 72) [.t 7, .t 9],
  o1 11 (.bsl 23 5 true) [],
  o1 12 (.faddr 4) [.t 1],
  o1 13 (.load none) [.t 12],
  o1 14 (.app 23 5 72) [.t 11, .t 13],
  o1 15 (.faddr 0) [.t 1],
  sr 1 [.t 15, .t 6],
  o1 16 (.faddr 3) [.t 1],
  sr 1 [.t 16, .t 10],
  o1 17 (.faddr 4) [.t 1],
  sr 1 [.t 17, .t 14]]
abbrev r32_2 : List IOp := [o1 18 (.load (some 6)) [.t 1],
  sr 6 [.t 2, .t 18]]
abbrev c32 : IC := (IC.seq (IC.reg r32_0) (IC.seq (IC.regD .wild r32_1 (.take 0 (.take 1 (.take 2 (.take 4 (.take 5 (.take 8 (.take 9 (.fork [(3, .take 6 (.fork [(7, .take 10 (.take 11 (.take 12 (.take 13 (.take 14 (.take 15 (.take 16 (.take 17 (.done))))))))), (10, .take 7 (.take 11 (.take 12 (.take 13 (.take 14 (.take 15 (.take 16 (.take 17 (.done)))))))))])), (6, .fork [(3, .fork [(7, .take 10 (.take 11 (.take 12 (.take 13 (.take 14 (.take 15 (.take 16 (.take 17 (.done))))))))), (10, .take 7 (.take 11 (.take 12 (.take 13 (.take 14 (.take 15 (.take 16 (.take 17 (.done)))))))))]), (10, .take 3 (.take 7 (.take 11 (.take 12 (.take 13 (.take 14 (.take 15 (.take 16 (.take 17 (.done))))))))))]), (10, .fork [(3, .take 6 (.take 7 (.take 11 (.take 12 (.take 13 (.take 14 (.take 15 (.take 16 (.take 17 (.done)))))))))), (6, .take 3 (.take 7 (.take 11 (.take 12 (.take 13 (.take 14 (.take 15 (.take 16 (.take 17 (.done))))))))))])]))))))))) (IC.seq (IC.reg r32_2) IC.ret)))
abbrev g32 : FC := ⟨c32, 19, [.cell 2 (some 6)]⟩
theorem comp32 : compF Go.Proofs.Try.prog (hintL [(1, 2)]) 32 = some g32 := by kernel_rfl

-- outlaw/outlawlaw22.does
abbrev r33_0 : List IOp := [o1 2 (.box 29) [.t 0],
  o1 3 (.box 50) [.t 1],
  o1 4 (.alloc 29 [.nils, .int .i64 0, .int .i64 0, .nils, .nils, .bool false]) [],
  o1 5 (.mov) [.c (.int .i64 0)],
  o1 6 (.mov) [.c (.int .i64 0)],
  o1 7 (.mov) [.c (.int .i64 0)],
  o1 8 (.mov) [.c (.nils)]]
abbrev r33_1 : List IOp := [o1 25 (.faddr 0) [.t 3],
  o1 26 (.load none) [.t 25],
  ca 27 [.f 18, .t 26, .c (.int .i64 9)]]
abbrev r33_2 : List IOp := [o1 29 (.bin .eql .prim) [.t 27, .c (.int .i64 0)],
  mv 28 29]
abbrev r33_3 : List IOp := [o1 30 (.bin .eql .prim) [.t 27, .c (.int .i64 1)],
  mv 28 30]
abbrev r33_4 : List IOp := [o1 32 (.load (some 6)) [.t 2],
  o1 33 (.faddr 1) [.t 3],
  o1 34 (.load (some 5)) [.t 33],
  ca 35 [.f 77, .t 32, .t 34],
  mv 31 35,
  o1 36 (.extract 0) [.t 31],
  o1 37 (.extract 1) [.t 31],
  o1 38 (.extract 2) [.t 31],
  o1 9 (.alloc 29 [.nils, .int .i64 0, .int .i64 0, .nils, .nils, .bool false]) [],
  sr 6 [.t 9, .t 36],
  mv 10 37,
  mv 11 38]
abbrev r33_5 : List IOp := [o1 39 (.load (some 6)) [.t 9],
  mv 40 11,
  mv 41 10,
  sr 6 [.t 4, .t 39],
  mv 5 40,
  o1 6 (.mov) [.c (.int .i64 0)],
  mv 7 41,
  o1 8 (.mov) [.c (.nils)]]
abbrev r33_6 : List IOp := [o1 43 (.bin .eql .prim) [.t 27, .c (.int .i64 2)],
  mv 42 43]
abbrev r33_7 : List IOp := [o1 45 (.load (some 6)) [.t 2],
  ca 46 [.f 34, .t 45, .c (.nils)],
  mv 44 46,
  o1 47 (.extract 0) [.t 44],
  o1 48 (.extract 1) [.t 44],
  o1 12 (.alloc 42 [.int .i64 0, .int .i64 0, .str [], .str [], .str [], .str [], .bool false, .bool false, .int .i64 0, .int .i64 0]) [],
  sr 10 [.t 12, .t 47],
  mv 13 48]
abbrev r33_8 : List IOp := [o1 50 (.load (some 6)) [.t 2],
  o1 51 (.faddr 0) [.t 12],
  o1 52 (.load none) [.t 51],
  ca 53 [.f 78, .t 50, .t 52],
  mv 49 53,
  o1 54 (.extract 0) [.t 49],
  o1 55 (.extract 1) [.t 49],
  o1 14 (.alloc 29 [.nils, .int .i64 0, .int .i64 0, .nils, .nils, .bool false]) [],
  sr 6 [.t 14, .t 54],
  mv 15 55]
abbrev r33_9 : List IOp := [o1 56 (.load (some 6)) [.t 14],
  mv 57 15,
  o1 58 (.faddr 0) [.t 12],
  o1 59 (.load none) [.t 58],
  sr 6 [.t 4, .t 56],
  mv 5 57,
  o1 6 (.mov) [.c (.int .i64 0)],
  mv 7 59,
  o1 8 (.mov) [.c (.nils)]]
abbrev r33_10 : List IOp := [o1 61 (.bin .eql .prim) [.t 27, .c (.int .i64 3)],
  mv 60 61]
abbrev r33_11 : List IOp := [o1 63 (.load (some 6)) [.t 2],
  o1 64 (.faddr 6) [.t 3],
  o1 65 (.load none) [.t 64],
  ca 66 [.f 78, .t 63, .t 65],
  mv 62 66,
  o1 67 (.extract 0) [.t 62],
  o1 68 (.extract 1) [.t 62],
  o1 16 (.alloc 29 [.nils, .int .i64 0, .int .i64 0, .nils, .nils, .bool false]) [],
  sr 6 [.t 16, .t 67],
  mv 17 68]
abbrev r33_12 : List IOp := [o1 69 (.load (some 6)) [.t 16],
  mv 70 17,
  sr 6 [.t 4, .t 69],
  mv 5 70,
  o1 6 (.mov) [.c (.int .i64 0)],
  o1 7 (.mov) [.c (.int .i64 0)],
  o1 8 (.mov) [.c (.nils)]]
abbrev r33_13 : List IOp := [o1 72 (.bin .eql .prim) [.t 27, .c (.int .i64 4)],
  mv 71 72]
abbrev r33_14 : List IOp := [o1 74 (.load (some 6)) [.t 2],
  o1 75 (.faddr 6) [.t 3],
  o1 76 (.load none) [.t 75],
  o1 77 (.faddr 8) [.t 3],
  o1 78 (.load none) [.t 77],
  ca 79 [.f 79, .t 74, .t 76, .t 78],
  mv 73 79,
  o1 80 (.extract 0) [.t 73],
  o1 81 (.extract 1) [.t 73],
  o1 82 (.extract 2) [.t 73],
  o1 18 (.alloc 29 [.nils, .int .i64 0, .int .i64 0, .nils, .nils, .bool false]) [],
  sr 6 [.t 18, .t 80],
  mv 19 81,
  mv 20 82]
abbrev r33_15 : List IOp := [o1 83 (.load (some 6)) [.t 18],
  mv 84 20,
  mv 85 19,
  sr 6 [.t 4, .t 83],
  mv 5 84,
  mv 6 85,
  o1 7 (.mov) [.c (.int .i64 0)],
  o1 8 (.mov) [.c (.nils)]]
abbrev r33_16 : List IOp := [o1 87 (.bin .eql .prim) [.t 27, .c (.int .i64 5)],
  mv 86 87]
abbrev r33_17 : List IOp := [o1 89 (.load (some 6)) [.t 2],
  o1 90 (.faddr 7) [.t 3],
  o1 91 (.load none) [.t 90],
  ca 92 [.f 80, .t 89, .t 91],
  mv 88 92,
  o1 93 (.extract 0) [.t 88],
  o1 94 (.extract 1) [.t 88],
  o1 21 (.alloc 29 [.nils, .int .i64 0, .int .i64 0, .nils, .nils, .bool false]) [],
  sr 6 [.t 21, .t 93],
  mv 22 94]
abbrev r33_18 : List IOp := [o1 95 (.load (some 6)) [.t 21],
  mv 96 22,
  sr 6 [.t 4, .t 95],
  mv 5 96,
  o1 6 (.mov) [.c (.int .i64 0)],
  o1 7 (.mov) [.c (.int .i64 0)],
  o1 8 (.mov) [.c (.nils)]]
abbrev r33_19 : List IOp := [o1 98 (.bin .eql .prim) [.t 27, .c (.int .i64 6)],
  mv 97 98]
abbrev r33_20 : List IOp := [o1 100 (.load (some 6)) [.t 2],
  o1 101 (.faddr 9) [.t 3],
  o1 102 (.load none) [.t 101],
  ca 103 [.f 81, .t 100, .t 102],
  mv 99 103,
  o1 104 (.extract 0) [.t 99],
  o1 105 (.extract 1) [.t 99],
  o1 23 (.alloc 29 [.nils, .int .i64 0, .int .i64 0, .nils, .nils, .bool false]) [],
  sr 6 [.t 23, .t 104],
  mv 24 105]
abbrev r33_21 : List IOp := [o1 106 (.load (some 6)) [.t 23],
  mv 107 24,
  sr 6 [.t 4, .t 106],
  o1 5 (.mov) [.c (.int .i64 0)],
  o1 6 (.mov) [.c (.int .i64 0)],
  o1 7 (.mov) [.c (.int .i64 0)],
  mv 8 107]
abbrev r33_22 : List IOp := [o1 109 (.bin .eql .prim) [.t 27, .c (.int .i64 7)],
  mv 108 109]
abbrev r33_23 : List IOp := [o1 110 (.load (some 6)) [.t 2],
  ca 111 [.f 82, .t 110],
  sr 6 [.t 4, .t 111],
  o1 5 (.mov) [.c (.int .i64 0)],
  o1 6 (.mov) [.c (.int .i64 0)],
  o1 7 (.mov) [.c (.int .i64 0)],
  o1 8 (.mov) [.c (.nils)]]
abbrev r33_24 : List IOp := [o1 112 (.load (some 6)) [.t 2],
  ca 113 [.f 83, .t 112],
  sr 6 [.t 4, .t 113],
  o1 5 (.mov) [.c (.int .i64 0)],
  o1 6 (.mov) [.c (.int .i64 0)],
  o1 7 (.mov) [.c (.int .i64 0)],
  o1 8 (.mov) [.c (.nils)]]
abbrev c33 : IC := (IC.seq (IC.reg r33_0) (IC.seq (IC.seq (IC.reg r33_1) (IC.block 0 (IC.seq (IC.seq (IC.reg r33_2) (IC.cond (.t 28) IC.skip (IC.reg r33_3))) (IC.cond (.t 28) (IC.seq (IC.reg r33_4) (IC.seq (IC.reg r33_5) IC.ret)) (IC.seq (IC.reg r33_6) (IC.cond (.t 42) (IC.seq (IC.reg r33_7) (IC.seq (IC.reg r33_8) (IC.seq (IC.regD .wild r33_9 (.take 0 (.take 1 (.take 2 (.fork [(3, .take 4 (.take 5 (.take 6 (.take 7 (.take 8 (.done)))))), (4, .take 3 (.take 5 (.take 6 (.take 7 (.take 8 (.done))))))]))))) IC.ret))) (IC.seq (IC.reg r33_10) (IC.cond (.t 60) (IC.seq (IC.reg r33_11) (IC.seq (IC.reg r33_12) IC.ret)) (IC.seq (IC.reg r33_13) (IC.cond (.t 71) (IC.seq (IC.reg r33_14) (IC.seq (IC.reg r33_15) IC.ret)) (IC.seq (IC.reg r33_16) (IC.cond (.t 86) (IC.seq (IC.reg r33_17) (IC.seq (IC.reg r33_18) IC.ret)) (IC.seq (IC.reg r33_19) (IC.cond (.t 97) (IC.seq (IC.reg r33_20) (IC.seq (IC.reg r33_21) IC.ret)) (IC.seq (IC.reg r33_22) (IC.cond (.t 108) (IC.seq (IC.reg r33_23) IC.ret) IC.skip)))))))))))))))) (IC.seq (IC.reg r33_24) IC.ret)))
abbrev g33 : FC := ⟨c33, 114, [.cell 4 (some 6), .t 5, .t 6, .t 7, .t 8]⟩
theorem comp33 : compF Go.Proofs.Try.prog (hintL [(9, 6)]) 33 = some g33 := by kernel_rfl

-- outlaw/outlawref22.Next
abbrev r34_0 : List IOp := [o1 2 (.box 29) [.t 0],
  o1 4 (.alloc 42 [.int .i64 0, .int .i64 0, .str [], .str [], .str [], .str [], .bool false, .bool false, .int .i64 0, .int .i64 0]) [],
  o1 5 (.mov) [.c (.bool false)]]
abbrev r34_1 : List IOp := [o1 10 (.load (some 6)) [.t 2],
  ca 11 [.f 76, .t 10],
  o1 12 (.bin .geq .prim) [.t 11, .c (.int .i64 4)]]
abbrev r34_2 : List IOp := [o1 13 (.bst [.int .i64 0, .int .i64 0, .str [], .str [], .str [], .str [], .bool false, .bool false, .int .i64 0, .int .i64 0] [(0, 1), (1, 5), (6, 1), (7, 1), (8, 1), (9, 1)] []) [],
  sr 10 [.t 4, .t 13],
  o1 5 (.mov) [.c (.bool false)]]
abbrev r34_3 : List IOp := [o1 6 (.mov) [.c (.int .i64 0)]]
abbrev r34_4 : List IOp := [mv 14 6,
  o1 15 (.faddr 0) [.t 2],
  o1 16 (.load none) [.t 15],
  o1 17 (.len .slice) [.t 16],
  o1 18 (.bin .lss .prim) [.t 14, .t 17]]
abbrev r34_5 : List IOp := [o1 21 (.faddr 0) [.t 2],
  o1 22 (.load none) [.t 21],
  mv 23 6,
  o1 24 (.iaddr 10) [.t 22, .t 23],
  o1 25 (.load (some 10)) [.t 24],
  o1 7 (.alloc 42 [.int .i64 0, .int .i64 0, .str [], .str [], .str [], .str [], .bool false, .bool false, .int .i64 0, .int .i64 0]) [],
  sr 10 [.t 7, .t 25]]
abbrev r34_6 : List IOp := [o1 26 (.faddr 7) [.t 7],
  o1 27 (.load none) [.t 26],
  mv 28 27,
  o2 29 (.faddr 6) [.t 7] 28 true,
  o2 30 (.load none) [.t 29] 28 true,
  o2 31 (.un .not) [.t 30] 28 true,
  o1 32 (.pick) [.t 28, .t 31, .c (.bool false)],
  mv 33 32,
  o2 34 (.mov) [.t 1] 33 true,
  o2 35 (.faddr 0) [.t 7] 33 true,
  o2 36 (.load none) [.t 35] 33 true,
  ⟨some 37, .call none, [.f 84, .t 34, .t 36], some (33, true)⟩,
  o2 38 (.un .not) [.t 37] 33 true,
  o1 39 (.pick) [.t 33, .t 38, .c (.bool false)]]
abbrev r34_7 : List IOp := [o1 40 (.load (some 10)) [.t 7],
  sr 10 [.t 4, .t 40],
  o1 5 (.mov) [.c (.bool true)]]
abbrev r34_8 : List IOp := [mv 19 6,
  o1 20 (.bin .add .prim) [.t 19, .c (.int .i64 1)],
  mv 6 20]
abbrev b34_0 : IC := (IC.seq (IC.seq (IC.reg r34_4) (IC.cond (.t 18) IC.skip (IC.exit 0))) (IC.seq (IC.block 1 (IC.seq (IC.reg r34_5) (IC.seq (IC.reg r34_6) (IC.cond (.t 39) (IC.seq (IC.reg r34_7) IC.ret) IC.skip)))) (IC.reg r34_8)))
abbrev r34_9 : List IOp := [o1 8 (.mov) [.c (.int .i64 0)]]
abbrev r34_10 : List IOp := [mv 41 8,
  o1 42 (.faddr 0) [.t 2],
  o1 43 (.load none) [.t 42],
  o1 44 (.len .slice) [.t 43],
  o1 45 (.bin .lss .prim) [.t 41, .t 44]]
abbrev r34_11 : List IOp := [o1 48 (.faddr 0) [.t 2],
  o1 49 (.load none) [.t 48],
  mv 50 8,
  o1 51 (.iaddr 10) [.t 49, .t 50],
  o1 52 (.load (some 10)) [.t 51],
  o1 9 (.alloc 42 [.int .i64 0, .int .i64 0, .str [], .str [], .str [], .str [], .bool false, .bool false, .int .i64 0, .int .i64 0]) [],
  sr 10 [.t 9, .t 52]]
abbrev r34_12 : List IOp := [o1 53 (.faddr 7) [.t 9],
  o1 54 (.load none) [.t 53],
  o1 55 (.un .not) [.t 54],
  mv 56 55,
  o2 57 (.faddr 6) [.t 9] 56 true,
  o2 58 (.load none) [.t 57] 56 true,
  o2 59 (.un .not) [.t 58] 56 true,
  o1 60 (.pick) [.t 56, .t 59, .c (.bool false)],
  mv 61 60,
  o2 62 (.faddr 9) [.t 9] 61 true,
  o2 63 (.load none) [.t 62] 61 true,
  o2 64 (.faddr 2) [.t 2] 61 true,
  o2 65 (.load none) [.t 64] 61 true,
  o2 66 (.bin .leq .prim) [.t 63, .t 65] 61 true,
  o1 67 (.pick) [.t 61, .t 66, .c (.bool false)],
  mv 68 67,
  o2 69 (.mov) [.t 1] 68 true,
  o2 70 (.faddr 0) [.t 9] 68 true,
  o2 71 (.load none) [.t 70] 68 true,
  ⟨some 72, .call none, [.f 84, .t 69, .t 71], some (68, true)⟩,
  o2 73 (.un .not) [.t 72] 68 true,
  o1 74 (.pick) [.t 68, .t 73, .c (.bool false)]]
abbrev r34_13 : List IOp := [o1 75 (.load (some 10)) [.t 9],
  sr 10 [.t 4, .t 75],
  o1 5 (.mov) [.c (.bool true)]]
abbrev r34_14 : List IOp := [mv 46 8,
  o1 47 (.bin .add .prim) [.t 46, .c (.int .i64 1)],
  mv 8 47]
abbrev b34_1 : IC := (IC.seq (IC.seq (IC.reg r34_10) (IC.cond (.t 45) IC.skip (IC.exit 2))) (IC.seq (IC.block 3 (IC.seq (IC.reg r34_11) (IC.seq (IC.reg r34_12) (IC.cond (.t 74) (IC.seq (IC.reg r34_13) IC.ret) IC.skip)))) (IC.reg r34_14)))
abbrev r34_15 : List IOp := [o1 76 (.bst [.int .i64 0, .int .i64 0, .str [], .str [], .str [], .str [], .bool false, .bool false, .int .i64 0, .int .i64 0] [(0, 1), (1, 5), (6, 1), (7, 1), (8, 1), (9, 1)] []) [],
  sr 10 [.t 4, .t 76],
  o1 5 (.mov) [.c (.bool false)]]
abbrev c34 : IC := (IC.seq (IC.reg r34_0) (IC.seq (IC.seq (IC.reg r34_1) (IC.cond (.t 12) (IC.seq (IC.reg r34_2) IC.ret) IC.skip)) (IC.seq (IC.seq (IC.reg r34_3) (IC.block 0 (IC.loop b34_0))) (IC.seq (IC.seq (IC.reg r34_9) (IC.block 2 (IC.loop b34_1))) (IC.seq (IC.reg r34_15) IC.ret)))))
abbrev g34 : FC := ⟨c34, 77, [.cell 4 (some 10), .t 5]⟩
theorem comp34 : compF Go.Proofs.Try.prog (fun _ => 0) 34 = some g34 := by kernel_rfl

-- outlaw/queue.Find
abbrev r35_0 : List IOp := [o1 2 (.box 29) [.t 0],
  o1 4 (.alloc 42 [.int .i64 0, .int .i64 0, .str [], .str [], .str [], .str [], .bool false, .bool false, .int .i64 0, .int .i64 0]) [],
  o1 5 (.mov) [.c (.bool false)]]
abbrev r35_1 : List IOp := [o1 7 (.load (some 6)) [.t 2],
  mv 8 1,
  ca 9 [.f 61, .t 7, .t 8],
  mv 6 9]
abbrev r35_2 : List IOp := [mv 10 6,
  o1 11 (.bin .geq .prim) [.t 10, .c (.int .i64 0)]]
abbrev r35_3 : List IOp := [o1 12 (.faddr 0) [.t 2],
  o1 13 (.load none) [.t 12],
  mv 14 6,
  o1 15 (.iaddr 10) [.t 13, .t 14],
  o1 16 (.load (some 10)) [.t 15],
  sr 10 [.t 4, .t 16],
  o1 5 (.mov) [.c (.bool true)]]
abbrev r35_4 : List IOp := [o1 17 (.bst [.int .i64 0, .int .i64 0, .str [], .str [], .str [], .str [], .bool false, .bool false, .int .i64 0, .int .i64 0] [(0, 1), (1, 5), (6, 1), (7, 1), (8, 1), (9, 1)] []) [],
  sr 10 [.t 4, .t 17],
  o1 5 (.mov) [.c (.bool false)]]
abbrev c35 : IC := (IC.seq (IC.reg r35_0) (IC.seq (IC.seq (IC.reg r35_1) (IC.seq (IC.reg r35_2) (IC.cond (.t 11) (IC.seq (IC.reg r35_3) IC.ret) IC.skip))) (IC.seq (IC.reg r35_4) IC.ret)))
abbrev g35 : FC := ⟨c35, 18, [.cell 4 (some 10), .t 5]⟩
theorem comp35 : compF Go.Proofs.Try.prog (fun _ => 0) 35 = some g35 := by kernel_rfl

-- outlaw/outlawref22.Find
abbrev r36_0 : List IOp := [o1 2 (.box 29) [.t 0],
  o1 4 (.alloc 42 [.int .i64 0, .int .i64 0, .str [], .str [], .str [], .str [], .bool false, .bool false, .int .i64 0, .int .i64 0]) [],
  o1 5 (.mov) [.c (.bool false)]]
abbrev r36_1 : List IOp := [o1 7 (.load (some 6)) [.t 2],
  mv 8 1,
  ca 9 [.f 85, .t 7, .t 8],
  mv 6 9]
abbrev r36_2 : List IOp := [mv 10 6,
  o1 11 (.bin .lss .prim) [.t 10, .c (.int .i64 0)]]
abbrev r36_3 : List IOp := [o1 12 (.bst [.int .i64 0, .int .i64 0, .str [], .str [], .str [], .str [], .bool false, .bool false, .int .i64 0, .int .i64 0] [(0, 1), (1, 5), (6, 1), (7, 1), (8, 1), (9, 1)] []) [],
  sr 10 [.t 4, .t 12],
  o1 5 (.mov) [.c (.bool false)]]
abbrev r36_4 : List IOp := [o1 13 (.faddr 0) [.t 2],
  o1 14 (.load none) [.t 13],
  mv 15 6,
  o1 16 (.iaddr 10) [.t 14, .t 15],
  o1 17 (.load (some 10)) [.t 16],
  sr 10 [.t 4, .t 17],
  o1 5 (.mov) [.c (.bool true)]]
abbrev c36 : IC := (IC.seq (IC.reg r36_0) (IC.seq (IC.reg r36_1) (IC.seq (IC.seq (IC.reg r36_2) (IC.cond (.t 11) (IC.seq (IC.reg r36_3) IC.ret) IC.skip)) (IC.seq (IC.reg r36_4) IC.ret))))
abbrev g36 : FC := ⟨c36, 18, [.cell 4 (some 10), .t 5]⟩
theorem comp36 : compF Go.Proofs.Try.prog (fun _ => 0) 36 = some g36 := by kernel_rfl

-- outlaw/outlawref22.Same
abbrev r37_0 : List IOp := [o1 2 (.box 29) [.t 0],
  o1 3 (.box 29) [.t 1],
  o1 4 (.mov) [.c (.bool false)]]
abbrev r37_1 : List IOp := [o1 8 (.faddr 0) [.t 2],
  o1 9 (.load none) [.t 8],
  o1 10 (.len .slice) [.t 9],
  o1 11 (.faddr 0) [.t 3],
  o1 12 (.load none) [.t 11],
  o1 13 (.len .slice) [.t 12],
  o1 14 (.bin .neq .prim) [.t 10, .t 13],
  mv 15 14,
  o2 16 (.faddr 3) [.t 2] 15 false,
  o2 17 (.load none) [.t 16] 15 false,
  o2 18 (.len .slice) [.t 17] 15 false,
  o2 19 (.faddr 3) [.t 3] 15 false,
  o2 20 (.load none) [.t 19] 15 false,
  o2 21 (.len .slice) [.t 20] 15 false,
  o2 22 (.bin .neq .prim) [.t 18, .t 21] 15 false,
  o1 23 (.pick) [.t 15, .c (.bool true), .t 22],
  mv 24 23,
  o2 25 (.faddr 4) [.t 2] 24 false,
  o2 26 (.load none) [.t 25] 24 false,
  o2 27 (.len .slice) [.t 26] 24 false,
  o2 28 (.faddr 4) [.t 3] 24 false,
  o2 29 (.load none) [.t 28] 24 false,
  o2 30 (.len .slice) [.t 29] 24 false,
  o2 31 (.bin .neq .prim) [.t 27, .t 30] 24 false,
  o1 32 (.pick) [.t 24, .c (.bool true), .t 31],
  mv 33 32,
  o2 34 (.faddr 1) [.t 2] 33 false,
  o2 35 (.load none) [.t 34] 33 false,
  o2 36 (.faddr 1) [.t 3] 33 false,
  o2 37 (.load none) [.t 36] 33 false,
  o2 38 (.bin .neq .prim) [.t 35, .t 37] 33 false,
  o1 39 (.pick) [.t 33, .c (.bool true), .t 38],
  mv 40 39,
  o2 41 (.faddr 2) [.t 2] 40 false,
  o2 42 (.load none) [.t 41] 40 false,
  o2 43 (.faddr 2) [.t 3] 40 false,
  o2 44 (.load none) [.t 43] 40 false,
  o2 45 (.bin .neq .prim) [.t 42, .t 44] 40 false,
  o1 46 (.pick) [.t 40, .c (.bool true), .t 45],
  mv 47 46,
  o2 48 (.faddr 5) [.t 2] 47 false,
  o2 49 (.load none) [.t 48] 47 false,
  o2 50 (.faddr 5) [.t 3] 47 false,
  o2 51 (.load none) [.t 50] 47 false,
  o2 52 (.bin .neq .bool) [.t 49, .t 51] 47 false,
  o1 53 (.pick) [.t 47, .c (.bool true), .t 52]]
abbrev r37_2 : List IOp := [o1 4 (.mov) [.c (.bool false)]]
abbrev r37_3 : List IOp := [o1 5 (.mov) [.c (.int .i64 0)]]
abbrev r37_4 : List IOp := [mv 54 5,
  o1 55 (.faddr 0) [.t 2],
  o1 56 (.load none) [.t 55],
  o1 57 (.len .slice) [.t 56],
  o1 58 (.bin .lss .prim) [.t 54, .t 57]]
abbrev r37_5 : List IOp := [o1 61 (.faddr 0) [.t 2],
  o1 62 (.load none) [.t 61],
  mv 63 5,
  o1 64 (.iaddr 10) [.t 62, .t 63],
  o1 65 (.load (some 10)) [.t 64],
  o1 66 (.faddr 0) [.t 3],
  o1 67 (.load none) [.t 66],
  mv 68 5,
  o1 69 (.iaddr 10) [.t 67, .t 68],
  o1 70 (.load (some 10)) [.t 69],
  o1 71 (.bin .neq (.st [.int, .int, .str, .str, .str, .str, .bool, .bool, .int, .int])) [.t 65, .t 70]]
abbrev r37_6 : List IOp := [o1 4 (.mov) [.c (.bool false)]]
abbrev r37_7 : List IOp := [mv 59 5,
  o1 60 (.bin .add .prim) [.t 59, .c (.int .i64 1)],
  mv 5 60]
abbrev b37_0 : IC := (IC.seq (IC.seq (IC.reg r37_4) (IC.cond (.t 58) IC.skip (IC.exit 0))) (IC.seq (IC.block 1 (IC.seq (IC.regD .wild r37_5 (.take 0 (.take 1 (.take 2 (.take 3 (.take 4 (.take 5 (.take 6 (.take 7 (.take 8 (.take 9 (.take 10 (.done))))))))))))) (IC.cond (.t 71) (IC.seq (IC.reg r37_6) IC.ret) IC.skip))) (IC.reg r37_7)))
abbrev r37_8 : List IOp := [o1 6 (.mov) [.c (.int .i64 0)]]
abbrev r37_9 : List IOp := [mv 72 6,
  o1 73 (.faddr 3) [.t 2],
  o1 74 (.load none) [.t 73],
  o1 75 (.len .slice) [.t 74],
  o1 76 (.bin .lss .prim) [.t 72, .t 75]]
abbrev r37_10 : List IOp := [o1 79 (.faddr 3) [.t 2],
  o1 80 (.load none) [.t 79],
  mv 81 6,
  o1 82 (.iaddr 5) [.t 80, .t 81],
  o1 83 (.load (some 5)) [.t 82],
  o1 84 (.faddr 3) [.t 3],
  o1 85 (.load none) [.t 84],
  mv 86 6,
  o1 87 (.iaddr 5) [.t 85, .t 86],
  o1 88 (.load (some 5)) [.t 87],
  o1 89 (.bin .neq (.st [.int, .str, .str, .str, .str])) [.t 83, .t 88]]
abbrev r37_11 : List IOp := [o1 4 (.mov) [.c (.bool false)]]
abbrev r37_12 : List IOp := [mv 77 6,
  o1 78 (.bin .add .prim) [.t 77, .c (.int .i64 1)],
  mv 6 78]
abbrev b37_1 : IC := (IC.seq (IC.seq (IC.reg r37_9) (IC.cond (.t 76) IC.skip (IC.exit 2))) (IC.seq (IC.block 3 (IC.seq (IC.regD .wild r37_10 (.take 0 (.take 1 (.take 2 (.take 3 (.take 4 (.take 5 (.take 6 (.take 7 (.take 8 (.take 9 (.take 10 (.done))))))))))))) (IC.cond (.t 89) (IC.seq (IC.reg r37_11) IC.ret) IC.skip))) (IC.reg r37_12)))
abbrev r37_13 : List IOp := [o1 7 (.mov) [.c (.int .i64 0)]]
abbrev r37_14 : List IOp := [mv 90 7,
  o1 91 (.faddr 4) [.t 2],
  o1 92 (.load none) [.t 91],
  o1 93 (.len .slice) [.t 92],
  o1 94 (.bin .lss .prim) [.t 90, .t 93]]
abbrev r37_15 : List IOp := [o1 97 (.faddr 4) [.t 2],
  o1 98 (.load none) [.t 97],
  mv 99 7,
  o1 100 (.iaddr 5) [.t 98, .t 99],
  o1 101 (.load (some 5)) [.t 100],
  o1 102 (.faddr 4) [.t 3],
  o1 103 (.load none) [.t 102],
  mv 104 7,
  o1 105 (.iaddr 5) [.t 103, .t 104],
  o1 106 (.load (some 5)) [.t 105],
  o1 107 (.bin .neq (.st [.int, .str, .str, .str, .str])) [.t 101, .t 106]]
abbrev r37_16 : List IOp := [o1 4 (.mov) [.c (.bool false)]]
abbrev r37_17 : List IOp := [mv 95 7,
  o1 96 (.bin .add .prim) [.t 95, .c (.int .i64 1)],
  mv 7 96]
abbrev b37_2 : IC := (IC.seq (IC.seq (IC.reg r37_14) (IC.cond (.t 94) IC.skip (IC.exit 4))) (IC.seq (IC.block 5 (IC.seq (IC.regD .wild r37_15 (.take 0 (.take 1 (.take 2 (.take 3 (.take 4 (.take 5 (.take 6 (.take 7 (.take 8 (.take 9 (.take 10 (.done))))))))))))) (IC.cond (.t 107) (IC.seq (IC.reg r37_16) IC.ret) IC.skip))) (IC.reg r37_17)))
abbrev r37_18 : List IOp := [o1 4 (.mov) [.c (.bool true)]]
abbrev c37 : IC := (IC.seq (IC.reg r37_0) (IC.seq (IC.seq (IC.reg r37_1) (IC.cond (.t 53) (IC.seq (IC.reg r37_2) IC.ret) IC.skip)) (IC.seq (IC.seq (IC.reg r37_3) (IC.block 0 (IC.loop b37_0))) (IC.seq (IC.seq (IC.reg r37_8) (IC.block 2 (IC.loop b37_1))) (IC.seq (IC.seq (IC.reg r37_13) (IC.block 4 (IC.loop b37_2))) (IC.seq (IC.reg r37_18) IC.ret))))))
abbrev g37 : FC := ⟨c37, 108, [.t 4]⟩
theorem comp37 : compF Go.Proofs.Try.prog (hintL [(6, 6), (11, 6), (16, 6)]) 37 = some g37 := by kernel_rfl

-- outlaw/outlawkit.Same[outlaw/api.Job]
abbrev r38_0 : List IOp := [o1 4 (.mov) [.c (.bool false)]]
abbrev r38_1 : List IOp := [mv 6 0,
  o1 7 (.len .slice) [.t 6],
  mv 8 1,
  o1 9 (.len .slice) [.t 8],
  o1 10 (.bin .neq .prim) [.t 7, .t 9]]
abbrev r38_2 : List IOp := [o1 4 (.mov) [.c (.bool false)]]
abbrev r38_3 : List IOp := [o1 5 (.mov) [.c (.int .i64 0)]]
abbrev r38_4 : List IOp := [mv 11 5,
  mv 12 0,
  o1 13 (.len .slice) [.t 12],
  o1 14 (.bin .lss .prim) [.t 11, .t 13]]
abbrev r38_5 : List IOp := [mv 17 0,
  mv 18 5,
  o1 19 (.iaddr 10) [.t 17, .t 18],
  o1 20 (.load (some 10)) [.t 19],
  mv 21 1,
  mv 22 5,
  o1 23 (.iaddr 10) [.t 21, .t 22],
  o1 24 (.load (some 10)) [.t 23],
  o1 25 (.bin .neq (.st [.int, .int, .str, .str, .str, .str, .bool, .bool, .int, .int])) [.t 20, .t 24]]
abbrev r38_6 : List IOp := [o1 4 (.mov) [.c (.bool false)]]
abbrev r38_7 : List IOp := [mv 15 5,
  o1 16 (.bin .add .prim) [.t 15, .c (.int .i64 1)],
  mv 5 16]
abbrev b38_0 : IC := (IC.seq (IC.seq (IC.reg r38_4) (IC.cond (.t 14) IC.skip (IC.exit 0))) (IC.seq (IC.block 1 (IC.seq (IC.regD .wild r38_5 (.take 0 (.take 1 (.take 2 (.take 3 (.take 4 (.take 5 (.take 6 (.take 7 (.take 8 (.done))))))))))) (IC.cond (.t 25) (IC.seq (IC.reg r38_6) IC.ret) IC.skip))) (IC.reg r38_7)))
abbrev r38_8 : List IOp := [o1 4 (.mov) [.c (.bool true)]]
abbrev c38 : IC := (IC.seq (IC.reg r38_0) (IC.seq (IC.seq (IC.reg r38_1) (IC.cond (.t 10) (IC.seq (IC.reg r38_2) IC.ret) IC.skip)) (IC.seq (IC.seq (IC.reg r38_3) (IC.block 0 (IC.loop b38_0))) (IC.seq (IC.reg r38_8) IC.ret))))
abbrev g38 : FC := ⟨c38, 26, [.t 4]⟩
theorem comp38 : compF Go.Proofs.Try.prog (hintL [(6, 6)]) 38 = some g38 := by kernel_rfl

-- outlaw/outlawref22.Alike
abbrev r39_0 : List IOp := [o1 2 (.box 23) [.t 0],
  o1 3 (.box 23) [.t 1],
  o1 4 (.mov) [.c (.bool false)]]
abbrev r39_1 : List IOp := [o1 5 (.faddr 1) [.t 2],
  o1 6 (.load none) [.t 5],
  o1 7 (.faddr 1) [.t 3],
  o1 8 (.load none) [.t 7],
  o1 9 (.bin .eql .prim) [.t 6, .t 8],
  mv 10 9,
  o2 11 (.faddr 0) [.t 2] 10 true,
  o2 12 (.load none) [.t 11] 10 true,
  o2 13 (.faddr 0) [.t 3] 10 true,
  o2 14 (.load none) [.t 13] 10 true,
  o2 15 (.bin .eql .prim) [.t 12, .t 14] 10 true,
  o1 16 (.pick) [.t 10, .t 15, .c (.bool false)],
  mv 17 16,
  o2 18 (.faddr 2) [.t 2] 17 true,
  o2 19 (.load none) [.t 18] 17 true,
  o2 20 (.faddr 2) [.t 3] 17 true,
  o2 21 (.load none) [.t 20] 17 true,
  o2 22 (.bin .eql .prim) [.t 19, .t 21] 17 true,
  o1 23 (.pick) [.t 17, .t 22, .c (.bool false)],
  mv 4 23]
abbrev c39 : IC := (IC.seq (IC.reg r39_0) (IC.seq (IC.reg r39_1) IC.ret))
abbrev g39 : FC := ⟨c39, 24, [.t 4]⟩
theorem comp39 : compF Go.Proofs.Try.prog (fun _ => 0) 39 = some g39 := by kernel_rfl

-- outlaw/outlawlaw22.ban
abbrev r54_0 : List IOp := [o1 2 (.alloc 23 [.int .i64 0, .str [], .str [], .str [], .str []]) []]
abbrev r54_1 : List IOp := [mv 3 0,
  ⟨some 4, .op (.bst [.int .i64 0, .str [], .str [], .str [], .str []] [(0, 1), (1, 1), (2, 1), (3, 1), (4, 1)] [0, 1, 2]), [.c (.int .i64 1), .c (.str [33, 114, 58, 120]), .t 3], none⟩,
  sr 5 [.t 2, .t 4]]
abbrev c54 : IC := (IC.seq (IC.reg r54_0) (IC.seq (IC.reg r54_1) IC.ret))
abbrev g54 : FC := ⟨c54, 5, [.cell 2 (some 5)]⟩
theorem comp54 : compF Go.Proofs.Try.prog (fun _ => 0) 54 = some g54 := by kernel_rfl

-- outlaw/queue.Land
abbrev r55_0 : List IOp := [o1 1 (.box 29) [.t 0],
  o1 2 (.alloc 29 [.nils, .int .i64 0, .int .i64 0, .nils, .nils, .bool false]) []]
abbrev r55_1 : List IOp := [o1 5 (.load (some 6)) [.t 1],
  ca 6 [.f 56, .t 5],
  sr 6 [.t 1, .t 6]]
abbrev r55_2 : List IOp := [o1 7 (.faddr 0) [.t 1],
  o1 8 (.load none) [.t 7],
  o1 9 (.len .slice) [.t 8],
  o1 10 (.mov) [.c (.int .i64 0)]]
abbrev r55_3 : List IOp := [o1 11 (.bin .lss .prim) [.t 10, .t 9]]
abbrev r55_4 : List IOp := [mv 12 10,
  mv 3 12]
abbrev r55_5 : List IOp := [o1 13 (.faddr 0) [.t 1],
  o1 14 (.load none) [.t 13],
  mv 15 3,
  o1 16 (.iaddr 10) [.t 14, .t 15],
  mv 4 16]
abbrev r55_6 : List IOp := [mv 17 4,
  mv 18 4,
  mv 19 4,
  o1 20 (.nilchk) [.t 19],
  o1 21 (.faddr 7) [.t 20],
  o1 22 (.load none) [.t 21],
  mv 23 22,
  o2 24 (.mov) [.t 4] 23 false,
  o2 25 (.nilchk) [.t 24] 23 false,
  o2 26 (.faddr 6) [.t 25] 23 false,
  o2 27 (.load none) [.t 26] 23 false,
  o1 28 (.pick) [.t 23, .c (.bool true), .t 27],
  o1 29 (.nilchk) [.t 17],
  o1 30 (.faddr 6) [.t 29],
  sr 1 [.t 30, .c (.bool false)],
  o1 31 (.nilchk) [.t 18],
  o1 32 (.faddr 7) [.t 31],
  sr 1 [.t 32, .t 28]]
abbrev r55_7 : List IOp := [o1 33 (.bin .add .prim) [.t 10, .c (.int .i64 1)],
  mv 10 33]
abbrev b55_0 : IC := (IC.seq (IC.reg r55_3) (IC.seq (IC.cond (.t 11) IC.skip (IC.exit 0)) (IC.seq (IC.block 1 (IC.seq (IC.reg r55_4) (IC.seq (IC.reg r55_5) (IC.reg r55_6)))) (IC.reg r55_7))))
abbrev r55_8 : List IOp := [o1 34 (.load (some 6)) [.t 1],
  sr 6 [.t 2, .t 34]]
abbrev c55 : IC := (IC.seq (IC.reg r55_0) (IC.seq (IC.reg r55_1) (IC.seq (IC.seq (IC.reg r55_2) (IC.block 0 (IC.loop b55_0))) (IC.seq (IC.reg r55_8) IC.ret))))
abbrev g55 : FC := ⟨c55, 35, [.cell 2 (some 6)]⟩
theorem comp55 : compF Go.Proofs.Try.prog (fun _ => 0) 55 = some g55 := by kernel_rfl

-- outlaw/queue.clone
abbrev r56_0 : List IOp := [o1 1 (.box 29) [.t 0],
  o1 2 (.alloc 29 [.nils, .int .i64 0, .int .i64 0, .nils, .nils, .bool false]) []]
abbrev r56_1 : List IOp := [o1 3 (.faddr 0) [.t 1],
  o1 4 (.load none) [.t 3],
  ca 5 [.f 104, .t 4],
  o1 6 (.faddr 3) [.t 1],
  o1 7 (.load none) [.t 6],
  ca 8 [.f 105, .t 7],
  o1 9 (.faddr 4) [.t 1],
  o1 10 (.load none) [.t 9],
  ca 11 [.f 105, .t 10],
  o1 12 (.faddr 0) [.t 1],
  sr 1 [.t 12, .t 5],
  o1 13 (.faddr 3) [.t 1],
  sr 1 [.t 13, .t 8],
  o1 14 (.faddr 4) [.t 1],
  sr 1 [.t 14, .t 11]]
abbrev r56_2 : List IOp := [o1 15 (.load (some 6)) [.t 1],
  sr 6 [.t 2, .t 15]]
abbrev c56 : IC := (IC.seq (IC.reg r56_0) (IC.seq (IC.regD .alloc r56_1 (.take 0 (.take 1 (.take 3 (.take 4 (.take 6 (.take 7 (.take 2 (.take 5 (.take 8 (.take 9 (.take 10 (.take 11 (.take 12 (.take 13 (.take 14 (.done))))))))))))))))) (IC.seq (IC.reg r56_2) IC.ret)))
abbrev g56 : FC := ⟨c56, 16, [.cell 2 (some 6)]⟩
theorem comp56 : compF Go.Proofs.Try.prog (hintL [(1, 7)]) 56 = some g56 := by kernel_rfl

-- outlaw/queue.known
abbrev r57_0 : List IOp := [o1 1 (.box 23) [.t 0],
  o1 2 (.mov) [.c (.bool false)]]
abbrev r57_1 : List IOp := [o1 3 (.faddr 0) [.t 1],
  o1 4 (.load none) [.t 3],
  o1 5 (.bin .geq .prim) [.t 4, .c (.int .i64 1)],
  mv 6 5,
  o2 7 (.faddr 0) [.t 1] 6 true,
  o2 8 (.load none) [.t 7] 6 true,
  o2 9 (.bin .leq .prim) [.t 8, .c (.int .i64 4)] 6 true,
  o1 10 (.pick) [.t 6, .t 9, .c (.bool false)],
  mv 2 10]
abbrev c57 : IC := (IC.seq (IC.reg r57_0) (IC.seq (IC.reg r57_1) IC.ret))
abbrev g57 : FC := ⟨c57, 11, [.t 2]⟩
theorem comp57 : compF Go.Proofs.Try.prog (fun _ => 0) 57 = some g57 := by kernel_rfl

-- outlaw/queue.actions
abbrev r59_0 : List IOp := [o1 1 (.box 29) [.t 0],
  o1 2 (.mov) [.c (.nils)]]
abbrev r59_1 : List IOp := [o1 3 (.mov) [.c (.nils)]]
abbrev r59_2 : List IOp := [o1 6 (.faddr 0) [.t 1],
  o1 7 (.load none) [.t 6],
  o1 8 (.len .slice) [.t 7],
  o1 9 (.mov) [.c (.int .i64 0)]]
abbrev r59_3 : List IOp := [o1 10 (.bin .lss .prim) [.t 9, .t 8]]
abbrev r59_4 : List IOp := [o1 11 (.iaddr 10) [.t 7, .t 9],
  o1 12 (.load (some 10)) [.t 11],
  o1 5 (.alloc 42 [.int .i64 0, .int .i64 0, .str [], .str [], .str [], .str [], .bool false, .bool false, .int .i64 0, .int .i64 0]) [],
  sr 10 [.t 5, .t 12]]
abbrev r59_5 : List IOp := [mv 13 3,
  o1 14 (.faddr 1) [.t 5],
  o1 15 (.load (some 5)) [.t 14],
  o1 16 (.bsl 23 5 false) [.t 15],
  o1 17 (.app 23 5 72) [.t 13, .t 16],
  mv 3 17]
abbrev r59_6 : List IOp := [o1 18 (.bin .add .prim) [.t 9, .c (.int .i64 1)],
  mv 9 18]
abbrev b59_0 : IC := (IC.seq (IC.reg r59_3) (IC.seq (IC.cond (.t 10) IC.skip (IC.exit 0)) (IC.seq (IC.block 1 (IC.seq (IC.reg r59_4) (IC.reg r59_5))) (IC.reg r59_6))))
abbrev r59_7 : List IOp := [mv 19 3,
  o1 20 (.faddr 3) [.t 1],
  o1 21 (.load none) [.t 20],
  o1 22 (.faddr 4) [.t 1],
  o1 23 (.load none) [.t 22],
  o1 24 (.bsl 27 1 false) [.t 19, .t 21, .t 23],
  ca 25 [.f 107, .t 24],
  mv 2 25]
abbrev c59 : IC := (IC.seq (IC.reg r59_0) (IC.seq (IC.reg r59_1) (IC.seq (IC.seq (IC.reg r59_2) (IC.block 0 (IC.loop b59_0))) (IC.seq (IC.reg r59_7) IC.ret))))
abbrev g59 : FC := ⟨c59, 26, [.t 2]⟩
theorem comp59 : compF Go.Proofs.Try.prog (fun _ => 0) 59 = some g59 := by kernel_rfl

-- outlaw/queue.Put$1
abbrev r60_0 : List IOp := [o1 2 (.box 23) [.t 0],
  o1 3 (.mov) [.c (.bool false)]]
abbrev r60_1 : List IOp := [o1 4 (.load (some 5)) [.t 1],
  o1 5 (.load (some 5)) [.t 2],
  ca 6 [.f 25, .t 4, .t 5],
  mv 3 6]
abbrev c60 : IC := (IC.seq (IC.reg r60_0) (IC.seq (IC.reg r60_1) IC.ret))
abbrev g60 : FC := ⟨c60, 7, [.t 3]⟩
theorem comp60 : compF Go.Proofs.Try.prog (fun _ => 0) 60 = some g60 := by kernel_rfl

-- slices.ContainsFunc[[]outlaw/api.Action,outlaw/api.Action]
abbrev r58_0 : List IOp := [o1 4 (.mov) [.c (.bool false)]]
abbrev r58_1 : List IOp := [mv 5 0,
  mv 6 1,
  ca 7 [.f 106, .t 5, .t 6],
  o1 8 (.bin .geq .prim) [.t 7, .c (.int .i64 0)],
  mv 4 8]
abbrev c58 : IC := (IC.seq (IC.reg r58_0) (IC.seq (IC.reg r58_1) IC.ret))
abbrev g58 : FC := ⟨c58, 9, [.t 4]⟩
theorem comp58 : compF Go.Proofs.Try.prog (fun _ => 0) 58 = some g58 := by kernel_rfl

-- outlaw/queue.at
abbrev r61_0 : List IOp := [o1 2 (.box 29) [.t 0],
  o1 3 (.box 2) [.t 1],
  o1 4 (.mov) [.c (.int .i64 0)]]
abbrev r61_1 : List IOp := [o1 5 (.faddr 0) [.t 2],
  o1 6 (.load none) [.t 5],
  o1 7 (.mkfn 109) [.t 3],
  ca 8 [.f 108, .t 6, .t 7],
  mv 4 8]
abbrev c61 : IC := (IC.seq (IC.reg r61_0) (IC.seq (IC.reg r61_1) IC.ret))
abbrev g61 : FC := ⟨c61, 9, [.t 4]⟩
theorem comp61 : compF Go.Proofs.Try.prog (fun _ => 0) 61 = some g61 := by kernel_rfl

-- outlaw/queue.waits
abbrev r62_0 : List IOp := [o1 1 (.box 42) [.t 0],
  o1 2 (.mov) [.c (.bool false)]]
abbrev r62_1 : List IOp := [o1 3 (.faddr 6) [.t 1],
  o1 4 (.load none) [.t 3],
  o1 5 (.un .not) [.t 4],
  mv 6 5,
  o2 7 (.faddr 7) [.t 1] 6 true,
  o2 8 (.load none) [.t 7] 6 true,
  o2 9 (.un .not) [.t 8] 6 true,
  o1 10 (.pick) [.t 6, .t 9, .c (.bool false)],
  mv 2 10]
abbrev c62 : IC := (IC.seq (IC.reg r62_0) (IC.seq (IC.reg r62_1) IC.ret))
abbrev g62 : FC := ⟨c62, 11, [.t 2]⟩
theorem comp62 : compF Go.Proofs.Try.prog (fun _ => 0) 62 = some g62 := by kernel_rfl

-- outlaw/queue.flying
abbrev r63_0 : List IOp := [o1 1 (.box 29) [.t 0],
  o1 2 (.mov) [.c (.int .i64 0)]]
abbrev r63_1 : List IOp := [o1 3 (.mov) [.c (.int .i64 0)]]
abbrev r63_2 : List IOp := [o1 6 (.faddr 0) [.t 1],
  o1 7 (.load none) [.t 6],
  o1 8 (.len .slice) [.t 7],
  o1 9 (.mov) [.c (.int .i64 0)]]
abbrev r63_3 : List IOp := [o1 10 (.bin .lss .prim) [.t 9, .t 8]]
abbrev r63_4 : List IOp := [o1 11 (.iaddr 10) [.t 7, .t 9],
  o1 12 (.load (some 10)) [.t 11],
  o1 5 (.alloc 42 [.int .i64 0, .int .i64 0, .str [], .str [], .str [], .str [], .bool false, .bool false, .int .i64 0, .int .i64 0]) [],
  sr 10 [.t 5, .t 12]]
abbrev r63_5 : List IOp := [o1 13 (.faddr 6) [.t 5],
  o1 14 (.load none) [.t 13]]
abbrev r63_6 : List IOp := [mv 15 3,
  o1 16 (.bin .add .prim) [.t 15, .c (.int .i64 1)],
  mv 3 16]
abbrev r63_7 : List IOp := [o1 17 (.bin .add .prim) [.t 9, .c (.int .i64 1)],
  mv 9 17]
abbrev b63_0 : IC := (IC.seq (IC.reg r63_3) (IC.seq (IC.cond (.t 10) IC.skip (IC.exit 0)) (IC.seq (IC.block 1 (IC.seq (IC.reg r63_4) (IC.seq (IC.reg r63_5) (IC.cond (.t 14) (IC.reg r63_6) IC.skip)))) (IC.reg r63_7))))
abbrev r63_8 : List IOp := [mv 18 3,
  mv 2 18]
abbrev c63 : IC := (IC.seq (IC.reg r63_0) (IC.seq (IC.reg r63_1) (IC.seq (IC.seq (IC.reg r63_2) (IC.block 0 (IC.loop b63_0))) (IC.seq (IC.reg r63_8) IC.ret))))
abbrev g63 : FC := ⟨c63, 19, [.t 2]⟩
theorem comp63 : compF Go.Proofs.Try.prog (fun _ => 0) 63 = some g63 := by kernel_rfl

-- slices.Delete[[]outlaw/api.Action,outlaw/api.Action]
abbrev r64_0 : List IOp := [o1 6 (.mov) [.c (.nils)]]
abbrev r64_1 : List IOp := [mv 8 0,
  mv 9 1,
  mv 10 2,
  mv 11 0,
  o1 12 (.len .slice) [.t 11],
  o1 13 (.slice 5 true true true) [.t 8, .t 9, .t 10, .t 12]]
abbrev r64_2 : List IOp := [mv 14 1,
  mv 15 2,
  o1 16 (.bin .eql .prim) [.t 14, .t 15]]
abbrev r64_3 : List IOp := [mv 17 0,
  mv 6 17]
abbrev r64_4 : List IOp := [mv 18 0,
  o1 19 (.len .slice) [.t 18],
  mv 7 19]
abbrev r64_5 : List IOp := [mv 20 0,
  mv 21 1,
  o1 22 (.slice 5 false true false) [.t 20, .t 21],
  mv 23 0,
  mv 24 2,
  o1 25 (.slice 5 true false false) [.t 23, .t 24],
  o1 26 (.app 23 5 72) [.t 22, .t 25],
  mv 0 26]
abbrev r64_6 : List IOp := [mv 27 0,
  mv 28 0,
  o1 29 (.len .slice) [.t 28],
  mv 30 7,
  o1 31 (.slice 5 true true false) [.t 27, .t 29, .t 30],
  ⟨none, .op (.clear [.int .i64 0, .str [], .str [], .str [], .str []]), [.t 31], none⟩]
abbrev r64_7 : List IOp := [mv 32 0,
  mv 6 32]
abbrev c64 : IC := (IC.seq (IC.reg r64_0) (IC.seq (IC.reg r64_1) (IC.seq (IC.seq (IC.reg r64_2) (IC.cond (.t 16) (IC.seq (IC.reg r64_3) IC.ret) IC.skip)) (IC.seq (IC.reg r64_4) (IC.seq (IC.regD .wild r64_5 (.take 0 (.take 1 (.take 2 (.take 3 (.take 4 (.take 5 (.take 6 (.take 7 (.done)))))))))) (IC.seq (IC.reg r64_6) (IC.seq (IC.reg r64_7) IC.ret)))))))
abbrev g64 : FC := ⟨c64, 33, [.t 6]⟩
theorem comp64 : compF Go.Proofs.Try.prog (hintL [(5, 6)]) 64 = some g64 := by kernel_rfl

-- slices.Delete[[]outlaw/api.Job,outlaw/api.Job]
abbrev r65_0 : List IOp := [o1 6 (.mov) [.c (.nils)]]
abbrev r65_1 : List IOp := [mv 8 0,
  mv 9 1,
  mv 10 2,
  mv 11 0,
  o1 12 (.len .slice) [.t 11],
  o1 13 (.slice 10 true true true) [.t 8, .t 9, .t 10, .t 12]]
abbrev r65_2 : List IOp := [mv 14 1,
  mv 15 2,
  o1 16 (.bin .eql .prim) [.t 14, .t 15]]
abbrev r65_3 : List IOp := [mv 17 0,
  mv 6 17]
abbrev r65_4 : List IOp := [mv 18 0,
  o1 19 (.len .slice) [.t 18],
  mv 7 19]
abbrev r65_5 : List IOp := [mv 20 0,
  mv 21 1,
  o1 22 (.slice 10 false true false) [.t 20, .t 21],
  mv 23 0,
  mv 24 2,
  o1 25 (.slice 10 true false false) [.t 23, .t 24],
  o1 26 (.app 42 10 104) [.t 22, .t 25],
  mv 0 26]
abbrev r65_6 : List IOp := [mv 27 0,
  mv 28 0,
  o1 29 (.len .slice) [.t 28],
  mv 30 7,
  o1 31 (.slice 10 true true false) [.t 27, .t 29, .t 30],
  ⟨none, .op (.clear [.int .i64 0, .int .i64 0, .str [], .str [], .str [], .str [], .bool false, .bool false, .int .i64 0, .int .i64 0]), [.t 31], none⟩]
abbrev r65_7 : List IOp := [mv 32 0,
  mv 6 32]
abbrev c65 : IC := (IC.seq (IC.reg r65_0) (IC.seq (IC.reg r65_1) (IC.seq (IC.seq (IC.reg r65_2) (IC.cond (.t 16) (IC.seq (IC.reg r65_3) IC.ret) IC.skip)) (IC.seq (IC.reg r65_4) (IC.seq (IC.regD .wild r65_5 (.take 0 (.take 1 (.take 2 (.take 3 (.take 4 (.take 5 (.take 6 (.take 7 (.done)))))))))) (IC.seq (IC.reg r65_6) (IC.seq (IC.reg r65_7) IC.ret)))))))
abbrev g65 : FC := ⟨c65, 33, [.t 6]⟩
theorem comp65 : compF Go.Proofs.Try.prog (hintL [(5, 6)]) 65 = some g65 := by kernel_rfl

-- outlaw/queue.Next$2
abbrev r67_0 : List IOp := [o1 2 (.box 42) [.t 0],
  o1 3 (.mov) [.c (.bool false)]]
abbrev r67_1 : List IOp := [o1 4 (.load (some 10)) [.t 2],
  ca 5 [.f 62, .t 4],
  mv 6 5,
  o2 7 (.faddr 9) [.t 2] 6 true,
  o2 8 (.load none) [.t 7] 6 true,
  o2 9 (.faddr 2) [.t 1] 6 true,
  o2 10 (.load none) [.t 9] 6 true,
  o2 11 (.bin .leq .prim) [.t 8, .t 10] 6 true,
  o1 12 (.pick) [.t 6, .t 11, .c (.bool false)],
  mv 3 12]
abbrev c67 : IC := (IC.seq (IC.reg r67_0) (IC.seq (IC.reg r67_1) IC.ret))
abbrev g67 : FC := ⟨c67, 13, [.t 3]⟩
theorem comp67 : compF Go.Proofs.Try.prog (fun _ => 0) 67 = some g67 := by kernel_rfl

-- outlaw/queue.Next$1
abbrev r66_0 : List IOp := [o1 1 (.box 42) [.t 0],
  o1 2 (.mov) [.c (.bool false)]]
abbrev r66_1 : List IOp := [o1 3 (.faddr 7) [.t 1],
  o1 4 (.load none) [.t 3],
  mv 5 4,
  o2 6 (.faddr 6) [.t 1] 5 true,
  o2 7 (.load none) [.t 6] 5 true,
  o2 8 (.un .not) [.t 7] 5 true,
  o1 9 (.pick) [.t 5, .t 8, .c (.bool false)],
  mv 2 9]
abbrev c66 : IC := (IC.seq (IC.reg r66_0) (IC.seq (IC.reg r66_1) IC.ret))
abbrev g66 : FC := ⟨c66, 10, [.t 2]⟩
theorem comp66 : compF Go.Proofs.Try.prog (fun _ => 0) 66 = some g66 := by kernel_rfl

-- slices.Contains[[]int64,int64]
abbrev r68_0 : List IOp := [o1 4 (.mov) [.c (.bool false)]]
abbrev r68_1 : List IOp := [mv 5 0,
  mv 6 1,
  ca 7 [.f 110, .t 5, .t 6],
  o1 8 (.bin .geq .prim) [.t 7, .c (.int .i64 0)],
  mv 4 8]
abbrev c68 : IC := (IC.seq (IC.reg r68_0) (IC.seq (IC.reg r68_1) IC.ret))
abbrev g68 : FC := ⟨c68, 9, [.t 4]⟩
theorem comp68 : compF Go.Proofs.Try.prog (fun _ => 0) 68 = some g68 := by kernel_rfl

-- outlaw/outlawkit.Own[outlaw/api.Job]
abbrev r70_0 : List IOp := [o1 2 (.mov) [.c (.nils)]]
abbrev r70_1 : List IOp := [o1 3 (.bsl 42 10 false) [],
  mv 4 0,
  o1 5 (.app 42 10 104) [.t 3, .t 4],
  mv 2 5]
abbrev c70 : IC := (IC.seq (IC.reg r70_0) (IC.seq (IC.reg r70_1) IC.ret))
abbrev g70 : FC := ⟨c70, 6, [.t 2]⟩
theorem comp70 : compF Go.Proofs.Try.prog (fun _ => 0) 70 = some g70 := by kernel_rfl

-- outlaw/queue.Withdraw
abbrev r69_0 : List IOp := [o1 2 (.box 29) [.t 0],
  o1 3 (.box 27) [.t 1],
  o1 4 (.alloc 29 [.nils, .int .i64 0, .int .i64 0, .nils, .nils, .bool false]) [],
  o1 5 (.mov) [.c (.nils)]]
abbrev r69_1 : List IOp := [o1 7 (.load (some 6)) [.t 2],
  ca 8 [.f 56, .t 7],
  sr 6 [.t 2, .t 8]]
abbrev r69_2 : List IOp := [o1 6 (.alloc 26 [.nils]) []]
abbrev r69_3 : List IOp := [o1 9 (.faddr 0) [.t 2],
  o1 10 (.load none) [.t 9],
  o1 11 (.mkfn 112) [.t 3, .t 6],
  ca 12 [.f 111, .t 10, .t 11],
  o1 13 (.faddr 0) [.t 2],
  sr 1 [.t 13, .t 12]]
abbrev r69_4 : List IOp := [o1 14 (.faddr 4) [.t 2],
  o1 15 (.load none) [.t 14],
  o1 16 (.mkfn 115) [.t 3],
  ca 17 [.f 114, .t 15, .t 16],
  o1 18 (.faddr 4) [.t 2],
  sr 1 [.t 18, .t 17]]
abbrev r69_5 : List IOp := [o1 19 (.load (some 6)) [.t 2],
  o1 20 (.load none) [.t 6],
  sr 6 [.t 4, .t 19],
  mv 5 20]
abbrev c69 : IC := (IC.seq (IC.reg r69_0) (IC.seq (IC.reg r69_1) (IC.seq (IC.reg r69_2) (IC.seq (IC.reg r69_3) (IC.seq (IC.reg r69_4) (IC.seq (IC.regD .wild r69_5 (.take 0 (.fork [(1, .take 2 (.take 3 (.done))), (2, .take 1 (.take 3 (.done)))]))) IC.ret))))))
abbrev g69 : FC := ⟨c69, 21, [.cell 4 (some 6), .t 5]⟩
theorem comp69 : compF Go.Proofs.Try.prog (hintL [(5, 6)]) 69 = some g69 := by kernel_rfl

-- outlaw/queue.Check$1
abbrev r71_0 : List IOp := [o1 2 (.box 23) [.t 0],
  o1 3 (.mov) [.c (.bool false)]]
abbrev r71_1 : List IOp := [o1 4 (.load (some 5)) [.t 1],
  o1 5 (.load (some 5)) [.t 2],
  ca 6 [.f 25, .t 4, .t 5],
  mv 3 6]
abbrev c71 : IC := (IC.seq (IC.reg r71_0) (IC.seq (IC.reg r71_1) IC.ret))
abbrev g71 : FC := ⟨c71, 7, [.t 3]⟩
theorem comp71 : compF Go.Proofs.Try.prog (fun _ => 0) 71 = some g71 := by kernel_rfl

-- slices.Equal[[]outlaw/api.Job,outlaw/api.Job]
abbrev r72_0 : List IOp := [o1 4 (.mov) [.c (.bool false)]]
abbrev r72_1 : List IOp := [mv 6 0,
  o1 7 (.len .slice) [.t 6],
  mv 8 1,
  o1 9 (.len .slice) [.t 8],
  o1 10 (.bin .neq .prim) [.t 7, .t 9]]
abbrev r72_2 : List IOp := [o1 4 (.mov) [.c (.bool false)]]
abbrev r72_3 : List IOp := [mv 11 0,
  o1 12 (.len .slice) [.t 11],
  o1 13 (.mov) [.c (.int .i64 0)]]
abbrev r72_4 : List IOp := [o1 14 (.bin .lss .prim) [.t 13, .t 12]]
abbrev r72_5 : List IOp := [mv 15 13,
  mv 5 15]
abbrev r72_6 : List IOp := [mv 16 0,
  mv 17 5,
  o1 18 (.iaddr 10) [.t 16, .t 17],
  o1 19 (.load (some 10)) [.t 18],
  mv 20 1,
  mv 21 5,
  o1 22 (.iaddr 10) [.t 20, .t 21],
  o1 23 (.load (some 10)) [.t 22],
  o1 24 (.bin .neq (.st [.int, .int, .str, .str, .str, .str, .bool, .bool, .int, .int])) [.t 19, .t 23]]
abbrev r72_7 : List IOp := [o1 4 (.mov) [.c (.bool false)]]
abbrev r72_8 : List IOp := [o1 25 (.bin .add .prim) [.t 13, .c (.int .i64 1)],
  mv 13 25]
abbrev b72_0 : IC := (IC.seq (IC.reg r72_4) (IC.seq (IC.cond (.t 14) IC.skip (IC.exit 0)) (IC.seq (IC.block 1 (IC.seq (IC.reg r72_5) (IC.seq (IC.regD .wild r72_6 (.take 0 (.take 1 (.take 2 (.take 3 (.take 4 (.take 5 (.take 6 (.take 7 (.take 8 (.done))))))))))) (IC.cond (.t 24) (IC.seq (IC.reg r72_7) IC.ret) IC.skip)))) (IC.reg r72_8))))
abbrev r72_9 : List IOp := [o1 4 (.mov) [.c (.bool true)]]
abbrev c72 : IC := (IC.seq (IC.reg r72_0) (IC.seq (IC.seq (IC.reg r72_1) (IC.cond (.t 10) (IC.seq (IC.reg r72_2) IC.ret) IC.skip)) (IC.seq (IC.seq (IC.reg r72_3) (IC.block 0 (IC.loop b72_0))) (IC.seq (IC.reg r72_9) IC.ret))))
abbrev g72 : FC := ⟨c72, 26, [.t 4]⟩
theorem comp72 : compF Go.Proofs.Try.prog (hintL [(6, 6)]) 72 = some g72 := by kernel_rfl

-- slices.Equal[[]outlaw/api.Action,outlaw/api.Action]
abbrev r73_0 : List IOp := [o1 4 (.mov) [.c (.bool false)]]
abbrev r73_1 : List IOp := [mv 6 0,
  o1 7 (.len .slice) [.t 6],
  mv 8 1,
  o1 9 (.len .slice) [.t 8],
  o1 10 (.bin .neq .prim) [.t 7, .t 9]]
abbrev r73_2 : List IOp := [o1 4 (.mov) [.c (.bool false)]]
abbrev r73_3 : List IOp := [mv 11 0,
  o1 12 (.len .slice) [.t 11],
  o1 13 (.mov) [.c (.int .i64 0)]]
abbrev r73_4 : List IOp := [o1 14 (.bin .lss .prim) [.t 13, .t 12]]
abbrev r73_5 : List IOp := [mv 15 13,
  mv 5 15]
abbrev r73_6 : List IOp := [mv 16 0,
  mv 17 5,
  o1 18 (.iaddr 5) [.t 16, .t 17],
  o1 19 (.load (some 5)) [.t 18],
  mv 20 1,
  mv 21 5,
  o1 22 (.iaddr 5) [.t 20, .t 21],
  o1 23 (.load (some 5)) [.t 22],
  o1 24 (.bin .neq (.st [.int, .str, .str, .str, .str])) [.t 19, .t 23]]
abbrev r73_7 : List IOp := [o1 4 (.mov) [.c (.bool false)]]
abbrev r73_8 : List IOp := [o1 25 (.bin .add .prim) [.t 13, .c (.int .i64 1)],
  mv 13 25]
abbrev b73_0 : IC := (IC.seq (IC.reg r73_4) (IC.seq (IC.cond (.t 14) IC.skip (IC.exit 0)) (IC.seq (IC.block 1 (IC.seq (IC.reg r73_5) (IC.seq (IC.regD .wild r73_6 (.take 0 (.take 1 (.take 2 (.take 3 (.take 4 (.take 5 (.take 6 (.take 7 (.take 8 (.done))))))))))) (IC.cond (.t 24) (IC.seq (IC.reg r73_7) IC.ret) IC.skip)))) (IC.reg r73_8))))
abbrev r73_9 : List IOp := [o1 4 (.mov) [.c (.bool true)]]
abbrev c73 : IC := (IC.seq (IC.reg r73_0) (IC.seq (IC.seq (IC.reg r73_1) (IC.cond (.t 10) (IC.seq (IC.reg r73_2) IC.ret) IC.skip)) (IC.seq (IC.seq (IC.reg r73_3) (IC.block 0 (IC.loop b73_0))) (IC.seq (IC.reg r73_9) IC.ret))))
abbrev g73 : FC := ⟨c73, 26, [.t 4]⟩
theorem comp73 : compF Go.Proofs.Try.prog (hintL [(6, 6)]) 73 = some g73 := by kernel_rfl

-- outlaw/outlawref22.job
abbrev r74_0 : List IOp := [o1 3 (.box 42) [.t 0],
  o1 6 (.mov) [.c (.bool false)]]
abbrev r74_1 : List IOp := [o1 7 (.faddr 0) [.t 3],
  o1 8 (.load none) [.t 7],
  mv 9 1,
  o1 10 (.bin .gtr .prim) [.t 8, .t 9],
  mv 11 10,
  o2 12 (.faddr 0) [.t 3] 11 true,
  o2 13 (.load none) [.t 12] 11 true,
  o2 14 (.mov) [.t 2] 11 true,
  o2 15 (.bin .lss .prim) [.t 13, .t 14] 11 true,
  o1 16 (.pick) [.t 11, .t 15, .c (.bool false)],
  mv 17 16,
  o2 18 (.faddr 1) [.t 3] 17 true,
  o2 19 (.faddr 0) [.t 18] 17 true,
  o2 20 (.load none) [.t 19] 17 true,
  ⟨some 21, .call none, [.f 75, .t 20], some (17, true)⟩,
  o1 22 (.pick) [.t 17, .t 21, .c (.bool false)],
  mv 23 22,
  o2 24 (.faddr 8) [.t 3] 23 true,
  o2 25 (.load none) [.t 24] 23 true,
  o2 26 (.bin .geq .prim) [.t 25, .c (.int .i64 0)] 23 true,
  o1 27 (.pick) [.t 23, .t 26, .c (.bool false)],
  mv 28 27,
  o2 29 (.faddr 8) [.t 3] 28 true,
  o2 30 (.load none) [.t 29] 28 true,
  o2 31 (.bin .lss .prim) [.t 30, .c (.int .i64 5)] 28 true,
  o1 32 (.pick) [.t 28, .t 31, .c (.bool false)],
  mv 33 32,
  o2 34 (.faddr 9) [.t 3] 33 true,
  o2 35 (.load none) [.t 34] 33 true,
  o2 36 (.bin .geq .prim) [.t 35, .c (.int .i64 0)] 33 true,
  o1 37 (.pick) [.t 33, .t 36, .c (.bool false)],
  mv 38 37,
  o2 39 (.faddr 9) [.t 3] 38 true,
  o2 40 (.load none) [.t 39] 38 true,
  o2 41 (.bin .leq .prim) [.t 40, .c (.int .i64 1152921504606847040)] 38 true,
  o1 42 (.pick) [.t 38, .t 41, .c (.bool false)],
  mv 6 42]
abbrev c74 : IC := (IC.seq (IC.reg r74_0) (IC.seq (IC.reg r74_1) IC.ret))
abbrev g74 : FC := ⟨c74, 43, [.t 6]⟩
theorem comp74 : compF Go.Proofs.Try.prog (fun _ => 0) 74 = some g74 := by kernel_rfl

-- outlaw/outlawref22.known
abbrev r75_0 : List IOp := [o1 2 (.mov) [.c (.bool false)]]
abbrev r75_1 : List IOp := [mv 3 0,
  o1 4 (.bin .geq .prim) [.t 3, .c (.int .i64 1)],
  mv 5 4,
  o2 6 (.mov) [.t 0] 5 true,
  o2 7 (.bin .leq .prim) [.t 6, .c (.int .i64 4)] 5 true,
  o1 8 (.pick) [.t 5, .t 7, .c (.bool false)],
  mv 2 8]
abbrev c75 : IC := (IC.seq (IC.reg r75_0) (IC.seq (IC.reg r75_1) IC.ret))
abbrev g75 : FC := ⟨c75, 9, [.t 2]⟩
theorem comp75 : compF Go.Proofs.Try.prog (fun _ => 0) 75 = some g75 := by kernel_rfl

-- outlaw/outlawref22.flying
abbrev r76_0 : List IOp := [o1 1 (.box 29) [.t 0],
  o1 2 (.mov) [.c (.int .i64 0)]]
abbrev r76_1 : List IOp := [o1 3 (.mov) [.c (.int .i64 0)]]
abbrev r76_2 : List IOp := [o1 4 (.mov) [.c (.int .i64 0)]]
abbrev r76_3 : List IOp := [mv 5 4,
  o1 6 (.faddr 0) [.t 1],
  o1 7 (.load none) [.t 6],
  o1 8 (.len .slice) [.t 7],
  o1 9 (.bin .lss .prim) [.t 5, .t 8]]
abbrev r76_4 : List IOp := [o1 12 (.faddr 0) [.t 1],
  o1 13 (.load none) [.t 12],
  mv 14 4,
  o1 15 (.iaddr 10) [.t 13, .t 14],
  o1 16 (.faddr 6) [.t 15],
  o1 17 (.load none) [.t 16]]
abbrev r76_5 : List IOp := [mv 18 3,
  o1 19 (.bin .add .prim) [.t 18, .c (.int .i64 1)],
  mv 3 19]
abbrev r76_6 : List IOp := [mv 10 4,
  o1 11 (.bin .add .prim) [.t 10, .c (.int .i64 1)],
  mv 4 11]
abbrev b76_0 : IC := (IC.seq (IC.seq (IC.reg r76_3) (IC.cond (.t 9) IC.skip (IC.exit 0))) (IC.seq (IC.block 1 (IC.seq (IC.reg r76_4) (IC.cond (.t 17) (IC.reg r76_5) IC.skip))) (IC.reg r76_6)))
abbrev r76_7 : List IOp := [mv 20 3,
  mv 2 20]
abbrev c76 : IC := (IC.seq (IC.reg r76_0) (IC.seq (IC.reg r76_1) (IC.seq (IC.seq (IC.reg r76_2) (IC.block 0 (IC.loop b76_0))) (IC.seq (IC.reg r76_7) IC.ret))))
abbrev g76 : FC := ⟨c76, 21, [.t 2]⟩
theorem comp76 : compF Go.Proofs.Try.prog (fun _ => 0) 76 = some g76 := by kernel_rfl

-- outlaw/outlawref22.Put
abbrev r77_0 : List IOp := [o1 2 (.box 29) [.t 0],
  o1 3 (.box 23) [.t 1],
  o1 4 (.alloc 29 [.nils, .int .i64 0, .int .i64 0, .nils, .nils, .bool false]) [],
  o1 5 (.mov) [.c (.int .i64 0)],
  o1 6 (.mov) [.c (.int .i64 0)]]
abbrev r77_1 : List IOp := [o1 10 (.load (some 6)) [.t 2],
  ca 11 [.f 32, .t 10],
  sr 6 [.t 2, .t 11]]
abbrev r77_2 : List IOp := [o1 12 (.faddr 0) [.t 3],
  o1 13 (.load none) [.t 12],
  ca 14 [.f 75, .t 13],
  o1 15 (.un .not) [.t 14]]
abbrev r77_3 : List IOp := [o1 16 (.load (some 6)) [.t 2],
  sr 6 [.t 4, .t 16],
  o1 5 (.mov) [.c (.int .i64 0)],
  o1 6 (.mov) [.c (.int .i64 2)]]
abbrev r77_4 : List IOp := [o1 7 (.mov) [.c (.int .i64 0)]]
abbrev r77_5 : List IOp := [mv 17 7,
  o1 18 (.faddr 0) [.t 2],
  o1 19 (.load none) [.t 18],
  o1 20 (.len .slice) [.t 19],
  o1 21 (.bin .lss .prim) [.t 17, .t 20]]
abbrev r77_6 : List IOp := [o1 24 (.faddr 0) [.t 2],
  o1 25 (.load none) [.t 24],
  mv 26 7,
  o1 27 (.iaddr 10) [.t 25, .t 26],
  o1 28 (.faddr 1) [.t 27],
  o1 29 (.load (some 5)) [.t 28],
  o1 30 (.load (some 5)) [.t 3],
  ca 31 [.f 39, .t 29, .t 30]]
abbrev r77_7 : List IOp := [o1 32 (.load (some 6)) [.t 2],
  sr 6 [.t 4, .t 32],
  o1 5 (.mov) [.c (.int .i64 0)],
  o1 6 (.mov) [.c (.int .i64 8)]]
abbrev r77_8 : List IOp := [mv 22 7,
  o1 23 (.bin .add .prim) [.t 22, .c (.int .i64 1)],
  mv 7 23]
abbrev b77_0 : IC := (IC.seq (IC.seq (IC.reg r77_5) (IC.cond (.t 21) IC.skip (IC.exit 0))) (IC.seq (IC.block 1 (IC.seq (IC.regD .wild r77_6 (.take 0 (.take 1 (.take 2 (.take 3 (.take 4 (.take 5 (.take 6 (.take 7 (.done)))))))))) (IC.cond (.t 31) (IC.seq (IC.reg r77_7) IC.ret) IC.skip))) (IC.reg r77_8)))
abbrev r77_9 : List IOp := [o1 33 (.bsl 23 5 false) [],
  o1 34 (.faddr 3) [.t 2],
  o1 35 (.load none) [.t 34],
  o1 36 (.app 23 5 72) [.t 33, .t 35],
  o1 37 (.faddr 4) [.t 2],
  o1 38 (.load none) [.t 37],
  o1 39 (.app 23 5 72) [.t 36, .t 38],
  mv 8 39]
abbrev r77_10 : List IOp := [o1 9 (.mov) [.c (.int .i64 0)]]
abbrev r77_11 : List IOp := [mv 40 9,
  mv 41 8,
  o1 42 (.len .slice) [.t 41],
  o1 43 (.bin .lss .prim) [.t 40, .t 42]]
abbrev r77_12 : List IOp := [mv 46 8,
  mv 47 9,
  o1 48 (.iaddr 5) [.t 46, .t 47],
  o1 49 (.load (some 5)) [.t 48],
  o1 50 (.load (some 5)) [.t 3],
  ca 51 [.f 39, .t 49, .t 50]]
abbrev r77_13 : List IOp := [o1 52 (.load (some 6)) [.t 2],
  sr 6 [.t 4, .t 52],
  o1 5 (.mov) [.c (.int .i64 0)],
  o1 6 (.mov) [.c (.int .i64 8)]]
abbrev r77_14 : List IOp := [mv 44 9,
  o1 45 (.bin .add .prim) [.t 44, .c (.int .i64 1)],
  mv 9 45]
abbrev b77_1 : IC := (IC.seq (IC.seq (IC.reg r77_11) (IC.cond (.t 43) IC.skip (IC.exit 2))) (IC.seq (IC.block 3 (IC.seq (IC.regD .wild r77_12 (.take 0 (.take 1 (.take 2 (.take 3 (.take 4 (.take 5 (.done)))))))) (IC.cond (.t 51) (IC.seq (IC.reg r77_13) IC.ret) IC.skip))) (IC.reg r77_14)))
abbrev r77_15 : List IOp := [o1 53 (.faddr 0) [.t 2],
  o1 54 (.load none) [.t 53],
  o1 55 (.len .slice) [.t 54],
  o1 56 (.bin .geq .prim) [.t 55, .c (.int .i64 32)],
  mv 57 56,
  o2 58 (.faddr 1) [.t 2] 57 false,
  o2 59 (.load none) [.t 58] 57 false,
  o2 60 (.bin .geq .prim) [.t 59, .c (.int .i64 1152921504606846976)] 57 false,
  o1 61 (.pick) [.t 57, .c (.bool true), .t 60]]
abbrev r77_16 : List IOp := [o1 62 (.faddr 5) [.t 2],
  sr 1 [.t 62, .c (.bool true)]]
abbrev r77_17 : List IOp := [o1 63 (.load (some 6)) [.t 2],
  sr 6 [.t 4, .t 63],
  o1 5 (.mov) [.c (.int .i64 0)],
  o1 6 (.mov) [.c (.int .i64 13)]]
abbrev r77_18 : List IOp := [o1 64 (.faddr 0) [.t 2],
  o1 65 (.load none) [.t 64],
  o1 66 (.faddr 1) [.t 2],
  o1 67 (.load none) [.t 66],
  o1 68 (.load (some 5)) [.t 3],
  o1 69 (.faddr 2) [.t 2],
  o1 70 (.load none) [.t 69],
  o1 71 (.bst [.int .i64 0, .int .i64 0, .str [], .str [], .str [], .str [], .bool false, .bool false, .int .i64 0, .int .i64 0] [(0, 1), (1, 5), (6, 1), (7, 1), (8, 1), (9, 1)] [0, 1, 5]) [.t 67, .t 68, .t 70],
  o1 72 (.bsl 42 10 false) [.t 71],
  o1 73 (.app 42 10 104) [.t 65, .t 72],
  o1 74 (.faddr 0) [.t 2],
  sr 1 [.t 74, .t 73]]
abbrev r77_19 : List IOp := [o1 75 (.faddr 1) [.t 2],
  o1 76 (.load none) [.t 75],
  o1 77 (.bin .add .prim) [.t 76, .c (.int .i64 1)],
  o1 78 (.faddr 1) [.t 2],
  sr 1 [.t 78, .t 77]]
abbrev r77_20 : List IOp := [o1 79 (.load (some 6)) [.t 2],
  o1 80 (.faddr 1) [.t 2],
  o1 81 (.load none) [.t 80],
  o1 82 (.bin .sub .prim) [.t 81, .c (.int .i64 1)],
  sr 6 [.t 4, .t 79],
  mv 5 82,
  o1 6 (.mov) [.c (.int .i64 0)]]
abbrev c77 : IC := (IC.seq (IC.reg r77_0) (IC.seq (IC.reg r77_1) (IC.seq (IC.seq (IC.reg r77_2) (IC.cond (.t 15) (IC.seq (IC.reg r77_3) IC.ret) IC.skip)) (IC.seq (IC.seq (IC.reg r77_4) (IC.block 0 (IC.loop b77_0))) (IC.seq (IC.regD .wild r77_9 (.take 1 (.take 2 (.take 4 (.fork [(0, .fork [(3, .take 5 (.take 6 (.take 7 (.done)))), (5, .take 3 (.take 6 (.take 7 (.done))))]), (5, .take 0 (.take 3 (.take 6 (.take 7 (.done)))))]))))) (IC.seq (IC.seq (IC.reg r77_10) (IC.block 2 (IC.loop b77_1))) (IC.seq (IC.seq (IC.reg r77_15) (IC.cond (.t 61) (IC.seq (IC.reg r77_16) (IC.seq (IC.reg r77_17) IC.ret)) IC.skip)) (IC.seq (IC.reg r77_18) (IC.seq (IC.reg r77_19) (IC.seq (IC.regD .wild r77_20 (.take 0 (.take 1 (.fork [(2, .take 3 (.take 4 (.take 5 (.take 6 (.done))))), (4, .take 2 (.take 3 (.take 5 (.take 6 (.done)))))])))) IC.ret))))))))))
abbrev g77 : FC := ⟨c77, 83, [.cell 4 (some 6), .t 5, .t 6]⟩
theorem comp77 : compF Go.Proofs.Try.prog (hintL [(7, 6), (9, 6), (13, 6), (20, 6)]) 77 = some g77 := by kernel_rfl

-- outlaw/outlawref22.Send
abbrev r78_0 : List IOp := [o1 2 (.box 29) [.t 0],
  o1 4 (.alloc 29 [.nils, .int .i64 0, .int .i64 0, .nils, .nils, .bool false]) [],
  o1 5 (.mov) [.c (.int .i64 0)]]
abbrev r78_1 : List IOp := [o1 7 (.load (some 6)) [.t 2],
  ca 8 [.f 32, .t 7],
  sr 6 [.t 2, .t 8]]
abbrev r78_2 : List IOp := [o1 9 (.load (some 6)) [.t 2],
  mv 10 1,
  ca 11 [.f 85, .t 9, .t 10],
  mv 6 11]
abbrev r78_3 : List IOp := [mv 12 6,
  o1 13 (.bin .lss .prim) [.t 12, .c (.int .i64 0)]]
abbrev r78_4 : List IOp := [o1 14 (.load (some 6)) [.t 2],
  sr 6 [.t 4, .t 14],
  o1 5 (.mov) [.c (.int .i64 12)]]
abbrev r78_5 : List IOp := [o1 15 (.faddr 0) [.t 2],
  o1 16 (.load none) [.t 15],
  mv 17 6,
  o1 18 (.iaddr 10) [.t 16, .t 17],
  o1 19 (.faddr 6) [.t 18],
  o1 20 (.load none) [.t 19],
  mv 21 20,
  o2 22 (.faddr 0) [.t 2] 21 false,
  o2 23 (.load none) [.t 22] 21 false,
  o2 24 (.mov) [.t 6] 21 false,
  o2 25 (.iaddr 10) [.t 23, .t 24] 21 false,
  o2 26 (.faddr 7) [.t 25] 21 false,
  o2 27 (.load none) [.t 26] 21 false,
  o2 28 (.un .not) [.t 27] 21 false,
  o2 29 (.mov) [.t 28] 21 false,
  o2 30 (.faddr 0) [.t 2] 29 true,
  o2 31 (.load none) [.t 30] 29 true,
  o2 32 (.mov) [.t 6] 29 true,
  o2 33 (.iaddr 10) [.t 31, .t 32] 29 true,
  o2 34 (.faddr 9) [.t 33] 29 true,
  o2 35 (.load none) [.t 34] 29 true,
  o2 36 (.faddr 2) [.t 2] 29 true,
  o2 37 (.load none) [.t 36] 29 true,
  o2 38 (.bin .gtr .prim) [.t 35, .t 37] 29 true,
  o2 39 (.pick) [.t 29, .t 38, .c (.bool false)] 21 false,
  o1 40 (.pick) [.t 21, .c (.bool true), .t 39],
  mv 41 40,
  o2 42 (.load (some 6)) [.t 2] 41 false,
  ⟨some 43, .call none, [.f 76, .t 42], some (41, false)⟩,
  o2 44 (.bin .geq .prim) [.t 43, .c (.int .i64 4)] 41 false,
  o1 45 (.pick) [.t 41, .c (.bool true), .t 44]]
abbrev r78_6 : List IOp := [o1 46 (.load (some 6)) [.t 2],
  sr 6 [.t 4, .t 46],
  o1 5 (.mov) [.c (.int .i64 14)]]
abbrev r78_7 : List IOp := [o1 47 (.faddr 0) [.t 2],
  o1 48 (.load none) [.t 47],
  mv 49 6,
  o1 50 (.iaddr 10) [.t 48, .t 49],
  o1 51 (.faddr 6) [.t 50],
  sr 1 [.t 51, .c (.bool true)]]
abbrev r78_8 : List IOp := [o1 52 (.load (some 6)) [.t 2],
  sr 6 [.t 4, .t 52],
  o1 5 (.mov) [.c (.int .i64 0)]]
abbrev c78 : IC := (IC.seq (IC.reg r78_0) (IC.seq (IC.reg r78_1) (IC.seq (IC.reg r78_2) (IC.seq (IC.seq (IC.reg r78_3) (IC.cond (.t 13) (IC.seq (IC.reg r78_4) IC.ret) IC.skip)) (IC.seq (IC.seq (IC.regD .wild r78_5 (.take 0 (.take 1 (.take 2 (.take 3 (.take 4 (.take 5 (.take 6 (.take 7 (.take 8 (.take 9 (.take 10 (.take 11 (.take 12 (.take 13 (.take 14 (.take 15 (.take 16 (.take 17 (.take 18 (.take 19 (.take 20 (.take 21 (.take 22 (.take 23 (.take 24 (.take 25 (.take 26 (.take 27 (.take 28 (.take 29 (.take 30 (.done))))))))))))))))))))))))))))))))) (IC.cond (.t 45) (IC.seq (IC.reg r78_6) IC.ret) IC.skip)) (IC.seq (IC.reg r78_7) (IC.seq (IC.reg r78_8) IC.ret)))))))
abbrev g78 : FC := ⟨c78, 53, [.cell 4 (some 6), .t 5]⟩
theorem comp78 : compF Go.Proofs.Try.prog (hintL [(5, 6)]) 78 = some g78 := by kernel_rfl

-- outlaw/outlawref22.Reply
abbrev r79_0 : List IOp := [o1 3 (.box 29) [.t 0],
  o1 6 (.alloc 29 [.nils, .int .i64 0, .int .i64 0, .nils, .nils, .bool false]) [],
  o1 7 (.mov) [.c (.int .i64 0)],
  o1 8 (.mov) [.c (.int .i64 0)]]
abbrev r79_1 : List IOp := [o1 11 (.load (some 6)) [.t 3],
  ca 12 [.f 32, .t 11],
  sr 6 [.t 3, .t 12]]
abbrev r79_2 : List IOp := [o1 13 (.load (some 6)) [.t 3],
  mv 14 1,
  ca 15 [.f 85, .t 13, .t 14],
  mv 9 15]
abbrev r79_3 : List IOp := [mv 16 9,
  o1 17 (.bin .lss .prim) [.t 16, .c (.int .i64 0)]]
abbrev r79_4 : List IOp := [o1 18 (.load (some 6)) [.t 3],
  sr 6 [.t 6, .t 18],
  o1 7 (.mov) [.c (.int .i64 0)],
  o1 8 (.mov) [.c (.int .i64 12)]]
abbrev r79_5 : List IOp := [o1 19 (.faddr 0) [.t 3],
  o1 20 (.load none) [.t 19],
  mv 21 9,
  o1 22 (.iaddr 10) [.t 20, .t 21],
  o1 23 (.load (some 10)) [.t 22],
  o1 10 (.alloc 42 [.int .i64 0, .int .i64 0, .str [], .str [], .str [], .str [], .bool false, .bool false, .int .i64 0, .int .i64 0]) [],
  sr 10 [.t 10, .t 23]]
abbrev r79_6 : List IOp := [o1 24 (.faddr 6) [.t 10],
  o1 25 (.load none) [.t 24],
  o1 26 (.un .not) [.t 25],
  mv 27 26,
  o2 28 (.faddr 7) [.t 10] 27 true,
  o2 29 (.load none) [.t 28] 27 true,
  o2 30 (.un .not) [.t 29] 27 true,
  o1 31 (.pick) [.t 27, .t 30, .c (.bool false)]]
abbrev r79_7 : List IOp := [o1 32 (.load (some 6)) [.t 3],
  sr 6 [.t 6, .t 32],
  o1 7 (.mov) [.c (.int .i64 0)],
  o1 8 (.mov) [.c (.int .i64 14)]]
abbrev r79_8 : List IOp := [mv 33 2]
abbrev r79_9 : List IOp := [o1 34 (.faddr 0) [.t 3],
  o1 35 (.load none) [.t 34],
  mv 36 9,
  ca 37 [.f 116, .t 35, .t 36],
  o1 38 (.faddr 4) [.t 3],
  o1 39 (.load none) [.t 38],
  o1 40 (.faddr 1) [.t 10],
  o1 41 (.load (some 5)) [.t 40],
  o1 42 (.bsl 23 5 true) [.t 41],
  o1 43 (.app 23 5 72) [.t 39, .t 42],
  o1 44 (.faddr 0) [.t 3],
  sr 1 [.t 44, .t 37],
  o1 45 (.faddr 4) [.t 3],
  sr 1 [.t 45, .t 43]]
abbrev r79_10 : List IOp := [o1 46 (.faddr 4) [.t 3],
  o1 47 (.load none) [.t 46],
  o1 48 (.faddr 4) [.t 3],
  o1 49 (.load none) [.t 48],
  o1 50 (.len .slice) [.t 49],
  o1 51 (.bin .sub .prim) [.t 50, .c (.int .i64 64)],
  o1 52 (.max) [.c (.int .i64 0), .t 51],
  o1 53 (.slice 5 true false false) [.t 47, .t 52],
  o1 54 (.faddr 4) [.t 3],
  sr 1 [.t 54, .t 53]]
abbrev r79_11 : List IOp := [o1 55 (.load (some 6)) [.t 3],
  sr 6 [.t 6, .t 55],
  o1 7 (.mov) [.c (.int .i64 1)],
  o1 8 (.mov) [.c (.int .i64 0)]]
abbrev r79_12 : List IOp := [o1 56 (.faddr 8) [.t 10],
  o1 57 (.load none) [.t 56],
  o1 58 (.bin .add .prim) [.t 57, .c (.int .i64 1)],
  o1 59 (.bin .geq .prim) [.t 58, .c (.int .i64 5)],
  mv 60 59,
  o2 61 (.faddr 3) [.t 3] 60 true,
  o2 62 (.load none) [.t 61] 60 true,
  o2 63 (.len .slice) [.t 62] 60 true,
  o2 64 (.bin .lss .prim) [.t 63, .c (.int .i64 64)] 60 true,
  o1 65 (.pick) [.t 60, .t 64, .c (.bool false)]]
abbrev r79_13 : List IOp := [o1 66 (.faddr 0) [.t 3],
  o1 67 (.load none) [.t 66],
  mv 68 9,
  ca 69 [.f 116, .t 67, .t 68],
  o1 70 (.faddr 3) [.t 3],
  o1 71 (.load none) [.t 70],
  o1 72 (.faddr 1) [.t 10],
  o1 73 (.load (some 5)) [.t 72],
  o1 74 (.bsl 23 5 true) [.t 73],
  o1 75 (.app 23 5 72) [.t 71, .t 74],
  o1 76 (.faddr 0) [.t 3],
  sr 1 [.t 76, .t 69],
  o1 77 (.faddr 3) [.t 3],
  sr 1 [.t 77, .t 75]]
abbrev r79_14 : List IOp := [o1 78 (.load (some 6)) [.t 3],
  sr 6 [.t 6, .t 78],
  o1 7 (.mov) [.c (.int .i64 3)],
  o1 8 (.mov) [.c (.int .i64 0)]]
abbrev r79_15 : List IOp := [o1 79 (.faddr 8) [.t 10],
  o1 80 (.load none) [.t 79],
  o1 81 (.bin .add .prim) [.t 80, .c (.int .i64 1)],
  o1 82 (.min) [.t 81, .c (.int .i64 4)],
  o1 83 (.faddr 6) [.t 10],
  sr 1 [.t 83, .c (.bool false)],
  o1 84 (.faddr 7) [.t 10],
  sr 1 [.t 84, .c (.bool false)],
  o1 85 (.faddr 8) [.t 10],
  sr 1 [.t 85, .t 82]]
abbrev r79_16 : List IOp := [o1 86 (.faddr 2) [.t 3],
  o1 87 (.load none) [.t 86],
  o1 88 (.faddr 8) [.t 10],
  o1 89 (.load none) [.t 88],
  ca 90 [.f 31, .t 89],
  o1 91 (.bin .add .prim) [.t 87, .t 90],
  o1 92 (.faddr 9) [.t 10],
  sr 1 [.t 92, .t 91]]
abbrev r79_17 : List IOp := [o1 93 (.faddr 0) [.t 3],
  o1 94 (.load none) [.t 93],
  mv 95 9,
  o1 96 (.load (some 10)) [.t 10],
  o1 97 (.iaddr 10) [.t 94, .t 95],
  sr 10 [.t 97, .t 96]]
abbrev r79_18 : List IOp := [o1 98 (.load (some 6)) [.t 3],
  sr 6 [.t 6, .t 98],
  o1 7 (.mov) [.c (.int .i64 2)],
  o1 8 (.mov) [.c (.int .i64 0)]]
abbrev c79 : IC := (IC.seq (IC.reg r79_0) (IC.seq (IC.reg r79_1) (IC.seq (IC.reg r79_2) (IC.seq (IC.seq (IC.reg r79_3) (IC.cond (.t 17) (IC.seq (IC.reg r79_4) IC.ret) IC.skip)) (IC.seq (IC.reg r79_5) (IC.seq (IC.seq (IC.reg r79_6) (IC.cond (.t 31) (IC.seq (IC.reg r79_7) IC.ret) IC.skip)) (IC.seq (IC.seq (IC.reg r79_8) (IC.cond (.t 33) (IC.seq (IC.regD .alloc r79_9 (.take 0 (.take 1 (.take 2 (.take 4 (.take 5 (.take 6 (.take 7 (.take 3 (.take 8 (.take 9 (.take 10 (.take 11 (.take 12 (.take 13 (.done)))))))))))))))) (IC.seq (IC.reg r79_10) (IC.seq (IC.reg r79_11) IC.ret))) IC.skip)) (IC.seq (IC.seq (IC.reg r79_12) (IC.cond (.t 65) (IC.seq (IC.regD .alloc r79_13 (.take 0 (.take 1 (.take 2 (.take 4 (.take 5 (.take 6 (.take 7 (.take 3 (.take 8 (.take 9 (.take 10 (.take 11 (.take 12 (.take 13 (.done)))))))))))))))) (IC.seq (IC.reg r79_14) IC.ret)) IC.skip)) (IC.seq (IC.reg r79_15) (IC.seq (IC.regD .alloc r79_16 (.take 0 (.take 1 (.take 2 (.take 3 (.take 4 (.take 5 (.take 6 (.take 7 (.done)))))))))) (IC.seq (IC.reg r79_17) (IC.seq (IC.reg r79_18) IC.ret))))))))))))
abbrev g79 : FC := ⟨c79, 99, [.cell 6 (some 6), .t 7, .t 8]⟩
theorem comp79 : compF Go.Proofs.Try.prog (hintL [(9, 3), (13, 3), (16, 7)]) 79 = some g79 := by kernel_rfl

-- outlaw/outlawref22.Pass
abbrev r80_0 : List IOp := [o1 2 (.box 29) [.t 0],
  o1 4 (.alloc 29 [.nils, .int .i64 0, .int .i64 0, .nils, .nils, .bool false]) [],
  o1 5 (.mov) [.c (.int .i64 0)]]
abbrev r80_1 : List IOp := [o1 6 (.load (some 6)) [.t 2],
  ca 7 [.f 32, .t 6],
  sr 6 [.t 2, .t 7]]
abbrev r80_2 : List IOp := [mv 8 1,
  o1 9 (.bin .lss .prim) [.t 8, .c (.int .i64 0)],
  mv 10 9,
  o2 11 (.mov) [.t 1] 10 false,
  o2 12 (.bin .gtr .prim) [.t 11, .c (.int .i64 1000000)] 10 false,
  o1 13 (.pick) [.t 10, .c (.bool true), .t 12]]
abbrev r80_3 : List IOp := [o1 14 (.load (some 6)) [.t 2],
  sr 6 [.t 4, .t 14],
  o1 5 (.mov) [.c (.int .i64 2)]]
abbrev r80_4 : List IOp := [o1 15 (.faddr 2) [.t 2],
  o1 16 (.load none) [.t 15],
  mv 17 1,
  o1 18 (.bin .sub .prim) [.c (.int .i64 1152921504606846976), .t 17],
  o1 19 (.bin .gtr .prim) [.t 16, .t 18]]
abbrev r80_5 : List IOp := [o1 20 (.load (some 6)) [.t 2],
  sr 6 [.t 4, .t 20],
  o1 5 (.mov) [.c (.int .i64 13)]]
abbrev r80_6 : List IOp := [o1 21 (.faddr 2) [.t 2],
  o1 22 (.load none) [.t 21],
  mv 23 1,
  o1 24 (.bin .add .prim) [.t 22, .t 23],
  o1 25 (.faddr 2) [.t 2],
  sr 1 [.t 25, .t 24]]
abbrev r80_7 : List IOp := [o1 26 (.load (some 6)) [.t 2],
  sr 6 [.t 4, .t 26],
  o1 5 (.mov) [.c (.int .i64 0)]]
abbrev c80 : IC := (IC.seq (IC.reg r80_0) (IC.seq (IC.reg r80_1) (IC.seq (IC.seq (IC.reg r80_2) (IC.cond (.t 13) (IC.seq (IC.reg r80_3) IC.ret) IC.skip)) (IC.seq (IC.seq (IC.reg r80_4) (IC.cond (.t 19) (IC.seq (IC.reg r80_5) IC.ret) IC.skip)) (IC.seq (IC.reg r80_6) (IC.seq (IC.reg r80_7) IC.ret))))))
abbrev g80 : FC := ⟨c80, 27, [.cell 4 (some 6), .t 5]⟩
theorem comp80 : compF Go.Proofs.Try.prog (fun _ => 0) 80 = some g80 := by kernel_rfl

-- outlaw/outlawref22.Withdraw
abbrev r81_0 : List IOp := [o1 2 (.box 29) [.t 0],
  o1 4 (.alloc 29 [.nils, .int .i64 0, .int .i64 0, .nils, .nils, .bool false]) [],
  o1 5 (.mov) [.c (.nils)]]
abbrev r81_1 : List IOp := [o1 16 (.load (some 6)) [.t 2],
  ca 17 [.f 32, .t 16],
  sr 6 [.t 2, .t 17]]
abbrev r81_2 : List IOp := [o1 6 (.mov) [.c (.nils)],
  o1 7 (.mov) [.c (.nils)]]
abbrev r81_3 : List IOp := [o1 8 (.mov) [.c (.int .i64 0)]]
abbrev r81_4 : List IOp := [mv 18 8,
  o1 19 (.faddr 0) [.t 2],
  o1 20 (.load none) [.t 19],
  o1 21 (.len .slice) [.t 20],
  o1 22 (.bin .lss .prim) [.t 18, .t 21]]
abbrev r81_5 : List IOp := [o1 25 (.faddr 0) [.t 2],
  o1 26 (.load none) [.t 25],
  mv 27 8,
  o1 28 (.iaddr 10) [.t 26, .t 27],
  o1 29 (.load (some 10)) [.t 28],
  o1 9 (.alloc 42 [.int .i64 0, .int .i64 0, .str [], .str [], .str [], .str [], .bool false, .bool false, .int .i64 0, .int .i64 0]) [],
  sr 10 [.t 9, .t 29]]
abbrev r81_6 : List IOp := [o1 30 (.faddr 6) [.t 9],
  o1 31 (.load none) [.t 30],
  mv 32 31,
  o2 33 (.faddr 7) [.t 9] 32 false,
  o2 34 (.load none) [.t 33] 32 false,
  o1 35 (.pick) [.t 32, .c (.bool true), .t 34],
  mv 10 35]
abbrev r81_7 : List IOp := [o1 11 (.mov) [.c (.int .i64 0)]]
abbrev r81_8 : List IOp := [mv 36 11,
  mv 37 1,
  o1 38 (.len .slice) [.t 37],
  o1 39 (.bin .lss .prim) [.t 36, .t 38]]
abbrev r81_9 : List IOp := [mv 42 10,
  mv 43 42,
  o2 44 (.mov) [.t 1] 43 false,
  o2 45 (.mov) [.t 11] 43 false,
  o2 46 (.iaddr 5) [.t 44, .t 45] 43 false,
  o2 47 (.load (some 5)) [.t 46] 43 false,
  o2 48 (.faddr 1) [.t 9] 43 false,
  o2 49 (.load (some 5)) [.t 48] 43 false,
  o2 50 (.bin .eql (.st [.int, .str, .str, .str, .str])) [.t 47, .t 49] 43 false,
  o1 51 (.pick) [.t 43, .c (.bool true), .t 50],
  mv 10 51]
abbrev r81_10 : List IOp := [mv 40 11,
  o1 41 (.bin .add .prim) [.t 40, .c (.int .i64 1)],
  mv 11 41]
abbrev b81_0 : IC := (IC.seq (IC.seq (IC.reg r81_8) (IC.cond (.t 39) IC.skip (IC.exit 2))) (IC.seq (IC.block 3 (IC.regD .wild r81_9 (.take 0 (.take 1 (.take 2 (.take 3 (.take 4 (.take 5 (.take 6 (.take 7 (.take 8 (.take 9 (.take 10 (.done)))))))))))))) (IC.reg r81_10)))
abbrev r81_11 : List IOp := [mv 52 10]
abbrev r81_12 : List IOp := [mv 53 6,
  o1 54 (.load (some 10)) [.t 9],
  o1 55 (.bsl 42 10 false) [.t 54],
  o1 56 (.app 42 10 104) [.t 53, .t 55],
  mv 6 56]
abbrev r81_13 : List IOp := [mv 57 7,
  o1 58 (.load (some 10)) [.t 9],
  o1 59 (.bsl 42 10 false) [.t 58],
  o1 60 (.app 42 10 104) [.t 57, .t 59],
  mv 7 60]
abbrev r81_14 : List IOp := [mv 23 8,
  o1 24 (.bin .add .prim) [.t 23, .c (.int .i64 1)],
  mv 8 24]
abbrev b81_1 : IC := (IC.seq (IC.seq (IC.reg r81_4) (IC.cond (.t 22) IC.skip (IC.exit 0))) (IC.seq (IC.block 1 (IC.seq (IC.reg r81_5) (IC.seq (IC.reg r81_6) (IC.seq (IC.seq (IC.reg r81_7) (IC.block 2 (IC.loop b81_0))) (IC.seq (IC.reg r81_11) (IC.cond (.t 52) (IC.reg r81_12) (IC.reg r81_13))))))) (IC.reg r81_14)))
abbrev r81_15 : List IOp := [mv 61 6,
  o1 62 (.faddr 0) [.t 2],
  sr 1 [.t 62, .t 61]]
abbrev r81_16 : List IOp := [o1 12 (.mov) [.c (.nils)]]
abbrev r81_17 : List IOp := [o1 13 (.mov) [.c (.int .i64 0)]]
abbrev r81_18 : List IOp := [mv 63 13,
  o1 64 (.faddr 4) [.t 2],
  o1 65 (.load none) [.t 64],
  o1 66 (.len .slice) [.t 65],
  o1 67 (.bin .lss .prim) [.t 63, .t 66]]
abbrev r81_19 : List IOp := [o1 14 (.mov) [.c (.bool false)]]
abbrev r81_20 : List IOp := [o1 15 (.mov) [.c (.int .i64 0)]]
abbrev r81_21 : List IOp := [mv 70 15,
  mv 71 1,
  o1 72 (.len .slice) [.t 71],
  o1 73 (.bin .lss .prim) [.t 70, .t 72]]
abbrev r81_22 : List IOp := [mv 76 14,
  mv 77 76,
  o2 78 (.mov) [.t 1] 77 false,
  o2 79 (.mov) [.t 15] 77 false,
  o2 80 (.iaddr 5) [.t 78, .t 79] 77 false,
  o2 81 (.load (some 5)) [.t 80] 77 false,
  o2 82 (.faddr 4) [.t 2] 77 false,
  o2 83 (.load none) [.t 82] 77 false,
  o2 84 (.mov) [.t 13] 77 false,
  o2 85 (.iaddr 5) [.t 83, .t 84] 77 false,
  o2 86 (.load (some 5)) [.t 85] 77 false,
  o2 87 (.bin .eql (.st [.int, .str, .str, .str, .str])) [.t 81, .t 86] 77 false,
  o1 88 (.pick) [.t 77, .c (.bool true), .t 87],
  mv 14 88]
abbrev r81_23 : List IOp := [mv 74 15,
  o1 75 (.bin .add .prim) [.t 74, .c (.int .i64 1)],
  mv 15 75]
abbrev b81_2 : IC := (IC.seq (IC.seq (IC.reg r81_21) (IC.cond (.t 73) IC.skip (IC.exit 6))) (IC.seq (IC.block 7 (IC.regD .wild r81_22 (.take 0 (.take 1 (.take 2 (.take 3 (.take 4 (.take 5 (.take 6 (.take 7 (.take 8 (.take 9 (.take 10 (.take 11 (.take 12 (.take 13 (.done))))))))))))))))) (IC.reg r81_23)))
abbrev r81_24 : List IOp := [mv 89 14]
abbrev r81_25 : List IOp := [mv 90 12,
  o1 91 (.faddr 4) [.t 2],
  o1 92 (.load none) [.t 91],
  mv 93 13,
  o1 94 (.iaddr 5) [.t 92, .t 93],
  o1 95 (.load (some 5)) [.t 94],
  o1 96 (.bsl 23 5 false) [.t 95],
  o1 97 (.app 23 5 72) [.t 90, .t 96],
  mv 12 97]
abbrev r81_26 : List IOp := [mv 68 13,
  o1 69 (.bin .add .prim) [.t 68, .c (.int .i64 1)],
  mv 13 69]
abbrev b81_3 : IC := (IC.seq (IC.seq (IC.reg r81_18) (IC.cond (.t 67) IC.skip (IC.exit 4))) (IC.seq (IC.block 5 (IC.seq (IC.reg r81_19) (IC.seq (IC.seq (IC.reg r81_20) (IC.block 6 (IC.loop b81_2))) (IC.seq (IC.reg r81_24) (IC.cond (.t 89) (IC.reg r81_25) IC.skip))))) (IC.reg r81_26)))
abbrev r81_27 : List IOp := [mv 98 12,
  o1 99 (.faddr 4) [.t 2],
  sr 1 [.t 99, .t 98]]
abbrev r81_28 : List IOp := [o1 100 (.load (some 6)) [.t 2],
  mv 101 7,
  sr 6 [.t 4, .t 100],
  mv 5 101]
abbrev c81 : IC := (IC.seq (IC.reg r81_0) (IC.seq (IC.reg r81_1) (IC.seq (IC.reg r81_2) (IC.seq (IC.seq (IC.reg r81_3) (IC.block 0 (IC.loop b81_1))) (IC.seq (IC.reg r81_15) (IC.seq (IC.reg r81_16) (IC.seq (IC.seq (IC.reg r81_17) (IC.block 4 (IC.loop b81_3))) (IC.seq (IC.reg r81_27) (IC.seq (IC.reg r81_28) IC.ret)))))))))
abbrev g81 : FC := ⟨c81, 102, [.cell 4 (some 6), .t 5]⟩
theorem comp81 : compF Go.Proofs.Try.prog (hintL [(11, 6), (24, 6)]) 81 = some g81 := by kernel_rfl

-- outlaw/outlawref22.Land
abbrev r82_0 : List IOp := [o1 1 (.box 29) [.t 0],
  o1 2 (.alloc 29 [.nils, .int .i64 0, .int .i64 0, .nils, .nils, .bool false]) []]
abbrev r82_1 : List IOp := [o1 4 (.load (some 6)) [.t 1],
  ca 5 [.f 32, .t 4],
  sr 6 [.t 1, .t 5]]
abbrev r82_2 : List IOp := [o1 3 (.mov) [.c (.int .i64 0)]]
abbrev r82_3 : List IOp := [mv 6 3,
  o1 7 (.faddr 0) [.t 1],
  o1 8 (.load none) [.t 7],
  o1 9 (.len .slice) [.t 8],
  o1 10 (.bin .lss .prim) [.t 6, .t 9]]
abbrev r82_4 : List IOp := [o1 13 (.faddr 0) [.t 1],
  o1 14 (.load none) [.t 13],
  mv 15 3,
  o1 16 (.iaddr 10) [.t 14, .t 15],
  o1 17 (.faddr 6) [.t 16],
  o1 18 (.load none) [.t 17]]
abbrev r82_5 : List IOp := [o1 19 (.faddr 0) [.t 1],
  o1 20 (.load none) [.t 19],
  mv 21 3,
  o1 22 (.faddr 0) [.t 1],
  o1 23 (.load none) [.t 22],
  mv 24 3,
  o1 25 (.iaddr 10) [.t 20, .t 21],
  o1 26 (.faddr 6) [.t 25],
  sr 1 [.t 26, .c (.bool false)],
  o1 27 (.iaddr 10) [.t 23, .t 24],
  o1 28 (.faddr 7) [.t 27],
  sr 1 [.t 28, .c (.bool true)]]
abbrev r82_6 : List IOp := [mv 11 3,
  o1 12 (.bin .add .prim) [.t 11, .c (.int .i64 1)],
  mv 3 12]
abbrev b82_0 : IC := (IC.seq (IC.seq (IC.reg r82_3) (IC.cond (.t 10) IC.skip (IC.exit 0))) (IC.seq (IC.block 1 (IC.seq (IC.reg r82_4) (IC.cond (.t 18) (IC.regD .wild r82_5 (.take 0 (.take 1 (.take 2 (.take 3 (.take 5 (.take 6 (.take 7 (.fork [(4, .take 8 (.take 9 (.take 10 (.take 11 (.done))))), (8, .take 4 (.take 9 (.take 10 (.take 11 (.done)))))]))))))))) IC.skip))) (IC.reg r82_6)))
abbrev r82_7 : List IOp := [o1 29 (.load (some 6)) [.t 1],
  sr 6 [.t 2, .t 29]]
abbrev c82 : IC := (IC.seq (IC.reg r82_0) (IC.seq (IC.reg r82_1) (IC.seq (IC.seq (IC.reg r82_2) (IC.block 0 (IC.loop b82_0))) (IC.seq (IC.reg r82_7) IC.ret))))
abbrev g82 : FC := ⟨c82, 30, [.cell 2 (some 6)]⟩
theorem comp82 : compF Go.Proofs.Try.prog (hintL [(6, 6)]) 82 = some g82 := by kernel_rfl

-- outlaw/outlawref22.Clear
abbrev r83_0 : List IOp := [o1 1 (.box 29) [.t 0],
  o1 2 (.alloc 29 [.nils, .int .i64 0, .int .i64 0, .nils, .nils, .bool false]) []]
abbrev r83_1 : List IOp := [o1 3 (.load (some 6)) [.t 1],
  ca 4 [.f 32, .t 3],
  sr 6 [.t 1, .t 4]]
abbrev r83_2 : List IOp := [o1 5 (.faddr 3) [.t 1],
  sr 1 [.t 5, .c (.nils)],
  o1 6 (.faddr 4) [.t 1],
  sr 1 [.t 6, .c (.nils)]]
abbrev r83_3 : List IOp := [o1 7 (.load (some 6)) [.t 1],
  sr 6 [.t 2, .t 7]]
abbrev c83 : IC := (IC.seq (IC.reg r83_0) (IC.seq (IC.reg r83_1) (IC.seq (IC.reg r83_2) (IC.seq (IC.reg r83_3) IC.ret))))
abbrev g83 : FC := ⟨c83, 8, [.cell 2 (some 6)]⟩
theorem comp83 : compF Go.Proofs.Try.prog (fun _ => 0) 83 = some g83 := by kernel_rfl

-- outlaw/outlawref22.in
abbrev r84_0 : List IOp := [o1 4 (.mov) [.c (.bool false)]]
abbrev r84_1 : List IOp := [o1 5 (.mov) [.c (.int .i64 0)]]
abbrev r84_2 : List IOp := [mv 6 5,
  mv 7 0,
  o1 8 (.len .slice) [.t 7],
  o1 9 (.bin .lss .prim) [.t 6, .t 8]]
abbrev r84_3 : List IOp := [mv 12 0,
  mv 13 5,
  o1 14 (.iaddr 1) [.t 12, .t 13],
  o1 15 (.load none) [.t 14],
  mv 16 1,
  o1 17 (.bin .eql .prim) [.t 15, .t 16]]
abbrev r84_4 : List IOp := [o1 4 (.mov) [.c (.bool true)]]
abbrev r84_5 : List IOp := [mv 10 5,
  o1 11 (.bin .add .prim) [.t 10, .c (.int .i64 1)],
  mv 5 11]
abbrev b84_0 : IC := (IC.seq (IC.seq (IC.reg r84_2) (IC.cond (.t 9) IC.skip (IC.exit 0))) (IC.seq (IC.block 1 (IC.seq (IC.reg r84_3) (IC.cond (.t 17) (IC.seq (IC.reg r84_4) IC.ret) IC.skip))) (IC.reg r84_5)))
abbrev r84_6 : List IOp := [o1 4 (.mov) [.c (.bool false)]]
abbrev c84 : IC := (IC.seq (IC.reg r84_0) (IC.seq (IC.seq (IC.reg r84_1) (IC.block 0 (IC.loop b84_0))) (IC.seq (IC.reg r84_6) IC.ret)))
abbrev g84 : FC := ⟨c84, 18, [.t 4]⟩
theorem comp84 : compF Go.Proofs.Try.prog (fun _ => 0) 84 = some g84 := by kernel_rfl

-- outlaw/outlawref22.place
abbrev r85_0 : List IOp := [o1 2 (.box 29) [.t 0],
  o1 4 (.mov) [.c (.int .i64 0)]]
abbrev r85_1 : List IOp := [o1 5 (.mov) [.c (.int .i64 0)]]
abbrev r85_2 : List IOp := [mv 6 5,
  o1 7 (.faddr 0) [.t 2],
  o1 8 (.load none) [.t 7],
  o1 9 (.len .slice) [.t 8],
  o1 10 (.bin .lss .prim) [.t 6, .t 9]]
abbrev r85_3 : List IOp := [o1 13 (.faddr 0) [.t 2],
  o1 14 (.load none) [.t 13],
  mv 15 5,
  o1 16 (.iaddr 10) [.t 14, .t 15],
  o1 17 (.faddr 0) [.t 16],
  o1 18 (.load none) [.t 17],
  mv 19 1,
  o1 20 (.bin .eql .prim) [.t 18, .t 19]]
abbrev r85_4 : List IOp := [mv 21 5,
  mv 4 21]
abbrev r85_5 : List IOp := [mv 11 5,
  o1 12 (.bin .add .prim) [.t 11, .c (.int .i64 1)],
  mv 5 12]
abbrev b85_0 : IC := (IC.seq (IC.seq (IC.reg r85_2) (IC.cond (.t 10) IC.skip (IC.exit 0))) (IC.seq (IC.block 1 (IC.seq (IC.reg r85_3) (IC.cond (.t 20) (IC.seq (IC.reg r85_4) IC.ret) IC.skip))) (IC.reg r85_5)))
abbrev r85_6 : List IOp := [o1 4 (.mov) [.c (.int .i64 (-1))]]
abbrev c85 : IC := (IC.seq (IC.reg r85_0) (IC.seq (IC.seq (IC.reg r85_1) (IC.block 0 (IC.loop b85_0))) (IC.seq (IC.reg r85_6) IC.ret)))
abbrev g85 : FC := ⟨c85, 22, [.t 4]⟩
theorem comp85 : compF Go.Proofs.Try.prog (fun _ => 0) 85 = some g85 := by kernel_rfl

-- slices.Clone[[]outlaw/api.Job,outlaw/api.Job]
abbrev r104_0 : List IOp := [o1 2 (.mov) [.c (.nils)]]
abbrev r104_1 : List IOp := [mv 3 0,
  o1 4 (.bin .eql .slice) [.t 3, .c (.nils)]]
abbrev r104_2 : List IOp := [o1 2 (.mov) [.c (.nils)]]
abbrev r104_3 : List IOp := [o1 5 (.bsl 42 10 false) [],
  mv 6 0,
  o1 7 (.app 42 10 104) [.t 5, .t 6],
  mv 2 7]
abbrev c104 : IC := (IC.seq (IC.reg r104_0) (IC.seq (IC.seq (IC.reg r104_1) (IC.cond (.t 4) (IC.seq (IC.reg r104_2) IC.ret) IC.skip)) (IC.seq (IC.reg r104_3) IC.ret)))
abbrev g104 : FC := ⟨c104, 8, [.t 2]⟩
theorem comp104 : compF Go.Proofs.Try.prog (fun _ => 0) 104 = some g104 := by kernel_rfl

-- slices.Clone[[]outlaw/api.Action,outlaw/api.Action]
abbrev r105_0 : List IOp := [o1 2 (.mov) [.c (.nils)]]
abbrev r105_1 : List IOp := [mv 3 0,
  o1 4 (.bin .eql .slice) [.t 3, .c (.nils)]]
abbrev r105_2 : List IOp := [o1 2 (.mov) [.c (.nils)]]
abbrev r105_3 : List IOp := [o1 5 (.bsl 23 5 false) [],
  mv 6 0,
  o1 7 (.app 23 5 72) [.t 5, .t 6],
  mv 2 7]
abbrev c105 : IC := (IC.seq (IC.reg r105_0) (IC.seq (IC.seq (IC.reg r105_1) (IC.cond (.t 4) (IC.seq (IC.reg r105_2) IC.ret) IC.skip)) (IC.seq (IC.reg r105_3) IC.ret)))
abbrev g105 : FC := ⟨c105, 8, [.t 2]⟩
theorem comp105 : compF Go.Proofs.Try.prog (fun _ => 0) 105 = some g105 := by kernel_rfl

-- slices.Concat[[]outlaw/api.Action,outlaw/api.Action]
abbrev r107_0 : List IOp := [o1 2 (.mov) [.c (.nils)]]
abbrev r107_1 : List IOp := [o1 3 (.mov) [.c (.int .i64 0)]]
abbrev r107_2 : List IOp := [mv 9 0,
  o1 10 (.len .slice) [.t 9],
  o1 11 (.mov) [.c (.int .i64 0)]]
abbrev r107_3 : List IOp := [o1 12 (.bin .lss .prim) [.t 11, .t 10]]
abbrev r107_4 : List IOp := [o1 13 (.iaddr 1) [.t 9, .t 11],
  o1 14 (.load none) [.t 13],
  mv 5 14]
abbrev r107_5 : List IOp := [mv 15 3,
  mv 16 5,
  o1 17 (.len .slice) [.t 16],
  o1 18 (.bin .add .prim) [.t 15, .t 17],
  mv 3 18]
abbrev r107_6 : List IOp := [mv 19 3,
  o1 20 (.bin .lss .prim) [.t 19, .c (.int .i64 0)]]
abbrev r107_7 : List IOp := [⟨some 21, .op (.mkif 9), [.c (.str [108, 101, 110, 32, 111, 117, 116, 32, 111, 102, 32, 114, 97, 110, 103, 101])], none⟩,
  ⟨none, .op (.never), [], none⟩]
abbrev r107_8 : List IOp := [o1 22 (.bin .add .prim) [.t 11, .c (.int .i64 1)],
  mv 11 22]
abbrev b107_0 : IC := (IC.seq (IC.reg r107_3) (IC.seq (IC.cond (.t 12) IC.skip (IC.exit 0)) (IC.seq (IC.block 1 (IC.seq (IC.reg r107_4) (IC.seq (IC.reg r107_5) (IC.seq (IC.reg r107_6) (IC.cond (.t 20) (IC.reg r107_7) IC.skip))))) (IC.reg r107_8))))
abbrev r107_9 : List IOp := [mv 23 3,
  ca 24 [.f 129, .c (.nils), .t 23],
  mv 6 24]
abbrev r107_10 : List IOp := [mv 25 0,
  o1 26 (.len .slice) [.t 25],
  o1 27 (.mov) [.c (.int .i64 0)]]
abbrev r107_11 : List IOp := [o1 28 (.bin .lss .prim) [.t 27, .t 26]]
abbrev r107_12 : List IOp := [o1 29 (.iaddr 1) [.t 25, .t 27],
  o1 30 (.load none) [.t 29],
  mv 8 30]
abbrev r107_13 : List IOp := [mv 31 6,
  mv 32 8,
  o1 33 (.app 23 5 72) [.t 31, .t 32],
  mv 6 33]
abbrev r107_14 : List IOp := [o1 34 (.bin .add .prim) [.t 27, .c (.int .i64 1)],
  mv 27 34]
abbrev b107_1 : IC := (IC.seq (IC.reg r107_11) (IC.seq (IC.cond (.t 28) IC.skip (IC.exit 2)) (IC.seq (IC.block 3 (IC.seq (IC.reg r107_12) (IC.reg r107_13))) (IC.reg r107_14))))
abbrev r107_15 : List IOp := [mv 35 6,
  mv 2 35]
abbrev c107 : IC := (IC.seq (IC.reg r107_0) (IC.seq (IC.reg r107_1) (IC.seq (IC.seq (IC.reg r107_2) (IC.block 0 (IC.loop b107_0))) (IC.seq (IC.reg r107_9) (IC.seq (IC.seq (IC.reg r107_10) (IC.block 2 (IC.loop b107_1))) (IC.seq (IC.reg r107_15) IC.ret))))))
abbrev g107 : FC := ⟨c107, 36, [.t 2]⟩
theorem comp107 : compF Go.Proofs.Try.prog (fun _ => 0) 107 = some g107 := by kernel_rfl

-- slices.IndexFunc[[]outlaw/api.Action,outlaw/api.Action]
abbrev r106_0 : List IOp := [o1 4 (.mov) [.c (.int .i64 0)]]
abbrev r106_1 : List IOp := [mv 6 0,
  o1 7 (.len .slice) [.t 6],
  o1 8 (.mov) [.c (.int .i64 0)]]
abbrev r106_2 : List IOp := [o1 9 (.bin .lss .prim) [.t 8, .t 7]]
abbrev r106_3 : List IOp := [mv 10 8,
  mv 5 10]
abbrev r106_4 : List IOp := [mv 11 1,
  mv 12 0,
  mv 13 5,
  o1 14 (.iaddr 5) [.t 12, .t 13],
  o1 15 (.load (some 5)) [.t 14],
  ca 16 [.t 11, .t 15]]
abbrev r106_5 : List IOp := [mv 17 5,
  mv 4 17]
abbrev r106_6 : List IOp := [o1 18 (.bin .add .prim) [.t 8, .c (.int .i64 1)],
  mv 8 18]
abbrev b106_0 : IC := (IC.seq (IC.reg r106_2) (IC.seq (IC.cond (.t 9) IC.skip (IC.exit 0)) (IC.seq (IC.block 1 (IC.seq (IC.reg r106_3) (IC.seq (IC.reg r106_4) (IC.cond (.t 16) (IC.seq (IC.reg r106_5) IC.ret) IC.skip)))) (IC.reg r106_6))))
abbrev r106_7 : List IOp := [o1 4 (.mov) [.c (.int .i64 (-1))]]
abbrev c106 : IC := (IC.seq (IC.reg r106_0) (IC.seq (IC.seq (IC.reg r106_1) (IC.block 0 (IC.loop b106_0))) (IC.seq (IC.reg r106_7) IC.ret)))
abbrev g106 : FC := ⟨c106, 19, [.t 4]⟩
theorem comp106 : compF Go.Proofs.Try.prog (fun _ => 0) 106 = some g106 := by kernel_rfl

-- outlaw/queue.at$1
abbrev r109_0 : List IOp := [o1 2 (.box 42) [.t 0],
  o1 3 (.mov) [.c (.bool false)]]
abbrev r109_1 : List IOp := [o1 4 (.faddr 0) [.t 2],
  o1 5 (.load none) [.t 4],
  o1 6 (.load none) [.t 1],
  o1 7 (.bin .eql .prim) [.t 5, .t 6],
  mv 3 7]
abbrev c109 : IC := (IC.seq (IC.reg r109_0) (IC.seq (IC.reg r109_1) IC.ret))
abbrev g109 : FC := ⟨c109, 8, [.t 3]⟩
theorem comp109 : compF Go.Proofs.Try.prog (fun _ => 0) 109 = some g109 := by kernel_rfl

-- slices.IndexFunc[[]outlaw/api.Job,outlaw/api.Job]
abbrev r108_0 : List IOp := [o1 4 (.mov) [.c (.int .i64 0)]]
abbrev r108_1 : List IOp := [mv 6 0,
  o1 7 (.len .slice) [.t 6],
  o1 8 (.mov) [.c (.int .i64 0)]]
abbrev r108_2 : List IOp := [o1 9 (.bin .lss .prim) [.t 8, .t 7]]
abbrev r108_3 : List IOp := [mv 10 8,
  mv 5 10]
abbrev r108_4 : List IOp := [mv 11 1,
  mv 12 0,
  mv 13 5,
  o1 14 (.iaddr 10) [.t 12, .t 13],
  o1 15 (.load (some 10)) [.t 14],
  ca 16 [.t 11, .t 15]]
abbrev r108_5 : List IOp := [mv 17 5,
  mv 4 17]
abbrev r108_6 : List IOp := [o1 18 (.bin .add .prim) [.t 8, .c (.int .i64 1)],
  mv 8 18]
abbrev b108_0 : IC := (IC.seq (IC.reg r108_2) (IC.seq (IC.cond (.t 9) IC.skip (IC.exit 0)) (IC.seq (IC.block 1 (IC.seq (IC.reg r108_3) (IC.seq (IC.reg r108_4) (IC.cond (.t 16) (IC.seq (IC.reg r108_5) IC.ret) IC.skip)))) (IC.reg r108_6))))
abbrev r108_7 : List IOp := [o1 4 (.mov) [.c (.int .i64 (-1))]]
abbrev c108 : IC := (IC.seq (IC.reg r108_0) (IC.seq (IC.seq (IC.reg r108_1) (IC.block 0 (IC.loop b108_0))) (IC.seq (IC.reg r108_7) IC.ret)))
abbrev g108 : FC := ⟨c108, 19, [.t 4]⟩
theorem comp108 : compF Go.Proofs.Try.prog (fun _ => 0) 108 = some g108 := by kernel_rfl

-- slices.Index[[]int64,int64]
abbrev r110_0 : List IOp := [o1 4 (.mov) [.c (.int .i64 0)]]
abbrev r110_1 : List IOp := [mv 6 0,
  o1 7 (.len .slice) [.t 6],
  o1 8 (.mov) [.c (.int .i64 0)]]
abbrev r110_2 : List IOp := [o1 9 (.bin .lss .prim) [.t 8, .t 7]]
abbrev r110_3 : List IOp := [mv 10 8,
  mv 5 10]
abbrev r110_4 : List IOp := [mv 11 1,
  mv 12 0,
  mv 13 5,
  o1 14 (.iaddr 1) [.t 12, .t 13],
  o1 15 (.load none) [.t 14],
  o1 16 (.bin .eql .prim) [.t 11, .t 15]]
abbrev r110_5 : List IOp := [mv 17 5,
  mv 4 17]
abbrev r110_6 : List IOp := [o1 18 (.bin .add .prim) [.t 8, .c (.int .i64 1)],
  mv 8 18]
abbrev b110_0 : IC := (IC.seq (IC.reg r110_2) (IC.seq (IC.cond (.t 9) IC.skip (IC.exit 0)) (IC.seq (IC.block 1 (IC.seq (IC.reg r110_3) (IC.seq (IC.reg r110_4) (IC.cond (.t 16) (IC.seq (IC.reg r110_5) IC.ret) IC.skip)))) (IC.reg r110_6))))
abbrev r110_7 : List IOp := [o1 4 (.mov) [.c (.int .i64 (-1))]]
abbrev c110 : IC := (IC.seq (IC.reg r110_0) (IC.seq (IC.seq (IC.reg r110_1) (IC.block 0 (IC.loop b110_0))) (IC.seq (IC.reg r110_7) IC.ret)))
abbrev g110 : FC := ⟨c110, 19, [.t 4]⟩
theorem comp110 : compF Go.Proofs.Try.prog (fun _ => 0) 110 = some g110 := by kernel_rfl

-- outlaw/queue.Withdraw$1
abbrev r112_0 : List IOp := [o1 3 (.box 42) [.t 0],
  o1 4 (.mov) [.c (.bool false)]]
abbrev r112_1 : List IOp := [o1 6 (.load (some 10)) [.t 3],
  ca 7 [.f 62, .t 6],
  mv 8 7,
  o2 9 (.load none) [.t 1] 8 true,
  o2 10 (.faddr 1) [.t 3] 8 true,
  o2 11 (.load (some 5)) [.t 10] 8 true,
  ⟨some 12, .call none, [.f 113, .t 9, .t 11], some (8, true)⟩,
  o2 13 (.un .not) [.t 12] 8 true,
  o1 14 (.pick) [.t 8, .t 13, .c (.bool false)],
  mv 5 14]
abbrev r112_2 : List IOp := [mv 15 5]
abbrev r112_3 : List IOp := [o1 16 (.load none) [.t 2],
  o1 17 (.load (some 10)) [.t 3],
  o1 18 (.bsl 42 10 false) [.t 17],
  o1 19 (.app 42 10 104) [.t 16, .t 18],
  sr 1 [.t 2, .t 19]]
abbrev r112_4 : List IOp := [mv 20 5,
  mv 4 20]
abbrev c112 : IC := (IC.seq (IC.reg r112_0) (IC.seq (IC.reg r112_1) (IC.seq (IC.seq (IC.reg r112_2) (IC.cond (.t 15) (IC.reg r112_3) IC.skip)) (IC.seq (IC.reg r112_4) IC.ret))))
abbrev g112 : FC := ⟨c112, 21, [.t 4]⟩
theorem comp112 : compF Go.Proofs.Try.prog (fun _ => 0) 112 = some g112 := by kernel_rfl

-- slices.DeleteFunc[[]outlaw/api.Job,outlaw/api.Job]
abbrev r111_0 : List IOp := [o1 4 (.mov) [.c (.nils)]]
abbrev r111_1 : List IOp := [mv 8 0,
  mv 9 1,
  ca 10 [.f 108, .t 8, .t 9],
  mv 5 10]
abbrev r111_2 : List IOp := [mv 11 5,
  o1 12 (.bin .eql .prim) [.t 11, .c (.int .i64 (-1))]]
abbrev r111_3 : List IOp := [mv 13 0,
  mv 4 13]
abbrev r111_4 : List IOp := [mv 14 5,
  o1 15 (.bin .add .prim) [.t 14, .c (.int .i64 1)],
  mv 6 15]
abbrev r111_5 : List IOp := [mv 16 6,
  mv 17 0,
  o1 18 (.len .slice) [.t 17],
  o1 19 (.bin .lss .prim) [.t 16, .t 18]]
abbrev r111_6 : List IOp := [mv 22 0,
  mv 23 6,
  o1 24 (.iaddr 10) [.t 22, .t 23],
  o1 25 (.load (some 10)) [.t 24],
  o1 7 (.alloc 42 [.int .i64 0, .int .i64 0, .str [], .str [], .str [], .str [], .bool false, .bool false, .int .i64 0, .int .i64 0]) [],
  sr 10 [.t 7, .t 25]]
abbrev r111_7 : List IOp := [mv 26 1,
  o1 27 (.load (some 10)) [.t 7],
  ca 28 [.t 26, .t 27],
  o1 29 (.un .not) [.t 28]]
abbrev r111_8 : List IOp := [mv 30 0,
  mv 31 5,
  o1 32 (.load (some 10)) [.t 7],
  o1 33 (.iaddr 10) [.t 30, .t 31],
  sr 10 [.t 33, .t 32]]
abbrev r111_9 : List IOp := [mv 34 5,
  o1 35 (.bin .add .prim) [.t 34, .c (.int .i64 1)],
  mv 5 35]
abbrev r111_10 : List IOp := [mv 20 6,
  o1 21 (.bin .add .prim) [.t 20, .c (.int .i64 1)],
  mv 6 21]
abbrev b111_0 : IC := (IC.seq (IC.seq (IC.reg r111_5) (IC.cond (.t 19) IC.skip (IC.exit 0))) (IC.seq (IC.block 1 (IC.seq (IC.reg r111_6) (IC.seq (IC.reg r111_7) (IC.cond (.t 29) (IC.seq (IC.reg r111_8) (IC.reg r111_9)) IC.skip)))) (IC.reg r111_10)))
abbrev r111_11 : List IOp := [mv 36 0,
  mv 37 5,
  o1 38 (.slice 10 true false false) [.t 36, .t 37],
  ⟨none, .op (.clear [.int .i64 0, .int .i64 0, .str [], .str [], .str [], .str [], .bool false, .bool false, .int .i64 0, .int .i64 0]), [.t 38], none⟩]
abbrev r111_12 : List IOp := [mv 39 0,
  mv 40 5,
  o1 41 (.slice 10 false true false) [.t 39, .t 40],
  mv 4 41]
abbrev c111 : IC := (IC.seq (IC.reg r111_0) (IC.seq (IC.reg r111_1) (IC.seq (IC.seq (IC.reg r111_2) (IC.cond (.t 12) (IC.seq (IC.reg r111_3) IC.ret) IC.skip)) (IC.seq (IC.seq (IC.reg r111_4) (IC.block 0 (IC.loop b111_0))) (IC.seq (IC.reg r111_11) (IC.seq (IC.reg r111_12) IC.ret))))))
abbrev g111 : FC := ⟨c111, 42, [.t 4]⟩
theorem comp111 : compF Go.Proofs.Try.prog (fun _ => 0) 111 = some g111 := by kernel_rfl

-- outlaw/queue.Withdraw$2
abbrev r115_0 : List IOp := [o1 2 (.box 23) [.t 0],
  o1 3 (.mov) [.c (.bool false)]]
abbrev r115_1 : List IOp := [o1 4 (.load none) [.t 1],
  o1 5 (.load (some 5)) [.t 2],
  ca 6 [.f 113, .t 4, .t 5],
  o1 7 (.un .not) [.t 6],
  mv 3 7]
abbrev c115 : IC := (IC.seq (IC.reg r115_0) (IC.seq (IC.reg r115_1) IC.ret))
abbrev g115 : FC := ⟨c115, 8, [.t 3]⟩
theorem comp115 : compF Go.Proofs.Try.prog (fun _ => 0) 115 = some g115 := by kernel_rfl

-- slices.DeleteFunc[[]outlaw/api.Action,outlaw/api.Action]
abbrev r114_0 : List IOp := [o1 4 (.mov) [.c (.nils)]]
abbrev r114_1 : List IOp := [mv 8 0,
  mv 9 1,
  ca 10 [.f 106, .t 8, .t 9],
  mv 5 10]
abbrev r114_2 : List IOp := [mv 11 5,
  o1 12 (.bin .eql .prim) [.t 11, .c (.int .i64 (-1))]]
abbrev r114_3 : List IOp := [mv 13 0,
  mv 4 13]
abbrev r114_4 : List IOp := [mv 14 5,
  o1 15 (.bin .add .prim) [.t 14, .c (.int .i64 1)],
  mv 6 15]
abbrev r114_5 : List IOp := [mv 16 6,
  mv 17 0,
  o1 18 (.len .slice) [.t 17],
  o1 19 (.bin .lss .prim) [.t 16, .t 18]]
abbrev r114_6 : List IOp := [mv 22 0,
  mv 23 6,
  o1 24 (.iaddr 5) [.t 22, .t 23],
  o1 25 (.load (some 5)) [.t 24],
  o1 7 (.alloc 23 [.int .i64 0, .str [], .str [], .str [], .str []]) [],
  sr 5 [.t 7, .t 25]]
abbrev r114_7 : List IOp := [mv 26 1,
  o1 27 (.load (some 5)) [.t 7],
  ca 28 [.t 26, .t 27],
  o1 29 (.un .not) [.t 28]]
abbrev r114_8 : List IOp := [mv 30 0,
  mv 31 5,
  o1 32 (.load (some 5)) [.t 7],
  o1 33 (.iaddr 5) [.t 30, .t 31],
  sr 5 [.t 33, .t 32]]
abbrev r114_9 : List IOp := [mv 34 5,
  o1 35 (.bin .add .prim) [.t 34, .c (.int .i64 1)],
  mv 5 35]
abbrev r114_10 : List IOp := [mv 20 6,
  o1 21 (.bin .add .prim) [.t 20, .c (.int .i64 1)],
  mv 6 21]
abbrev b114_0 : IC := (IC.seq (IC.seq (IC.reg r114_5) (IC.cond (.t 19) IC.skip (IC.exit 0))) (IC.seq (IC.block 1 (IC.seq (IC.reg r114_6) (IC.seq (IC.reg r114_7) (IC.cond (.t 29) (IC.seq (IC.reg r114_8) (IC.reg r114_9)) IC.skip)))) (IC.reg r114_10)))
abbrev r114_11 : List IOp := [mv 36 0,
  mv 37 5,
  o1 38 (.slice 5 true false false) [.t 36, .t 37],
  ⟨none, .op (.clear [.int .i64 0, .str [], .str [], .str [], .str []]), [.t 38], none⟩]
abbrev r114_12 : List IOp := [mv 39 0,
  mv 40 5,
  o1 41 (.slice 5 false true false) [.t 39, .t 40],
  mv 4 41]
abbrev c114 : IC := (IC.seq (IC.reg r114_0) (IC.seq (IC.reg r114_1) (IC.seq (IC.seq (IC.reg r114_2) (IC.cond (.t 12) (IC.seq (IC.reg r114_3) IC.ret) IC.skip)) (IC.seq (IC.seq (IC.reg r114_4) (IC.block 0 (IC.loop b114_0))) (IC.seq (IC.reg r114_11) (IC.seq (IC.reg r114_12) IC.ret))))))
abbrev g114 : FC := ⟨c114, 42, [.t 4]⟩
theorem comp114 : compF Go.Proofs.Try.prog (fun _ => 0) 114 = some g114 := by kernel_rfl

-- outlaw/outlawref22.without
abbrev r116_0 : List IOp := [o1 4 (.mov) [.c (.nils)]]
abbrev r116_1 : List IOp := [o1 5 (.bsl 42 10 false) [],
  mv 6 0,
  mv 7 1,
  o1 8 (.slice 10 false true false) [.t 6, .t 7],
  o1 9 (.app 42 10 104) [.t 5, .t 8],
  mv 10 0,
  mv 11 1,
  o1 12 (.bin .add .prim) [.t 11, .c (.int .i64 1)],
  o1 13 (.slice 10 true false false) [.t 10, .t 12],
  o1 14 (.app 42 10 104) [.t 9, .t 13],
  mv 4 14]
abbrev c116 : IC := (IC.seq (IC.reg r116_0) (IC.seq (IC.regD .wild r116_1 (.take 0 (.take 1 (.take 2 (.take 3 (.take 4 (.take 5 (.take 6 (.take 7 (.take 8 (.take 9 (.take 10 (.done))))))))))))) IC.ret))
abbrev g116 : FC := ⟨c116, 15, [.t 4]⟩
theorem comp116 : compF Go.Proofs.Try.prog (hintL [(1, 6)]) 116 = some g116 := by kernel_rfl

-- slices.Grow[[]outlaw/api.Action,outlaw/api.Action]
abbrev r129_0 : List IOp := [o1 4 (.mov) [.c (.nils)]]
abbrev r129_1 : List IOp := [mv 5 1,
  o1 6 (.bin .lss .prim) [.t 5, .c (.int .i64 0)]]
abbrev r129_2 : List IOp := [⟨some 7, .op (.mkif 9), [.c (.str [99, 97, 110, 110, 111, 116, 32, 98, 101, 32, 110, 101, 103, 97, 116, 105, 118, 101])], none⟩,
  ⟨none, .op (.never), [], none⟩]
abbrev r129_3 : List IOp := [mv 8 1,
  mv 9 0,
  o1 10 (.cap) [.t 9],
  mv 11 0,
  o1 12 (.len .slice) [.t 11],
  o1 13 (.bin .sub .prim) [.t 10, .t 12],
  o1 14 (.bin .sub .prim) [.t 8, .t 13],
  mv 1 14]
abbrev r129_4 : List IOp := [mv 15 1,
  o1 16 (.bin .gtr .prim) [.t 15, .c (.int .i64 0)]]
abbrev r129_5 : List IOp := [mv 17 0,
  mv 18 0,
  o1 19 (.cap) [.t 18],
  o1 20 (.slice 5 false true false) [.t 17, .t 19],
  mv 21 1,
  o1 22 (.appz 23 [.int .i64 0, .str [], .str [], .str [], .str []] 72) [.t 20, .t 21],
  mv 23 0,
  o1 24 (.len .slice) [.t 23],
  o1 25 (.slice 5 false true false) [.t 22, .t 24],
  mv 0 25]
abbrev r129_6 : List IOp := [mv 26 0,
  mv 4 26]
abbrev c129 : IC := (IC.seq (IC.reg r129_0) (IC.seq (IC.seq (IC.reg r129_1) (IC.cond (.t 6) (IC.reg r129_2) IC.skip)) (IC.seq (IC.seq (IC.reg r129_3) (IC.seq (IC.reg r129_4) (IC.cond (.t 16) (IC.reg r129_5) IC.skip))) (IC.seq (IC.reg r129_6) IC.ret))))
abbrev g129 : FC := ⟨c129, 27, [.t 4]⟩
theorem comp129 : compF Go.Proofs.Try.prog (fun _ => 0) 129 = some g129 := by kernel_rfl

-- slices.Contains[[]outlaw/api.Action,outlaw/api.Action]
abbrev r113_0 : List IOp := [o1 3 (.box 23) [.t 1],
  o1 4 (.mov) [.c (.bool false)]]
abbrev r113_1 : List IOp := [mv 5 0,
  o1 6 (.load (some 5)) [.t 3],
  ca 7 [.f 130, .t 5, .t 6],
  o1 8 (.bin .geq .prim) [.t 7, .c (.int .i64 0)],
  mv 4 8]
abbrev c113 : IC := (IC.seq (IC.reg r113_0) (IC.seq (IC.reg r113_1) IC.ret))
abbrev g113 : FC := ⟨c113, 9, [.t 4]⟩
theorem comp113 : compF Go.Proofs.Try.prog (fun _ => 0) 113 = some g113 := by kernel_rfl

-- slices.Index[[]outlaw/api.Action,outlaw/api.Action]
abbrev r130_0 : List IOp := [o1 3 (.box 23) [.t 1],
  o1 4 (.mov) [.c (.int .i64 0)]]
abbrev r130_1 : List IOp := [mv 6 0,
  o1 7 (.len .slice) [.t 6],
  o1 8 (.mov) [.c (.int .i64 0)]]
abbrev r130_2 : List IOp := [o1 9 (.bin .lss .prim) [.t 8, .t 7]]
abbrev r130_3 : List IOp := [mv 10 8,
  mv 5 10]
abbrev r130_4 : List IOp := [o1 11 (.load (some 5)) [.t 3],
  mv 12 0,
  mv 13 5,
  o1 14 (.iaddr 5) [.t 12, .t 13],
  o1 15 (.load (some 5)) [.t 14],
  o1 16 (.bin .eql (.st [.int, .str, .str, .str, .str])) [.t 11, .t 15]]
abbrev r130_5 : List IOp := [mv 17 5,
  mv 4 17]
abbrev r130_6 : List IOp := [o1 18 (.bin .add .prim) [.t 8, .c (.int .i64 1)],
  mv 8 18]
abbrev b130_0 : IC := (IC.seq (IC.reg r130_2) (IC.seq (IC.cond (.t 9) IC.skip (IC.exit 0)) (IC.seq (IC.block 1 (IC.seq (IC.reg r130_3) (IC.seq (IC.regD .wild r130_4 (.take 0 (.take 1 (.take 2 (.take 3 (.take 4 (.take 5 (.done)))))))) (IC.cond (.t 16) (IC.seq (IC.reg r130_5) IC.ret) IC.skip)))) (IC.reg r130_6))))
abbrev r130_7 : List IOp := [o1 4 (.mov) [.c (.int .i64 (-1))]]
abbrev c130 : IC := (IC.seq (IC.reg r130_0) (IC.seq (IC.seq (IC.reg r130_1) (IC.block 0 (IC.loop b130_0))) (IC.seq (IC.reg r130_7) IC.ret)))
abbrev g130 : FC := ⟨c130, 19, [.t 4]⟩
theorem comp130 : compF Go.Proofs.Try.prog (hintL [(4, 6)]) 130 = some g130 := by kernel_rfl

end Go.Gi
