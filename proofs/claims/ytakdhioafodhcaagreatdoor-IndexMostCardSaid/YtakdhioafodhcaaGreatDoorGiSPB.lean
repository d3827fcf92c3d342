/- slices.Sort, as compiled, for elements that lie in one cell: the pivot, patterns broken, partitions, the whole. -/
import Derived.Test.YtakdhioafodhcaaGreatDoorGiSP
set_option linter.unusedVariables false
set_option linter.unusedSimpArgs false
set_option linter.unusedSectionVars false
namespace Go.Gi
open _root_.Nat renaming reduceEqDiff → qa
set_option linter.unusedSectionVars false
variable [Mx]
open Go
abbrev cpR0 (fmd fma:FuncId) (ti:TypeId):List IOp:=[o1 6 (.mov) [.c (.int .i64 0)],
 o1 7 (.mov) [.c (.int .i64 0)]]
abbrev cpR1 (fmd fma:FuncId) (ti:TypeId):List IOp:=[mv 13 2,
 mv 14 1,
 z2 15 (.bin .sub .prim) 13 14,
 mv 8 15]
abbrev cpR2 (fmd fma:FuncId) (ti:TypeId):List IOp:=[o1 9 (.alloc ti [.int .i64 0]) []]
abbrev cpR3 (fmd fma:FuncId) (ti:TypeId):List IOp:=[mv 16 1,
 mv 17 8,
 zk 18 (.bin .quo .prim) 17 (.int .i64 4),
 zk 19 (.bin .mul .prim) 18 (.int .i64 1),
 z2 20 (.bin .add .prim) 16 19,
 mv 10 20]
abbrev cpR4 (fmd fma:FuncId) (ti:TypeId):List IOp:=[mv 21 1,
 mv 22 8,
 zk 23 (.bin .quo .prim) 22 (.int .i64 4),
 zk 24 (.bin .mul .prim) 23 (.int .i64 2),
 z2 25 (.bin .add .prim) 21 24,
 mv 11 25]
abbrev cpR5 (fmd fma:FuncId) (ti:TypeId):List IOp:=[mv 26 1,
 mv 27 8,
 zk 28 (.bin .quo .prim) 27 (.int .i64 4),
 zk 29 (.bin .mul .prim) 28 (.int .i64 3),
 z2 30 (.bin .add .prim) 26 29,
 mv 12 30]
abbrev cpR6 (fmd fma:FuncId) (ti:TypeId):List IOp:=[mv 31 8,
 zk 32 (.bin .geq .prim) 31 (.int .i64 8)]
abbrev cpR7 (fmd fma:FuncId) (ti:TypeId):List IOp:=[mv 33 8,
 zk 34 (.bin .geq .prim) 33 (.int .i64 50)]
abbrev cpR8 (fmd fma:FuncId) (ti:TypeId):List IOp:=[mv 35 0,
 mv 36 10,
 ca 37 [.f fma,.t 35,.t 36,.t 9],
 mv 10 37]
abbrev cpR9 (fmd fma:FuncId) (ti:TypeId):List IOp:=[mv 38 0,
 mv 39 11,
 ca 40 [.f fma,.t 38,.t 39,.t 9],
 mv 11 40]
abbrev cpR10 (fmd fma:FuncId) (ti:TypeId):List IOp:=[mv 41 0,
 mv 42 12,
 ca 43 [.f fma,.t 41,.t 42,.t 9],
 mv 12 43]
abbrev cpR11 (fmd fma:FuncId) (ti:TypeId):List IOp:=[mv 44 0,
 mv 45 10,
 mv 46 11,
 mv 47 12,
 ca 48 [.f fmd,.t 44,.t 45,.t 46,.t 47,.t 9],
 mv 11 48]
abbrev cpR12 (fmd fma:FuncId) (ti:TypeId):List IOp:=[z1 49 (.load none) 9]
abbrev cpR13 (fmd fma:FuncId) (ti:TypeId):List IOp:=[zk 52 (.bin .eql .prim) 49 (.int .i64 0),
 mv 51 52]
abbrev cpR14 (fmd fma:FuncId) (ti:TypeId):List IOp:=[mv 53 11,
 mv 6 53,
 o1 7 (.mov) [.c (.int .i64 1)]]
abbrev cpR15 (fmd fma:FuncId) (ti:TypeId):List IOp:=[zk 55 (.bin .eql .prim) 49 (.int .i64 12),
 mv 54 55]
abbrev cpR16 (fmd fma:FuncId) (ti:TypeId):List IOp:=[mv 56 11,
 mv 6 56,
 o1 7 (.mov) [.c (.int .i64 2)]]
abbrev cpR17 (fmd fma:FuncId) (ti:TypeId):List IOp:=[mv 50 11,
 mv 6 50,
 o1 7 (.mov) [.c (.int .i64 0)]]
abbrev cpC (fmd fma:FuncId) (ti:TypeId):IC:=(IC.seq (IC.reg (cpR0 fmd fma ti)) (IC.seq (IC.reg (cpR1 fmd fma ti)) (IC.seq (IC.reg (cpR2 fmd fma ti)) (IC.seq (IC.reg (cpR3 fmd fma ti)) (IC.seq (IC.reg (cpR4 fmd fma ti)) (IC.seq (IC.reg (cpR5 fmd fma ti)) (IC.seq (IC.seq (IC.reg (cpR6 fmd fma ti)) (IC.cond (.t 32) (IC.seq (IC.seq (IC.reg (cpR7 fmd fma ti)) (IC.cond (.t 34) (IC.seq (IC.reg (cpR8 fmd fma ti)) (IC.seq (IC.reg (cpR9 fmd fma ti)) (IC.reg (cpR10 fmd fma ti)))) IC.skip)) (IC.reg (cpR11 fmd fma ti))) IC.skip)) (IC.seq (IC.reg (cpR12 fmd fma ti)) (IC.block 0 (IC.seq (IC.reg (cpR13 fmd fma ti)) (IC.cond (.t 51) (IC.seq (IC.reg (cpR14 fmd fma ti)) IC.ret) (IC.seq (IC.reg (cpR15 fmd fma ti)) (IC.cond (.t 54) (IC.seq (IC.reg (cpR16 fmd fma ti)) IC.ret) (IC.seq (IC.reg (cpR17 fmd fma ti)) IC.ret))))))))))))))
abbrev cpN:Nat:=57
abbrev bpR0 (fnp fxs:FuncId) (tx:TypeId):List IOp:=[mv 11 2,
 mv 12 1,
 z2 13 (.bin .sub .prim) 11 12,
 mv 6 13]
abbrev bpR1 (fnp fxs:FuncId) (tx:TypeId):List IOp:=[mv 14 6,
 zk 15 (.bin .geq .prim) 14 (.int .i64 8)]
abbrev bpR2 (fnp fxs:FuncId) (tx:TypeId):List IOp:=[mv 16 6,
 z1 17 (.toInt .u64) 16,
 o1 7 (.alloc tx [.int .u64 0]) [],
 sr 1 [.t 7,.t 17]]
abbrev bpR3 (fnp fxs:FuncId) (tx:TypeId):List IOp:=[mv 18 6,
 ca 19 [.f fnp,.t 18],
 mv 8 19]
abbrev bpR4 (fnp fxs:FuncId) (tx:TypeId):List IOp:=[mv 20 1,
 mv 21 6,
 zk 22 (.bin .quo .prim) 21 (.int .i64 4),
 zk 23 (.bin .mul .prim) 22 (.int .i64 2),
 z2 24 (.bin .add .prim) 20 23,
 zk 25 (.bin .sub .prim) 24 (.int .i64 1),
 mv 9 25]
abbrev bpR5 (fnp fxs:FuncId) (tx:TypeId):List IOp:=[mv 26 9,
 mv 27 1,
 mv 28 6,
 zk 29 (.bin .quo .prim) 28 (.int .i64 4),
 zk 30 (.bin .mul .prim) 29 (.int .i64 2),
 z2 31 (.bin .add .prim) 27 30,
 zk 32 (.bin .add .prim) 31 (.int .i64 1),
 z2 33 (.bin .leq .prim) 26 32]
abbrev bpR6 (fnp fxs:FuncId) (tx:TypeId):List IOp:=[ca 36 [.f fxs,.t 7],
 mv 37 8,
 zk 38 (.bin .sub .prim) 37 (.int .u64 1),
 z2 39 (.bin .and .prim) 36 38,
 z1 40 (.toInt .i64) 39,
 mv 10 40]
abbrev bpR7 (fnp fxs:FuncId) (tx:TypeId):List IOp:=[mv 41 10,
 mv 42 6,
 z2 43 (.bin .geq .prim) 41 42]
abbrev bpR8 (fnp fxs:FuncId) (tx:TypeId):List IOp:=[mv 44 10,
 mv 45 6,
 z2 46 (.bin .sub .prim) 44 45,
 mv 10 46]
abbrev bpR9 (fnp fxs:FuncId) (tx:TypeId):List IOp:=[mv 47 0,
 mv 48 9,
 mv 49 0,
 mv 50 1,
 mv 51 10,
 z2 52 (.bin .add .prim) 50 51,
 mv 53 0,
 mv 54 1,
 mv 55 10,
 z2 56 (.bin .add .prim) 54 55,
 z2 57 (.iaddr 1) 53 56,
 z1 58 (.load none) 57,
 mv 59 0,
 mv 60 9,
 z2 61 (.iaddr 1) 59 60,
 z1 62 (.load none) 61,
 z2 63 (.iaddr 1) 47 48,
 sr 1 [.t 63,.t 58],
 z2 64 (.iaddr 1) 49 52,
 sr 1 [.t 64,.t 62]]
abbrev bpR10 (fnp fxs:FuncId) (tx:TypeId):List IOp:=[mv 34 9,
 zk 35 (.bin .add .prim) 34 (.int .i64 1),
 mv 9 35]
abbrev bpB0 (fnp fxs:FuncId) (tx:TypeId):IC:=(IC.seq (IC.seq (IC.reg (bpR5 fnp fxs tx)) (IC.cond (.t 33) IC.skip (IC.exit 0))) (IC.seq (IC.block 1 (IC.seq (IC.reg (bpR6 fnp fxs tx)) (IC.seq (IC.seq (IC.reg (bpR7 fnp fxs tx)) (IC.cond (.t 43) (IC.reg (bpR8 fnp fxs tx)) IC.skip)) (IC.regD .wild (bpR9 fnp fxs tx) (.take 0 (.take 1 (.take 2 (.take 3 (.take 4 (.take 5 (.take 6 (.take 7 (.take 8 (.take 9 (.take 10 (.take 11 (.take 12 (.take 13 (.take 14 (.take 15 (.take 16 (.take 17 (.take 18 (.take 19 (.done))))))))))))))))))))))))) (IC.reg (bpR10 fnp fxs tx))))
abbrev bpC (fnp fxs:FuncId) (tx:TypeId):IC:=(IC.seq (IC.reg (bpR0 fnp fxs tx)) (IC.seq (IC.reg (bpR1 fnp fxs tx)) (IC.cond (.t 15) (IC.seq (IC.reg (bpR2 fnp fxs tx)) (IC.seq (IC.reg (bpR3 fnp fxs tx)) (IC.seq (IC.reg (bpR4 fnp fxs tx)) (IC.block 0 (IC.loop (bpB0 fnp fxs tx)))))) IC.skip)))
abbrev bpN:Nat:=65
abbrev npR0 (fbl:FuncId):List IOp:=[o1 2 (.mov) [.c (.int .u64 0)]]
abbrev npR1 (fbl:FuncId):List IOp:=[mv 3 0,
 z1 4 (.toInt .u64) 3,
 ca 5 [.f fbl,.t 4],
 o1 6 (.bin .shl .prim) [.c (.int .u64 1),.t 5],
 mv 2 6]
abbrev npC (fbl:FuncId):IC:=(IC.seq (IC.reg (npR0 fbl)) (IC.seq (IC.reg (npR1 fbl)) IC.ret))
abbrev npN:Nat:=7
abbrev xsR0:List IOp:=[o1 2 (.mov) [.c (.int .u64 0)]]
abbrev xsR1:List IOp:=[mv 3 0,
 z1 4 (.nilchk) 3,
 z1 5 (.load none) 4,
 mv 6 0,
 z1 7 (.nilchk) 6,
 z1 8 (.load none) 7,
 zk 9 (.bin .shl .prim) 8 (.int .u64 13),
 z2 10 (.bin .xor .prim) 5 9,
 z1 11 (.nilchk) 3,
 sr 1 [.t 11,.t 10]]
abbrev xsR2:List IOp:=[mv 12 0,
 z1 13 (.nilchk) 12,
 z1 14 (.load none) 13,
 mv 15 0,
 z1 16 (.nilchk) 15,
 z1 17 (.load none) 16,
 zk 18 (.bin .shr .prim) 17 (.int .u64 7),
 z2 19 (.bin .xor .prim) 14 18,
 z1 20 (.nilchk) 12,
 sr 1 [.t 20,.t 19]]
abbrev xsR3:List IOp:=[mv 21 0,
 z1 22 (.nilchk) 21,
 z1 23 (.load none) 22,
 mv 24 0,
 z1 25 (.nilchk) 24,
 z1 26 (.load none) 25,
 zk 27 (.bin .shl .prim) 26 (.int .u64 17),
 z2 28 (.bin .xor .prim) 23 27,
 z1 29 (.nilchk) 21,
 sr 1 [.t 29,.t 28]]
abbrev xsR4:List IOp:=[mv 30 0,
 z1 31 (.nilchk) 30,
 z1 32 (.load none) 31,
 mv 2 32]
abbrev xsC:IC:=(IC.seq (IC.reg xsR0) (IC.seq (IC.regD .wild xsR1 (.take 0 (.take 1 (.take 2 (.take 3 (.take 4 (.take 5 (.take 6 (.take 7 (.take 8 (.take 9 (.done)))))))))))) (IC.seq (IC.regD .wild xsR2 (.take 0 (.take 1 (.take 2 (.take 3 (.take 4 (.take 5 (.take 6 (.take 7 (.take 8 (.take 9 (.done)))))))))))) (IC.seq (IC.regD .wild xsR3 (.take 0 (.take 1 (.take 2 (.take 3 (.take 4 (.take 5 (.take 6 (.take 7 (.take 8 (.take 9 (.done)))))))))))) (IC.seq (IC.reg xsR4) IC.ret)))))
abbrev xsN:Nat:=33
abbrev blR0 (fl64 fl32:FuncId):List IOp:=[o1 2 (.mov) [.c (.int .i64 0)]]
abbrev blR1 (fl64 fl32:FuncId):List IOp:=[mv 3 0,
 z1 4 (.toInt .u32) 3,
 ca 5 [.f fl32,.t 4],
 mv 2 5]
abbrev blR2 (fl64 fl32:FuncId):List IOp:=[mv 6 0,
 ca 7 [.f fl64,.t 6],
 mv 2 7]
abbrev blC (fl64 fl32:FuncId):IC:=(IC.seq (IC.reg (blR0 fl64 fl32)) (IC.seq (IC.cond (.c (.bool false)) (IC.seq (IC.reg (blR1 fl64 fl32)) IC.ret) IC.skip) (IC.seq (IC.reg (blR2 fl64 fl32)) IC.ret)))
abbrev blN:Nat:=8
def lenT:List UInt8:=[0,1,2,2,3,3,3,3,4,4,4,4,4,4,4,4,5,5,5,5,5,5,5,5,5,5,5,5,5,5,5,5,6,6,6,6,6,6,6,6,6,6,6,6,6,6,6,6,6,6,6,6,6,6,6,6,6,6,6,6,6,6,6,6,7,7,7,7,7,7,7,7,7,7,7,7,7,7,7,7,7,7,7,7,7,7,7,7,7,7,7,7,7,7,7,7,7,7,7,7,7,7,7,7,7,7,7,7,7,7,7,7,7,7,7,7,7,7,7,7,7,7,7,7,7,7,7,7,8,8,8,8,8,8,8,8,8,8,8,8,8,8,8,8,8,8,8,8,8,8,8,8,8,8,8,8,8,8,8,8,8,8,8,8,8,8,8,8,8,8,8,8,8,8,8,8,8,8,8,8,8,8,8,8,8,8,8,8,8,8,8,8,8,8,8,8,8,8,8,8,8,8,8,8,8,8,8,8,8,8,8,8,8,8,8,8,8,8,8,8,8,8,8,8,8,8,8,8,8,8,8,8,8,8,8,8,8,8,8,8,8,8,8,8,8,8,8,8,8,8,8,8,8,8,8,8]
abbrev l64R0:List IOp:=[o1 2 (.mov) [.c (.int .i64 0)]]
abbrev l64R1:List IOp:=[mv 3 0,
 zk 4 (.bin .geq .prim) 3 (.int .u64 4294967296)]
abbrev l64R2:List IOp:=[mv 5 0,
 zk 6 (.bin .shr .prim) 5 (.int .u64 32),
 mv 0 6]
abbrev l64R3:List IOp:=[o1 2 (.mov) [.c (.int .i64 32)]]
abbrev l64R4:List IOp:=[mv 7 0,
 zk 8 (.bin .geq .prim) 7 (.int .u64 65536)]
abbrev l64R5:List IOp:=[mv 9 0,
 zk 10 (.bin .shr .prim) 9 (.int .u64 16),
 mv 0 10]
abbrev l64R6:List IOp:=[mv 11 2,
 zk 12 (.bin .add .prim) 11 (.int .i64 16),
 mv 2 12]
abbrev l64R7:List IOp:=[mv 13 0,
 zk 14 (.bin .geq .prim) 13 (.int .u64 256)]
abbrev l64R8:List IOp:=[mv 15 0,
 zk 16 (.bin .shr .prim) 15 (.int .u64 8),
 mv 0 16]
abbrev l64R9:List IOp:=[mv 17 2,
 zk 18 (.bin .add .prim) 17 (.int .i64 8),
 mv 2 18]
abbrev l64R10:List IOp:=[mv 19 2,
 mv 20 0,
 z1 21 (.toInt .u8) 20,
 o1 22 (.idxs) [.c (.str lenT),.t 21],
 z1 23 (.toInt .i64) 22,
 z2 24 (.bin .add .prim) 19 23,
 mv 2 24]
abbrev l64C:IC:=(IC.seq (IC.reg l64R0) (IC.seq (IC.seq (IC.reg l64R1) (IC.cond (.t 4) (IC.seq (IC.reg l64R2) (IC.reg l64R3)) IC.skip)) (IC.seq (IC.seq (IC.reg l64R4) (IC.cond (.t 8) (IC.seq (IC.reg l64R5) (IC.reg l64R6)) IC.skip)) (IC.seq (IC.seq (IC.reg l64R7) (IC.cond (.t 14) (IC.seq (IC.reg l64R8) (IC.reg l64R9)) IC.skip)) (IC.seq (IC.reg l64R10) IC.ret)))))
abbrev l64N:Nat:=25
abbrev ptR0 (less:FuncId):List IOp:=[o1 8 (.mov) [.c (.int .i64 0)],
 o1 9 (.mov) [.c (.bool false)]]
abbrev ptR1 (less:FuncId):List IOp:=[mv 12 0,
 mv 13 1,
 mv 14 0,
 mv 15 3,
 mv 16 0,
 mv 17 3,
 z2 18 (.iaddr 1) 16 17,
 z1 19 (.load none) 18,
 mv 20 0,
 mv 21 1,
 z2 22 (.iaddr 1) 20 21,
 z1 23 (.load none) 22,
 z2 24 (.iaddr 1) 12 13,
 sr 1 [.t 24,.t 19],
 z2 25 (.iaddr 1) 14 15,
 sr 1 [.t 25,.t 23]]
abbrev ptR2 (less:FuncId):List IOp:=[mv 26 1,
 zk 27 (.bin .add .prim) 26 (.int .i64 1),
 mv 28 2,
 zk 29 (.bin .sub .prim) 28 (.int .i64 1),
 mv 10 27,
 mv 11 29]
abbrev ptR3 (less:FuncId):List IOp:=[mv 30 10,
 mv 31 11,
 z2 32 (.bin .leq .prim) 30 31,
 mv 33 32,
 o2 34 (.mov) [.t 0] 33 true,
 o2 35 (.mov) [.t 10] 33 true,
 o2 36 (.iaddr 1) [.t 34,.t 35] 33 true,
 o2 37 (.load none) [.t 36] 33 true,
 o2 38 (.mov) [.t 0] 33 true,
 o2 39 (.mov) [.t 1] 33 true,
 o2 40 (.iaddr 1) [.t 38,.t 39] 33 true,
 o2 41 (.load none) [.t 40] 33 true,
 ⟨some 42,.call none,[.f less,.t 37,.t 41],some (33,true)⟩,
 o1 43 (.pick) [.t 33,.t 42,.c (.bool false)]]
abbrev ptR4 (less:FuncId):List IOp:=[mv 44 10,
 zk 45 (.bin .add .prim) 44 (.int .i64 1),
 mv 10 45]
abbrev ptB0 (less:FuncId):IC:=(IC.seq (IC.seq (IC.regD .wild (ptR3 less) (.take 0 (.take 1 (.take 2 (.take 3 (.take 4 (.take 5 (.take 6 (.take 7 (.take 8 (.take 9 (.take 10 (.take 11 (.take 12 (.take 13 (.done)))))))))))))))) (IC.cond (.t 43) IC.skip (IC.exit 0))) (IC.block 1 (IC.reg (ptR4 less))))
abbrev ptR5 (less:FuncId):List IOp:=[mv 46 10,
 mv 47 11,
 z2 48 (.bin .leq .prim) 46 47,
 mv 49 48,
 o2 50 (.mov) [.t 0] 49 true,
 o2 51 (.mov) [.t 11] 49 true,
 o2 52 (.iaddr 1) [.t 50,.t 51] 49 true,
 o2 53 (.load none) [.t 52] 49 true,
 o2 54 (.mov) [.t 0] 49 true,
 o2 55 (.mov) [.t 1] 49 true,
 o2 56 (.iaddr 1) [.t 54,.t 55] 49 true,
 o2 57 (.load none) [.t 56] 49 true,
 ⟨some 58,.call none,[.f less,.t 53,.t 57],some (49,true)⟩,
 o2 59 (.un .not) [.t 58] 49 true,
 o1 60 (.pick) [.t 49,.t 59,.c (.bool false)]]
abbrev ptR6 (less:FuncId):List IOp:=[mv 61 11,
 zk 62 (.bin .sub .prim) 61 (.int .i64 1),
 mv 11 62]
abbrev ptB1 (less:FuncId):IC:=(IC.seq (IC.seq (IC.regD .wild (ptR5 less) (.take 0 (.take 1 (.take 2 (.take 3 (.take 4 (.take 5 (.take 6 (.take 7 (.take 8 (.take 9 (.take 10 (.take 11 (.take 12 (.take 13 (.take 14 (.done))))))))))))))))) (IC.cond (.t 60) IC.skip (IC.exit 2))) (IC.block 3 (IC.reg (ptR6 less))))
abbrev ptR7 (less:FuncId):List IOp:=[mv 63 10,
 mv 64 11,
 z2 65 (.bin .gtr .prim) 63 64]
abbrev ptR8 (less:FuncId):List IOp:=[mv 66 0,
 mv 67 11,
 mv 68 0,
 mv 69 1,
 mv 70 0,
 mv 71 1,
 z2 72 (.iaddr 1) 70 71,
 z1 73 (.load none) 72,
 mv 74 0,
 mv 75 11,
 z2 76 (.iaddr 1) 74 75,
 z1 77 (.load none) 76,
 z2 78 (.iaddr 1) 66 67,
 sr 1 [.t 78,.t 73],
 z2 79 (.iaddr 1) 68 69,
 sr 1 [.t 79,.t 77]]
abbrev ptR9 (less:FuncId):List IOp:=[mv 80 11,
 mv 8 80,
 o1 9 (.mov) [.c (.bool true)]]
abbrev ptR10 (less:FuncId):List IOp:=[mv 81 0,
 mv 82 10,
 mv 83 0,
 mv 84 11,
 mv 85 0,
 mv 86 11,
 z2 87 (.iaddr 1) 85 86,
 z1 88 (.load none) 87,
 mv 89 0,
 mv 90 10,
 z2 91 (.iaddr 1) 89 90,
 z1 92 (.load none) 91,
 z2 93 (.iaddr 1) 81 82,
 sr 1 [.t 93,.t 88],
 z2 94 (.iaddr 1) 83 84,
 sr 1 [.t 94,.t 92]]
abbrev ptR11 (less:FuncId):List IOp:=[mv 95 10,
 zk 96 (.bin .add .prim) 95 (.int .i64 1),
 mv 10 96]
abbrev ptR12 (less:FuncId):List IOp:=[mv 97 11,
 zk 98 (.bin .sub .prim) 97 (.int .i64 1),
 mv 11 98]
abbrev ptR13 (less:FuncId):List IOp:=[mv 99 10,
 mv 100 11,
 z2 101 (.bin .leq .prim) 99 100,
 mv 102 101,
 o2 103 (.mov) [.t 0] 102 true,
 o2 104 (.mov) [.t 10] 102 true,
 o2 105 (.iaddr 1) [.t 103,.t 104] 102 true,
 o2 106 (.load none) [.t 105] 102 true,
 o2 107 (.mov) [.t 0] 102 true,
 o2 108 (.mov) [.t 1] 102 true,
 o2 109 (.iaddr 1) [.t 107,.t 108] 102 true,
 o2 110 (.load none) [.t 109] 102 true,
 ⟨some 111,.call none,[.f less,.t 106,.t 110],some (102,true)⟩,
 o1 112 (.pick) [.t 102,.t 111,.c (.bool false)]]
abbrev ptR14 (less:FuncId):List IOp:=[mv 113 10,
 zk 114 (.bin .add .prim) 113 (.int .i64 1),
 mv 10 114]
abbrev ptB2 (less:FuncId):IC:=(IC.seq (IC.seq (IC.regD .wild (ptR13 less) (.take 0 (.take 1 (.take 2 (.take 3 (.take 4 (.take 5 (.take 6 (.take 7 (.take 8 (.take 9 (.take 10 (.take 11 (.take 12 (.take 13 (.done)))))))))))))))) (IC.cond (.t 112) IC.skip (IC.exit 6))) (IC.block 7 (IC.reg (ptR14 less))))
abbrev ptR15 (less:FuncId):List IOp:=[mv 115 10,
 mv 116 11,
 z2 117 (.bin .leq .prim) 115 116,
 mv 118 117,
 o2 119 (.mov) [.t 0] 118 true,
 o2 120 (.mov) [.t 11] 118 true,
 o2 121 (.iaddr 1) [.t 119,.t 120] 118 true,
 o2 122 (.load none) [.t 121] 118 true,
 o2 123 (.mov) [.t 0] 118 true,
 o2 124 (.mov) [.t 1] 118 true,
 o2 125 (.iaddr 1) [.t 123,.t 124] 118 true,
 o2 126 (.load none) [.t 125] 118 true,
 ⟨some 127,.call none,[.f less,.t 122,.t 126],some (118,true)⟩,
 o2 128 (.un .not) [.t 127] 118 true,
 o1 129 (.pick) [.t 118,.t 128,.c (.bool false)]]
abbrev ptR16 (less:FuncId):List IOp:=[mv 130 11,
 zk 131 (.bin .sub .prim) 130 (.int .i64 1),
 mv 11 131]
abbrev ptB3 (less:FuncId):IC:=(IC.seq (IC.seq (IC.regD .wild (ptR15 less) (.take 0 (.take 1 (.take 2 (.take 3 (.take 4 (.take 5 (.take 6 (.take 7 (.take 8 (.take 9 (.take 10 (.take 11 (.take 12 (.take 13 (.take 14 (.done))))))))))))))))) (IC.cond (.t 129) IC.skip (IC.exit 8))) (IC.block 9 (IC.reg (ptR16 less))))
abbrev ptR17 (less:FuncId):List IOp:=[mv 132 10,
 mv 133 11,
 z2 134 (.bin .gtr .prim) 132 133]
abbrev ptR18 (less:FuncId):List IOp:=[mv 135 0,
 mv 136 10,
 mv 137 0,
 mv 138 11,
 mv 139 0,
 mv 140 11,
 z2 141 (.iaddr 1) 139 140,
 z1 142 (.load none) 141,
 mv 143 0,
 mv 144 10,
 z2 145 (.iaddr 1) 143 144,
 z1 146 (.load none) 145,
 z2 147 (.iaddr 1) 135 136,
 sr 1 [.t 147,.t 142],
 z2 148 (.iaddr 1) 137 138,
 sr 1 [.t 148,.t 146]]
abbrev ptR19 (less:FuncId):List IOp:=[mv 149 10,
 zk 150 (.bin .add .prim) 149 (.int .i64 1),
 mv 10 150]
abbrev ptR20 (less:FuncId):List IOp:=[mv 151 11,
 zk 152 (.bin .sub .prim) 151 (.int .i64 1),
 mv 11 152]
abbrev ptB4 (less:FuncId):IC:=(IC.block 5 (IC.seq (IC.block 6 (IC.loop (ptB2 less))) (IC.seq (IC.block 8 (IC.loop (ptB3 less))) (IC.seq (IC.seq (IC.reg (ptR17 less)) (IC.cond (.t 134) (IC.exit 4) IC.skip)) (IC.seq (IC.regD .wild (ptR18 less) (.take 0 (.take 1 (.take 2 (.take 3 (.take 4 (.take 5 (.take 6 (.take 7 (.take 8 (.take 9 (.take 10 (.take 11 (.take 12 (.take 13 (.take 14 (.take 15 (.done)))))))))))))))))) (IC.seq (IC.reg (ptR19 less)) (IC.reg (ptR20 less))))))))
abbrev ptR21 (less:FuncId):List IOp:=[mv 153 0,
 mv 154 11,
 mv 155 0,
 mv 156 1,
 mv 157 0,
 mv 158 1,
 z2 159 (.iaddr 1) 157 158,
 z1 160 (.load none) 159,
 mv 161 0,
 mv 162 11,
 z2 163 (.iaddr 1) 161 162,
 z1 164 (.load none) 163,
 z2 165 (.iaddr 1) 153 154,
 sr 1 [.t 165,.t 160],
 z2 166 (.iaddr 1) 155 156,
 sr 1 [.t 166,.t 164]]
abbrev ptR22 (less:FuncId):List IOp:=[mv 167 11,
 mv 8 167,
 o1 9 (.mov) [.c (.bool false)]]
abbrev ptC (less:FuncId):IC:=(IC.seq (IC.reg (ptR0 less)) (IC.seq (IC.regD .wild (ptR1 less) (.take 0 (.take 1 (.take 2 (.take 3 (.take 4 (.take 5 (.take 6 (.take 7 (.take 8 (.take 9 (.take 10 (.take 11 (.take 12 (.take 13 (.take 14 (.take 15 (.done)))))))))))))))))) (IC.seq (IC.reg (ptR2 less)) (IC.seq (IC.block 0 (IC.loop (ptB0 less))) (IC.seq (IC.block 2 (IC.loop (ptB1 less))) (IC.seq (IC.seq (IC.reg (ptR7 less)) (IC.cond (.t 65) (IC.seq (IC.regD .wild (ptR8 less) (.take 0 (.take 1 (.take 2 (.take 3 (.take 4 (.take 5 (.take 6 (.take 7 (.take 8 (.take 9 (.take 10 (.take 11 (.take 12 (.take 13 (.take 14 (.take 15 (.done)))))))))))))))))) (IC.seq (IC.reg (ptR9 less)) IC.ret)) IC.skip)) (IC.seq (IC.regD .wild (ptR10 less) (.take 0 (.take 1 (.take 2 (.take 3 (.take 4 (.take 5 (.take 6 (.take 7 (.take 8 (.take 9 (.take 10 (.take 11 (.take 12 (.take 13 (.take 14 (.take 15 (.done)))))))))))))))))) (IC.seq (IC.reg (ptR11 less)) (IC.seq (IC.reg (ptR12 less)) (IC.seq (IC.block 4 (IC.loop (ptB4 less))) (IC.seq (IC.regD .wild (ptR21 less) (.take 0 (.take 1 (.take 2 (.take 3 (.take 4 (.take 5 (.take 6 (.take 7 (.take 8 (.take 9 (.take 10 (.take 11 (.take 12 (.take 13 (.take 14 (.take 15 (.done)))))))))))))))))) (IC.seq (IC.reg (ptR22 less)) IC.ret))))))))))))
abbrev ptN:Nat:=168
abbrev peR0 (less:FuncId):List IOp:=[o1 8 (.mov) [.c (.int .i64 0)]]
abbrev peR1 (less:FuncId):List IOp:=[mv 11 0,
 mv 12 1,
 mv 13 0,
 mv 14 3,
 mv 15 0,
 mv 16 3,
 z2 17 (.iaddr 1) 15 16,
 z1 18 (.load none) 17,
 mv 19 0,
 mv 20 1,
 z2 21 (.iaddr 1) 19 20,
 z1 22 (.load none) 21,
 z2 23 (.iaddr 1) 11 12,
 sr 1 [.t 23,.t 18],
 z2 24 (.iaddr 1) 13 14,
 sr 1 [.t 24,.t 22]]
abbrev peR2 (less:FuncId):List IOp:=[mv 25 1,
 zk 26 (.bin .add .prim) 25 (.int .i64 1),
 mv 27 2,
 zk 28 (.bin .sub .prim) 27 (.int .i64 1),
 mv 9 26,
 mv 10 28]
abbrev peR3 (less:FuncId):List IOp:=[mv 29 9,
 mv 30 10,
 z2 31 (.bin .leq .prim) 29 30,
 mv 32 31,
 o2 33 (.mov) [.t 0] 32 true,
 o2 34 (.mov) [.t 1] 32 true,
 o2 35 (.iaddr 1) [.t 33,.t 34] 32 true,
 o2 36 (.load none) [.t 35] 32 true,
 o2 37 (.mov) [.t 0] 32 true,
 o2 38 (.mov) [.t 9] 32 true,
 o2 39 (.iaddr 1) [.t 37,.t 38] 32 true,
 o2 40 (.load none) [.t 39] 32 true,
 ⟨some 41,.call none,[.f less,.t 36,.t 40],some (32,true)⟩,
 o2 42 (.un .not) [.t 41] 32 true,
 o1 43 (.pick) [.t 32,.t 42,.c (.bool false)]]
abbrev peR4 (less:FuncId):List IOp:=[mv 44 9,
 zk 45 (.bin .add .prim) 44 (.int .i64 1),
 mv 9 45]
abbrev peB0 (less:FuncId):IC:=(IC.seq (IC.seq (IC.regD .wild (peR3 less) (.take 0 (.take 1 (.take 2 (.take 3 (.take 4 (.take 5 (.take 6 (.take 7 (.take 8 (.take 9 (.take 10 (.take 11 (.take 12 (.take 13 (.take 14 (.done))))))))))))))))) (IC.cond (.t 43) IC.skip (IC.exit 2))) (IC.block 3 (IC.reg (peR4 less))))
abbrev peR5 (less:FuncId):List IOp:=[mv 46 9,
 mv 47 10,
 z2 48 (.bin .leq .prim) 46 47,
 mv 49 48,
 o2 50 (.mov) [.t 0] 49 true,
 o2 51 (.mov) [.t 1] 49 true,
 o2 52 (.iaddr 1) [.t 50,.t 51] 49 true,
 o2 53 (.load none) [.t 52] 49 true,
 o2 54 (.mov) [.t 0] 49 true,
 o2 55 (.mov) [.t 10] 49 true,
 o2 56 (.iaddr 1) [.t 54,.t 55] 49 true,
 o2 57 (.load none) [.t 56] 49 true,
 ⟨some 58,.call none,[.f less,.t 53,.t 57],some (49,true)⟩,
 o1 59 (.pick) [.t 49,.t 58,.c (.bool false)]]
abbrev peR6 (less:FuncId):List IOp:=[mv 60 10,
 zk 61 (.bin .sub .prim) 60 (.int .i64 1),
 mv 10 61]
abbrev peB1 (less:FuncId):IC:=(IC.seq (IC.seq (IC.regD .wild (peR5 less) (.take 0 (.take 1 (.take 2 (.take 3 (.take 4 (.take 5 (.take 6 (.take 7 (.take 8 (.take 9 (.take 10 (.take 11 (.take 12 (.take 13 (.done)))))))))))))))) (IC.cond (.t 59) IC.skip (IC.exit 4))) (IC.block 5 (IC.reg (peR6 less))))
abbrev peR7 (less:FuncId):List IOp:=[mv 62 9,
 mv 63 10,
 z2 64 (.bin .gtr .prim) 62 63]
abbrev peR8 (less:FuncId):List IOp:=[mv 65 0,
 mv 66 9,
 mv 67 0,
 mv 68 10,
 mv 69 0,
 mv 70 10,
 z2 71 (.iaddr 1) 69 70,
 z1 72 (.load none) 71,
 mv 73 0,
 mv 74 9,
 z2 75 (.iaddr 1) 73 74,
 z1 76 (.load none) 75,
 z2 77 (.iaddr 1) 65 66,
 sr 1 [.t 77,.t 72],
 z2 78 (.iaddr 1) 67 68,
 sr 1 [.t 78,.t 76]]
abbrev peR9 (less:FuncId):List IOp:=[mv 79 9,
 zk 80 (.bin .add .prim) 79 (.int .i64 1),
 mv 9 80]
abbrev peR10 (less:FuncId):List IOp:=[mv 81 10,
 zk 82 (.bin .sub .prim) 81 (.int .i64 1),
 mv 10 82]
abbrev peB2 (less:FuncId):IC:=(IC.block 1 (IC.seq (IC.block 2 (IC.loop (peB0 less))) (IC.seq (IC.block 4 (IC.loop (peB1 less))) (IC.seq (IC.seq (IC.reg (peR7 less)) (IC.cond (.t 64) (IC.exit 0) IC.skip)) (IC.seq (IC.regD .wild (peR8 less) (.take 0 (.take 1 (.take 2 (.take 3 (.take 4 (.take 5 (.take 6 (.take 7 (.take 8 (.take 9 (.take 10 (.take 11 (.take 12 (.take 13 (.take 14 (.take 15 (.done)))))))))))))))))) (IC.seq (IC.reg (peR9 less)) (IC.reg (peR10 less))))))))
abbrev peR11 (less:FuncId):List IOp:=[mv 83 9,
 mv 8 83]
abbrev peC (less:FuncId):IC:=(IC.seq (IC.reg (peR0 less)) (IC.seq (IC.regD .wild (peR1 less) (.take 0 (.take 1 (.take 2 (.take 3 (.take 4 (.take 5 (.take 6 (.take 7 (.take 8 (.take 9 (.take 10 (.take 11 (.take 12 (.take 13 (.take 14 (.take 15 (.done)))))))))))))))))) (IC.seq (IC.reg (peR2 less)) (IC.seq (IC.block 0 (IC.loop (peB2 less))) (IC.seq (IC.reg (peR11 less)) IC.ret)))))
abbrev peN:Nat:=84
abbrev piR0 (less:FuncId):List IOp:=[o1 6 (.mov) [.c (.bool false)]]
abbrev piR1 (less:FuncId):List IOp:=[mv 11 1,
 zk 12 (.bin .add .prim) 11 (.int .i64 1),
 mv 7 12]
abbrev piR2 (less:FuncId):List IOp:=[o1 8 (.mov) [.c (.int .i64 0)]]
abbrev piR3 (less:FuncId):List IOp:=[mv 13 8,
 zk 14 (.bin .lss .prim) 13 (.int .i64 5)]
abbrev piR4 (less:FuncId):List IOp:=[mv 17 7,
 mv 18 2,
 z2 19 (.bin .lss .prim) 17 18,
 mv 20 19,
 o2 21 (.mov) [.t 0] 20 true,
 o2 22 (.mov) [.t 7] 20 true,
 o2 23 (.iaddr 1) [.t 21,.t 22] 20 true,
 o2 24 (.load none) [.t 23] 20 true,
 o2 25 (.mov) [.t 0] 20 true,
 o2 26 (.mov) [.t 7] 20 true,
 o2 27 (.bin .sub .prim) [.t 26,.c (.int .i64 1)] 20 true,
 o2 28 (.iaddr 1) [.t 25,.t 27] 20 true,
 o2 29 (.load none) [.t 28] 20 true,
 ⟨some 30,.call none,[.f less,.t 24,.t 29],some (20,true)⟩,
 o2 31 (.un .not) [.t 30] 20 true,
 o1 32 (.pick) [.t 20,.t 31,.c (.bool false)]]
abbrev piR5 (less:FuncId):List IOp:=[mv 33 7,
 zk 34 (.bin .add .prim) 33 (.int .i64 1),
 mv 7 34]
abbrev piB0 (less:FuncId):IC:=(IC.seq (IC.seq (IC.regD .wild (piR4 less) (.take 0 (.take 1 (.take 2 (.take 3 (.take 4 (.take 5 (.take 6 (.take 7 (.take 8 (.take 9 (.take 10 (.take 11 (.take 12 (.take 13 (.take 14 (.take 15 (.done)))))))))))))))))) (IC.cond (.t 32) IC.skip (IC.exit 2))) (IC.block 3 (IC.reg (piR5 less))))
abbrev piR6 (less:FuncId):List IOp:=[mv 35 7,
 mv 36 2,
 z2 37 (.bin .eql .prim) 35 36]
abbrev piR7 (less:FuncId):List IOp:=[o1 6 (.mov) [.c (.bool true)]]
abbrev piR8 (less:FuncId):List IOp:=[mv 38 2,
 mv 39 1,
 z2 40 (.bin .sub .prim) 38 39,
 zk 41 (.bin .lss .prim) 40 (.int .i64 50)]
abbrev piR9 (less:FuncId):List IOp:=[o1 6 (.mov) [.c (.bool false)]]
abbrev piR10 (less:FuncId):List IOp:=[mv 42 0,
 mv 43 7,
 mv 44 0,
 mv 45 7,
 zk 46 (.bin .sub .prim) 45 (.int .i64 1),
 mv 47 0,
 mv 48 7,
 zk 49 (.bin .sub .prim) 48 (.int .i64 1),
 z2 50 (.iaddr 1) 47 49,
 z1 51 (.load none) 50,
 mv 52 0,
 mv 53 7,
 z2 54 (.iaddr 1) 52 53,
 z1 55 (.load none) 54,
 z2 56 (.iaddr 1) 42 43,
 sr 1 [.t 56,.t 51],
 z2 57 (.iaddr 1) 44 46,
 sr 1 [.t 57,.t 55]]
abbrev piR11 (less:FuncId):List IOp:=[mv 58 7,
 mv 59 1,
 z2 60 (.bin .sub .prim) 58 59,
 zk 61 (.bin .geq .prim) 60 (.int .i64 2)]
abbrev piR12 (less:FuncId):List IOp:=[mv 62 7,
 zk 63 (.bin .sub .prim) 62 (.int .i64 1),
 mv 9 63]
abbrev piR13 (less:FuncId):List IOp:=[mv 64 9,
 zk 65 (.bin .geq .prim) 64 (.int .i64 1)]
abbrev piR14 (less:FuncId):List IOp:=[mv 68 0,
 mv 69 9,
 z2 70 (.iaddr 1) 68 69,
 z1 71 (.load none) 70,
 mv 72 0,
 mv 73 9,
 zk 74 (.bin .sub .prim) 73 (.int .i64 1),
 z2 75 (.iaddr 1) 72 74,
 z1 76 (.load none) 75,
 ca 77 [.f less,.t 71,.t 76],
 z1 78 (.un .not) 77]
abbrev piR15 (less:FuncId):List IOp:=[mv 79 0,
 mv 80 9,
 mv 81 0,
 mv 82 9,
 zk 83 (.bin .sub .prim) 82 (.int .i64 1),
 mv 84 0,
 mv 85 9,
 zk 86 (.bin .sub .prim) 85 (.int .i64 1),
 z2 87 (.iaddr 1) 84 86,
 z1 88 (.load none) 87,
 mv 89 0,
 mv 90 9,
 z2 91 (.iaddr 1) 89 90,
 z1 92 (.load none) 91,
 z2 93 (.iaddr 1) 79 80,
 sr 1 [.t 93,.t 88],
 z2 94 (.iaddr 1) 81 83,
 sr 1 [.t 94,.t 92]]
abbrev piR16 (less:FuncId):List IOp:=[mv 66 9,
 zk 67 (.bin .sub .prim) 66 (.int .i64 1),
 mv 9 67]
abbrev piB1 (less:FuncId):IC:=(IC.seq (IC.seq (IC.reg (piR13 less)) (IC.cond (.t 65) IC.skip (IC.exit 4))) (IC.seq (IC.block 5 (IC.seq (IC.seq (IC.regD .wild (piR14 less) (.take 0 (.take 1 (.take 2 (.take 3 (.take 4 (.take 5 (.take 6 (.take 7 (.take 8 (.take 9 (.take 10 (.done))))))))))))) (IC.cond (.t 78) (IC.exit 4) IC.skip)) (IC.regD .wild (piR15 less) (.take 0 (.take 1 (.take 2 (.take 3 (.take 4 (.take 5 (.take 6 (.take 7 (.take 8 (.take 9 (.take 10 (.take 11 (.take 12 (.take 13 (.take 14 (.take 15 (.take 16 (.take 17 (.done)))))))))))))))))))))) (IC.reg (piR16 less))))
abbrev piR17 (less:FuncId):List IOp:=[mv 95 2,
 mv 96 7,
 z2 97 (.bin .sub .prim) 95 96,
 zk 98 (.bin .geq .prim) 97 (.int .i64 2)]
abbrev piR18 (less:FuncId):List IOp:=[mv 99 7,
 zk 100 (.bin .add .prim) 99 (.int .i64 1),
 mv 10 100]
abbrev piR19 (less:FuncId):List IOp:=[mv 101 10,
 mv 102 2,
 z2 103 (.bin .lss .prim) 101 102]
abbrev piR20 (less:FuncId):List IOp:=[mv 106 0,
 mv 107 10,
 z2 108 (.iaddr 1) 106 107,
 z1 109 (.load none) 108,
 mv 110 0,
 mv 111 10,
 zk 112 (.bin .sub .prim) 111 (.int .i64 1),
 z2 113 (.iaddr 1) 110 112,
 z1 114 (.load none) 113,
 ca 115 [.f less,.t 109,.t 114],
 z1 116 (.un .not) 115]
abbrev piR21 (less:FuncId):List IOp:=[mv 117 0,
 mv 118 10,
 mv 119 0,
 mv 120 10,
 zk 121 (.bin .sub .prim) 120 (.int .i64 1),
 mv 122 0,
 mv 123 10,
 zk 124 (.bin .sub .prim) 123 (.int .i64 1),
 z2 125 (.iaddr 1) 122 124,
 z1 126 (.load none) 125,
 mv 127 0,
 mv 128 10,
 z2 129 (.iaddr 1) 127 128,
 z1 130 (.load none) 129,
 z2 131 (.iaddr 1) 117 118,
 sr 1 [.t 131,.t 126],
 z2 132 (.iaddr 1) 119 121,
 sr 1 [.t 132,.t 130]]
abbrev piR22 (less:FuncId):List IOp:=[mv 104 10,
 zk 105 (.bin .add .prim) 104 (.int .i64 1),
 mv 10 105]
abbrev piB2 (less:FuncId):IC:=(IC.seq (IC.seq (IC.reg (piR19 less)) (IC.cond (.t 103) IC.skip (IC.exit 6))) (IC.seq (IC.block 7 (IC.seq (IC.seq (IC.regD .wild (piR20 less) (.take 0 (.take 1 (.take 2 (.take 3 (.take 4 (.take 5 (.take 6 (.take 7 (.take 8 (.take 9 (.take 10 (.done))))))))))))) (IC.cond (.t 116) (IC.exit 6) IC.skip)) (IC.regD .wild (piR21 less) (.take 0 (.take 1 (.take 2 (.take 3 (.take 4 (.take 5 (.take 6 (.take 7 (.take 8 (.take 9 (.take 10 (.take 11 (.take 12 (.take 13 (.take 14 (.take 15 (.take 16 (.take 17 (.done)))))))))))))))))))))) (IC.reg (piR22 less))))
abbrev piR23 (less:FuncId):List IOp:=[mv 15 8,
 zk 16 (.bin .add .prim) 15 (.int .i64 1),
 mv 8 16]
abbrev piB3 (less:FuncId):IC:=(IC.seq (IC.seq (IC.reg (piR3 less)) (IC.cond (.t 14) IC.skip (IC.exit 0))) (IC.seq (IC.block 1 (IC.seq (IC.block 2 (IC.loop (piB0 less))) (IC.seq (IC.seq (IC.reg (piR6 less)) (IC.cond (.t 37) (IC.seq (IC.reg (piR7 less)) IC.ret) IC.skip)) (IC.seq (IC.seq (IC.reg (piR8 less)) (IC.cond (.t 41) (IC.seq (IC.reg (piR9 less)) IC.ret) IC.skip)) (IC.seq (IC.regD .wild (piR10 less) (.take 0 (.take 1 (.take 2 (.take 3 (.take 4 (.take 5 (.take 6 (.take 7 (.take 8 (.take 9 (.take 10 (.take 11 (.take 12 (.take 13 (.take 14 (.take 15 (.take 16 (.take 17 (.done)))))))))))))))))))) (IC.seq (IC.seq (IC.reg (piR11 less)) (IC.cond (.t 61) (IC.seq (IC.reg (piR12 less)) (IC.block 4 (IC.loop (piB1 less)))) IC.skip)) (IC.seq (IC.reg (piR17 less)) (IC.cond (.t 98) (IC.seq (IC.reg (piR18 less)) (IC.block 6 (IC.loop (piB2 less)))) IC.skip)))))))) (IC.reg (piR23 less))))
abbrev piR24 (less:FuncId):List IOp:=[o1 6 (.mov) [.c (.bool false)]]
abbrev piC (less:FuncId):IC:=(IC.seq (IC.reg (piR0 less)) (IC.seq (IC.reg (piR1 less)) (IC.seq (IC.seq (IC.reg (piR2 less)) (IC.block 0 (IC.loop (piB3 less)))) (IC.seq (IC.reg (piR24 less)) IC.ret))))
abbrev piN:Nat:=133
abbrev pdqR0 (less fins:FuncId) (fhs fbp:FuncId) (fcp frv:FuncId) (fpi fpe:FuncId) (fpt fpdq:FuncId):List IOp:=[o1 8 (.mov) [.c (.bool true)]]
abbrev pdqR1 (less fins:FuncId) (fhs fbp:FuncId) (fcp frv:FuncId) (fpi fpe:FuncId) (fpt fpdq:FuncId):List IOp:=[o1 9 (.mov) [.c (.bool true)]]
abbrev pdqR2 (less fins:FuncId) (fhs fbp:FuncId) (fcp frv:FuncId) (fpi fpe:FuncId) (fpt fpdq:FuncId):List IOp:=[mv 19 2,
 mv 20 1,
 z2 21 (.bin .sub .prim) 19 20,
 mv 10 21]
abbrev pdqR3 (less fins:FuncId) (fhs fbp:FuncId) (fcp frv:FuncId) (fpi fpe:FuncId) (fpt fpdq:FuncId):List IOp:=[mv 22 10,
 zk 23 (.bin .leq .prim) 22 (.int .i64 12)]
abbrev pdqR4 (less fins:FuncId) (fhs fbp:FuncId) (fcp frv:FuncId) (fpi fpe:FuncId) (fpt fpdq:FuncId):List IOp:=[mv 24 0,
 mv 25 1,
 mv 26 2,
 ca 27 [.f fins,.t 24,.t 25,.t 26]]
abbrev pdqR5 (less fins:FuncId) (fhs fbp:FuncId) (fcp frv:FuncId) (fpi fpe:FuncId) (fpt fpdq:FuncId):List IOp:=[mv 28 3,
 zk 29 (.bin .eql .prim) 28 (.int .i64 0)]
abbrev pdqR6 (less fins:FuncId) (fhs fbp:FuncId) (fcp frv:FuncId) (fpi fpe:FuncId) (fpt fpdq:FuncId):List IOp:=[mv 30 0,
 mv 31 1,
 mv 32 2,
 ca 33 [.f fhs,.t 30,.t 31,.t 32]]
abbrev pdqR7 (less fins:FuncId) (fhs fbp:FuncId) (fcp frv:FuncId) (fpi fpe:FuncId) (fpt fpdq:FuncId):List IOp:=[mv 34 8,
 z1 35 (.un .not) 34]
abbrev pdqR8 (less fins:FuncId) (fhs fbp:FuncId) (fcp frv:FuncId) (fpi fpe:FuncId) (fpt fpdq:FuncId):List IOp:=[mv 36 0,
 mv 37 1,
 mv 38 2,
 ca 39 [.f fbp,.t 36,.t 37,.t 38]]
abbrev pdqR9 (less fins:FuncId) (fhs fbp:FuncId) (fcp frv:FuncId) (fpi fpe:FuncId) (fpt fpdq:FuncId):List IOp:=[mv 40 3,
 zk 41 (.bin .sub .prim) 40 (.int .i64 1),
 mv 3 41]
abbrev pdqR10 (less fins:FuncId) (fhs fbp:FuncId) (fcp frv:FuncId) (fpi fpe:FuncId) (fpt fpdq:FuncId):List IOp:=[mv 43 0,
 mv 44 1,
 mv 45 2,
 ca 46 [.f fcp,.t 43,.t 44,.t 45],
 mv 42 46,
 z1 47 (.extract 0) 42,
 z1 48 (.extract 1) 42,
 mv 11 47,
 mv 12 48]
abbrev pdqR11 (less fins:FuncId) (fhs fbp:FuncId) (fcp frv:FuncId) (fpi fpe:FuncId) (fpt fpdq:FuncId):List IOp:=[mv 49 12,
 zk 50 (.bin .eql .prim) 49 (.int .i64 2)]
abbrev pdqR12 (less fins:FuncId) (fhs fbp:FuncId) (fcp frv:FuncId) (fpi fpe:FuncId) (fpt fpdq:FuncId):List IOp:=[mv 51 0,
 mv 52 1,
 mv 53 2,
 ca 54 [.f frv,.t 51,.t 52,.t 53]]
abbrev pdqR13 (less fins:FuncId) (fhs fbp:FuncId) (fcp frv:FuncId) (fpi fpe:FuncId) (fpt fpdq:FuncId):List IOp:=[mv 55 2,
 zk 56 (.bin .sub .prim) 55 (.int .i64 1),
 mv 57 11,
 mv 58 1,
 z2 59 (.bin .sub .prim) 57 58,
 z2 60 (.bin .sub .prim) 56 59,
 mv 11 60]
abbrev pdqR14 (less fins:FuncId) (fhs fbp:FuncId) (fcp frv:FuncId) (fpi fpe:FuncId) (fpt fpdq:FuncId):List IOp:=[o1 12 (.mov) [.c (.int .i64 1)]]
abbrev pdqR15 (less fins:FuncId) (fhs fbp:FuncId) (fcp frv:FuncId) (fpi fpe:FuncId) (fpt fpdq:FuncId):List IOp:=[mv 61 8,
 mv 62 61,
 o2 63 (.mov) [.t 9] 62 true,
 o1 64 (.pick) [.t 62,.t 63,.c (.bool false)],
 mv 65 64,
 o2 66 (.mov) [.t 12] 65 true,
 o2 67 (.bin .eql .prim) [.t 66,.c (.int .i64 1)] 65 true,
 o1 68 (.pick) [.t 65,.t 67,.c (.bool false)]]
abbrev pdqR16 (less fins:FuncId) (fhs fbp:FuncId) (fcp frv:FuncId) (fpi fpe:FuncId) (fpt fpdq:FuncId):List IOp:=[mv 69 0,
 mv 70 1,
 mv 71 2,
 ca 72 [.f fpi,.t 69,.t 70,.t 71]]
abbrev pdqR17 (less fins:FuncId) (fhs fbp:FuncId) (fcp frv:FuncId) (fpi fpe:FuncId) (fpt fpdq:FuncId):List IOp:=[mv 73 1,
 zk 74 (.bin .gtr .prim) 73 (.int .i64 0),
 mv 75 74,
 o2 76 (.mov) [.t 0] 75 true,
 o2 77 (.mov) [.t 1] 75 true,
 o2 78 (.bin .sub .prim) [.t 77,.c (.int .i64 1)] 75 true,
 o2 79 (.iaddr 1) [.t 76,.t 78] 75 true,
 o2 80 (.load none) [.t 79] 75 true,
 o2 81 (.mov) [.t 0] 75 true,
 o2 82 (.mov) [.t 11] 75 true,
 o2 83 (.iaddr 1) [.t 81,.t 82] 75 true,
 o2 84 (.load none) [.t 83] 75 true,
 ⟨some 85,.call none,[.f less,.t 80,.t 84],some (75,true)⟩,
 o2 86 (.un .not) [.t 85] 75 true,
 o1 87 (.pick) [.t 75,.t 86,.c (.bool false)]]
abbrev pdqR18 (less fins:FuncId) (fhs fbp:FuncId) (fcp frv:FuncId) (fpi fpe:FuncId) (fpt fpdq:FuncId):List IOp:=[mv 88 0,
 mv 89 1,
 mv 90 2,
 mv 91 11,
 ca 92 [.f fpe,.t 88,.t 89,.t 90,.t 91],
 mv 13 92]
abbrev pdqR19 (less fins:FuncId) (fhs fbp:FuncId) (fcp frv:FuncId) (fpi fpe:FuncId) (fpt fpdq:FuncId):List IOp:=[mv 93 13,
 mv 1 93]
abbrev pdqR20 (less fins:FuncId) (fhs fbp:FuncId) (fcp frv:FuncId) (fpi fpe:FuncId) (fpt fpdq:FuncId):List IOp:=[mv 95 0,
 mv 96 1,
 mv 97 2,
 mv 98 11,
 ca 99 [.f fpt,.t 95,.t 96,.t 97,.t 98],
 mv 94 99,
 z1 100 (.extract 0) 94,
 z1 101 (.extract 1) 94,
 mv 14 100,
 mv 15 101]
abbrev pdqR21 (less fins:FuncId) (fhs fbp:FuncId) (fcp frv:FuncId) (fpi fpe:FuncId) (fpt fpdq:FuncId):List IOp:=[mv 102 15,
 mv 9 102]
abbrev pdqR22 (less fins:FuncId) (fhs fbp:FuncId) (fcp frv:FuncId) (fpi fpe:FuncId) (fpt fpdq:FuncId):List IOp:=[mv 103 14,
 mv 104 1,
 z2 105 (.bin .sub .prim) 103 104,
 mv 106 2,
 mv 107 14,
 z2 108 (.bin .sub .prim) 106 107,
 mv 16 105,
 mv 17 108]
abbrev pdqR23 (less fins:FuncId) (fhs fbp:FuncId) (fcp frv:FuncId) (fpi fpe:FuncId) (fpt fpdq:FuncId):List IOp:=[mv 109 10,
 zk 110 (.bin .quo .prim) 109 (.int .i64 8),
 mv 18 110]
abbrev pdqR24 (less fins:FuncId) (fhs fbp:FuncId) (fcp frv:FuncId) (fpi fpe:FuncId) (fpt fpdq:FuncId):List IOp:=[mv 111 16,
 mv 112 17,
 z2 113 (.bin .lss .prim) 111 112]
abbrev pdqR25 (less fins:FuncId) (fhs fbp:FuncId) (fcp frv:FuncId) (fpi fpe:FuncId) (fpt fpdq:FuncId):List IOp:=[mv 114 16,
 mv 115 18,
 z2 116 (.bin .geq .prim) 114 115,
 mv 8 116]
abbrev pdqR26 (less fins:FuncId) (fhs fbp:FuncId) (fcp frv:FuncId) (fpi fpe:FuncId) (fpt fpdq:FuncId):List IOp:=[mv 117 0,
 mv 118 1,
 mv 119 14,
 mv 120 3,
 ca 121 [.f fpdq,.t 117,.t 118,.t 119,.t 120]]
abbrev pdqR27 (less fins:FuncId) (fhs fbp:FuncId) (fcp frv:FuncId) (fpi fpe:FuncId) (fpt fpdq:FuncId):List IOp:=[mv 122 14,
 zk 123 (.bin .add .prim) 122 (.int .i64 1),
 mv 1 123]
abbrev pdqR28 (less fins:FuncId) (fhs fbp:FuncId) (fcp frv:FuncId) (fpi fpe:FuncId) (fpt fpdq:FuncId):List IOp:=[mv 124 17,
 mv 125 18,
 z2 126 (.bin .geq .prim) 124 125,
 mv 8 126]
abbrev pdqR29 (less fins:FuncId) (fhs fbp:FuncId) (fcp frv:FuncId) (fpi fpe:FuncId) (fpt fpdq:FuncId):List IOp:=[mv 127 0,
 mv 128 14,
 zk 129 (.bin .add .prim) 128 (.int .i64 1),
 mv 130 2,
 mv 131 3,
 ca 132 [.f fpdq,.t 127,.t 129,.t 130,.t 131]]
abbrev pdqR30 (less fins:FuncId) (fhs fbp:FuncId) (fcp frv:FuncId) (fpi fpe:FuncId) (fpt fpdq:FuncId):List IOp:=[mv 133 14,
 mv 2 133]
abbrev pdqB0 (less fins:FuncId) (fhs fbp:FuncId) (fcp frv:FuncId) (fpi fpe:FuncId) (fpt fpdq:FuncId):IC:=(IC.block 1 (IC.seq (IC.reg (pdqR2 less fins fhs fbp fcp frv fpi fpe fpt fpdq)) (IC.seq (IC.seq (IC.reg (pdqR3 less fins fhs fbp fcp frv fpi fpe fpt fpdq)) (IC.cond (.t 23) (IC.seq (IC.reg (pdqR4 less fins fhs fbp fcp frv fpi fpe fpt fpdq)) IC.ret) IC.skip)) (IC.seq (IC.seq (IC.reg (pdqR5 less fins fhs fbp fcp frv fpi fpe fpt fpdq)) (IC.cond (.t 29) (IC.seq (IC.reg (pdqR6 less fins fhs fbp fcp frv fpi fpe fpt fpdq)) IC.ret) IC.skip)) (IC.seq (IC.seq (IC.reg (pdqR7 less fins fhs fbp fcp frv fpi fpe fpt fpdq)) (IC.cond (.t 35) (IC.seq (IC.reg (pdqR8 less fins fhs fbp fcp frv fpi fpe fpt fpdq)) (IC.reg (pdqR9 less fins fhs fbp fcp frv fpi fpe fpt fpdq))) IC.skip)) (IC.seq (IC.reg (pdqR10 less fins fhs fbp fcp frv fpi fpe fpt fpdq)) (IC.seq (IC.seq (IC.reg (pdqR11 less fins fhs fbp fcp frv fpi fpe fpt fpdq)) (IC.cond (.t 50) (IC.seq (IC.reg (pdqR12 less fins fhs fbp fcp frv fpi fpe fpt fpdq)) (IC.seq (IC.reg (pdqR13 less fins fhs fbp fcp frv fpi fpe fpt fpdq)) (IC.reg (pdqR14 less fins fhs fbp fcp frv fpi fpe fpt fpdq)))) IC.skip)) (IC.seq (IC.seq (IC.reg (pdqR15 less fins fhs fbp fcp frv fpi fpe fpt fpdq)) (IC.cond (.t 68) (IC.seq (IC.reg (pdqR16 less fins fhs fbp fcp frv fpi fpe fpt fpdq)) (IC.cond (.t 72) IC.ret IC.skip)) IC.skip)) (IC.seq (IC.seq (IC.regD .wild (pdqR17 less fins fhs fbp fcp frv fpi fpe fpt fpdq) (.take 0 (.take 1 (.take 2 (.take 3 (.take 4 (.take 5 (.take 6 (.take 7 (.take 8 (.take 9 (.take 10 (.take 11 (.take 12 (.take 13 (.take 14 (.done))))))))))))))))) (IC.cond (.t 87) (IC.seq (IC.reg (pdqR18 less fins fhs fbp fcp frv fpi fpe fpt fpdq)) (IC.seq (IC.reg (pdqR19 less fins fhs fbp fcp frv fpi fpe fpt fpdq)) (IC.exit 1))) IC.skip)) (IC.seq (IC.reg (pdqR20 less fins fhs fbp fcp frv fpi fpe fpt fpdq)) (IC.seq (IC.reg (pdqR21 less fins fhs fbp fcp frv fpi fpe fpt fpdq)) (IC.seq (IC.reg (pdqR22 less fins fhs fbp fcp frv fpi fpe fpt fpdq)) (IC.seq (IC.reg (pdqR23 less fins fhs fbp fcp frv fpi fpe fpt fpdq)) (IC.seq (IC.reg (pdqR24 less fins fhs fbp fcp frv fpi fpe fpt fpdq)) (IC.cond (.t 113) (IC.seq (IC.reg (pdqR25 less fins fhs fbp fcp frv fpi fpe fpt fpdq)) (IC.seq (IC.reg (pdqR26 less fins fhs fbp fcp frv fpi fpe fpt fpdq)) (IC.reg (pdqR27 less fins fhs fbp fcp frv fpi fpe fpt fpdq)))) (IC.seq (IC.reg (pdqR28 less fins fhs fbp fcp frv fpi fpe fpt fpdq)) (IC.seq (IC.reg (pdqR29 less fins fhs fbp fcp frv fpi fpe fpt fpdq)) (IC.reg (pdqR30 less fins fhs fbp fcp frv fpi fpe fpt fpdq)))))))))))))))))))
abbrev pdqC (less fins:FuncId) (fhs fbp:FuncId) (fcp frv:FuncId) (fpi fpe:FuncId) (fpt fpdq:FuncId):IC:=(IC.seq (IC.reg (pdqR0 less fins fhs fbp fcp frv fpi fpe fpt fpdq)) (IC.seq (IC.reg (pdqR1 less fins fhs fbp fcp frv fpi fpe fpt fpdq)) (IC.block 0 (IC.loop (pdqB0 less fins fhs fbp fcp frv fpi fpe fpt fpdq)))))
abbrev pdqN:Nat:=134
abbrev srtR0 (fbl fpdq:FuncId):List IOp:=[mv 3 0,
 z1 4 (.len .slice) 3,
 mv 2 4]
abbrev srtR1 (fbl fpdq:FuncId):List IOp:=[mv 5 0,
 mv 6 2,
 mv 7 2,
 z1 8 (.toInt .u64) 7,
 ca 9 [.f fbl,.t 8],
 ca 10 [.f fpdq,.t 5,.c (.int .i64 0),.t 6,.t 9]]
abbrev srtC (fbl fpdq:FuncId):IC:=(IC.seq (IC.reg (srtR0 fbl fpdq)) (IC.reg (srtR1 fbl fpdq)))
abbrev srtN:Nat:=11
section
variable {α:Type} [Inhabited α] {L:El1 α} {lt:α→α→Bool} {P:Program} {T:Tab} {less:FuncId} {hint:Nat→Nat} {f:FuncId} {e:TypeId} {id:Nat} {hp0 hp:HP} {d:Array α} {v:AV}
def hintI:Sort.Hint→Int
 | .unknown=>0
 | .increasing=>1
 | .decreasing=>2
theorem natQ (n m:Nat):((n:Nat):Int).tdiv ((m:Nat):Int)=((n / m:Nat):Int):=by
 rw[Int.tdiv_eq_ediv_of_nonneg (by omega)]
 rfl
def pivR (lt:α→α→Bool) (d:Array α) (a b:Nat):Nat × Nat:=
 if b - a≥8 then
  if b - a≥50 then
   let ri:=Sort.medianAdjacent lt d (a+(b - a) / 4*1) 0
   let rj:=Sort.medianAdjacent lt d (a+(b - a) / 4*2) ri.2
   let rk:=Sort.medianAdjacent lt d (a+(b - a) / 4*3) rj.2
   Sort.median lt d ri.1 rj.1 rk.1 rk.2
  else Sort.median lt d (a+(b - a) / 4*1) (a+(b - a) / 4*2) (a+(b - a) / 4*3) 0
 else (a+(b - a) / 4*2,0)
theorem choose_eq (a b:Nat):Sort.choosePivot lt d a b=((pivR lt d a b).1,if (pivR lt d a b).2=0 then .increasing else if (pivR lt d a b).2=12 then .decreasing else .unknown):=rfl
theorem cp_calls (hm:P.follows .mixedOrders=true) (hT:TabOk P T) (hless:Lss L lt T less) {fo2 fmd fma:FuncId} {h1 h2 h3:Nat→Nat} (ho:compF P h1 fo2=some ⟨o2C less,o2N,[.t 8,.t 9]⟩) (hmd:compF P h2 fmd=some ⟨mdC fo2,mdN,[.t 10]⟩) (hma:compF P h3 fma=some ⟨maC fmd,maN,[.t 6]⟩) {ti:TypeId} (hf:compF P hint f=some ⟨cpC fmd fma ti,cpN,[.t 6,.t 7]⟩) (s:Srt L e id hp0 hp d) (hv:SlA id d v) {a b:Nat} (hab:a<b) (hb:b≤d.size) :
  ACalls P f [v,.int .i64 a,.int .i64 b] hp fun r hp'=>r=.tup [.int .i64 ((Sort.choosePivot lt d a b).1:Nat),.int .i64 (hintI (Sort.choosePivot lt d a b).2)]∧Srt L e id hp0 hp' d:=by
 refine calls_e hm hT hf (by rfl) (by simp[cpN]) ?_
 have hsz:=hv.2
 have hid:id<hp.length:=(List.getElem?_eq_some_iff.1 (s.get (i:=a) (by omega))).1
 rw[choose_eq]
 have w1:=natW (x:=(b:Int) - (a:Int)) (b - a) (by omega) (by omega)
 generalize hn:b - a=n at *
 have hpr:pivR lt d a b=if n≥8 then (if n≥50 then (let ri:=Sort.medianAdjacent lt d (a+n / 4*1) 0; let rj:=Sort.medianAdjacent lt d (a+n / 4*2) ri.2; let rk:=Sort.medianAdjacent lt d (a+n / 4*3) rj.2; Sort.median lt d ri.1 rj.1 rk.1 rk.2) else Sort.median lt d (a+n / 4*1) (a+n / 4*2) (a+n / 4*3) 0) else (a+n / 4*2,0):=by
  unfold pivR
  rw[hn]
 have q4:((n:Nat):Int).tdiv 4=((n / 4:Nat):Int):=natQ n 4
 have w2:=natW (x:=((n / 4:Nat):Int)) (n / 4) rfl (by omega)
 have w3:=natW (x:=((n / 4:Nat):Int)*1) (n / 4*1) (by omega) (by omega)
 have w4:=natW (x:=((n / 4:Nat):Int)*2) (n / 4*2) (by omega) (by omega)
 have w5:=natW (x:=((n / 4:Nat):Int)*3) (n / 4*3) (by omega) (by omega)
 have w6:=natW (x:=(a:Int)+((n / 4*1:Nat):Int)) (a+n / 4*1) (by omega) (by omega)
 have w7:=natW (x:=(a:Int)+((n / 4*2:Nat):Int)) (a+n / 4*2) (by omega) (by omega)
 have w8:=natW (x:=(a:Int)+((n / 4*3:Nat):Int)) (a+n / 4*3) (by omega) (by omega)
 have w6b:=natW (x:=(a:Int)+((n / 4:Nat):Int)) (a+n / 4*1) (by omega) (by omega)
 have w6c:(a:Int)+((n / 4:Nat):Int)=((a+n / 4*1:Nat):Int):=by omega
 have bi:a+n / 4*1<d.size:=by omega
 have bj:a+n / 4*2<d.size:=by omega
 have bk:a+n / 4*3<d.size:=by omega
 have hw0:SwA ti (hp++[some (.row ti [.int .i64 0])]) hp.length 0:=by simp[SwA]
 have s0:=s.app [some (.row ti [.int .i64 0])]
 generalize hpi:a+n / 4*1=pi at *
 generalize hpj:a+n / 4*2=pj at *
 generalize hpk:a+n / 4*3=pk at *
 refine vcE.s1 (k:=vcE.step (by simp (disch:=first|assumption|omega) only[go_sem,↓reduceIte,qa,w1]; rfl) (vcE.step (by simp (disch:=first|assumption|omega) only[go_sem,↓reduceIte,allocA]; rfl) (vcE.step (by simp (disch:=first|assumption|omega) only[go_sem,↓reduceIte,qa,q4,w2,w3,w6c]; rfl) (vcE.step (by simp (disch:=first|assumption|omega) only[go_sem,↓reduceIte,qa,q4,w2,w4,w7]; rfl) (vcE.step (by simp (disch:=first|assumption|omega) only[go_sem,↓reduceIte,qa,q4,w2,w5,w8]; rfl) ?_)))))
 generalize hp++[some (.row ti [.int .i64 0])]=hp1 at *
 have hle:=s.len
 refine vcE.then (fun e' tm' hp'=>e'=.normal∧Srt L e id hp0 hp' d∧SwA ti hp' hp.length (pivR lt d a b).2∧tm' 9=.ptr hp.length 0∧tm' 11=.int .i64 ((pivR lt d a b).1:Nat)) ?_ ?_
 ·rw[hpr]
  by_cases h8:8≤n
  rotate_left
  ·rw[if_neg h8]
   refine vcE.ex (by simp (disch:=first|assumption|omega) only[go_sem,↓reduceIte,qa,ge_iff_le]; rfl) ?_
   refine⟨rfl,s0,hw0,?_,?_⟩
   all_goals simp only[upd_app,qa,↓reduceIte]
  rw[if_pos h8]
  refine vcE.step (by simp (disch:=first|assumption|omega) only[go_sem,↓reduceIte,qa,ge_iff_le]; rfl) (vcE.condTrue (by simp only[evE,upd_app,↓reduceIte]) ?_)
  by_cases h50:50≤n
  rotate_left
  ·rw[if_neg h50]
   refine vcE.step (by simp (disch:=first|assumption|omega) only[go_sem,↓reduceIte,qa,ge_iff_le]; rfl) ?_
   rw[show cpR11 fmd fma ti=(cpR11 fmd fma ti).take 4++((cpR11 fmd fma ti).drop 4).take 1++(cpR11 fmd fma ti).drop 5 from rfl]
   refine vcE.app (vcE.app (vcE.e1 (k:=⟨rfl,vcE.call (f:=fmd) (caps:=[]) (ys:=[v,.int .i64 pi,.int .i64 pj,.int .i64 pk,.ptr hp.length 0]) rfl ?_ (md_calls hm hT hless ho hmd s0 hv hw0 hle (by omega) (by omega) bi bj bk) ?_⟩)))
   ·simp only[evsE,evE,upd_app,qa,↓reduceIte]
   rintro r hp' ⟨rfl,s1,hw1⟩
   refine⟨rfl,vcE.e0 ?_⟩
   refine⟨rfl,s1,hw1,?_,?_⟩
   all_goals simp only[upd_app,qa,↓reduceIte]
  ·rw[if_pos h50]
   obtain⟨x1,x2⟩:=median_lt (lt:=lt) (n:=0) (d:=d) (a:=pi - 1) (b:=pi) (c:=pi+1) (by omega) bi (by omega)
   have y1:Sort.median lt d (pi - 1) pi (pi+1) 0=Sort.medianAdjacent lt d pi 0:=rfl
   rw[y1] at x1 x2
   generalize hri:Sort.medianAdjacent lt d pi 0=ri at *
   obtain⟨x3,x4⟩:=median_lt (lt:=lt) (n:=ri.2) (d:=d) (a:=pj - 1) (b:=pj) (c:=pj+1) (by omega) bj (by omega)
   have y2:Sort.median lt d (pj - 1) pj (pj+1) ri.2=Sort.medianAdjacent lt d pj ri.2:=rfl
   rw[y2] at x3 x4
   generalize hrj:Sort.medianAdjacent lt d pj ri.2=rj at *
   obtain⟨x5,x6⟩:=median_lt (lt:=lt) (n:=rj.2) (d:=d) (a:=pk - 1) (b:=pk) (c:=pk+1) (by omega) bk (by omega)
   have y3:Sort.median lt d (pk - 1) pk (pk+1) rj.2=Sort.medianAdjacent lt d pk rj.2:=rfl
   rw[y3] at x5 x6
   simp only[hrj]
   generalize hrk:Sort.medianAdjacent lt d pk rj.2=rk at *
   refine vcE.then (fun e' tm' hp'=>e'=.normal∧Srt L e id hp0 hp' d∧SwA ti hp' hp.length rk.2∧tm' 0=v∧tm' 9=.ptr hp.length 0∧tm' 10=.int .i64 (ri.1:Nat)∧tm' 11=.int .i64 (rj.1:Nat)∧tm' 12=.int .i64 (rk.1:Nat)) ?_ ?_
   ·refine vcE.step (by simp (disch:=first|assumption|omega) only[go_sem,↓reduceIte,qa,ge_iff_le]; rfl) (vcE.condTrue (by simp only[evE,upd_app,↓reduceIte]) ?_)
    refine vcE.then (fun e' tm' hp'=>e'=.normal∧Srt L e id hp0 hp' d∧SwA ti hp' hp.length ri.2∧tm' 0=v∧tm' 9=.ptr hp.length 0∧tm' 10=.int .i64 (ri.1:Nat)∧tm' 11=.int .i64 (pj:Nat)∧tm' 12=.int .i64 (pk:Nat)) ?_ ?_
    ·rw[show cpR8 fmd fma ti=(cpR8 fmd fma ti).take 2++((cpR8 fmd fma ti).drop 2).take 1++(cpR8 fmd fma ti).drop 3 from rfl]
     refine vcE.app (vcE.app (vcE.e1 (k:=⟨rfl,vcE.call (f:=fma) (caps:=[]) (ys:=[v,.int .i64 pi,.ptr hp.length 0]) rfl ?_ (ma_calls hm hT hless ho hmd hma s0 hv hw0 hle (by omega) (by omega) (by omega) (by omega)) ?_⟩)))
     ·simp only[evsE,evE,upd_app,qa,↓reduceIte]
     rintro r hp' ⟨rfl,s1,hw1⟩
     rw[hri] at hw1 ⊢
     refine⟨rfl,vcE.e0 ?_⟩
     refine⟨rfl,s1,hw1,?_,?_,?_,?_,?_⟩
     all_goals simp only[upd_app,qa,↓reduceIte]
     rfl
    rintro e' tm hp' ⟨rfl,s1,hw1,t0,t9,t10,t11,t12⟩
    refine vcE.then (fun e' tm' hp'=>e'=.normal∧Srt L e id hp0 hp' d∧SwA ti hp' hp.length rj.2∧tm' 0=v∧tm' 9=.ptr hp.length 0∧tm' 10=.int .i64 (ri.1:Nat)∧tm' 11=.int .i64 (rj.1:Nat)∧tm' 12=.int .i64 (pk:Nat)) ?_ ?_
    ·rw[show cpR9 fmd fma ti=(cpR9 fmd fma ti).take 2++((cpR9 fmd fma ti).drop 2).take 1++(cpR9 fmd fma ti).drop 3 from rfl]
     refine vcE.app (vcE.app (vcE.e1 (k:=⟨rfl,vcE.call (f:=fma) (caps:=[]) (ys:=[v,.int .i64 pj,.ptr hp.length 0]) rfl ?_ (ma_calls hm hT hless ho hmd hma s1 hv hw1 hle (by omega) (by omega) (by omega) (by omega)) ?_⟩)))
     ·simp only[evsE,evE,upd_app,qa,↓reduceIte,t0,t9,t11]
     rintro r hp' ⟨rfl,s2,hw2⟩
     rw[hrj] at hw2 ⊢
     refine⟨rfl,vcE.e0 ?_⟩
     refine⟨rfl,s2,hw2,?_,?_,?_,?_,?_⟩
     all_goals simp only[upd_app,qa,↓reduceIte,t0,t9,t10,t12]
    clear t0 t9 t10 t11 t12
    rintro e' tm hp' ⟨rfl,s2,hw2,t0,t9,t10,t11,t12⟩
    rw[show cpR10 fmd fma ti=(cpR10 fmd fma ti).take 2++((cpR10 fmd fma ti).drop 2).take 1++(cpR10 fmd fma ti).drop 3 from rfl]
    refine vcE.app (vcE.app (vcE.e1 (k:=⟨rfl,vcE.call (f:=fma) (caps:=[]) (ys:=[v,.int .i64 pk,.ptr hp.length 0]) rfl ?_ (ma_calls hm hT hless ho hmd hma s2 hv hw2 hle (by omega) (by omega) (by omega) (by omega)) ?_⟩)))
    ·simp only[evsE,evE,upd_app,qa,↓reduceIte,t0,t9,t12]
    rintro r hp' ⟨rfl,s3,hw3⟩
    rw[hrk] at hw3 ⊢
    refine⟨rfl,vcE.e0 ?_⟩
    refine⟨rfl,s3,hw3,?_,?_,?_,?_,?_⟩
    all_goals simp only[upd_app,qa,↓reduceIte,t0,t9,t10,t11]
   rintro e' tm hp' ⟨rfl,s3,hw3,t0,t9,t10,t11,t12⟩
   rw[show cpR11 fmd fma ti=(cpR11 fmd fma ti).take 4++((cpR11 fmd fma ti).drop 4).take 1++(cpR11 fmd fma ti).drop 5 from rfl]
   refine vcE.app (vcE.app (vcE.e1 (k:=⟨rfl,vcE.call (f:=fmd) (caps:=[]) (ys:=[v,.int .i64 ri.1,.int .i64 rj.1,.int .i64 rk.1,.ptr hp.length 0]) rfl ?_ (md_calls hm hT hless ho hmd s3 hv hw3 hle (by omega) (by omega) x1 x3 x5) ?_⟩)))
   ·simp only[evsE,evE,upd_app,qa,↓reduceIte,t0,t9,t10,t11,t12]
   rintro r hp' ⟨rfl,s4,hw4⟩
   refine⟨rfl,vcE.e0 ?_⟩
   refine⟨rfl,s4,hw4,?_,?_⟩
   all_goals simp only[upd_app,qa,↓reduceIte,t9]
 ·rintro e' tm hp' ⟨rfl,s1,hw1,t9,t11⟩
  generalize pivR lt d a b=r at *
  obtain⟨p,n2⟩:=r
  simp only at *
  unfold SwA at hw1
  by_cases k0:n2=0
  ·subst k0
   refine vcE.ex (by simp (disch:=first|assumption|omega) only[go_sem,↓reduceIte,qa,t9,t11,hw1]; rfl) ?_
   exact⟨_,rfl,rfl,s1⟩
  by_cases k12:n2=12
  ·subst k12
   refine vcE.ex (by simp (disch:=first|assumption|omega) only[go_sem,↓reduceIte,qa,t9,t11,hw1]; rfl) ?_
   exact⟨_,rfl,rfl,s1⟩
  have z0:¬ ((n2:Int)=0):=by omega
  have z12:¬ ((n2:Int)=12):=by omega
  refine vcE.ex (by simp (disch:=first|assumption|omega) only[go_sem,↓reduceIte,t9,hw1,z0,decide_false,qa,z12,t11]; rfl) ?_
  refine⟨_,rfl,?_,s1⟩
  rw[if_neg k0,if_neg k12]
  rfl
end
end Go.Gi
