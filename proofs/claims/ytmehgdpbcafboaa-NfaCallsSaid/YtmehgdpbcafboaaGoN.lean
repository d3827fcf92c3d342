/- Functions of the program in the form of the abstract machine, printed by a program; each is checked against the translation. -/
import Derived.Test.YtmehgdpbcafboaaGiXE
import Derived.Test.YtmehgdpbcafboaaProg
import Derived.KernelRfl
set_option linter.unusedVariables false
namespace Go.Gi
open Go
-- outlaw/outlawlaw08.NfaJoins
abbrev r10_0 : List IOp := [⟨some 10, .op (.mov), [.c (.bool false)], none⟩]
abbrev r10_1 : List IOp := [⟨some 21, .call none, [.f 50], none⟩,
  ⟨some 22, .op (.un .not), [.t 21], none⟩]
abbrev r10_2 : List IOp := [⟨some 10, .op (.mov), [.c (.bool false)], none⟩]
abbrev r10_3 : List IOp := [⟨some 23, .op (.mov), [.t 0], none⟩,
  ⟨some 24, .op (.len .str), [.t 23], none⟩,
  ⟨some 25, .op (.bin .gtr .prim), [.t 24, .c (.int .i64 300)], none⟩,
  ⟨some 26, .op (.mov), [.t 25], none⟩,
  ⟨some 27, .op (.mov), [.t 2], some (26, false)⟩,
  ⟨some 28, .op (.len .slice), [.t 27], some (26, false)⟩,
  ⟨some 29, .op (.bin .gtr .prim), [.t 28, .c (.int .i64 200)], some (26, false)⟩,
  ⟨some 30, .op (.pick), [.t 26, .c (.bool true), .t 29], none⟩,
  ⟨some 31, .op (.mov), [.t 30], none⟩,
  ⟨some 32, .op (.mov), [.t 3], some (31, false)⟩,
  ⟨some 33, .op (.len .slice), [.t 32], some (31, false)⟩,
  ⟨some 34, .op (.bin .gtr .prim), [.t 33, .c (.int .i64 200)], some (31, false)⟩,
  ⟨some 35, .op (.pick), [.t 31, .c (.bool true), .t 34], none⟩]
abbrev r10_4 : List IOp := [⟨some 10, .op (.mov), [.c (.bool true)], none⟩]
abbrev r10_5 : List IOp := [⟨some 37, .op (.mov), [.t 0], none⟩,
  ⟨some 38, .op (.mov), [.t 1], none⟩,
  ⟨some 39, .call none, [.f 51, .t 37, .t 38], none⟩,
  ⟨some 36, .op (.mov), [.t 39], none⟩,
  ⟨some 40, .op (.extract 0), [.t 36], none⟩,
  ⟨some 41, .op (.extract 1), [.t 36], none⟩,
  ⟨some 11, .op (.mov), [.t 40], none⟩,
  ⟨some 12, .op (.mov), [.t 41], none⟩]
abbrev r10_6 : List IOp := [⟨some 42, .op (.mov), [.t 12], none⟩,
  ⟨some 43, .op (.bin .neq .prim), [.t 42, .c (.int .i64 0)], none⟩]
abbrev r10_7 : List IOp := [⟨some 10, .op (.mov), [.c (.bool true)], none⟩]
abbrev r10_8 : List IOp := [⟨some 44, .op (.mov), [.t 11], none⟩,
  ⟨some 45, .op (.mov), [.t 2], none⟩,
  ⟨some 46, .op (.mov), [.t 4], none⟩,
  ⟨some 47, .call none, [.f 52, .t 44, .t 45, .t 46], none⟩,
  ⟨some 48, .op (.mov), [.t 11], none⟩,
  ⟨some 49, .op (.mov), [.t 3], none⟩,
  ⟨some 50, .op (.mov), [.t 4], none⟩,
  ⟨some 51, .call none, [.f 52, .t 48, .t 49, .t 50], none⟩,
  ⟨some 13, .op (.mov), [.t 47], none⟩,
  ⟨some 14, .op (.mov), [.t 51], none⟩]
abbrev r10_9 : List IOp := [⟨some 52, .op (.mov), [.t 11], none⟩,
  ⟨some 53, .op (.mov), [.t 3], none⟩,
  ⟨some 54, .call none, [.f 53, .t 53], none⟩,
  ⟨some 55, .op (.mov), [.t 2], none⟩,
  ⟨some 56, .op (.app 3 1 8), [.t 54, .t 55], none⟩,
  ⟨some 57, .op (.mov), [.t 4], none⟩,
  ⟨some 58, .call none, [.f 52, .t 52, .t 56, .t 57], none⟩,
  ⟨some 15, .op (.mov), [.t 58], none⟩]
abbrev r10_10 : List IOp := [⟨some 59, .op (.mov), [.t 11], none⟩,
  ⟨some 60, .call none, [.f 54, .t 59], none⟩,
  ⟨some 61, .op (.make 4 [.bool false] 1), [.t 60, .t 60], none⟩,
  ⟨some 16, .op (.mov), [.t 61], none⟩]
abbrev r10_11 : List IOp := [⟨some 17, .op (.mov), [.c (.int .i64 0)], none⟩]
abbrev r10_12 : List IOp := [⟨some 62, .op (.mov), [.t 13], none⟩,
  ⟨some 63, .call none, [.f 53, .t 62], none⟩,
  ⟨some 64, .op (.mov), [.t 14], none⟩,
  ⟨some 65, .op (.app 3 1 8), [.t 63, .t 64], none⟩,
  ⟨some 18, .op (.mov), [.t 65], none⟩]
abbrev r10_13 : List IOp := [⟨some 19, .op (.mov), [.c (.int .i64 0)], none⟩]
abbrev r10_14 : List IOp := [⟨some 66, .op (.mov), [.t 19], none⟩,
  ⟨some 67, .op (.mov), [.t 18], none⟩,
  ⟨some 68, .op (.len .slice), [.t 67], none⟩,
  ⟨some 69, .op (.bin .lss .prim), [.t 66, .t 68], none⟩]
abbrev r10_15 : List IOp := [⟨some 72, .op (.mov), [.t 18], none⟩,
  ⟨some 73, .op (.mov), [.t 19], none⟩,
  ⟨some 74, .op (.iaddr 1), [.t 72, .t 73], none⟩,
  ⟨some 75, .op (.load none), [.t 74], none⟩,
  ⟨some 76, .op (.bin .lss .prim), [.t 75, .c (.int .i64 0)], none⟩,
  ⟨some 77, .op (.mov), [.t 76], none⟩,
  ⟨some 78, .op (.mov), [.t 18], some (77, false)⟩,
  ⟨some 79, .op (.mov), [.t 19], some (77, false)⟩,
  ⟨some 80, .op (.iaddr 1), [.t 78, .t 79], some (77, false)⟩,
  ⟨some 81, .op (.load none), [.t 80], some (77, false)⟩,
  ⟨some 82, .op (.mov), [.t 16], some (77, false)⟩,
  ⟨some 83, .op (.len .slice), [.t 82], some (77, false)⟩,
  ⟨some 84, .op (.bin .geq .prim), [.t 81, .t 83], some (77, false)⟩,
  ⟨some 85, .op (.pick), [.t 77, .c (.bool true), .t 84], none⟩]
abbrev r10_16 : List IOp := [⟨some 10, .op (.mov), [.c (.bool false)], none⟩]
abbrev r10_17 : List IOp := [⟨some 86, .op (.mov), [.t 16], none⟩,
  ⟨some 87, .op (.mov), [.t 18], none⟩,
  ⟨some 88, .op (.mov), [.t 19], none⟩,
  ⟨some 89, .op (.iaddr 1), [.t 87, .t 88], none⟩,
  ⟨some 90, .op (.load none), [.t 89], none⟩,
  ⟨some 91, .op (.iaddr 1), [.t 86, .t 90], none⟩,
  ⟨some 92, .op (.load none), [.t 91], none⟩,
  ⟨some 93, .op (.un .not), [.t 92], none⟩]
abbrev r10_18 : List IOp := [⟨some 94, .op (.mov), [.t 16], none⟩,
  ⟨some 95, .op (.mov), [.t 18], none⟩,
  ⟨some 96, .op (.mov), [.t 19], none⟩,
  ⟨some 97, .op (.iaddr 1), [.t 95, .t 96], none⟩,
  ⟨some 98, .op (.load none), [.t 97], none⟩,
  ⟨some 99, .op (.iaddr 1), [.t 94, .t 98], none⟩,
  ⟨none, .op (.store 1), [.t 99, .c (.bool true)], none⟩]
abbrev r10_19 : List IOp := [⟨some 100, .op (.mov), [.t 17], none⟩,
  ⟨some 101, .op (.bin .add .prim), [.t 100, .c (.int .i64 1)], none⟩,
  ⟨some 17, .op (.mov), [.t 101], none⟩]
abbrev r10_20 : List IOp := [⟨some 70, .op (.mov), [.t 19], none⟩,
  ⟨some 71, .op (.bin .add .prim), [.t 70, .c (.int .i64 1)], none⟩,
  ⟨some 19, .op (.mov), [.t 71], none⟩]
abbrev b10_0 : IC := (IC.seq (IC.seq (IC.reg r10_14) (IC.cond (.t 69) IC.skip (IC.exit 0))) (IC.seq (IC.block 1 (IC.seq (IC.seq (IC.reg r10_15) (IC.cond (.t 85) (IC.seq (IC.reg r10_16) IC.ret) IC.skip)) (IC.seq (IC.reg r10_17) (IC.cond (.t 93) (IC.seq (IC.reg r10_18) (IC.reg r10_19)) IC.skip)))) (IC.reg r10_20)))
abbrev r10_21 : List IOp := [⟨some 20, .op (.mov), [.c (.int .i64 0)], none⟩]
abbrev r10_22 : List IOp := [⟨some 102, .op (.mov), [.t 20], none⟩,
  ⟨some 103, .op (.mov), [.t 15], none⟩,
  ⟨some 104, .op (.len .slice), [.t 103], none⟩,
  ⟨some 105, .op (.bin .lss .prim), [.t 102, .t 104], none⟩]
abbrev r10_23 : List IOp := [⟨some 108, .op (.mov), [.t 15], none⟩,
  ⟨some 109, .op (.mov), [.t 20], none⟩,
  ⟨some 110, .op (.iaddr 1), [.t 108, .t 109], none⟩,
  ⟨some 111, .op (.load none), [.t 110], none⟩,
  ⟨some 112, .op (.bin .lss .prim), [.t 111, .c (.int .i64 0)], none⟩,
  ⟨some 113, .op (.mov), [.t 112], none⟩,
  ⟨some 114, .op (.mov), [.t 15], some (113, false)⟩,
  ⟨some 115, .op (.mov), [.t 20], some (113, false)⟩,
  ⟨some 116, .op (.iaddr 1), [.t 114, .t 115], some (113, false)⟩,
  ⟨some 117, .op (.load none), [.t 116], some (113, false)⟩,
  ⟨some 118, .op (.mov), [.t 16], some (113, false)⟩,
  ⟨some 119, .op (.len .slice), [.t 118], some (113, false)⟩,
  ⟨some 120, .op (.bin .geq .prim), [.t 117, .t 119], some (113, false)⟩,
  ⟨some 121, .op (.pick), [.t 113, .c (.bool true), .t 120], none⟩,
  ⟨some 122, .op (.mov), [.t 121], none⟩,
  ⟨some 123, .op (.mov), [.t 16], some (122, false)⟩,
  ⟨some 124, .op (.mov), [.t 15], some (122, false)⟩,
  ⟨some 125, .op (.mov), [.t 20], some (122, false)⟩,
  ⟨some 126, .op (.iaddr 1), [.t 124, .t 125], some (122, false)⟩,
  ⟨some 127, .op (.load none), [.t 126], some (122, false)⟩,
  ⟨some 128, .op (.iaddr 1), [.t 123, .t 127], some (122, false)⟩,
  ⟨some 129, .op (.load none), [.t 128], some (122, false)⟩,
  ⟨some 130, .op (.un .not), [.t 129], some (122, false)⟩,
  ⟨some 131, .op (.pick), [.t 122, .c (.bool true), .t 130], none⟩]
abbrev r10_24 : List IOp := [⟨some 10, .op (.mov), [.c (.bool false)], none⟩]
abbrev r10_25 : List IOp := [⟨some 106, .op (.mov), [.t 20], none⟩,
  ⟨some 107, .op (.bin .add .prim), [.t 106, .c (.int .i64 1)], none⟩,
  ⟨some 20, .op (.mov), [.t 107], none⟩]
abbrev b10_1 : IC := (IC.seq (IC.seq (IC.reg r10_22) (IC.cond (.t 105) IC.skip (IC.exit 2))) (IC.seq (IC.block 3 (IC.seq (IC.reg r10_23) (IC.cond (.t 131) (IC.seq (IC.reg r10_24) IC.ret) IC.skip))) (IC.reg r10_25)))
abbrev r10_26 : List IOp := [⟨some 132, .op (.mov), [.t 17], none⟩,
  ⟨some 133, .op (.mov), [.t 15], none⟩,
  ⟨some 134, .op (.len .slice), [.t 133], none⟩,
  ⟨some 135, .op (.bin .eql .prim), [.t 132, .t 134], none⟩,
  ⟨some 136, .op (.mov), [.t 135], none⟩,
  ⟨some 137, .op (.mov), [.t 11], some (136, true)⟩,
  ⟨some 138, .op (.mov), [.t 2], some (136, true)⟩,
  ⟨some 139, .call none, [.f 53, .t 138], some (136, true)⟩,
  ⟨some 140, .op (.mov), [.t 3], some (136, true)⟩,
  ⟨some 141, .op (.app 3 1 8), [.t 139, .t 140], some (136, true)⟩,
  ⟨some 142, .call none, [.f 55, .t 137, .t 141], some (136, true)⟩,
  ⟨some 143, .op (.mov), [.t 11], some (136, true)⟩,
  ⟨some 144, .op (.mov), [.t 2], some (136, true)⟩,
  ⟨some 145, .call none, [.f 55, .t 143, .t 144], some (136, true)⟩,
  ⟨some 146, .op (.mov), [.t 145], some (136, true)⟩,
  ⟨some 147, .op (.mov), [.t 11], some (146, false)⟩,
  ⟨some 148, .op (.mov), [.t 3], some (146, false)⟩,
  ⟨some 149, .call none, [.f 55, .t 147, .t 148], some (146, false)⟩,
  ⟨some 150, .op (.pick), [.t 146, .c (.bool true), .t 149], some (136, true)⟩,
  ⟨some 151, .op (.bin .eql .bool), [.t 142, .t 150], some (136, true)⟩,
  ⟨some 152, .op (.pick), [.t 136, .t 151, .c (.bool false)], none⟩,
  ⟨some 10, .op (.mov), [.t 152], none⟩]
abbrev c10 : IC := (IC.seq (IC.reg r10_0) (IC.seq (IC.seq (IC.reg r10_1) (IC.cond (.t 22) (IC.seq (IC.reg r10_2) IC.ret) IC.skip)) (IC.seq (IC.seq (IC.reg r10_3) (IC.cond (.t 35) (IC.seq (IC.reg r10_4) IC.ret) IC.skip)) (IC.seq (IC.reg r10_5) (IC.seq (IC.seq (IC.reg r10_6) (IC.cond (.t 43) (IC.seq (IC.reg r10_7) IC.ret) IC.skip)) (IC.seq (IC.reg r10_8) (IC.seq (IC.reg r10_9) (IC.seq (IC.reg r10_10) (IC.seq (IC.reg r10_11) (IC.seq (IC.reg r10_12) (IC.seq (IC.seq (IC.reg r10_13) (IC.block 0 (IC.loop b10_0))) (IC.seq (IC.seq (IC.reg r10_21) (IC.block 2 (IC.loop b10_1))) (IC.seq (IC.reg r10_26) IC.ret)))))))))))))
abbrev g10 : FC := ⟨c10, 153, [.t 10]⟩
theorem comp10 : compF Go.Proofs.Try.prog (fun _ => 0) 10 = some g10 := by kernel_rfl

-- outlaw/outlawlaw08.NfaCalls
abbrev r12_0 : List IOp := [⟨some 10, .op (.mov), [.c (.bool false)], none⟩]
abbrev r12_1 : List IOp := [⟨some 17, .call none, [.f 50], none⟩,
  ⟨some 18, .op (.un .not), [.t 17], none⟩]
abbrev r12_2 : List IOp := [⟨some 10, .op (.mov), [.c (.bool false)], none⟩]
abbrev r12_3 : List IOp := [⟨some 19, .op (.mov), [.t 0], none⟩,
  ⟨some 20, .op (.mov), [.t 4], none⟩,
  ⟨some 21, .call none, [.f 60, .t 19, .t 20], none⟩,
  ⟨some 22, .op (.un .not), [.t 21], none⟩,
  ⟨some 23, .op (.mov), [.t 22], none⟩,
  ⟨some 24, .op (.mov), [.t 2], some (23, false)⟩,
  ⟨some 25, .op (.len .slice), [.t 24], some (23, false)⟩,
  ⟨some 26, .op (.bin .gtr .prim), [.t 25, .c (.int .i64 400)], some (23, false)⟩,
  ⟨some 27, .op (.pick), [.t 23, .c (.bool true), .t 26], none⟩]
abbrev r12_4 : List IOp := [⟨some 10, .op (.mov), [.c (.bool true)], none⟩]
abbrev r12_5 : List IOp := [⟨some 29, .op (.mov), [.t 0], none⟩,
  ⟨some 30, .op (.mov), [.t 1], none⟩,
  ⟨some 31, .call none, [.f 51, .t 29, .t 30], none⟩,
  ⟨some 28, .op (.mov), [.t 31], none⟩,
  ⟨some 32, .op (.extract 0), [.t 28], none⟩,
  ⟨some 33, .op (.extract 1), [.t 28], none⟩,
  ⟨some 11, .op (.mov), [.t 32], none⟩,
  ⟨some 12, .op (.mov), [.t 33], none⟩]
abbrev r12_6 : List IOp := [⟨some 35, .op (.mov), [.t 0], none⟩,
  ⟨some 36, .op (.mov), [.t 1], none⟩,
  ⟨some 37, .call none, [.f 61, .t 35, .t 36], none⟩,
  ⟨some 34, .op (.mov), [.t 37], none⟩,
  ⟨some 38, .op (.extract 0), [.t 34], none⟩,
  ⟨some 39, .op (.extract 1), [.t 34], none⟩,
  ⟨some 13, .op (.mov), [.t 38], none⟩,
  ⟨some 14, .op (.mov), [.t 39], none⟩]
abbrev r12_7 : List IOp := [⟨some 40, .op (.mov), [.t 12], none⟩,
  ⟨some 41, .op (.mov), [.t 14], none⟩,
  ⟨some 42, .op (.bin .neq .prim), [.t 40, .t 41], none⟩,
  ⟨some 43, .op (.mov), [.t 42], none⟩,
  ⟨some 44, .op (.mov), [.t 11], some (43, false)⟩,
  ⟨some 45, .op (.bin .eql .ptr), [.t 44, .c (.nilp)], some (43, false)⟩,
  ⟨some 46, .op (.mov), [.t 13], some (43, false)⟩,
  ⟨some 47, .op (.bin .eql .ptr), [.t 46, .c (.nilp)], some (43, false)⟩,
  ⟨some 48, .op (.bin .neq .bool), [.t 45, .t 47], some (43, false)⟩,
  ⟨some 49, .op (.pick), [.t 43, .c (.bool true), .t 48], none⟩]
abbrev r12_8 : List IOp := [⟨some 10, .op (.mov), [.c (.bool false)], none⟩]
abbrev r12_9 : List IOp := [⟨some 50, .op (.mov), [.t 14], none⟩,
  ⟨some 51, .op (.bin .neq .prim), [.t 50, .c (.int .i64 0)], none⟩]
abbrev r12_10 : List IOp := [⟨some 10, .op (.mov), [.c (.bool true)], none⟩]
abbrev r12_11 : List IOp := [⟨some 53, .op (.mov), [.t 11], none⟩,
  ⟨some 54, .call none, [.f 56, .t 53], none⟩,
  ⟨some 52, .op (.mov), [.t 54], none⟩,
  ⟨some 55, .op (.extract 0), [.t 52], none⟩,
  ⟨some 56, .op (.extract 1), [.t 52], none⟩,
  ⟨some 15, .op (.mov), [.t 55], none⟩,
  ⟨some 16, .op (.mov), [.t 56], none⟩]
abbrev r12_12 : List IOp := [⟨some 57, .op (.mov), [.t 11], none⟩,
  ⟨some 58, .call none, [.f 54, .t 57], none⟩,
  ⟨some 59, .op (.mov), [.t 13], none⟩,
  ⟨some 60, .op (.nilchk), [.t 59], none⟩,
  ⟨some 61, .op (.faddr 0), [.t 60], none⟩,
  ⟨some 62, .op (.load none), [.t 61], none⟩,
  ⟨some 63, .op (.len .str), [.t 62], none⟩,
  ⟨some 64, .op (.bin .add .prim), [.t 63, .c (.int .i64 1)], none⟩,
  ⟨some 65, .op (.bin .eql .prim), [.t 58, .t 64], none⟩,
  ⟨some 66, .op (.mov), [.t 65], none⟩,
  ⟨some 67, .op (.mov), [.t 11], some (66, true)⟩,
  ⟨some 68, .call none, [.f 58, .t 67], some (66, true)⟩,
  ⟨some 69, .op (.mov), [.t 13], some (66, true)⟩,
  ⟨some 70, .call none, [.f 62, .t 69], some (66, true)⟩,
  ⟨some 71, .call none, [.f 57, .t 68, .t 70], some (66, true)⟩,
  ⟨some 72, .op (.pick), [.t 66, .t 71, .c (.bool false)], none⟩,
  ⟨some 73, .op (.mov), [.t 72], none⟩,
  ⟨some 74, .op (.mov), [.t 11], some (73, true)⟩,
  ⟨some 75, .op (.mov), [.t 2], some (73, true)⟩,
  ⟨some 76, .call none, [.f 53, .t 75], some (73, true)⟩,
  ⟨some 77, .op (.mov), [.t 3], some (73, true)⟩,
  ⟨some 78, .call none, [.f 52, .t 74, .t 76, .t 77], some (73, true)⟩,
  ⟨some 79, .op (.mov), [.t 13], some (73, true)⟩,
  ⟨some 80, .op (.mov), [.t 2], some (73, true)⟩,
  ⟨some 81, .op (.mov), [.t 3], some (73, true)⟩,
  ⟨some 82, .call none, [.f 63, .t 79, .t 80, .t 81], some (73, true)⟩,
  ⟨some 83, .call none, [.f 57, .t 78, .t 82], some (73, true)⟩,
  ⟨some 84, .op (.pick), [.t 73, .t 83, .c (.bool false)], none⟩,
  ⟨some 85, .op (.mov), [.t 84], none⟩,
  ⟨some 86, .op (.mov), [.t 11], some (85, true)⟩,
  ⟨some 87, .op (.mov), [.t 2], some (85, true)⟩,
  ⟨some 88, .call none, [.f 53, .t 87], some (85, true)⟩,
  ⟨some 89, .call none, [.f 55, .t 86, .t 88], some (85, true)⟩,
  ⟨some 90, .op (.mov), [.t 13], some (85, true)⟩,
  ⟨some 91, .op (.mov), [.t 2], some (85, true)⟩,
  ⟨some 92, .call none, [.f 64, .t 90, .t 91], some (85, true)⟩,
  ⟨some 93, .op (.bin .eql .bool), [.t 89, .t 92], some (85, true)⟩,
  ⟨some 94, .op (.pick), [.t 85, .t 93, .c (.bool false)], none⟩,
  ⟨some 95, .op (.mov), [.t 94], none⟩,
  ⟨some 96, .op (.mov), [.t 11], some (95, true)⟩,
  ⟨some 97, .op (.mov), [.t 4], some (95, true)⟩,
  ⟨some 98, .call none, [.f 59, .t 96, .t 97], some (95, true)⟩,
  ⟨some 99, .op (.mov), [.t 13], some (95, true)⟩,
  ⟨some 100, .op (.mov), [.t 4], some (95, true)⟩,
  ⟨some 101, .call none, [.f 65, .t 99, .t 100], some (95, true)⟩,
  ⟨some 102, .op (.bin .eql .bool), [.t 98, .t 101], some (95, true)⟩,
  ⟨some 103, .op (.pick), [.t 95, .t 102, .c (.bool false)], none⟩,
  ⟨some 104, .op (.mov), [.t 103], none⟩,
  ⟨some 105, .op (.mov), [.t 15], some (104, true)⟩,
  ⟨some 106, .op (.mov), [.t 13], some (104, true)⟩,
  ⟨some 107, .op (.nilchk), [.t 106], some (104, true)⟩,
  ⟨some 108, .op (.faddr 0), [.t 107], some (104, true)⟩,
  ⟨some 109, .op (.load none), [.t 108], some (104, true)⟩,
  ⟨some 110, .op (.bin .eql .prim), [.t 105, .t 109], some (104, true)⟩,
  ⟨some 111, .op (.pick), [.t 104, .t 110, .c (.bool false)], none⟩,
  ⟨some 112, .op (.mov), [.t 111], none⟩,
  ⟨some 113, .op (.mov), [.t 16], some (112, true)⟩,
  ⟨some 114, .op (.mov), [.t 13], some (112, true)⟩,
  ⟨some 115, .op (.nilchk), [.t 114], some (112, true)⟩,
  ⟨some 116, .op (.faddr 1), [.t 115], some (112, true)⟩,
  ⟨some 117, .op (.load none), [.t 116], some (112, true)⟩,
  ⟨some 118, .op (.bin .eql .bool), [.t 113, .t 117], some (112, true)⟩,
  ⟨some 119, .op (.pick), [.t 112, .t 118, .c (.bool false)], none⟩,
  ⟨some 10, .op (.mov), [.t 119], none⟩]
abbrev c12 : IC := (IC.seq (IC.reg r12_0) (IC.seq (IC.seq (IC.reg r12_1) (IC.cond (.t 18) (IC.seq (IC.reg r12_2) IC.ret) IC.skip)) (IC.seq (IC.seq (IC.reg r12_3) (IC.cond (.t 27) (IC.seq (IC.reg r12_4) IC.ret) IC.skip)) (IC.seq (IC.reg r12_5) (IC.seq (IC.reg r12_6) (IC.seq (IC.seq (IC.reg r12_7) (IC.cond (.t 49) (IC.seq (IC.reg r12_8) IC.ret) IC.skip)) (IC.seq (IC.seq (IC.reg r12_9) (IC.cond (.t 51) (IC.seq (IC.reg r12_10) IC.ret) IC.skip)) (IC.seq (IC.reg r12_11) (IC.seq (IC.regD .alloc r12_12 (.take 0 (.take 2 (.take 3 (.take 4 (.take 5 (.take 6 (.take 1 (.take 7 (.take 8 (.take 9 (.take 10 (.take 11 (.take 12 (.take 13 (.take 14 (.take 15 (.take 16 (.take 17 (.take 18 (.take 19 (.take 20 (.take 21 (.take 22 (.take 23 (.take 24 (.take 25 (.take 26 (.take 27 (.take 28 (.take 29 (.take 30 (.take 31 (.take 32 (.take 33 (.take 34 (.take 35 (.take 36 (.take 37 (.take 38 (.take 39 (.take 40 (.take 41 (.take 42 (.take 43 (.take 44 (.take 45 (.take 46 (.take 47 (.take 48 (.take 49 (.take 50 (.take 51 (.take 52 (.take 53 (.take 54 (.take 55 (.take 56 (.take 57 (.take 58 (.take 59 (.take 60 (.take 61 (.take 62 (.take 63 (.done)))))))))))))))))))))))))))))))))))))))))))))))))))))))))))))))))) IC.ret)))))))))
abbrev g12 : FC := ⟨c12, 120, [.t 10]⟩
theorem comp12 : compF Go.Proofs.Try.prog (hintL [(12, 7)]) 12 = some g12 := by kernel_rfl

-- outlaw/outlawlaw08.NfaNil
abbrev r13_0 : List IOp := [⟨some 6, .op (.mov), [.c (.bool false)], none⟩]
abbrev r13_1 : List IOp := [⟨some 10, .call none, [.f 50], none⟩,
  ⟨some 11, .op (.un .not), [.t 10], none⟩]
abbrev r13_2 : List IOp := [⟨some 6, .op (.mov), [.c (.bool false)], none⟩]
abbrev r13_3 : List IOp := [⟨some 12, .op (.mov), [.t 0], none⟩,
  ⟨some 13, .op (.len .slice), [.t 12], none⟩,
  ⟨some 14, .op (.bin .gtr .prim), [.t 13, .c (.int .i64 200)], none⟩,
  ⟨some 15, .op (.mov), [.t 14], none⟩,
  ⟨some 16, .op (.mov), [.t 2], some (15, false)⟩,
  ⟨some 17, .op (.len .str), [.t 16], some (15, false)⟩,
  ⟨some 18, .op (.bin .gtr .prim), [.t 17, .c (.int .i64 200)], some (15, false)⟩,
  ⟨some 19, .op (.pick), [.t 15, .c (.bool true), .t 18], none⟩]
abbrev r13_4 : List IOp := [⟨some 6, .op (.mov), [.c (.bool true)], none⟩]
abbrev r13_5 : List IOp := [⟨some 7, .op (.mov), [.c (.nilp)], none⟩]
abbrev r13_6 : List IOp := [⟨some 21, .op (.mov), [.t 7], none⟩,
  ⟨some 22, .call none, [.f 56, .t 21], none⟩,
  ⟨some 20, .op (.mov), [.t 22], none⟩,
  ⟨some 23, .op (.extract 0), [.t 20], none⟩,
  ⟨some 24, .op (.extract 1), [.t 20], none⟩,
  ⟨some 8, .op (.mov), [.t 23], none⟩,
  ⟨some 9, .op (.mov), [.t 24], none⟩]
abbrev r13_7 : List IOp := [⟨some 25, .op (.mov), [.t 7], none⟩,
  ⟨some 26, .call none, [.f 54, .t 25], none⟩,
  ⟨some 27, .op (.bin .eql .prim), [.t 26, .c (.int .i64 0)], none⟩,
  ⟨some 28, .op (.mov), [.t 27], none⟩,
  ⟨some 29, .op (.mov), [.t 7], some (28, true)⟩,
  ⟨some 30, .call none, [.f 58, .t 29], some (28, true)⟩,
  ⟨some 31, .op (.len .slice), [.t 30], some (28, true)⟩,
  ⟨some 32, .op (.bin .eql .prim), [.t 31, .c (.int .i64 0)], some (28, true)⟩,
  ⟨some 33, .op (.pick), [.t 28, .t 32, .c (.bool false)], none⟩,
  ⟨some 34, .op (.mov), [.t 33], none⟩,
  ⟨some 35, .op (.mov), [.t 7], some (34, true)⟩,
  ⟨some 36, .op (.mov), [.t 0], some (34, true)⟩,
  ⟨some 37, .op (.mov), [.t 1], some (34, true)⟩,
  ⟨some 38, .call none, [.f 52, .t 35, .t 36, .t 37], some (34, true)⟩,
  ⟨some 39, .op (.len .slice), [.t 38], some (34, true)⟩,
  ⟨some 40, .op (.bin .eql .prim), [.t 39, .c (.int .i64 0)], some (34, true)⟩,
  ⟨some 41, .op (.pick), [.t 34, .t 40, .c (.bool false)], none⟩,
  ⟨some 42, .op (.mov), [.t 41], none⟩,
  ⟨some 43, .op (.mov), [.t 7], some (42, true)⟩,
  ⟨some 44, .op (.mov), [.t 0], some (42, true)⟩,
  ⟨some 45, .call none, [.f 55, .t 43, .t 44], some (42, true)⟩,
  ⟨some 46, .op (.un .not), [.t 45], some (42, true)⟩,
  ⟨some 47, .op (.pick), [.t 42, .t 46, .c (.bool false)], none⟩,
  ⟨some 48, .op (.mov), [.t 47], none⟩,
  ⟨some 49, .op (.mov), [.t 7], some (48, true)⟩,
  ⟨some 50, .op (.mov), [.t 2], some (48, true)⟩,
  ⟨some 51, .call none, [.f 59, .t 49, .t 50], some (48, true)⟩,
  ⟨some 52, .op (.un .not), [.t 51], some (48, true)⟩,
  ⟨some 53, .op (.pick), [.t 48, .t 52, .c (.bool false)], none⟩,
  ⟨some 54, .op (.mov), [.t 53], none⟩,
  ⟨some 55, .op (.mov), [.t 8], some (54, true)⟩,
  ⟨some 56, .op (.bin .eql .prim), [.t 55, .c (.str [])], some (54, true)⟩,
  ⟨some 57, .op (.pick), [.t 54, .t 56, .c (.bool false)], none⟩,
  ⟨some 58, .op (.mov), [.t 57], none⟩,
  ⟨some 59, .op (.mov), [.t 9], some (58, true)⟩,
  ⟨some 60, .op (.un .not), [.t 59], some (58, true)⟩,
  ⟨some 61, .op (.pick), [.t 58, .t 60, .c (.bool false)], none⟩,
  ⟨some 6, .op (.mov), [.t 61], none⟩]
abbrev c13 : IC := (IC.seq (IC.reg r13_0) (IC.seq (IC.seq (IC.reg r13_1) (IC.cond (.t 11) (IC.seq (IC.reg r13_2) IC.ret) IC.skip)) (IC.seq (IC.seq (IC.reg r13_3) (IC.cond (.t 19) (IC.seq (IC.reg r13_4) IC.ret) IC.skip)) (IC.seq (IC.reg r13_5) (IC.seq (IC.reg r13_6) (IC.seq (IC.reg r13_7) IC.ret))))))
abbrev g13 : FC := ⟨c13, 62, [.t 6]⟩
theorem comp13 : compF Go.Proofs.Try.prog (fun _ => 0) 13 = some g13 := by kernel_rfl

-- outlaw/outlawlaw08.NfaRun
abbrev r14_0 : List IOp := [⟨some 6, .op (.mov), [.c (.bool false)], none⟩]
abbrev r14_1 : List IOp := [⟨some 12, .call none, [.f 50], none⟩,
  ⟨some 13, .op (.un .not), [.t 12], none⟩]
abbrev r14_2 : List IOp := [⟨some 6, .op (.mov), [.c (.bool false)], none⟩]
abbrev r14_3 : List IOp := [⟨some 14, .op (.mov), [.t 0], none⟩,
  ⟨some 15, .op (.mov), [.t 2], none⟩,
  ⟨some 16, .call none, [.f 60, .t 14, .t 15], none⟩,
  ⟨some 17, .op (.un .not), [.t 16], none⟩]
abbrev r14_4 : List IOp := [⟨some 6, .op (.mov), [.c (.bool true)], none⟩]
abbrev r14_5 : List IOp := [⟨some 19, .op (.mov), [.t 0], none⟩,
  ⟨some 20, .op (.mov), [.t 1], none⟩,
  ⟨some 21, .call none, [.f 51, .t 19, .t 20], none⟩,
  ⟨some 18, .op (.mov), [.t 21], none⟩,
  ⟨some 22, .op (.extract 0), [.t 18], none⟩,
  ⟨some 23, .op (.extract 1), [.t 18], none⟩,
  ⟨some 7, .op (.mov), [.t 22], none⟩,
  ⟨some 8, .op (.mov), [.t 23], none⟩]
abbrev r14_6 : List IOp := [⟨some 24, .op (.mov), [.t 8], none⟩,
  ⟨some 25, .op (.bin .neq .prim), [.t 24, .c (.int .i64 0)], none⟩]
abbrev r14_7 : List IOp := [⟨some 26, .op (.mov), [.t 7], none⟩,
  ⟨some 27, .op (.bin .eql .ptr), [.t 26, .c (.nilp)], none⟩,
  ⟨some 28, .op (.mov), [.t 27], none⟩,
  ⟨some 29, .op (.mov), [.t 8], some (28, true)⟩,
  ⟨some 30, .op (.mov), [.t 0], some (28, true)⟩,
  ⟨some 31, .call none, [.f 66, .t 30], some (28, true)⟩,
  ⟨some 32, .op (.bin .eql .prim), [.t 29, .t 31], some (28, true)⟩,
  ⟨some 33, .op (.pick), [.t 28, .t 32, .c (.bool false)], none⟩,
  ⟨some 6, .op (.mov), [.t 33], none⟩]
abbrev r14_8 : List IOp := [⟨some 34, .op (.mov), [.t 7], none⟩,
  ⟨some 35, .call none, [.f 58, .t 34], none⟩,
  ⟨some 9, .op (.mov), [.t 35], none⟩]
abbrev r14_9 : List IOp := [⟨some 10, .op (.mov), [.c (.int .i64 0)], none⟩]
abbrev r14_10 : List IOp := [⟨some 36, .op (.mov), [.t 10], none⟩,
  ⟨some 37, .op (.mov), [.t 2], none⟩,
  ⟨some 38, .op (.len .str), [.t 37], none⟩,
  ⟨some 39, .op (.bin .leq .prim), [.t 36, .t 38], none⟩]
abbrev r14_11 : List IOp := [⟨some 42, .op (.mov), [.t 7], none⟩,
  ⟨some 43, .op (.mov), [.t 9], none⟩,
  ⟨some 44, .call none, [.f 55, .t 42, .t 43], none⟩,
  ⟨some 45, .op (.mov), [.t 0], none⟩,
  ⟨some 46, .op (.mov), [.t 2], none⟩,
  ⟨some 47, .op (.mov), [.t 10], none⟩,
  ⟨some 48, .op (.sslice false true false), [.t 46, .t 47], none⟩,
  ⟨some 49, .op (.mov), [.t 1], none⟩,
  ⟨some 50, .call none, [.f 17, .t 45, .t 48, .t 49], none⟩,
  ⟨some 51, .op (.bin .neq .bool), [.t 44, .t 50], none⟩]
abbrev r14_12 : List IOp := [⟨some 6, .op (.mov), [.c (.bool false)], none⟩]
abbrev r14_13 : List IOp := [⟨some 11, .op (.mov), [.c (.int .i64 0)], none⟩]
abbrev r14_14 : List IOp := [⟨some 52, .op (.mov), [.t 11], none⟩,
  ⟨some 53, .op (.mov), [.t 9], none⟩,
  ⟨some 54, .op (.len .slice), [.t 53], none⟩,
  ⟨some 55, .op (.bin .lss .prim), [.t 52, .t 54], none⟩]
abbrev r14_15 : List IOp := [⟨some 58, .op (.mov), [.t 9], none⟩,
  ⟨some 59, .op (.mov), [.t 11], none⟩,
  ⟨some 60, .op (.iaddr 1), [.t 58, .t 59], none⟩,
  ⟨some 61, .op (.load none), [.t 60], none⟩,
  ⟨some 62, .op (.bin .lss .prim), [.t 61, .c (.int .i64 0)], none⟩,
  ⟨some 63, .op (.mov), [.t 62], none⟩,
  ⟨some 64, .op (.mov), [.t 9], some (63, false)⟩,
  ⟨some 65, .op (.mov), [.t 11], some (63, false)⟩,
  ⟨some 66, .op (.iaddr 1), [.t 64, .t 65], some (63, false)⟩,
  ⟨some 67, .op (.load none), [.t 66], some (63, false)⟩,
  ⟨some 68, .op (.mov), [.t 7], some (63, false)⟩,
  ⟨some 69, .call none, [.f 54, .t 68], some (63, false)⟩,
  ⟨some 70, .op (.bin .geq .prim), [.t 67, .t 69], some (63, false)⟩,
  ⟨some 71, .op (.pick), [.t 63, .c (.bool true), .t 70], none⟩,
  ⟨some 72, .op (.mov), [.t 71], none⟩,
  ⟨some 73, .op (.mov), [.t 11], some (72, false)⟩,
  ⟨some 74, .op (.bin .gtr .prim), [.t 73, .c (.int .i64 0)], some (72, false)⟩,
  ⟨some 75, .op (.mov), [.t 74], some (72, false)⟩,
  ⟨some 76, .op (.mov), [.t 9], some (75, true)⟩,
  ⟨some 77, .op (.mov), [.t 11], some (75, true)⟩,
  ⟨some 78, .op (.bin .sub .prim), [.t 77, .c (.int .i64 1)], some (75, true)⟩,
  ⟨some 79, .op (.iaddr 1), [.t 76, .t 78], some (75, true)⟩,
  ⟨some 80, .op (.load none), [.t 79], some (75, true)⟩,
  ⟨some 81, .op (.mov), [.t 9], some (75, true)⟩,
  ⟨some 82, .op (.mov), [.t 11], some (75, true)⟩,
  ⟨some 83, .op (.iaddr 1), [.t 81, .t 82], some (75, true)⟩,
  ⟨some 84, .op (.load none), [.t 83], some (75, true)⟩,
  ⟨some 85, .op (.bin .geq .prim), [.t 80, .t 84], some (75, true)⟩,
  ⟨some 86, .op (.pick), [.t 75, .t 85, .c (.bool false)], some (72, false)⟩,
  ⟨some 87, .op (.pick), [.t 72, .c (.bool true), .t 86], none⟩]
abbrev r14_16 : List IOp := [⟨some 6, .op (.mov), [.c (.bool false)], none⟩]
abbrev r14_17 : List IOp := [⟨some 56, .op (.mov), [.t 11], none⟩,
  ⟨some 57, .op (.bin .add .prim), [.t 56, .c (.int .i64 1)], none⟩,
  ⟨some 11, .op (.mov), [.t 57], none⟩]
abbrev b14_0 : IC := (IC.seq (IC.seq (IC.reg r14_14) (IC.cond (.t 55) IC.skip (IC.exit 2))) (IC.seq (IC.block 3 (IC.seq (IC.regD .alloc r14_15 (.take 0 (.take 1 (.take 2 (.take 3 (.take 4 (.take 5 (.take 6 (.take 7 (.take 8 (.take 9 (.take 10 (.take 11 (.take 12 (.take 13 (.take 14 (.take 15 (.take 16 (.take 17 (.take 18 (.take 19 (.take 20 (.take 21 (.take 22 (.take 23 (.take 24 (.take 25 (.take 26 (.take 27 (.take 28 (.take 29 (.done)))))))))))))))))))))))))))))))) (IC.cond (.t 87) (IC.seq (IC.reg r14_16) IC.ret) IC.skip))) (IC.reg r14_17)))
abbrev r14_18 : List IOp := [⟨some 88, .op (.mov), [.t 10], none⟩,
  ⟨some 89, .op (.mov), [.t 2], none⟩,
  ⟨some 90, .op (.len .str), [.t 89], none⟩,
  ⟨some 91, .op (.bin .lss .prim), [.t 88, .t 90], none⟩]
abbrev r14_19 : List IOp := [⟨some 92, .op (.mov), [.t 7], none⟩,
  ⟨some 93, .op (.mov), [.t 9], none⟩,
  ⟨some 94, .op (.mov), [.t 2], none⟩,
  ⟨some 95, .op (.mov), [.t 10], none⟩,
  ⟨some 96, .op (.idxs), [.t 94, .t 95], none⟩,
  ⟨some 97, .call none, [.f 52, .t 92, .t 93, .t 96], none⟩,
  ⟨some 9, .op (.mov), [.t 97], none⟩]
abbrev r14_20 : List IOp := [⟨some 40, .op (.mov), [.t 10], none⟩,
  ⟨some 41, .op (.bin .add .prim), [.t 40, .c (.int .i64 1)], none⟩,
  ⟨some 10, .op (.mov), [.t 41], none⟩]
abbrev b14_1 : IC := (IC.seq (IC.seq (IC.reg r14_10) (IC.cond (.t 39) IC.skip (IC.exit 0))) (IC.seq (IC.block 1 (IC.seq (IC.seq (IC.regD .wild r14_11 (.take 0 (.take 1 (.take 2 (.take 3 (.take 4 (.take 5 (.take 6 (.take 7 (.take 8 (.take 9 (.done)))))))))))) (IC.cond (.t 51) (IC.seq (IC.reg r14_12) IC.ret) IC.skip)) (IC.seq (IC.seq (IC.reg r14_13) (IC.block 2 (IC.loop b14_0))) (IC.seq (IC.reg r14_18) (IC.cond (.t 91) (IC.reg r14_19) IC.skip))))) (IC.reg r14_20)))
abbrev r14_21 : List IOp := [⟨some 98, .op (.mov), [.t 7], none⟩,
  ⟨some 99, .op (.mov), [.t 2], none⟩,
  ⟨some 100, .call none, [.f 59, .t 98, .t 99], none⟩,
  ⟨some 101, .op (.mov), [.t 0], none⟩,
  ⟨some 102, .op (.mov), [.t 2], none⟩,
  ⟨some 103, .op (.mov), [.t 1], none⟩,
  ⟨some 104, .call none, [.f 17, .t 101, .t 102, .t 103], none⟩,
  ⟨some 105, .op (.bin .eql .bool), [.t 100, .t 104], none⟩,
  ⟨some 6, .op (.mov), [.t 105], none⟩]
abbrev c14 : IC := (IC.seq (IC.reg r14_0) (IC.seq (IC.seq (IC.reg r14_1) (IC.cond (.t 13) (IC.seq (IC.reg r14_2) IC.ret) IC.skip)) (IC.seq (IC.seq (IC.reg r14_3) (IC.cond (.t 17) (IC.seq (IC.reg r14_4) IC.ret) IC.skip)) (IC.seq (IC.reg r14_5) (IC.seq (IC.seq (IC.reg r14_6) (IC.cond (.t 25) (IC.seq (IC.reg r14_7) IC.ret) IC.skip)) (IC.seq (IC.reg r14_8) (IC.seq (IC.seq (IC.reg r14_9) (IC.block 0 (IC.loop b14_1))) (IC.seq (IC.reg r14_21) IC.ret))))))))
abbrev g14 : FC := ⟨c14, 106, [.t 6]⟩
theorem comp14 : compF Go.Proofs.Try.prog (hintL [(12, 6), (17, 7)]) 14 = some g14 := by kernel_rfl

-- outlaw/glob.Match
abbrev r17_0 : List IOp := [⟨some 6, .op (.mov), [.c (.bool false)], none⟩]
abbrev r17_1 : List IOp := [⟨some 7, .op (.mov), [.f 68], none⟩]
abbrev r17_2 : List IOp := [⟨some 12, .op (.mov), [.t 2], none⟩]
abbrev r17_3 : List IOp := [⟨some 7, .op (.mov), [.f 69], none⟩]
abbrev r17_4 : List IOp := [⟨some 8, .op (.mov), [.c (.int .i64 0)], none⟩,
  ⟨some 9, .op (.mov), [.c (.int .i64 0)], none⟩]
abbrev r17_5 : List IOp := [⟨some 10, .op (.mov), [.c (.int .i64 (-1))], none⟩,
  ⟨some 11, .op (.mov), [.c (.int .i64 0)], none⟩]
abbrev r17_6 : List IOp := [⟨some 13, .op (.mov), [.t 9], none⟩,
  ⟨some 14, .op (.mov), [.t 1], none⟩,
  ⟨some 15, .op (.len .str), [.t 14], none⟩,
  ⟨some 16, .op (.bin .lss .prim), [.t 13, .t 15], none⟩]
abbrev r17_7 : List IOp := [⟨some 18, .op (.mov), [.t 8], none⟩,
  ⟨some 19, .op (.mov), [.t 0], none⟩,
  ⟨some 20, .op (.len .str), [.t 19], none⟩,
  ⟨some 21, .op (.bin .lss .prim), [.t 18, .t 20], none⟩,
  ⟨some 22, .op (.mov), [.t 21], none⟩,
  ⟨some 23, .op (.mov), [.t 0], some (22, true)⟩,
  ⟨some 24, .op (.mov), [.t 8], some (22, true)⟩,
  ⟨some 25, .op (.idxs), [.t 23, .t 24], some (22, true)⟩,
  ⟨some 26, .op (.bin .eql .prim), [.t 25, .c (.int .u8 42)], some (22, true)⟩,
  ⟨some 27, .op (.pick), [.t 22, .t 26, .c (.bool false)], none⟩,
  ⟨some 17, .op (.mov), [.t 27], none⟩]
abbrev r17_8 : List IOp := [⟨some 28, .op (.mov), [.t 8], none⟩,
  ⟨some 29, .op (.mov), [.t 9], none⟩,
  ⟨some 10, .op (.mov), [.t 28], none⟩,
  ⟨some 11, .op (.mov), [.t 29], none⟩]
abbrev r17_9 : List IOp := [⟨some 30, .op (.mov), [.t 8], none⟩,
  ⟨some 31, .op (.bin .add .prim), [.t 30, .c (.int .i64 1)], none⟩,
  ⟨some 8, .op (.mov), [.t 31], none⟩]
abbrev r17_10 : List IOp := [⟨some 33, .op (.mov), [.t 8], none⟩,
  ⟨some 34, .op (.mov), [.t 0], none⟩,
  ⟨some 35, .op (.len .str), [.t 34], none⟩,
  ⟨some 36, .op (.bin .lss .prim), [.t 33, .t 35], none⟩,
  ⟨some 37, .op (.mov), [.t 36], none⟩,
  ⟨some 38, .op (.mov), [.t 0], some (37, true)⟩,
  ⟨some 39, .op (.mov), [.t 8], some (37, true)⟩,
  ⟨some 40, .op (.idxs), [.t 38, .t 39], some (37, true)⟩,
  ⟨some 41, .op (.bin .eql .prim), [.t 40, .c (.int .u8 63)], some (37, true)⟩,
  ⟨some 42, .op (.mov), [.t 41], some (37, true)⟩,
  ⟨some 43, .op (.mov), [.t 7], some (42, false)⟩,
  ⟨some 44, .op (.mov), [.t 0], some (42, false)⟩,
  ⟨some 45, .op (.mov), [.t 8], some (42, false)⟩,
  ⟨some 46, .op (.idxs), [.t 44, .t 45], some (42, false)⟩,
  ⟨some 47, .op (.mov), [.t 1], some (42, false)⟩,
  ⟨some 48, .op (.mov), [.t 9], some (42, false)⟩,
  ⟨some 49, .op (.idxs), [.t 47, .t 48], some (42, false)⟩,
  ⟨some 50, .call none, [.t 43, .t 46, .t 49], some (42, false)⟩,
  ⟨some 51, .op (.pick), [.t 42, .c (.bool true), .t 50], some (37, true)⟩,
  ⟨some 52, .op (.pick), [.t 37, .t 51, .c (.bool false)], none⟩,
  ⟨some 32, .op (.mov), [.t 52], none⟩]
abbrev r17_11 : List IOp := [⟨some 53, .op (.mov), [.t 8], none⟩,
  ⟨some 54, .op (.bin .add .prim), [.t 53, .c (.int .i64 1)], none⟩,
  ⟨some 8, .op (.mov), [.t 54], none⟩]
abbrev r17_12 : List IOp := [⟨some 55, .op (.mov), [.t 9], none⟩,
  ⟨some 56, .op (.bin .add .prim), [.t 55, .c (.int .i64 1)], none⟩,
  ⟨some 9, .op (.mov), [.t 56], none⟩]
abbrev r17_13 : List IOp := [⟨some 58, .op (.mov), [.t 10], none⟩,
  ⟨some 59, .op (.bin .lss .prim), [.t 58, .c (.int .i64 0)], none⟩,
  ⟨some 57, .op (.mov), [.t 59], none⟩]
abbrev r17_14 : List IOp := [⟨some 6, .op (.mov), [.c (.bool false)], none⟩]
abbrev r17_15 : List IOp := [⟨some 60, .op (.mov), [.t 11], none⟩,
  ⟨some 61, .op (.bin .add .prim), [.t 60, .c (.int .i64 1)], none⟩,
  ⟨some 11, .op (.mov), [.t 61], none⟩]
abbrev r17_16 : List IOp := [⟨some 62, .op (.mov), [.t 10], none⟩,
  ⟨some 63, .op (.bin .add .prim), [.t 62, .c (.int .i64 1)], none⟩,
  ⟨some 64, .op (.mov), [.t 11], none⟩,
  ⟨some 8, .op (.mov), [.t 63], none⟩,
  ⟨some 9, .op (.mov), [.t 64], none⟩]
abbrev b17_0 : IC := (IC.seq (IC.seq (IC.reg r17_6) (IC.cond (.t 16) IC.skip (IC.exit 0))) (IC.block 1 (IC.seq (IC.block 2 (IC.seq (IC.reg r17_7) (IC.cond (.t 17) (IC.seq (IC.reg r17_8) (IC.seq (IC.reg r17_9) (IC.exit 1))) (IC.seq (IC.regD .wild r17_10 (.take 0 (.take 1 (.take 2 (.take 3 (.take 4 (.take 5 (.take 6 (.take 7 (.take 8 (.take 9 (.take 10 (.take 11 (.take 12 (.take 13 (.take 14 (.take 15 (.take 16 (.take 17 (.take 18 (.take 19 (.take 20 (.done))))))))))))))))))))))) (IC.cond (.t 32) (IC.seq (IC.reg r17_11) (IC.seq (IC.reg r17_12) (IC.exit 1))) (IC.seq (IC.reg r17_13) (IC.cond (.t 57) (IC.seq (IC.reg r17_14) IC.ret) IC.skip))))))) (IC.seq (IC.reg r17_15) (IC.reg r17_16)))))
abbrev r17_17 : List IOp := [⟨some 65, .op (.mov), [.t 8], none⟩,
  ⟨some 66, .op (.mov), [.t 0], none⟩,
  ⟨some 67, .op (.len .str), [.t 66], none⟩,
  ⟨some 68, .op (.bin .lss .prim), [.t 65, .t 67], none⟩,
  ⟨some 69, .op (.mov), [.t 68], none⟩,
  ⟨some 70, .op (.mov), [.t 0], some (69, true)⟩,
  ⟨some 71, .op (.mov), [.t 8], some (69, true)⟩,
  ⟨some 72, .op (.idxs), [.t 70, .t 71], some (69, true)⟩,
  ⟨some 73, .op (.bin .eql .prim), [.t 72, .c (.int .u8 42)], some (69, true)⟩,
  ⟨some 74, .op (.pick), [.t 69, .t 73, .c (.bool false)], none⟩]
abbrev r17_18 : List IOp := [⟨some 75, .op (.mov), [.t 8], none⟩,
  ⟨some 76, .op (.bin .add .prim), [.t 75, .c (.int .i64 1)], none⟩,
  ⟨some 8, .op (.mov), [.t 76], none⟩]
abbrev b17_1 : IC := (IC.seq (IC.seq (IC.reg r17_17) (IC.cond (.t 74) IC.skip (IC.exit 3))) (IC.block 4 (IC.reg r17_18)))
abbrev r17_19 : List IOp := [⟨some 77, .op (.mov), [.t 8], none⟩,
  ⟨some 78, .op (.mov), [.t 0], none⟩,
  ⟨some 79, .op (.len .str), [.t 78], none⟩,
  ⟨some 80, .op (.bin .eql .prim), [.t 77, .t 79], none⟩,
  ⟨some 6, .op (.mov), [.t 80], none⟩]
abbrev c17 : IC := (IC.seq (IC.reg r17_0) (IC.seq (IC.reg r17_1) (IC.seq (IC.seq (IC.reg r17_2) (IC.cond (.t 12) (IC.reg r17_3) IC.skip)) (IC.seq (IC.reg r17_4) (IC.seq (IC.reg r17_5) (IC.seq IC.skip (IC.seq (IC.block 0 (IC.loop b17_0)) (IC.seq (IC.block 3 (IC.loop b17_1)) (IC.seq (IC.reg r17_19) IC.ret)))))))))
abbrev g17 : FC := ⟨c17, 81, [.t 6]⟩
theorem comp17 : compF Go.Proofs.Try.prog (hintL [(10, 6)]) 17 = some g17 := by kernel_rfl

-- outlaw/outlawlaw08.lives
abbrev r50_0 : List IOp := [⟨some 0, .op (.mov), [.c (.bool false)], none⟩]
abbrev r50_1 : List IOp := [⟨some 4, .call none, [.f 51, .c (.str [42, 120]), .c (.bool false)], none⟩,
  ⟨some 3, .op (.mov), [.t 4], none⟩,
  ⟨some 5, .op (.extract 0), [.t 3], none⟩,
  ⟨some 6, .op (.extract 1), [.t 3], none⟩,
  ⟨some 1, .op (.mov), [.t 5], none⟩,
  ⟨some 2, .op (.mov), [.t 6], none⟩]
abbrev r50_2 : List IOp := [⟨some 7, .op (.mov), [.t 2], none⟩,
  ⟨some 8, .op (.bin .eql .prim), [.t 7, .c (.int .i64 0)], none⟩,
  ⟨some 9, .op (.mov), [.t 8], none⟩,
  ⟨some 10, .op (.mov), [.t 1], some (9, true)⟩,
  ⟨some 11, .op (.bin .neq .ptr), [.t 10, .c (.nilp)], some (9, true)⟩,
  ⟨some 12, .op (.pick), [.t 9, .t 11, .c (.bool false)], none⟩,
  ⟨some 13, .op (.mov), [.t 12], none⟩,
  ⟨some 14, .op (.mov), [.t 1], some (13, true)⟩,
  ⟨some 15, .call none, [.f 58, .t 14], some (13, true)⟩,
  ⟨some 16, .op (.bsl 3 1 false), [.c (.int .i64 0), .c (.int .i64 1)], some (13, true)⟩,
  ⟨some 17, .call none, [.f 57, .t 15, .t 16], some (13, true)⟩,
  ⟨some 18, .op (.pick), [.t 13, .t 17, .c (.bool false)], none⟩,
  ⟨some 19, .op (.mov), [.t 18], none⟩,
  ⟨some 20, .op (.mov), [.t 1], some (19, true)⟩,
  ⟨some 21, .op (.mov), [.t 1], some (19, true)⟩,
  ⟨some 22, .call none, [.f 58, .t 21], some (19, true)⟩,
  ⟨some 23, .call none, [.f 52, .t 20, .t 22, .c (.int .u8 120)], some (19, true)⟩,
  ⟨some 24, .op (.bsl 3 1 false), [.c (.int .i64 0), .c (.int .i64 1), .c (.int .i64 2)], some (19, true)⟩,
  ⟨some 25, .call none, [.f 57, .t 23, .t 24], some (19, true)⟩,
  ⟨some 26, .op (.pick), [.t 19, .t 25, .c (.bool false)], none⟩,
  ⟨some 0, .op (.mov), [.t 26], none⟩]
abbrev c50 : IC := (IC.seq (IC.reg r50_0) (IC.seq (IC.reg r50_1) (IC.seq (IC.reg r50_2) IC.ret)))
abbrev g50 : FC := ⟨c50, 27, [.t 0]⟩
theorem comp50 : compF Go.Proofs.Try.prog (fun _ => 0) 50 = some g50 := by kernel_rfl

-- outlaw/nfa.New
abbrev r51_0 : List IOp := [⟨some 4, .op (.mov), [.c (.nilp)], none⟩,
  ⟨some 5, .op (.mov), [.c (.int .i64 0)], none⟩]
abbrev r51_1 : List IOp := [⟨some 7, .op (.mov), [.t 0], none⟩,
  ⟨some 8, .call none, [.f 66, .t 7], none⟩,
  ⟨some 6, .op (.mov), [.t 8], none⟩]
abbrev r51_2 : List IOp := [⟨some 9, .op (.mov), [.t 6], none⟩,
  ⟨some 10, .op (.bin .neq .prim), [.t 9, .c (.int .i64 0)], none⟩]
abbrev r51_3 : List IOp := [⟨some 11, .op (.mov), [.t 6], none⟩,
  ⟨some 4, .op (.mov), [.c (.nilp)], none⟩,
  ⟨some 5, .op (.mov), [.t 11], none⟩]
abbrev r51_4 : List IOp := [⟨some 12, .op (.mov), [.t 0], none⟩,
  ⟨some 13, .call none, [.f 106, .t 12], none⟩,
  ⟨some 14, .op (.mov), [.t 1], none⟩,
  ⟨some 15, .op (.bst [.str [], .bool false] [(0, 1), (1, 1)] [0, 1]), [.t 13, .t 14], none⟩,
  ⟨some 16, .op (.box 118), [.t 15], none⟩,
  ⟨some 4, .op (.mov), [.t 16], none⟩,
  ⟨some 5, .op (.mov), [.c (.int .i64 0)], none⟩]
abbrev c51 : IC := (IC.seq (IC.reg r51_0) (IC.seq (IC.seq (IC.reg r51_1) (IC.seq (IC.reg r51_2) (IC.cond (.t 10) (IC.seq (IC.reg r51_3) IC.ret) IC.skip))) (IC.seq (IC.reg r51_4) IC.ret)))
abbrev g51 : FC := ⟨c51, 17, [.t 4, .t 5]⟩
theorem comp51 : compF Go.Proofs.Try.prog (fun _ => 0) 51 = some g51 := by kernel_rfl

-- (*outlaw/nfa.Nfa).Step
abbrev r52_0 : List IOp := [⟨some 6, .op (.mov), [.c (.nils)], none⟩]
abbrev r52_1 : List IOp := [⟨some 7, .op (.mov), [.t 0], none⟩,
  ⟨some 8, .op (.mov), [.t 0], none⟩,
  ⟨some 9, .op (.mov), [.t 1], none⟩,
  ⟨some 10, .call none, [.f 108, .t 8, .t 9], none⟩,
  ⟨some 11, .op (.mov), [.t 2], none⟩,
  ⟨some 12, .call none, [.f 107, .t 7, .t 10, .t 11], none⟩,
  ⟨some 13, .call none, [.f 109, .t 12], none⟩,
  ⟨some 6, .op (.mov), [.t 13], none⟩]
abbrev c52 : IC := (IC.seq (IC.reg r52_0) (IC.seq (IC.reg r52_1) IC.ret))
abbrev g52 : FC := ⟨c52, 14, [.t 6]⟩
theorem comp52 : compF Go.Proofs.Try.prog (fun _ => 0) 52 = some g52 := by kernel_rfl

-- outlaw/outlawkit.Own[int]
abbrev r53_0 : List IOp := [⟨some 2, .op (.mov), [.c (.nils)], none⟩]
abbrev r53_1 : List IOp := [⟨some 3, .op (.bsl 3 1 false), [], none⟩,
  ⟨some 4, .op (.mov), [.t 0], none⟩,
  ⟨some 5, .op (.app 3 1 8), [.t 3, .t 4], none⟩,
  ⟨some 2, .op (.mov), [.t 5], none⟩]
abbrev c53 : IC := (IC.seq (IC.reg r53_0) (IC.seq (IC.reg r53_1) IC.ret))
abbrev g53 : FC := ⟨c53, 6, [.t 2]⟩
theorem comp53 : compF Go.Proofs.Try.prog (fun _ => 0) 53 = some g53 := by kernel_rfl

-- (*outlaw/nfa.Nfa).States
abbrev r54_0 : List IOp := [⟨some 2, .op (.mov), [.c (.int .i64 0)], none⟩]
abbrev r54_1 : List IOp := [⟨some 3, .op (.mov), [.t 0], none⟩,
  ⟨some 4, .op (.bin .eql .ptr), [.t 3, .c (.nilp)], none⟩,
  ⟨some 5, .op (.mov), [.t 4], none⟩,
  ⟨some 6, .op (.mov), [.t 0], some (5, false)⟩,
  ⟨some 7, .op (.nilchk), [.t 6], some (5, false)⟩,
  ⟨some 8, .op (.faddr 0), [.t 7], some (5, false)⟩,
  ⟨some 9, .op (.load none), [.t 8], some (5, false)⟩,
  ⟨some 10, .op (.bin .eql .prim), [.t 9, .c (.str [])], some (5, false)⟩,
  ⟨some 11, .op (.pick), [.t 5, .c (.bool true), .t 10], none⟩]
abbrev r54_2 : List IOp := [⟨some 2, .op (.mov), [.c (.int .i64 0)], none⟩]
abbrev r54_3 : List IOp := [⟨some 12, .op (.mov), [.t 0], none⟩,
  ⟨some 13, .op (.nilchk), [.t 12], none⟩,
  ⟨some 14, .op (.faddr 0), [.t 13], none⟩,
  ⟨some 15, .op (.load none), [.t 14], none⟩,
  ⟨some 16, .op (.len .str), [.t 15], none⟩,
  ⟨some 17, .op (.bin .add .prim), [.t 16, .c (.int .i64 1)], none⟩,
  ⟨some 2, .op (.mov), [.t 17], none⟩]
abbrev c54 : IC := (IC.seq (IC.reg r54_0) (IC.seq (IC.seq (IC.reg r54_1) (IC.cond (.t 11) (IC.seq (IC.reg r54_2) IC.ret) IC.skip)) (IC.seq (IC.reg r54_3) IC.ret)))
abbrev g54 : FC := ⟨c54, 18, [.t 2]⟩
theorem comp54 : compF Go.Proofs.Try.prog (fun _ => 0) 54 = some g54 := by kernel_rfl

-- (*outlaw/nfa.Nfa).Accepts
abbrev r55_0 : List IOp := [⟨some 4, .op (.mov), [.c (.bool false)], none⟩]
abbrev r55_1 : List IOp := [⟨some 6, .op (.mov), [.t 0], none⟩,
  ⟨some 7, .op (.mov), [.t 1], none⟩,
  ⟨some 8, .call none, [.f 108, .t 6, .t 7], none⟩,
  ⟨some 5, .op (.mov), [.t 8], none⟩]
abbrev r55_2 : List IOp := [⟨some 9, .op (.mov), [.t 5], none⟩,
  ⟨some 10, .op (.len .slice), [.t 9], none⟩,
  ⟨some 11, .op (.bin .gtr .prim), [.t 10, .c (.int .i64 0)], none⟩,
  ⟨some 12, .op (.mov), [.t 11], none⟩,
  ⟨some 13, .op (.mov), [.t 5], some (12, true)⟩,
  ⟨some 14, .op (.mov), [.t 5], some (12, true)⟩,
  ⟨some 15, .op (.len .slice), [.t 14], some (12, true)⟩,
  ⟨some 16, .op (.bin .sub .prim), [.t 15, .c (.int .i64 1)], some (12, true)⟩,
  ⟨some 17, .op (.iaddr 1), [.t 13, .t 16], some (12, true)⟩,
  ⟨some 18, .op (.load none), [.t 17], some (12, true)⟩,
  ⟨some 19, .op (.pick), [.t 12, .t 18, .c (.bool false)], none⟩,
  ⟨some 4, .op (.mov), [.t 19], none⟩]
abbrev c55 : IC := (IC.seq (IC.reg r55_0) (IC.seq (IC.reg r55_1) (IC.seq (IC.reg r55_2) IC.ret)))
abbrev g55 : FC := ⟨c55, 20, [.t 4]⟩
theorem comp55 : compF Go.Proofs.Try.prog (fun _ => 0) 55 = some g55 := by kernel_rfl

-- outlaw/outlawlaw08.light
abbrev r60_0 : List IOp := [⟨some 4, .op (.mov), [.c (.bool false)], none⟩]
abbrev r60_1 : List IOp := [⟨some 5, .op (.mov), [.t 0], none⟩,
  ⟨some 6, .op (.len .str), [.t 5], none⟩,
  ⟨some 7, .op (.bin .leq .prim), [.t 6, .c (.int .i64 300)], none⟩,
  ⟨some 8, .op (.mov), [.t 7], none⟩,
  ⟨some 9, .op (.mov), [.t 1], some (8, true)⟩,
  ⟨some 10, .op (.len .str), [.t 9], some (8, true)⟩,
  ⟨some 11, .op (.bin .leq .prim), [.t 10, .c (.int .i64 260)], some (8, true)⟩,
  ⟨some 12, .op (.pick), [.t 8, .t 11, .c (.bool false)], none⟩,
  ⟨some 4, .op (.mov), [.t 12], none⟩]
abbrev c60 : IC := (IC.seq (IC.reg r60_0) (IC.seq (IC.reg r60_1) IC.ret))
abbrev g60 : FC := ⟨c60, 13, [.t 4]⟩
theorem comp60 : compF Go.Proofs.Try.prog (fun _ => 0) 60 = some g60 := by kernel_rfl

-- outlaw/outlawref08.New
abbrev r61_0 : List IOp := [⟨some 4, .op (.mov), [.c (.nilp)], none⟩,
  ⟨some 5, .op (.mov), [.c (.int .i64 0)], none⟩]
abbrev r61_1 : List IOp := [⟨some 7, .op (.mov), [.t 0], none⟩,
  ⟨some 8, .call none, [.f 111, .t 7], none⟩,
  ⟨some 6, .op (.mov), [.t 8], none⟩]
abbrev r61_2 : List IOp := [⟨some 9, .op (.mov), [.t 6], none⟩,
  ⟨some 10, .op (.bin .neq .prim), [.t 9, .c (.int .i64 0)], none⟩]
abbrev r61_3 : List IOp := [⟨some 11, .op (.mov), [.t 6], none⟩,
  ⟨some 4, .op (.mov), [.c (.nilp)], none⟩,
  ⟨some 5, .op (.mov), [.t 11], none⟩]
abbrev r61_4 : List IOp := [⟨some 12, .op (.mov), [.t 0], none⟩,
  ⟨some 13, .call none, [.f 112, .t 12], none⟩,
  ⟨some 14, .op (.mov), [.t 1], none⟩,
  ⟨some 15, .op (.bst [.str [], .bool false] [(0, 1), (1, 1)] [0, 1]), [.t 13, .t 14], none⟩,
  ⟨some 16, .op (.box 92), [.t 15], none⟩,
  ⟨some 4, .op (.mov), [.t 16], none⟩,
  ⟨some 5, .op (.mov), [.c (.int .i64 0)], none⟩]
abbrev c61 : IC := (IC.seq (IC.reg r61_0) (IC.seq (IC.reg r61_1) (IC.seq (IC.seq (IC.reg r61_2) (IC.cond (.t 10) (IC.seq (IC.reg r61_3) IC.ret) IC.skip)) (IC.seq (IC.reg r61_4) IC.ret))))
abbrev g61 : FC := ⟨c61, 17, [.t 4, .t 5]⟩
theorem comp61 : compF Go.Proofs.Try.prog (fun _ => 0) 61 = some g61 := by kernel_rfl

-- (*outlaw/nfa.Nfa).Pattern
abbrev r56_0 : List IOp := [⟨some 2, .op (.mov), [.c (.str [])], none⟩,
  ⟨some 3, .op (.mov), [.c (.bool false)], none⟩]
abbrev r56_1 : List IOp := [⟨some 4, .op (.mov), [.t 0], none⟩,
  ⟨some 5, .op (.bin .eql .ptr), [.t 4, .c (.nilp)], none⟩]
abbrev r56_2 : List IOp := [⟨some 2, .op (.mov), [.c (.str [])], none⟩,
  ⟨some 3, .op (.mov), [.c (.bool false)], none⟩]
abbrev r56_3 : List IOp := [⟨some 6, .op (.mov), [.t 0], none⟩,
  ⟨some 7, .op (.nilchk), [.t 6], none⟩,
  ⟨some 8, .op (.faddr 0), [.t 7], none⟩,
  ⟨some 9, .op (.load none), [.t 8], none⟩,
  ⟨some 10, .op (.mov), [.t 0], none⟩,
  ⟨some 11, .op (.nilchk), [.t 10], none⟩,
  ⟨some 12, .op (.faddr 1), [.t 11], none⟩,
  ⟨some 13, .op (.load none), [.t 12], none⟩,
  ⟨some 2, .op (.mov), [.t 9], none⟩,
  ⟨some 3, .op (.mov), [.t 13], none⟩]
abbrev c56 : IC := (IC.seq (IC.reg r56_0) (IC.seq (IC.seq (IC.reg r56_1) (IC.cond (.t 5) (IC.seq (IC.reg r56_2) IC.ret) IC.skip)) (IC.seq (IC.regD .wild r56_3 (.take 0 (.take 1 (.take 2 (.take 3 (.take 4 (.take 5 (.take 6 (.take 7 (.take 8 (.take 9 (.done)))))))))))) IC.ret)))
abbrev g56 : FC := ⟨c56, 14, [.t 2, .t 3]⟩
theorem comp56 : compF Go.Proofs.Try.prog (hintL [(3, 6)]) 56 = some g56 := by kernel_rfl

-- (*outlaw/nfa.Nfa).Start
abbrev r58_0 : List IOp := [⟨some 2, .op (.mov), [.c (.nils)], none⟩]
abbrev r58_1 : List IOp := [⟨some 3, .op (.mov), [.t 0], none⟩,
  ⟨some 4, .call none, [.f 110, .t 3], none⟩,
  ⟨some 5, .call none, [.f 109, .t 4], none⟩,
  ⟨some 2, .op (.mov), [.t 5], none⟩]
abbrev c58 : IC := (IC.seq (IC.reg r58_0) (IC.seq (IC.reg r58_1) IC.ret))
abbrev g58 : FC := ⟨c58, 6, [.t 2]⟩
theorem comp58 : compF Go.Proofs.Try.prog (fun _ => 0) 58 = some g58 := by kernel_rfl

-- (*outlaw/outlawref08.Nfa).Start
abbrev r62_0 : List IOp := [⟨some 2, .op (.mov), [.c (.nils)], none⟩]
abbrev r62_1 : List IOp := [⟨some 4, .op (.mov), [.t 0], none⟩,
  ⟨some 5, .op (.nilchk), [.t 4], none⟩,
  ⟨some 6, .op (.faddr 0), [.t 5], none⟩,
  ⟨some 7, .op (.load none), [.t 6], none⟩,
  ⟨some 8, .op (.len .str), [.t 7], none⟩,
  ⟨some 9, .op (.bin .add .prim), [.t 8, .c (.int .i64 1)], none⟩,
  ⟨some 10, .op (.make 4 [.bool false] 1), [.t 9, .t 9], none⟩,
  ⟨some 3, .op (.mov), [.t 10], none⟩]
abbrev r62_2 : List IOp := [⟨some 11, .op (.mov), [.t 3], none⟩,
  ⟨some 12, .op (.iaddr 1), [.t 11, .c (.int .i64 0)], none⟩,
  ⟨none, .op (.store 1), [.t 12, .c (.bool true)], none⟩]
abbrev r62_3 : List IOp := [⟨some 13, .op (.mov), [.t 0], none⟩,
  ⟨some 14, .op (.mov), [.t 3], none⟩,
  ⟨some 15, .call none, [.f 113, .t 13, .t 14], none⟩,
  ⟨some 2, .op (.mov), [.t 15], none⟩]
abbrev c62 : IC := (IC.seq (IC.reg r62_0) (IC.seq (IC.reg r62_1) (IC.seq (IC.reg r62_2) (IC.seq (IC.reg r62_3) IC.ret))))
abbrev g62 : FC := ⟨c62, 16, [.t 2]⟩
theorem comp62 : compF Go.Proofs.Try.prog (fun _ => 0) 62 = some g62 := by kernel_rfl

-- outlaw/outlawkit.Same[int]
abbrev r57_0 : List IOp := [⟨some 4, .op (.mov), [.c (.bool false)], none⟩]
abbrev r57_1 : List IOp := [⟨some 6, .op (.mov), [.t 0], none⟩,
  ⟨some 7, .op (.len .slice), [.t 6], none⟩,
  ⟨some 8, .op (.mov), [.t 1], none⟩,
  ⟨some 9, .op (.len .slice), [.t 8], none⟩,
  ⟨some 10, .op (.bin .neq .prim), [.t 7, .t 9], none⟩]
abbrev r57_2 : List IOp := [⟨some 4, .op (.mov), [.c (.bool false)], none⟩]
abbrev r57_3 : List IOp := [⟨some 5, .op (.mov), [.c (.int .i64 0)], none⟩]
abbrev r57_4 : List IOp := [⟨some 11, .op (.mov), [.t 5], none⟩,
  ⟨some 12, .op (.mov), [.t 0], none⟩,
  ⟨some 13, .op (.len .slice), [.t 12], none⟩,
  ⟨some 14, .op (.bin .lss .prim), [.t 11, .t 13], none⟩]
abbrev r57_5 : List IOp := [⟨some 17, .op (.mov), [.t 0], none⟩,
  ⟨some 18, .op (.mov), [.t 5], none⟩,
  ⟨some 19, .op (.iaddr 1), [.t 17, .t 18], none⟩,
  ⟨some 20, .op (.load none), [.t 19], none⟩,
  ⟨some 21, .op (.mov), [.t 1], none⟩,
  ⟨some 22, .op (.mov), [.t 5], none⟩,
  ⟨some 23, .op (.iaddr 1), [.t 21, .t 22], none⟩,
  ⟨some 24, .op (.load none), [.t 23], none⟩,
  ⟨some 25, .op (.bin .neq .prim), [.t 20, .t 24], none⟩]
abbrev r57_6 : List IOp := [⟨some 4, .op (.mov), [.c (.bool false)], none⟩]
abbrev r57_7 : List IOp := [⟨some 15, .op (.mov), [.t 5], none⟩,
  ⟨some 16, .op (.bin .add .prim), [.t 15, .c (.int .i64 1)], none⟩,
  ⟨some 5, .op (.mov), [.t 16], none⟩]
abbrev b57_0 : IC := (IC.seq (IC.seq (IC.reg r57_4) (IC.cond (.t 14) IC.skip (IC.exit 0))) (IC.seq (IC.block 1 (IC.seq (IC.regD .wild r57_5 (.take 0 (.take 1 (.take 2 (.take 3 (.take 4 (.take 5 (.take 6 (.take 7 (.take 8 (.done))))))))))) (IC.cond (.t 25) (IC.seq (IC.reg r57_6) IC.ret) IC.skip))) (IC.reg r57_7)))
abbrev r57_8 : List IOp := [⟨some 4, .op (.mov), [.c (.bool true)], none⟩]
abbrev c57 : IC := (IC.seq (IC.reg r57_0) (IC.seq (IC.seq (IC.reg r57_1) (IC.cond (.t 10) (IC.seq (IC.reg r57_2) IC.ret) IC.skip)) (IC.seq (IC.seq (IC.reg r57_3) (IC.block 0 (IC.loop b57_0))) (IC.seq (IC.reg r57_8) IC.ret))))
abbrev g57 : FC := ⟨c57, 26, [.t 4]⟩
theorem comp57 : compF Go.Proofs.Try.prog (hintL [(6, 6)]) 57 = some g57 := by kernel_rfl

-- (*outlaw/outlawref08.Nfa).Step
abbrev r63_0 : List IOp := [⟨some 6, .op (.mov), [.c (.nils)], none⟩]
abbrev r63_1 : List IOp := [⟨some 10, .op (.mov), [.t 0], none⟩,
  ⟨some 11, .op (.nilchk), [.t 10], none⟩,
  ⟨some 12, .op (.faddr 0), [.t 11], none⟩,
  ⟨some 13, .op (.load none), [.t 12], none⟩,
  ⟨some 14, .op (.len .str), [.t 13], none⟩,
  ⟨some 15, .op (.bin .add .prim), [.t 14, .c (.int .i64 1)], none⟩,
  ⟨some 16, .op (.make 4 [.bool false] 1), [.t 15, .t 15], none⟩,
  ⟨some 7, .op (.mov), [.t 16], none⟩]
abbrev r63_2 : List IOp := [⟨some 8, .op (.mov), [.c (.int .i64 0)], none⟩]
abbrev r63_3 : List IOp := [⟨some 17, .op (.mov), [.t 8], none⟩,
  ⟨some 18, .op (.mov), [.t 1], none⟩,
  ⟨some 19, .op (.len .slice), [.t 18], none⟩,
  ⟨some 20, .op (.bin .lss .prim), [.t 17, .t 19], none⟩]
abbrev r63_4 : List IOp := [⟨some 23, .op (.mov), [.t 1], none⟩,
  ⟨some 24, .op (.mov), [.t 8], none⟩,
  ⟨some 25, .op (.iaddr 1), [.t 23, .t 24], none⟩,
  ⟨some 26, .op (.load none), [.t 25], none⟩,
  ⟨some 9, .op (.mov), [.t 26], none⟩]
abbrev r63_5 : List IOp := [⟨some 27, .op (.mov), [.t 9], none⟩,
  ⟨some 28, .op (.bin .lss .prim), [.t 27, .c (.int .i64 0)], none⟩,
  ⟨some 29, .op (.mov), [.t 28], none⟩,
  ⟨some 30, .op (.mov), [.t 9], some (29, false)⟩,
  ⟨some 31, .op (.mov), [.t 0], some (29, false)⟩,
  ⟨some 32, .op (.nilchk), [.t 31], some (29, false)⟩,
  ⟨some 33, .op (.faddr 0), [.t 32], some (29, false)⟩,
  ⟨some 34, .op (.load none), [.t 33], some (29, false)⟩,
  ⟨some 35, .op (.len .str), [.t 34], some (29, false)⟩,
  ⟨some 36, .op (.bin .geq .prim), [.t 30, .t 35], some (29, false)⟩,
  ⟨some 37, .op (.pick), [.t 29, .c (.bool true), .t 36], none⟩]
abbrev r63_6 : List IOp := [⟨some 39, .op (.mov), [.t 0], none⟩,
  ⟨some 40, .op (.nilchk), [.t 39], none⟩,
  ⟨some 41, .op (.faddr 0), [.t 40], none⟩,
  ⟨some 42, .op (.load none), [.t 41], none⟩,
  ⟨some 43, .op (.mov), [.t 9], none⟩,
  ⟨some 44, .op (.idxs), [.t 42, .t 43], none⟩,
  ⟨some 45, .op (.bin .eql .prim), [.t 44, .c (.int .u8 42)], none⟩,
  ⟨some 38, .op (.mov), [.t 45], none⟩]
abbrev r63_7 : List IOp := [⟨some 46, .op (.mov), [.t 7], none⟩,
  ⟨some 47, .op (.mov), [.t 9], none⟩,
  ⟨some 48, .op (.iaddr 1), [.t 46, .t 47], none⟩,
  ⟨none, .op (.store 1), [.t 48, .c (.bool true)], none⟩]
abbrev r63_8 : List IOp := [⟨some 50, .op (.mov), [.t 0], none⟩,
  ⟨some 51, .op (.nilchk), [.t 50], none⟩,
  ⟨some 52, .op (.faddr 0), [.t 51], none⟩,
  ⟨some 53, .op (.load none), [.t 52], none⟩,
  ⟨some 54, .op (.mov), [.t 9], none⟩,
  ⟨some 55, .op (.idxs), [.t 53, .t 54], none⟩,
  ⟨some 56, .op (.bin .eql .prim), [.t 55, .c (.int .u8 63)], none⟩,
  ⟨some 57, .op (.mov), [.t 56], none⟩,
  ⟨some 58, .op (.mov), [.t 0], some (57, false)⟩,
  ⟨some 59, .op (.mov), [.t 0], some (57, false)⟩,
  ⟨some 60, .op (.nilchk), [.t 59], some (57, false)⟩,
  ⟨some 61, .op (.faddr 0), [.t 60], some (57, false)⟩,
  ⟨some 62, .op (.load none), [.t 61], some (57, false)⟩,
  ⟨some 63, .op (.mov), [.t 9], some (57, false)⟩,
  ⟨some 64, .op (.idxs), [.t 62, .t 63], some (57, false)⟩,
  ⟨some 65, .op (.mov), [.t 2], some (57, false)⟩,
  ⟨some 66, .call none, [.f 114, .t 58, .t 64, .t 65], some (57, false)⟩,
  ⟨some 67, .op (.pick), [.t 57, .c (.bool true), .t 66], none⟩,
  ⟨some 49, .op (.mov), [.t 67], none⟩]
abbrev r63_9 : List IOp := [⟨some 68, .op (.mov), [.t 7], none⟩,
  ⟨some 69, .op (.mov), [.t 9], none⟩,
  ⟨some 70, .op (.bin .add .prim), [.t 69, .c (.int .i64 1)], none⟩,
  ⟨some 71, .op (.iaddr 1), [.t 68, .t 70], none⟩,
  ⟨none, .op (.store 1), [.t 71, .c (.bool true)], none⟩]
abbrev r63_10 : List IOp := [⟨some 21, .op (.mov), [.t 8], none⟩,
  ⟨some 22, .op (.bin .add .prim), [.t 21, .c (.int .i64 1)], none⟩,
  ⟨some 8, .op (.mov), [.t 22], none⟩]
abbrev b63_0 : IC := (IC.seq (IC.seq (IC.reg r63_3) (IC.cond (.t 20) IC.skip (IC.exit 0))) (IC.seq (IC.block 1 (IC.seq (IC.reg r63_4) (IC.seq (IC.seq (IC.reg r63_5) (IC.cond (.t 37) (IC.exit 1) IC.skip)) (IC.block 2 (IC.seq (IC.reg r63_6) (IC.cond (.t 38) (IC.reg r63_7) (IC.seq (IC.reg r63_8) (IC.cond (.t 49) (IC.reg r63_9) IC.skip)))))))) (IC.reg r63_10)))
abbrev r63_11 : List IOp := [⟨some 72, .op (.mov), [.t 0], none⟩,
  ⟨some 73, .op (.mov), [.t 7], none⟩,
  ⟨some 74, .call none, [.f 113, .t 72, .t 73], none⟩,
  ⟨some 6, .op (.mov), [.t 74], none⟩]
abbrev c63 : IC := (IC.seq (IC.reg r63_0) (IC.seq (IC.reg r63_1) (IC.seq (IC.seq (IC.reg r63_2) (IC.block 0 (IC.loop b63_0))) (IC.seq (IC.reg r63_11) IC.ret))))
abbrev g63 : FC := ⟨c63, 75, [.t 6]⟩
theorem comp63 : compF Go.Proofs.Try.prog (fun _ => 0) 63 = some g63 := by kernel_rfl

-- (*outlaw/outlawref08.Nfa).Accepts
abbrev r64_0 : List IOp := [⟨some 4, .op (.mov), [.c (.bool false)], none⟩]
abbrev r64_1 : List IOp := [⟨some 5, .op (.mov), [.c (.int .i64 0)], none⟩]
abbrev r64_2 : List IOp := [⟨some 6, .op (.mov), [.t 5], none⟩,
  ⟨some 7, .op (.mov), [.t 1], none⟩,
  ⟨some 8, .op (.len .slice), [.t 7], none⟩,
  ⟨some 9, .op (.bin .lss .prim), [.t 6, .t 8], none⟩]
abbrev r64_3 : List IOp := [⟨some 12, .op (.mov), [.t 1], none⟩,
  ⟨some 13, .op (.mov), [.t 5], none⟩,
  ⟨some 14, .op (.iaddr 1), [.t 12, .t 13], none⟩,
  ⟨some 15, .op (.load none), [.t 14], none⟩,
  ⟨some 16, .op (.mov), [.t 0], none⟩,
  ⟨some 17, .op (.nilchk), [.t 16], none⟩,
  ⟨some 18, .op (.faddr 0), [.t 17], none⟩,
  ⟨some 19, .op (.load none), [.t 18], none⟩,
  ⟨some 20, .op (.len .str), [.t 19], none⟩,
  ⟨some 21, .op (.bin .eql .prim), [.t 15, .t 20], none⟩]
abbrev r64_4 : List IOp := [⟨some 4, .op (.mov), [.c (.bool true)], none⟩]
abbrev r64_5 : List IOp := [⟨some 10, .op (.mov), [.t 5], none⟩,
  ⟨some 11, .op (.bin .add .prim), [.t 10, .c (.int .i64 1)], none⟩,
  ⟨some 5, .op (.mov), [.t 11], none⟩]
abbrev b64_0 : IC := (IC.seq (IC.seq (IC.reg r64_2) (IC.cond (.t 9) IC.skip (IC.exit 0))) (IC.seq (IC.block 1 (IC.seq (IC.regD .wild r64_3 (.take 0 (.take 1 (.take 2 (.take 3 (.take 4 (.take 5 (.take 6 (.take 7 (.take 8 (.take 9 (.done)))))))))))) (IC.cond (.t 21) (IC.seq (IC.reg r64_4) IC.ret) IC.skip))) (IC.reg r64_5)))
abbrev r64_6 : List IOp := [⟨some 4, .op (.mov), [.c (.bool false)], none⟩]
abbrev c64 : IC := (IC.seq (IC.reg r64_0) (IC.seq (IC.seq (IC.reg r64_1) (IC.block 0 (IC.loop b64_0))) (IC.seq (IC.reg r64_6) IC.ret)))
abbrev g64 : FC := ⟨c64, 22, [.t 4]⟩
theorem comp64 : compF Go.Proofs.Try.prog (hintL [(4, 6)]) 64 = some g64 := by kernel_rfl

-- (*outlaw/nfa.Nfa).Run
abbrev r59_0 : List IOp := [⟨some 4, .op (.mov), [.c (.bool false)], none⟩]
abbrev r59_1 : List IOp := [⟨some 8, .op (.mov), [.t 0], none⟩,
  ⟨some 9, .op (.mkbound 107), [.t 8], none⟩,
  ⟨some 5, .op (.mov), [.t 9], none⟩]
abbrev r59_2 : List IOp := [⟨some 10, .op (.mov), [.t 0], none⟩,
  ⟨some 11, .call none, [.f 110, .t 10], none⟩,
  ⟨some 6, .op (.mov), [.t 11], none⟩]
abbrev r59_3 : List IOp := [⟨some 12, .op (.mov), [.t 1], none⟩,
  ⟨some 13, .op (.len .str), [.t 12], none⟩,
  ⟨some 14, .op (.mov), [.c (.int .i64 0)], none⟩]
abbrev r59_4 : List IOp := [⟨some 15, .op (.bin .lss .prim), [.t 14, .t 13], none⟩]
abbrev r59_5 : List IOp := [⟨some 16, .op (.mov), [.t 14], none⟩,
  ⟨some 7, .op (.mov), [.t 16], none⟩]
abbrev r59_6 : List IOp := [⟨some 17, .op (.mov), [.t 5], none⟩,
  ⟨some 18, .op (.mov), [.t 6], none⟩,
  ⟨some 19, .op (.mov), [.t 1], none⟩,
  ⟨some 20, .op (.mov), [.t 7], none⟩,
  ⟨some 21, .op (.idxs), [.t 19, .t 20], none⟩,
  ⟨some 22, .call none, [.t 17, .t 18, .t 21], none⟩,
  ⟨some 6, .op (.mov), [.t 22], none⟩]
abbrev r59_7 : List IOp := [⟨some 23, .op (.bin .add .prim), [.t 14, .c (.int .i64 1)], none⟩,
  ⟨some 14, .op (.mov), [.t 23], none⟩]
abbrev b59_0 : IC := (IC.seq (IC.reg r59_4) (IC.seq (IC.cond (.t 15) IC.skip (IC.exit 0)) (IC.seq (IC.block 1 (IC.seq (IC.reg r59_5) (IC.reg r59_6))) (IC.reg r59_7))))
abbrev r59_8 : List IOp := [⟨some 24, .op (.mov), [.t 6], none⟩,
  ⟨some 25, .op (.len .slice), [.t 24], none⟩,
  ⟨some 26, .op (.bin .gtr .prim), [.t 25, .c (.int .i64 0)], none⟩,
  ⟨some 27, .op (.mov), [.t 26], none⟩,
  ⟨some 28, .op (.mov), [.t 6], some (27, true)⟩,
  ⟨some 29, .op (.mov), [.t 6], some (27, true)⟩,
  ⟨some 30, .op (.len .slice), [.t 29], some (27, true)⟩,
  ⟨some 31, .op (.bin .sub .prim), [.t 30, .c (.int .i64 1)], some (27, true)⟩,
  ⟨some 32, .op (.iaddr 1), [.t 28, .t 31], some (27, true)⟩,
  ⟨some 33, .op (.load none), [.t 32], some (27, true)⟩,
  ⟨some 34, .op (.pick), [.t 27, .t 33, .c (.bool false)], none⟩,
  ⟨some 4, .op (.mov), [.t 34], none⟩]
abbrev c59 : IC := (IC.seq (IC.reg r59_0) (IC.seq (IC.reg r59_1) (IC.seq (IC.reg r59_2) (IC.seq (IC.seq (IC.reg r59_3) (IC.block 0 (IC.loop b59_0))) (IC.seq (IC.reg r59_8) IC.ret)))))
abbrev g59 : FC := ⟨c59, 35, [.t 4]⟩
theorem comp59 : compF Go.Proofs.Try.prog (fun _ => 0) 59 = some g59 := by kernel_rfl

-- (*outlaw/outlawref08.Nfa).Run
abbrev r65_0 : List IOp := [⟨some 4, .op (.mov), [.c (.bool false)], none⟩]
abbrev r65_1 : List IOp := [⟨some 7, .op (.mov), [.t 0], none⟩,
  ⟨some 8, .call none, [.f 62, .t 7], none⟩,
  ⟨some 5, .op (.mov), [.t 8], none⟩]
abbrev r65_2 : List IOp := [⟨some 6, .op (.mov), [.c (.int .i64 0)], none⟩]
abbrev r65_3 : List IOp := [⟨some 9, .op (.mov), [.t 6], none⟩,
  ⟨some 10, .op (.mov), [.t 1], none⟩,
  ⟨some 11, .op (.len .str), [.t 10], none⟩,
  ⟨some 12, .op (.bin .lss .prim), [.t 9, .t 11], none⟩]
abbrev r65_4 : List IOp := [⟨some 15, .op (.mov), [.t 0], none⟩,
  ⟨some 16, .op (.mov), [.t 5], none⟩,
  ⟨some 17, .op (.mov), [.t 1], none⟩,
  ⟨some 18, .op (.mov), [.t 6], none⟩,
  ⟨some 19, .op (.idxs), [.t 17, .t 18], none⟩,
  ⟨some 20, .call none, [.f 63, .t 15, .t 16, .t 19], none⟩,
  ⟨some 5, .op (.mov), [.t 20], none⟩]
abbrev r65_5 : List IOp := [⟨some 13, .op (.mov), [.t 6], none⟩,
  ⟨some 14, .op (.bin .add .prim), [.t 13, .c (.int .i64 1)], none⟩,
  ⟨some 6, .op (.mov), [.t 14], none⟩]
abbrev b65_0 : IC := (IC.seq (IC.seq (IC.reg r65_3) (IC.cond (.t 12) IC.skip (IC.exit 0))) (IC.seq (IC.block 1 (IC.reg r65_4)) (IC.reg r65_5)))
abbrev r65_6 : List IOp := [⟨some 21, .op (.mov), [.t 0], none⟩,
  ⟨some 22, .op (.mov), [.t 5], none⟩,
  ⟨some 23, .call none, [.f 64, .t 21, .t 22], none⟩,
  ⟨some 4, .op (.mov), [.t 23], none⟩]
abbrev c65 : IC := (IC.seq (IC.reg r65_0) (IC.seq (IC.reg r65_1) (IC.seq (IC.seq (IC.reg r65_2) (IC.block 0 (IC.loop b65_0))) (IC.seq (IC.reg r65_6) IC.ret))))
abbrev g65 : FC := ⟨c65, 24, [.t 4]⟩
theorem comp65 : compF Go.Proofs.Try.prog (fun _ => 0) 65 = some g65 := by kernel_rfl

-- outlaw/glob.Check
abbrev r66_0 : List IOp := [⟨some 2, .op (.mov), [.c (.int .i64 0)], none⟩]
abbrev r66_1 : List IOp := [⟨some 4, .op (.mov), [.t 0], none⟩,
  ⟨some 5, .op (.bin .eql .prim), [.t 4, .c (.str [])], none⟩,
  ⟨some 3, .op (.mov), [.t 5], none⟩]
abbrev r66_2 : List IOp := [⟨some 2, .op (.mov), [.c (.int .i64 2)], none⟩]
abbrev r66_3 : List IOp := [⟨some 7, .op (.mov), [.t 0], none⟩,
  ⟨some 8, .op (.len .str), [.t 7], none⟩,
  ⟨some 9, .op (.bin .gtr .prim), [.t 8, .c (.int .i64 255)], none⟩,
  ⟨some 6, .op (.mov), [.t 9], none⟩]
abbrev r66_4 : List IOp := [⟨some 2, .op (.mov), [.c (.int .i64 4)], none⟩]
abbrev r66_5 : List IOp := [⟨some 2, .op (.mov), [.c (.int .i64 0)], none⟩]
abbrev c66 : IC := (IC.seq (IC.reg r66_0) (IC.seq (IC.block 0 (IC.seq (IC.reg r66_1) (IC.cond (.t 3) (IC.seq (IC.reg r66_2) IC.ret) (IC.seq (IC.reg r66_3) (IC.cond (.t 6) (IC.seq (IC.reg r66_4) IC.ret) IC.skip))))) (IC.seq (IC.reg r66_5) IC.ret)))
abbrev g66 : FC := ⟨c66, 10, [.t 2]⟩
theorem comp66 : compF Go.Proofs.Try.prog (fun _ => 0) 66 = some g66 := by kernel_rfl

-- outlaw/glob.Match$1
abbrev r68_0 : List IOp := [⟨some 4, .op (.mov), [.c (.bool false)], none⟩]
abbrev r68_1 : List IOp := [⟨some 5, .op (.mov), [.t 0], none⟩,
  ⟨some 6, .op (.mov), [.t 1], none⟩,
  ⟨some 7, .op (.bin .eql .prim), [.t 5, .t 6], none⟩,
  ⟨some 4, .op (.mov), [.t 7], none⟩]
abbrev c68 : IC := (IC.seq (IC.reg r68_0) (IC.seq (IC.reg r68_1) IC.ret))
abbrev g68 : FC := ⟨c68, 8, [.t 4]⟩
theorem comp68 : compF Go.Proofs.Try.prog (fun _ => 0) 68 = some g68 := by kernel_rfl

-- outlaw/glob.Match$2
abbrev r69_0 : List IOp := [⟨some 4, .op (.mov), [.c (.bool false)], none⟩]
abbrev r69_1 : List IOp := [⟨some 5, .op (.mov), [.t 0], none⟩,
  ⟨some 6, .call none, [.f 70, .t 5], none⟩,
  ⟨some 7, .op (.mov), [.t 1], none⟩,
  ⟨some 8, .call none, [.f 70, .t 7], none⟩,
  ⟨some 9, .op (.bin .eql .prim), [.t 6, .t 8], none⟩,
  ⟨some 4, .op (.mov), [.t 9], none⟩]
abbrev c69 : IC := (IC.seq (IC.reg r69_0) (IC.seq (IC.reg r69_1) IC.ret))
abbrev g69 : FC := ⟨c69, 10, [.t 4]⟩
theorem comp69 : compF Go.Proofs.Try.prog (fun _ => 0) 69 = some g69 := by kernel_rfl

-- outlaw/glob.Norm
abbrev r106_0 : List IOp := [⟨some 2, .op (.mov), [.c (.str [])], none⟩]
abbrev r106_1 : List IOp := [⟨some 3, .op (.mov), [.c (.nils)], none⟩]
abbrev r106_2 : List IOp := [⟨some 4, .op (.mov), [.c (.int .i64 0)], none⟩]
abbrev r106_3 : List IOp := [⟨some 7, .op (.mov), [.t 4], none⟩,
  ⟨some 8, .op (.mov), [.t 0], none⟩,
  ⟨some 9, .op (.len .str), [.t 8], none⟩,
  ⟨some 10, .op (.bin .lss .prim), [.t 7, .t 9], none⟩]
abbrev r106_4 : List IOp := [⟨some 11, .op (.mov), [.t 4], none⟩,
  ⟨some 5, .op (.mov), [.t 11], none⟩]
abbrev r106_5 : List IOp := [⟨some 12, .op (.mov), [.t 5], none⟩,
  ⟨some 13, .op (.mov), [.t 0], none⟩,
  ⟨some 14, .op (.len .str), [.t 13], none⟩,
  ⟨some 15, .op (.bin .lss .prim), [.t 12, .t 14], none⟩,
  ⟨some 16, .op (.mov), [.t 15], none⟩,
  ⟨some 17, .op (.mov), [.t 0], some (16, true)⟩,
  ⟨some 18, .op (.mov), [.t 5], some (16, true)⟩,
  ⟨some 19, .op (.idxs), [.t 17, .t 18], some (16, true)⟩,
  ⟨some 20, .op (.bin .eql .prim), [.t 19, .c (.int .u8 42)], some (16, true)⟩,
  ⟨some 21, .op (.mov), [.t 20], some (16, true)⟩,
  ⟨some 22, .op (.mov), [.t 0], some (21, false)⟩,
  ⟨some 23, .op (.mov), [.t 5], some (21, false)⟩,
  ⟨some 24, .op (.idxs), [.t 22, .t 23], some (21, false)⟩,
  ⟨some 25, .op (.bin .eql .prim), [.t 24, .c (.int .u8 63)], some (21, false)⟩,
  ⟨some 26, .op (.pick), [.t 21, .c (.bool true), .t 25], some (16, true)⟩,
  ⟨some 27, .op (.pick), [.t 16, .t 26, .c (.bool false)], none⟩]
abbrev r106_6 : List IOp := [⟨some 28, .op (.mov), [.t 5], none⟩,
  ⟨some 29, .op (.bin .add .prim), [.t 28, .c (.int .i64 1)], none⟩,
  ⟨some 5, .op (.mov), [.t 29], none⟩]
abbrev b106_0 : IC := (IC.seq (IC.seq (IC.reg r106_5) (IC.cond (.t 27) IC.skip (IC.exit 2))) (IC.block 3 (IC.reg r106_6)))
abbrev r106_7 : List IOp := [⟨some 30, .op (.mov), [.t 5], none⟩,
  ⟨some 31, .op (.mov), [.t 4], none⟩,
  ⟨some 32, .op (.bin .eql .prim), [.t 30, .t 31], none⟩]
abbrev r106_8 : List IOp := [⟨some 33, .op (.mov), [.t 3], none⟩,
  ⟨some 34, .op (.mov), [.t 0], none⟩,
  ⟨some 35, .op (.mov), [.t 4], none⟩,
  ⟨some 36, .op (.idxs), [.t 34, .t 35], none⟩,
  ⟨some 37, .op (.bsl 5 1 false), [.t 36], none⟩,
  ⟨some 38, .op (.app 5 1 1), [.t 33, .t 37], none⟩,
  ⟨some 3, .op (.mov), [.t 38], none⟩]
abbrev r106_9 : List IOp := [⟨some 39, .op (.mov), [.t 4], none⟩,
  ⟨some 40, .op (.bin .add .prim), [.t 39, .c (.int .i64 1)], none⟩,
  ⟨some 4, .op (.mov), [.t 40], none⟩]
abbrev r106_10 : List IOp := [⟨some 41, .op (.mov), [.t 0], none⟩,
  ⟨some 42, .op (.mov), [.t 4], none⟩,
  ⟨some 43, .op (.mov), [.t 5], none⟩,
  ⟨some 44, .op (.sslice true true false), [.t 41, .t 42, .t 43], none⟩,
  ⟨some 45, .op (.s2b 5), [.t 44], none⟩,
  ⟨some 46, .op (.bsl 5 1 false), [.c (.int .u8 63)], none⟩,
  ⟨some 47, .op (.cvs), [.t 46], none⟩,
  ⟨some 48, .call none, [.f 124, .t 45, .t 47], none⟩,
  ⟨some 6, .op (.mov), [.t 48], none⟩]
abbrev r106_11 : List IOp := [⟨some 49, .op (.mov), [.t 3], none⟩,
  ⟨some 50, .op (.bsl 5 1 false), [.c (.int .u8 63)], none⟩,
  ⟨some 51, .op (.cvs), [.t 50], none⟩,
  ⟨some 52, .op (.mov), [.t 6], none⟩,
  ⟨some 53, .call none, [.f 125, .t 51, .t 52], none⟩,
  ⟨some 54, .op (.app 5 1 1), [.t 49, .t 53], none⟩,
  ⟨some 3, .op (.mov), [.t 54], none⟩]
abbrev r106_12 : List IOp := [⟨some 55, .op (.mov), [.t 6], none⟩,
  ⟨some 56, .op (.mov), [.t 5], none⟩,
  ⟨some 57, .op (.mov), [.t 4], none⟩,
  ⟨some 58, .op (.bin .sub .prim), [.t 56, .t 57], none⟩,
  ⟨some 59, .op (.bin .lss .prim), [.t 55, .t 58], none⟩]
abbrev r106_13 : List IOp := [⟨some 60, .op (.mov), [.t 3], none⟩,
  ⟨some 61, .op (.bsl 5 1 false), [.c (.int .u8 42)], none⟩,
  ⟨some 62, .op (.app 5 1 1), [.t 60, .t 61], none⟩,
  ⟨some 3, .op (.mov), [.t 62], none⟩]
abbrev r106_14 : List IOp := [⟨some 63, .op (.mov), [.t 5], none⟩,
  ⟨some 4, .op (.mov), [.t 63], none⟩]
abbrev b106_1 : IC := (IC.seq (IC.seq (IC.reg r106_3) (IC.cond (.t 10) IC.skip (IC.exit 0))) (IC.block 1 (IC.seq (IC.reg r106_4) (IC.seq (IC.block 2 (IC.loop b106_0)) (IC.seq (IC.seq (IC.reg r106_7) (IC.cond (.t 32) (IC.seq (IC.reg r106_8) (IC.seq (IC.reg r106_9) (IC.exit 1))) IC.skip)) (IC.seq (IC.reg r106_10) (IC.seq (IC.reg r106_11) (IC.seq (IC.seq (IC.reg r106_12) (IC.cond (.t 59) (IC.reg r106_13) IC.skip)) (IC.reg r106_14)))))))))
abbrev r106_15 : List IOp := [⟨some 64, .op (.mov), [.t 3], none⟩,
  ⟨some 65, .op (.b2s), [.t 64], none⟩,
  ⟨some 2, .op (.mov), [.t 65], none⟩]
abbrev c106 : IC := (IC.seq (IC.reg r106_0) (IC.seq (IC.reg r106_1) (IC.seq (IC.seq (IC.reg r106_2) (IC.block 0 (IC.loop b106_1))) (IC.seq (IC.reg r106_15) IC.ret))))
abbrev g106 : FC := ⟨c106, 66, [.t 2]⟩
theorem comp106 : compF Go.Proofs.Try.prog (fun _ => 0) 106 = some g106 := by kernel_rfl

-- (*outlaw/nfa.Nfa).of
abbrev r108_0 : List IOp := [⟨some 4, .op (.mov), [.c (.nils)], none⟩]
abbrev r108_1 : List IOp := [⟨some 8, .op (.mov), [.t 0], none⟩,
  ⟨some 9, .call none, [.f 54, .t 8], none⟩,
  ⟨some 10, .op (.make 4 [.bool false] 1), [.t 9, .t 9], none⟩,
  ⟨some 5, .op (.mov), [.t 10], none⟩]
abbrev r108_2 : List IOp := [⟨some 11, .op (.mov), [.t 1], none⟩,
  ⟨some 12, .op (.len .slice), [.t 11], none⟩,
  ⟨some 13, .op (.mov), [.c (.int .i64 0)], none⟩]
abbrev r108_3 : List IOp := [⟨some 14, .op (.bin .lss .prim), [.t 13, .t 12], none⟩]
abbrev r108_4 : List IOp := [⟨some 15, .op (.iaddr 1), [.t 11, .t 13], none⟩,
  ⟨some 16, .op (.load none), [.t 15], none⟩,
  ⟨some 7, .op (.mov), [.t 16], none⟩]
abbrev r108_5 : List IOp := [⟨some 17, .op (.mov), [.t 7], none⟩,
  ⟨some 18, .op (.bin .geq .prim), [.t 17, .c (.int .i64 0)], none⟩,
  ⟨some 19, .op (.mov), [.t 18], none⟩,
  ⟨some 20, .op (.mov), [.t 7], some (19, true)⟩,
  ⟨some 21, .op (.mov), [.t 5], some (19, true)⟩,
  ⟨some 22, .op (.len .slice), [.t 21], some (19, true)⟩,
  ⟨some 23, .op (.bin .lss .prim), [.t 20, .t 22], some (19, true)⟩,
  ⟨some 24, .op (.pick), [.t 19, .t 23, .c (.bool false)], none⟩]
abbrev r108_6 : List IOp := [⟨some 25, .op (.mov), [.t 5], none⟩,
  ⟨some 26, .op (.mov), [.t 7], none⟩,
  ⟨some 27, .op (.iaddr 1), [.t 25, .t 26], none⟩,
  ⟨none, .op (.store 1), [.t 27, .c (.bool true)], none⟩]
abbrev r108_7 : List IOp := [⟨some 28, .op (.bin .add .prim), [.t 13, .c (.int .i64 1)], none⟩,
  ⟨some 13, .op (.mov), [.t 28], none⟩]
abbrev b108_0 : IC := (IC.seq (IC.reg r108_3) (IC.seq (IC.cond (.t 14) IC.skip (IC.exit 0)) (IC.seq (IC.block 1 (IC.seq (IC.reg r108_4) (IC.seq (IC.reg r108_5) (IC.cond (.t 24) (IC.reg r108_6) IC.skip)))) (IC.reg r108_7))))
abbrev r108_8 : List IOp := [⟨some 29, .op (.mov), [.t 5], none⟩,
  ⟨some 4, .op (.mov), [.t 29], none⟩]
abbrev c108 : IC := (IC.seq (IC.reg r108_0) (IC.seq (IC.reg r108_1) (IC.seq (IC.seq (IC.reg r108_2) (IC.block 0 (IC.loop b108_0))) (IC.seq (IC.reg r108_8) IC.ret))))
abbrev g108 : FC := ⟨c108, 30, [.t 4]⟩
theorem comp108 : compF Go.Proofs.Try.prog (fun _ => 0) 108 = some g108 := by kernel_rfl

-- (*outlaw/nfa.Nfa).step
abbrev r107_0 : List IOp := [⟨some 3, .op (.box 73), [.t 0], none⟩,
  ⟨some 5, .op (.box 5), [.t 2], none⟩,
  ⟨some 6, .op (.mov), [.c (.nils)], none⟩]
abbrev r107_1 : List IOp := [⟨some 10, .op (.mov), [.t 1], none⟩,
  ⟨some 11, .op (.len .slice), [.t 10], none⟩,
  ⟨some 12, .op (.make 4 [.bool false] 1), [.t 11, .t 11], none⟩,
  ⟨some 7, .op (.alloc 119 [.nils]), [], none⟩,
  ⟨none, .op (.store 1), [.t 7, .t 12], none⟩]
abbrev r107_2 : List IOp := [⟨some 13, .op (.mov), [.t 1], none⟩,
  ⟨some 14, .call none, [.f 126, .t 13], none⟩]
abbrev r107_3 : List IOp := [⟨some 62, .op (.load none), [.t 7], none⟩,
  ⟨some 6, .op (.mov), [.t 62], none⟩]
abbrev r107_4 : List IOp := [⟨some 8, .op (.mov), [.t 15], none⟩]
abbrev r107_5 : List IOp := [⟨some 16, .op (.mov), [.t 8], none⟩,
  ⟨some 17, .op (.load none), [.t 3], none⟩,
  ⟨some 18, .op (.nilchk), [.t 17], none⟩,
  ⟨some 19, .op (.faddr 0), [.t 18], none⟩,
  ⟨some 20, .op (.load none), [.t 19], none⟩,
  ⟨some 21, .op (.len .str), [.t 20], none⟩,
  ⟨some 22, .op (.bin .eql .prim), [.t 16, .t 21], none⟩]
abbrev r107_6 : List IOp := [⟨some 23, .op (.load none), [.t 3], none⟩,
  ⟨some 24, .op (.nilchk), [.t 23], none⟩,
  ⟨some 25, .op (.faddr 0), [.t 24], none⟩,
  ⟨some 26, .op (.load none), [.t 25], none⟩,
  ⟨some 27, .op (.mov), [.t 8], none⟩,
  ⟨some 28, .op (.idxs), [.t 26, .t 27], none⟩,
  ⟨some 9, .op (.mov), [.t 28], none⟩]
abbrev r107_7 : List IOp := [⟨some 30, .op (.mov), [.t 9], none⟩,
  ⟨some 31, .op (.bin .eql .prim), [.t 30, .c (.int .u8 42)], none⟩,
  ⟨some 29, .op (.mov), [.t 31], none⟩]
abbrev r107_8 : List IOp := [⟨some 32, .op (.load none), [.t 3], none⟩,
  ⟨some 33, .op (.load none), [.t 7], none⟩,
  ⟨some 34, .op (.mov), [.t 8], none⟩,
  ⟨some 35, .call none, [.f 127, .t 32, .t 33, .t 34], none⟩]
abbrev r107_9 : List IOp := [⟨some 37, .op (.mov), [.t 9], none⟩,
  ⟨some 38, .op (.bin .eql .prim), [.t 37, .c (.int .u8 63)], none⟩,
  ⟨some 36, .op (.mov), [.t 38], none⟩]
abbrev r107_10 : List IOp := [⟨some 39, .op (.mov), [.t 9], none⟩,
  ⟨some 40, .op (.load none), [.t 5], none⟩,
  ⟨some 41, .op (.bin .eql .prim), [.t 39, .t 40], none⟩,
  ⟨some 36, .op (.mov), [.t 41], none⟩]
abbrev r107_11 : List IOp := [⟨some 42, .op (.load none), [.t 3], none⟩,
  ⟨some 43, .op (.nilchk), [.t 42], none⟩,
  ⟨some 44, .op (.faddr 1), [.t 43], none⟩,
  ⟨some 45, .op (.load none), [.t 44], none⟩,
  ⟨some 46, .op (.mov), [.t 45], none⟩,
  ⟨some 47, .op (.mov), [.t 9], some (46, true)⟩,
  ⟨some 48, .op (.bsl 5 1 true), [.t 47], some (46, true)⟩,
  ⟨some 49, .op (.b2s), [.t 48], some (46, true)⟩,
  ⟨some 50, .call none, [.f 128, .t 49], some (46, true)⟩,
  ⟨some 51, .op (.load none), [.t 5], some (46, true)⟩,
  ⟨some 52, .op (.bsl 5 1 true), [.t 51], some (46, true)⟩,
  ⟨some 53, .op (.b2s), [.t 52], some (46, true)⟩,
  ⟨some 54, .call none, [.f 128, .t 53], some (46, true)⟩,
  ⟨some 55, .op (.bin .eql .prim), [.t 50, .t 54], some (46, true)⟩,
  ⟨some 56, .op (.pick), [.t 46, .t 55, .c (.bool false)], none⟩,
  ⟨some 36, .op (.mov), [.t 56], none⟩]
abbrev r107_12 : List IOp := [⟨some 57, .op (.load none), [.t 3], none⟩,
  ⟨some 58, .op (.load none), [.t 7], none⟩,
  ⟨some 59, .op (.mov), [.t 8], none⟩,
  ⟨some 60, .op (.bin .add .prim), [.t 59, .c (.int .i64 1)], none⟩,
  ⟨some 61, .call none, [.f 127, .t 57, .t 58, .t 60], none⟩]
abbrev c107 : IC := (IC.seq (IC.reg r107_0) (IC.seq (IC.reg r107_1) (IC.seq (IC.seq (IC.reg r107_2) (IC.block 0 (IC.rangeF 107000 63 (.t 14)))) (IC.seq (IC.reg r107_3) IC.ret))))
abbrev g107 : FC := ⟨c107, 63, [.t 6]⟩
theorem comp107 : compF Go.Proofs.Try.prog (hintL [(10, 3), (1000003, 107000), (2000003, 63)]) 107 = some g107 := by kernel_rfl
abbrev li107000 : LI := ⟨63, [15], (IC.reg r107_4), (IC.block 1 (IC.seq (IC.seq (IC.reg r107_5) (IC.cond (.t 22) (IC.exit 0) IC.skip)) (IC.seq (IC.reg r107_6) (IC.block 2 (IC.seq (IC.reg r107_7) (IC.cond (.t 29) (IC.reg r107_8) (IC.seq (IC.seq (IC.reg r107_9) (IC.cond (.t 36) IC.skip (IC.seq (IC.reg r107_10) (IC.cond (.t 36) IC.skip (IC.regD .alloc r107_11 (.take 0 (.take 1 (.take 2 (.take 3 (.take 4 (.take 5 (.take 6 (.take 7 (.take 9 (.take 10 (.take 11 (.take 8 (.take 12 (.take 13 (.take 14 (.take 15 (.done)))))))))))))))))))))) (IC.cond (.t 36) (IC.reg r107_12) IC.skip))))))))⟩
theorem keys107 : KeysF Go.Proofs.Try.prog (hintL [(10, 3), (1000003, 107000), (2000003, 63)]) 107 := keysF_of (by kernel_rfl)
theorem lok107000 : LOk Go.Proofs.Try.prog 107000 li107000 := ⟨hintL [(10, 3), (1000003, 107000), (2000003, 63)], by kernel_rfl, by kernel_rfl, by kernel_rfl, by kernel_rfl, by decide⟩

-- (outlaw/nfa.row).list
abbrev r109_0 : List IOp := [⟨some 2, .op (.mov), [.c (.nils)], none⟩]
abbrev r109_1 : List IOp := [⟨some 3, .op (.alloc 72 [.nils]), [], none⟩]
abbrev r109_2 : List IOp := [⟨some 5, .op (.mov), [.t 0], none⟩,
  ⟨some 6, .call none, [.f 126, .t 5], none⟩]
abbrev r109_3 : List IOp := [⟨some 12, .op (.load none), [.t 3], none⟩,
  ⟨some 2, .op (.mov), [.t 12], none⟩]
abbrev r109_4 : List IOp := [⟨some 4, .op (.mov), [.t 7], none⟩]
abbrev r109_5 : List IOp := [⟨some 8, .op (.load none), [.t 3], none⟩,
  ⟨some 9, .op (.mov), [.t 4], none⟩,
  ⟨some 10, .op (.bsl 3 1 false), [.t 9], none⟩,
  ⟨some 11, .op (.app 3 1 8), [.t 8, .t 10], none⟩,
  ⟨none, .op (.store 1), [.t 3, .t 11], none⟩]
abbrev c109 : IC := (IC.seq (IC.reg r109_0) (IC.seq (IC.reg r109_1) (IC.seq (IC.seq (IC.reg r109_2) (IC.block 0 (IC.rangeF 109000 13 (.t 6)))) (IC.seq (IC.reg r109_3) IC.ret))))
abbrev g109 : FC := ⟨c109, 13, [.t 2]⟩
theorem comp109 : compF Go.Proofs.Try.prog (hintL [(1000003, 109000), (2000003, 13)]) 109 = some g109 := by kernel_rfl
abbrev li109000 : LI := ⟨13, [7], (IC.reg r109_4), (IC.block 1 (IC.reg r109_5))⟩
theorem keys109 : KeysF Go.Proofs.Try.prog (hintL [(1000003, 109000), (2000003, 13)]) 109 := keysF_of (by kernel_rfl)
theorem lok109000 : LOk Go.Proofs.Try.prog 109000 li109000 := ⟨hintL [(1000003, 109000), (2000003, 13)], by kernel_rfl, by kernel_rfl, by kernel_rfl, by kernel_rfl, by decide⟩

-- outlaw/outlawref07.Check
abbrev r111_0 : List IOp := [⟨some 2, .op (.mov), [.c (.int .i64 0)], none⟩]
abbrev r111_1 : List IOp := [⟨some 4, .op (.mov), [.t 0], none⟩,
  ⟨some 5, .op (.bin .eql .prim), [.t 4, .c (.str [])], none⟩,
  ⟨some 3, .op (.mov), [.t 5], none⟩]
abbrev r111_2 : List IOp := [⟨some 2, .op (.mov), [.c (.int .i64 2)], none⟩]
abbrev r111_3 : List IOp := [⟨some 7, .op (.mov), [.t 0], none⟩,
  ⟨some 8, .op (.len .str), [.t 7], none⟩,
  ⟨some 9, .op (.bin .gtr .prim), [.t 8, .c (.int .i64 255)], none⟩,
  ⟨some 6, .op (.mov), [.t 9], none⟩]
abbrev r111_4 : List IOp := [⟨some 2, .op (.mov), [.c (.int .i64 4)], none⟩]
abbrev r111_5 : List IOp := [⟨some 2, .op (.mov), [.c (.int .i64 0)], none⟩]
abbrev c111 : IC := (IC.seq (IC.reg r111_0) (IC.seq (IC.block 0 (IC.seq (IC.reg r111_1) (IC.cond (.t 3) (IC.seq (IC.reg r111_2) IC.ret) (IC.seq (IC.reg r111_3) (IC.cond (.t 6) (IC.seq (IC.reg r111_4) IC.ret) IC.skip))))) (IC.seq (IC.reg r111_5) IC.ret)))
abbrev g111 : FC := ⟨c111, 10, [.t 2]⟩
theorem comp111 : compF Go.Proofs.Try.prog (fun _ => 0) 111 = some g111 := by kernel_rfl

-- outlaw/outlawref07.Norm
abbrev r112_0 : List IOp := [⟨some 2, .op (.mov), [.c (.str [])], none⟩]
abbrev r112_1 : List IOp := [⟨some 3, .op (.mov), [.c (.nils)], none⟩]
abbrev r112_2 : List IOp := [⟨some 4, .op (.mov), [.c (.bool false)], none⟩]
abbrev r112_3 : List IOp := [⟨some 5, .op (.mov), [.c (.int .i64 0)], none⟩]
abbrev r112_4 : List IOp := [⟨some 6, .op (.mov), [.t 5], none⟩,
  ⟨some 7, .op (.mov), [.t 0], none⟩,
  ⟨some 8, .op (.len .str), [.t 7], none⟩,
  ⟨some 9, .op (.bin .leq .prim), [.t 6, .t 8], none⟩]
abbrev r112_5 : List IOp := [⟨some 12, .op (.mov), [.t 4], none⟩,
  ⟨some 13, .op (.mov), [.t 12], none⟩,
  ⟨some 14, .op (.mov), [.t 5], some (13, true)⟩,
  ⟨some 15, .op (.mov), [.t 0], some (13, true)⟩,
  ⟨some 16, .op (.len .str), [.t 15], some (13, true)⟩,
  ⟨some 17, .op (.bin .eql .prim), [.t 14, .t 16], some (13, true)⟩,
  ⟨some 18, .op (.mov), [.t 17], some (13, true)⟩,
  ⟨some 19, .op (.mov), [.t 0], some (18, false)⟩,
  ⟨some 20, .op (.mov), [.t 5], some (18, false)⟩,
  ⟨some 21, .op (.idxs), [.t 19, .t 20], some (18, false)⟩,
  ⟨some 22, .call none, [.f 129, .t 21], some (18, false)⟩,
  ⟨some 23, .op (.un .not), [.t 22], some (18, false)⟩,
  ⟨some 24, .op (.pick), [.t 18, .c (.bool true), .t 23], some (13, true)⟩,
  ⟨some 25, .op (.pick), [.t 13, .t 24, .c (.bool false)], none⟩]
abbrev r112_6 : List IOp := [⟨some 26, .op (.mov), [.t 3], none⟩,
  ⟨some 27, .op (.bsl 5 1 false), [.c (.int .u8 42)], none⟩,
  ⟨some 28, .op (.app 5 1 1), [.t 26, .t 27], none⟩,
  ⟨some 3, .op (.mov), [.t 28], none⟩,
  ⟨some 4, .op (.mov), [.c (.bool false)], none⟩]
abbrev r112_7 : List IOp := [⟨some 29, .op (.mov), [.t 5], none⟩,
  ⟨some 30, .op (.mov), [.t 0], none⟩,
  ⟨some 31, .op (.len .str), [.t 30], none⟩,
  ⟨some 32, .op (.bin .lss .prim), [.t 29, .t 31], none⟩,
  ⟨some 33, .op (.mov), [.t 32], none⟩,
  ⟨some 34, .op (.mov), [.t 0], some (33, true)⟩,
  ⟨some 35, .op (.mov), [.t 5], some (33, true)⟩,
  ⟨some 36, .op (.idxs), [.t 34, .t 35], some (33, true)⟩,
  ⟨some 37, .op (.bin .eql .prim), [.t 36, .c (.int .u8 42)], some (33, true)⟩,
  ⟨some 38, .op (.pick), [.t 33, .t 37, .c (.bool false)], none⟩]
abbrev r112_8 : List IOp := [⟨some 4, .op (.mov), [.c (.bool true)], none⟩]
abbrev r112_9 : List IOp := [⟨some 39, .op (.mov), [.t 5], none⟩,
  ⟨some 40, .op (.mov), [.t 0], none⟩,
  ⟨some 41, .op (.len .str), [.t 40], none⟩,
  ⟨some 42, .op (.bin .lss .prim), [.t 39, .t 41], none⟩]
abbrev r112_10 : List IOp := [⟨some 43, .op (.mov), [.t 3], none⟩,
  ⟨some 44, .op (.mov), [.t 0], none⟩,
  ⟨some 45, .op (.mov), [.t 5], none⟩,
  ⟨some 46, .op (.idxs), [.t 44, .t 45], none⟩,
  ⟨some 47, .op (.bsl 5 1 false), [.t 46], none⟩,
  ⟨some 48, .op (.app 5 1 1), [.t 43, .t 47], none⟩,
  ⟨some 3, .op (.mov), [.t 48], none⟩]
abbrev r112_11 : List IOp := [⟨some 10, .op (.mov), [.t 5], none⟩,
  ⟨some 11, .op (.bin .add .prim), [.t 10, .c (.int .i64 1)], none⟩,
  ⟨some 5, .op (.mov), [.t 11], none⟩]
abbrev b112_0 : IC := (IC.seq (IC.seq (IC.reg r112_4) (IC.cond (.t 9) IC.skip (IC.exit 0))) (IC.seq (IC.block 1 (IC.seq (IC.seq (IC.reg r112_5) (IC.cond (.t 25) (IC.reg r112_6) IC.skip)) (IC.seq (IC.reg r112_7) (IC.cond (.t 38) (IC.reg r112_8) (IC.seq (IC.reg r112_9) (IC.cond (.t 42) (IC.reg r112_10) IC.skip)))))) (IC.reg r112_11)))
abbrev r112_12 : List IOp := [⟨some 49, .op (.mov), [.t 3], none⟩,
  ⟨some 50, .op (.b2s), [.t 49], none⟩,
  ⟨some 2, .op (.mov), [.t 50], none⟩]
abbrev c112 : IC := (IC.seq (IC.reg r112_0) (IC.seq (IC.reg r112_1) (IC.seq (IC.reg r112_2) (IC.seq (IC.seq (IC.reg r112_3) (IC.block 0 (IC.loop b112_0))) (IC.seq (IC.reg r112_12) IC.ret)))))
abbrev g112 : FC := ⟨c112, 51, [.t 2]⟩
theorem comp112 : compF Go.Proofs.Try.prog (fun _ => 0) 112 = some g112 := by kernel_rfl

-- (*outlaw/nfa.Nfa).start
abbrev r110_0 : List IOp := [⟨some 2, .op (.mov), [.c (.nils)], none⟩]
abbrev r110_1 : List IOp := [⟨some 4, .op (.mov), [.t 0], none⟩,
  ⟨some 5, .call none, [.f 54, .t 4], none⟩,
  ⟨some 6, .op (.make 4 [.bool false] 1), [.t 5, .t 5], none⟩,
  ⟨some 3, .op (.mov), [.t 6], none⟩]
abbrev r110_2 : List IOp := [⟨some 7, .op (.mov), [.t 3], none⟩,
  ⟨some 8, .op (.len .slice), [.t 7], none⟩,
  ⟨some 9, .op (.bin .gtr .prim), [.t 8, .c (.int .i64 0)], none⟩]
abbrev r110_3 : List IOp := [⟨some 10, .op (.mov), [.t 0], none⟩,
  ⟨some 11, .op (.mov), [.t 3], none⟩,
  ⟨some 12, .call none, [.f 127, .t 10, .t 11, .c (.int .i64 0)], none⟩]
abbrev r110_4 : List IOp := [⟨some 13, .op (.mov), [.t 3], none⟩,
  ⟨some 2, .op (.mov), [.t 13], none⟩]
abbrev c110 : IC := (IC.seq (IC.reg r110_0) (IC.seq (IC.reg r110_1) (IC.seq (IC.seq (IC.reg r110_2) (IC.cond (.t 9) (IC.reg r110_3) IC.skip)) (IC.seq (IC.reg r110_4) IC.ret))))
abbrev g110 : FC := ⟨c110, 14, [.t 2]⟩
theorem comp110 : compF Go.Proofs.Try.prog (fun _ => 0) 110 = some g110 := by kernel_rfl

-- (*outlaw/outlawref08.Nfa).on
abbrev r113_0 : List IOp := [⟨some 4, .op (.mov), [.c (.nils)], none⟩]
abbrev r113_1 : List IOp := [⟨some 5, .op (.mov), [.c (.nils)], none⟩]
abbrev r113_2 : List IOp := [⟨some 6, .op (.mov), [.c (.int .i64 0)], none⟩]
abbrev r113_3 : List IOp := [⟨some 7, .op (.mov), [.t 6], none⟩,
  ⟨some 8, .op (.mov), [.t 1], none⟩,
  ⟨some 9, .op (.len .slice), [.t 8], none⟩,
  ⟨some 10, .op (.bin .lss .prim), [.t 7, .t 9], none⟩]
abbrev r113_4 : List IOp := [⟨some 13, .op (.mov), [.t 1], none⟩,
  ⟨some 14, .op (.mov), [.t 6], none⟩,
  ⟨some 15, .op (.iaddr 1), [.t 13, .t 14], none⟩,
  ⟨some 16, .op (.load none), [.t 15], none⟩,
  ⟨some 17, .op (.un .not), [.t 16], none⟩]
abbrev r113_5 : List IOp := [⟨some 18, .op (.mov), [.t 5], none⟩,
  ⟨some 19, .op (.mov), [.t 6], none⟩,
  ⟨some 20, .op (.bsl 3 1 false), [.t 19], none⟩,
  ⟨some 21, .op (.app 3 1 8), [.t 18, .t 20], none⟩,
  ⟨some 5, .op (.mov), [.t 21], none⟩]
abbrev r113_6 : List IOp := [⟨some 22, .op (.mov), [.t 6], none⟩,
  ⟨some 23, .op (.mov), [.t 0], none⟩,
  ⟨some 24, .op (.nilchk), [.t 23], none⟩,
  ⟨some 25, .op (.faddr 0), [.t 24], none⟩,
  ⟨some 26, .op (.load none), [.t 25], none⟩,
  ⟨some 27, .op (.len .str), [.t 26], none⟩,
  ⟨some 28, .op (.bin .lss .prim), [.t 22, .t 27], none⟩,
  ⟨some 29, .op (.mov), [.t 28], none⟩,
  ⟨some 30, .op (.mov), [.t 0], some (29, true)⟩,
  ⟨some 31, .op (.nilchk), [.t 30], some (29, true)⟩,
  ⟨some 32, .op (.faddr 0), [.t 31], some (29, true)⟩,
  ⟨some 33, .op (.load none), [.t 32], some (29, true)⟩,
  ⟨some 34, .op (.mov), [.t 6], some (29, true)⟩,
  ⟨some 35, .op (.idxs), [.t 33, .t 34], some (29, true)⟩,
  ⟨some 36, .op (.bin .eql .prim), [.t 35, .c (.int .u8 42)], some (29, true)⟩,
  ⟨some 37, .op (.pick), [.t 29, .t 36, .c (.bool false)], none⟩]
abbrev r113_7 : List IOp := [⟨some 38, .op (.mov), [.t 1], none⟩,
  ⟨some 39, .op (.mov), [.t 6], none⟩,
  ⟨some 40, .op (.bin .add .prim), [.t 39, .c (.int .i64 1)], none⟩,
  ⟨some 41, .op (.iaddr 1), [.t 38, .t 40], none⟩,
  ⟨none, .op (.store 1), [.t 41, .c (.bool true)], none⟩]
abbrev r113_8 : List IOp := [⟨some 11, .op (.mov), [.t 6], none⟩,
  ⟨some 12, .op (.bin .add .prim), [.t 11, .c (.int .i64 1)], none⟩,
  ⟨some 6, .op (.mov), [.t 12], none⟩]
abbrev b113_0 : IC := (IC.seq (IC.seq (IC.reg r113_3) (IC.cond (.t 10) IC.skip (IC.exit 0))) (IC.seq (IC.block 1 (IC.seq (IC.seq (IC.reg r113_4) (IC.cond (.t 17) (IC.exit 1) IC.skip)) (IC.seq (IC.reg r113_5) (IC.seq (IC.reg r113_6) (IC.cond (.t 37) (IC.reg r113_7) IC.skip))))) (IC.reg r113_8)))
abbrev r113_9 : List IOp := [⟨some 42, .op (.mov), [.t 5], none⟩,
  ⟨some 4, .op (.mov), [.t 42], none⟩]
abbrev c113 : IC := (IC.seq (IC.reg r113_0) (IC.seq (IC.reg r113_1) (IC.seq (IC.seq (IC.reg r113_2) (IC.block 0 (IC.loop b113_0))) (IC.seq (IC.reg r113_9) IC.ret))))
abbrev g113 : FC := ⟨c113, 43, [.t 4]⟩
theorem comp113 : compF Go.Proofs.Try.prog (fun _ => 0) 113 = some g113 := by kernel_rfl

-- (*outlaw/outlawref08.Nfa).same
abbrev r114_0 : List IOp := [⟨some 6, .op (.mov), [.c (.bool false)], none⟩]
abbrev r114_1 : List IOp := [⟨some 9, .op (.mov), [.t 1], none⟩,
  ⟨some 10, .op (.bsl 5 1 true), [.t 9], none⟩,
  ⟨some 11, .op (.b2s), [.t 10], none⟩,
  ⟨some 12, .op (.mov), [.t 2], none⟩,
  ⟨some 13, .op (.bsl 5 1 true), [.t 12], none⟩,
  ⟨some 14, .op (.b2s), [.t 13], none⟩,
  ⟨some 7, .op (.mov), [.t 11], none⟩,
  ⟨some 8, .op (.mov), [.t 14], none⟩]
abbrev r114_2 : List IOp := [⟨some 15, .op (.mov), [.t 7], none⟩,
  ⟨some 16, .op (.mov), [.t 8], none⟩,
  ⟨some 17, .op (.bin .eql .prim), [.t 15, .t 16], none⟩,
  ⟨some 18, .op (.mov), [.t 17], none⟩,
  ⟨some 19, .op (.mov), [.t 0], some (18, false)⟩,
  ⟨some 20, .op (.nilchk), [.t 19], some (18, false)⟩,
  ⟨some 21, .op (.faddr 1), [.t 20], some (18, false)⟩,
  ⟨some 22, .op (.load none), [.t 21], some (18, false)⟩,
  ⟨some 23, .op (.mov), [.t 22], some (18, false)⟩,
  ⟨some 24, .op (.mov), [.t 7], some (23, true)⟩,
  ⟨some 25, .call none, [.f 130, .t 24], some (23, true)⟩,
  ⟨some 26, .op (.mov), [.t 8], some (23, true)⟩,
  ⟨some 27, .call none, [.f 130, .t 26], some (23, true)⟩,
  ⟨some 28, .op (.bin .eql .prim), [.t 25, .t 27], some (23, true)⟩,
  ⟨some 29, .op (.pick), [.t 23, .t 28, .c (.bool false)], some (18, false)⟩,
  ⟨some 30, .op (.pick), [.t 18, .c (.bool true), .t 29], none⟩,
  ⟨some 6, .op (.mov), [.t 30], none⟩]
abbrev c114 : IC := (IC.seq (IC.reg r114_0) (IC.seq (IC.regD .wild r114_1 (.take 0 (.take 1 (.take 2 (.take 3 (.take 4 (.take 5 (.take 6 (.take 7 (.done)))))))))) (IC.seq (IC.reg r114_2) IC.ret)))
abbrev g114 : FC := ⟨c114, 31, [.t 6]⟩
theorem comp114 : compF Go.Proofs.Try.prog (hintL [(1, 2)]) 114 = some g114 := by kernel_rfl

-- outlaw/glob.fold
abbrev r70_0 : List IOp := [⟨some 2, .op (.mov), [.c (.int .u8 0)], none⟩]
abbrev r70_1 : List IOp := [⟨some 3, .op (.mov), [.t 0], none⟩,
  ⟨some 4, .op (.bin .geq .prim), [.t 3, .c (.int .u8 65)], none⟩,
  ⟨some 5, .op (.mov), [.t 4], none⟩,
  ⟨some 6, .op (.mov), [.t 0], some (5, true)⟩,
  ⟨some 7, .op (.bin .leq .prim), [.t 6, .c (.int .u8 90)], some (5, true)⟩,
  ⟨some 8, .op (.pick), [.t 5, .t 7, .c (.bool false)], none⟩]
abbrev r70_2 : List IOp := [⟨some 9, .op (.mov), [.t 0], none⟩,
  ⟨some 10, .op (.bin .add .prim), [.t 9, .c (.int .u8 32)], none⟩,
  ⟨some 2, .op (.mov), [.t 10], none⟩]
abbrev r70_3 : List IOp := [⟨some 11, .op (.mov), [.t 0], none⟩,
  ⟨some 2, .op (.mov), [.t 11], none⟩]
abbrev c70 : IC := (IC.seq (IC.reg r70_0) (IC.seq (IC.seq (IC.reg r70_1) (IC.cond (.t 8) (IC.seq (IC.reg r70_2) IC.ret) IC.skip)) (IC.seq (IC.reg r70_3) IC.ret)))
abbrev g70 : FC := ⟨c70, 12, [.t 2]⟩
theorem comp70 : compF Go.Proofs.Try.prog (fun _ => 0) 70 = some g70 := by kernel_rfl

-- bytes.Count
abbrev r124_0 : List IOp := [⟨some 4, .op (.mov), [.c (.int .i64 0)], none⟩]
abbrev r124_1 : List IOp := [⟨some 7, .op (.mov), [.t 1], none⟩,
  ⟨some 8, .op (.len .slice), [.t 7], none⟩,
  ⟨some 9, .op (.bin .eql .prim), [.t 8, .c (.int .i64 0)], none⟩]
abbrev r124_2 : List IOp := [⟨some 10, .op (.mov), [.t 0], none⟩,
  ⟨some 11, .call none, [.f 132, .t 10], none⟩,
  ⟨some 12, .op (.bin .add .prim), [.t 11, .c (.int .i64 1)], none⟩,
  ⟨some 4, .op (.mov), [.t 12], none⟩]
abbrev r124_3 : List IOp := [⟨some 13, .op (.mov), [.t 1], none⟩,
  ⟨some 14, .op (.len .slice), [.t 13], none⟩,
  ⟨some 15, .op (.bin .eql .prim), [.t 14, .c (.int .i64 1)], none⟩]
abbrev r124_4 : List IOp := [⟨some 16, .op (.mov), [.t 0], none⟩,
  ⟨some 17, .op (.mov), [.t 1], none⟩,
  ⟨some 18, .op (.iaddr 1), [.t 17, .c (.int .i64 0)], none⟩,
  ⟨some 19, .op (.load none), [.t 18], none⟩,
  ⟨some 20, .call none, [.f 133, .t 16, .t 19], none⟩,
  ⟨some 4, .op (.mov), [.t 20], none⟩]
abbrev r124_5 : List IOp := [⟨some 5, .op (.mov), [.c (.int .i64 0)], none⟩]
abbrev r124_6 : List IOp := [⟨some 21, .op (.mov), [.t 0], none⟩,
  ⟨some 22, .op (.mov), [.t 1], none⟩,
  ⟨some 23, .call none, [.f 134, .t 21, .t 22], none⟩,
  ⟨some 6, .op (.mov), [.t 23], none⟩]
abbrev r124_7 : List IOp := [⟨some 24, .op (.mov), [.t 6], none⟩,
  ⟨some 25, .op (.bin .eql .prim), [.t 24, .c (.int .i64 (-1))], none⟩]
abbrev r124_8 : List IOp := [⟨some 26, .op (.mov), [.t 5], none⟩,
  ⟨some 4, .op (.mov), [.t 26], none⟩]
abbrev r124_9 : List IOp := [⟨some 27, .op (.mov), [.t 5], none⟩,
  ⟨some 28, .op (.bin .add .prim), [.t 27, .c (.int .i64 1)], none⟩,
  ⟨some 5, .op (.mov), [.t 28], none⟩]
abbrev r124_10 : List IOp := [⟨some 29, .op (.mov), [.t 0], none⟩,
  ⟨some 30, .op (.mov), [.t 6], none⟩,
  ⟨some 31, .op (.mov), [.t 1], none⟩,
  ⟨some 32, .op (.len .slice), [.t 31], none⟩,
  ⟨some 33, .op (.bin .add .prim), [.t 30, .t 32], none⟩,
  ⟨some 34, .op (.slice 1 true false false), [.t 29, .t 33], none⟩,
  ⟨some 0, .op (.mov), [.t 34], none⟩]
abbrev b124_0 : IC := (IC.block 1 (IC.seq (IC.reg r124_6) (IC.seq (IC.seq (IC.reg r124_7) (IC.cond (.t 25) (IC.seq (IC.reg r124_8) IC.ret) IC.skip)) (IC.seq (IC.reg r124_9) (IC.reg r124_10)))))
abbrev c124 : IC := (IC.seq (IC.reg r124_0) (IC.seq (IC.seq (IC.reg r124_1) (IC.cond (.t 9) (IC.seq (IC.reg r124_2) IC.ret) IC.skip)) (IC.seq (IC.seq (IC.reg r124_3) (IC.cond (.t 15) (IC.seq (IC.reg r124_4) IC.ret) IC.skip)) (IC.seq (IC.reg r124_5) (IC.block 0 (IC.loop b124_0))))))
abbrev g124 : FC := ⟨c124, 35, [.t 4]⟩
theorem comp124 : compF Go.Proofs.Try.prog (fun _ => 0) 124 = some g124 := by kernel_rfl

-- bytes.Repeat
abbrev r125_0 : List IOp := [⟨some 4, .op (.mov), [.c (.nils)], none⟩]
abbrev r125_1 : List IOp := [⟨some 12, .op (.mov), [.t 1], none⟩,
  ⟨some 13, .op (.bin .eql .prim), [.t 12, .c (.int .i64 0)], none⟩]
abbrev r125_2 : List IOp := [⟨some 14, .op (.bsl 5 1 false), [], none⟩,
  ⟨some 4, .op (.mov), [.t 14], none⟩]
abbrev r125_3 : List IOp := [⟨some 15, .op (.mov), [.t 1], none⟩,
  ⟨some 16, .op (.bin .lss .prim), [.t 15, .c (.int .i64 0)], none⟩]
abbrev r125_4 : List IOp := [⟨some 17, .op (.mkif 9), [.c (.str [98, 121, 116, 101, 115, 58, 32, 110, 101, 103, 97, 116, 105, 118, 101, 32, 82, 101, 112, 101, 97, 116, 32, 99, 111, 117, 110, 116])], none⟩,
  ⟨none, .op (.never), [], none⟩]
abbrev r125_5 : List IOp := [⟨some 19, .op (.mov), [.t 0], none⟩,
  ⟨some 20, .op (.len .slice), [.t 19], none⟩,
  ⟨some 21, .op (.toInt .u64), [.t 20], none⟩,
  ⟨some 22, .op (.mov), [.t 1], none⟩,
  ⟨some 23, .op (.toInt .u64), [.t 22], none⟩,
  ⟨some 24, .call none, [.f 135, .t 21, .t 23], none⟩,
  ⟨some 18, .op (.mov), [.t 24], none⟩,
  ⟨some 25, .op (.extract 0), [.t 18], none⟩,
  ⟨some 26, .op (.extract 1), [.t 18], none⟩,
  ⟨some 5, .op (.mov), [.t 25], none⟩,
  ⟨some 6, .op (.mov), [.t 26], none⟩]
abbrev r125_6 : List IOp := [⟨some 27, .op (.mov), [.t 5], none⟩,
  ⟨some 28, .op (.bin .gtr .prim), [.t 27, .c (.int .u64 0)], none⟩,
  ⟨some 29, .op (.mov), [.t 28], none⟩,
  ⟨some 30, .op (.mov), [.t 6], some (29, false)⟩,
  ⟨some 31, .op (.bin .gtr .prim), [.t 30, .c (.int .u64 9223372036854775807)], some (29, false)⟩,
  ⟨some 32, .op (.pick), [.t 29, .c (.bool true), .t 31], none⟩]
abbrev r125_7 : List IOp := [⟨some 33, .op (.mkif 9), [.c (.str [98, 121, 116, 101, 115, 58, 32, 82, 101, 112, 101, 97, 116, 32, 111, 117, 116, 112, 117, 116, 32, 108, 101, 110, 103, 116, 104, 32, 111, 118, 101, 114, 102, 108, 111, 119])], none⟩,
  ⟨none, .op (.never), [], none⟩]
abbrev r125_8 : List IOp := [⟨some 34, .op (.mov), [.t 6], none⟩,
  ⟨some 35, .op (.toInt .i64), [.t 34], none⟩,
  ⟨some 7, .op (.mov), [.t 35], none⟩]
abbrev r125_9 : List IOp := [⟨some 36, .op (.mov), [.t 0], none⟩,
  ⟨some 37, .op (.len .slice), [.t 36], none⟩,
  ⟨some 38, .op (.bin .eql .prim), [.t 37, .c (.int .i64 0)], none⟩]
abbrev r125_10 : List IOp := [⟨some 39, .op (.bsl 5 1 false), [], none⟩,
  ⟨some 4, .op (.mov), [.t 39], none⟩]
abbrev r125_11 : List IOp := [⟨some 40, .op (.mov), [.t 7], none⟩,
  ⟨some 8, .op (.mov), [.t 40], none⟩]
abbrev r125_12 : List IOp := [⟨some 41, .op (.mov), [.t 8], none⟩,
  ⟨some 42, .op (.bin .gtr .prim), [.t 41, .c (.int .i64 8192)], none⟩]
abbrev r125_13 : List IOp := [⟨some 43, .op (.mov), [.t 0], none⟩,
  ⟨some 44, .op (.len .slice), [.t 43], none⟩,
  ⟨some 45, .op (.bin .quo .prim), [.c (.int .i64 8192), .t 44], none⟩,
  ⟨some 46, .op (.mov), [.t 0], none⟩,
  ⟨some 47, .op (.len .slice), [.t 46], none⟩,
  ⟨some 48, .op (.bin .mul .prim), [.t 45, .t 47], none⟩,
  ⟨some 8, .op (.mov), [.t 48], none⟩]
abbrev r125_14 : List IOp := [⟨some 49, .op (.mov), [.t 8], none⟩,
  ⟨some 50, .op (.bin .eql .prim), [.t 49, .c (.int .i64 0)], none⟩]
abbrev r125_15 : List IOp := [⟨some 51, .op (.mov), [.t 0], none⟩,
  ⟨some 52, .op (.len .slice), [.t 51], none⟩,
  ⟨some 8, .op (.mov), [.t 52], none⟩]
abbrev r125_16 : List IOp := [⟨some 53, .op (.mov), [.t 7], none⟩,
  ⟨some 54, .call none, [.f 136, .t 53], none⟩,
  ⟨some 55, .op (.mov), [.t 7], none⟩,
  ⟨some 56, .op (.mov), [.t 7], none⟩,
  ⟨some 57, .op (.slice 1 false true true), [.t 54, .t 55, .t 56], none⟩,
  ⟨some 9, .op (.mov), [.t 57], none⟩]
abbrev r125_17 : List IOp := [⟨some 58, .op (.mov), [.t 9], none⟩,
  ⟨some 59, .op (.mov), [.t 0], none⟩,
  ⟨some 60, .op (.cpy 1), [.t 58, .t 59], none⟩,
  ⟨some 10, .op (.mov), [.t 60], none⟩]
abbrev r125_18 : List IOp := [⟨some 61, .op (.mov), [.t 10], none⟩,
  ⟨some 62, .op (.mov), [.t 7], none⟩,
  ⟨some 63, .op (.bin .lss .prim), [.t 61, .t 62], none⟩]
abbrev r125_19 : List IOp := [⟨some 64, .op (.mov), [.t 10], none⟩,
  ⟨some 65, .op (.mov), [.t 8], none⟩,
  ⟨some 66, .op (.min), [.t 64, .t 65], none⟩,
  ⟨some 11, .op (.mov), [.t 66], none⟩]
abbrev r125_20 : List IOp := [⟨some 67, .op (.mov), [.t 10], none⟩,
  ⟨some 68, .op (.mov), [.t 9], none⟩,
  ⟨some 69, .op (.mov), [.t 10], none⟩,
  ⟨some 70, .op (.slice 1 true false false), [.t 68, .t 69], none⟩,
  ⟨some 71, .op (.mov), [.t 9], none⟩,
  ⟨some 72, .op (.mov), [.t 11], none⟩,
  ⟨some 73, .op (.slice 1 false true false), [.t 71, .t 72], none⟩,
  ⟨some 74, .op (.cpy 1), [.t 70, .t 73], none⟩,
  ⟨some 75, .op (.bin .add .prim), [.t 67, .t 74], none⟩,
  ⟨some 10, .op (.mov), [.t 75], none⟩]
abbrev b125_0 : IC := (IC.seq (IC.seq (IC.reg r125_18) (IC.cond (.t 63) IC.skip (IC.exit 0))) (IC.block 1 (IC.seq (IC.reg r125_19) (IC.regD .wild r125_20 (.take 0 (.take 1 (.take 2 (.take 3 (.take 4 (.take 5 (.take 6 (.take 7 (.take 8 (.take 9 (.done)))))))))))))))
abbrev r125_21 : List IOp := [⟨some 76, .op (.mov), [.t 9], none⟩,
  ⟨some 4, .op (.mov), [.t 76], none⟩]
abbrev c125 : IC := (IC.seq (IC.reg r125_0) (IC.seq (IC.seq (IC.reg r125_1) (IC.cond (.t 13) (IC.seq (IC.reg r125_2) IC.ret) IC.skip)) (IC.seq (IC.seq (IC.reg r125_3) (IC.cond (.t 16) (IC.reg r125_4) IC.skip)) (IC.seq (IC.reg r125_5) (IC.seq (IC.seq (IC.reg r125_6) (IC.cond (.t 32) (IC.reg r125_7) IC.skip)) (IC.seq (IC.reg r125_8) (IC.seq (IC.seq (IC.reg r125_9) (IC.cond (.t 38) (IC.seq (IC.reg r125_10) IC.ret) IC.skip)) (IC.seq (IC.reg r125_11) (IC.seq (IC.seq (IC.reg r125_12) (IC.cond (.t 42) (IC.seq (IC.reg r125_13) (IC.seq (IC.reg r125_14) (IC.cond (.t 50) (IC.reg r125_15) IC.skip))) IC.skip)) (IC.seq (IC.reg r125_16) (IC.seq (IC.reg r125_17) (IC.seq (IC.block 0 (IC.loop b125_0)) (IC.seq (IC.reg r125_21) IC.ret)))))))))))))
abbrev g125 : FC := ⟨c125, 77, [.t 4]⟩
theorem comp125 : compF Go.Proofs.Try.prog (hintL [(20, 6)]) 125 = some g125 := by kernel_rfl

-- (outlaw/nfa.row).all
abbrev r126_0 : List IOp := [⟨some 1, .op (.box 119), [.t 0], none⟩,
  ⟨some 2, .op (.mov), [.c (.nilf)], none⟩]
abbrev r126_1 : List IOp := [⟨some 3, .op (.mkfn 137), [.t 1], none⟩,
  ⟨some 2, .op (.mov), [.t 3], none⟩]
abbrev c126 : IC := (IC.seq (IC.reg r126_0) (IC.seq (IC.reg r126_1) IC.ret))
abbrev g126 : FC := ⟨c126, 4, [.t 2]⟩
theorem comp126 : compF Go.Proofs.Try.prog (fun _ => 0) 126 = some g126 := by kernel_rfl

-- (*outlaw/nfa.Nfa).come
abbrev r127_0 : List IOp := [⟨some 6, .op (.mov), [.t 1], none⟩,
  ⟨some 7, .op (.mov), [.t 2], none⟩,
  ⟨some 8, .op (.iaddr 1), [.t 6, .t 7], none⟩,
  ⟨none, .op (.store 1), [.t 8, .c (.bool true)], none⟩]
abbrev r127_1 : List IOp := [⟨some 9, .op (.mov), [.t 2], none⟩,
  ⟨some 10, .op (.mov), [.t 0], none⟩,
  ⟨some 11, .op (.nilchk), [.t 10], none⟩,
  ⟨some 12, .op (.faddr 0), [.t 11], none⟩,
  ⟨some 13, .op (.load none), [.t 12], none⟩,
  ⟨some 14, .op (.len .str), [.t 13], none⟩,
  ⟨some 15, .op (.bin .lss .prim), [.t 9, .t 14], none⟩,
  ⟨some 16, .op (.mov), [.t 15], none⟩,
  ⟨some 17, .op (.mov), [.t 0], some (16, true)⟩,
  ⟨some 18, .op (.nilchk), [.t 17], some (16, true)⟩,
  ⟨some 19, .op (.faddr 0), [.t 18], some (16, true)⟩,
  ⟨some 20, .op (.load none), [.t 19], some (16, true)⟩,
  ⟨some 21, .op (.mov), [.t 2], some (16, true)⟩,
  ⟨some 22, .op (.idxs), [.t 20, .t 21], some (16, true)⟩,
  ⟨some 23, .op (.bin .eql .prim), [.t 22, .c (.int .u8 42)], some (16, true)⟩,
  ⟨some 24, .op (.pick), [.t 16, .t 23, .c (.bool false)], none⟩]
abbrev r127_2 : List IOp := [⟨some 28, .op (.mov), [.t 2], none⟩,
  ⟨some 29, .op (.bin .add .prim), [.t 28, .c (.int .i64 1)], none⟩,
  ⟨some 2, .op (.mov), [.t 29], none⟩]
abbrev r127_3 : List IOp := [⟨some 25, .op (.mov), [.t 1], none⟩,
  ⟨some 26, .op (.mov), [.t 2], none⟩,
  ⟨some 27, .op (.iaddr 1), [.t 25, .t 26], none⟩,
  ⟨none, .op (.store 1), [.t 27, .c (.bool true)], none⟩]
abbrev b127_0 : IC := (IC.seq (IC.seq (IC.reg r127_1) (IC.cond (.t 24) IC.skip (IC.exit 0))) (IC.seq (IC.block 1 (IC.reg r127_2)) (IC.reg r127_3)))
abbrev c127 : IC := (IC.seq (IC.reg r127_0) (IC.block 0 (IC.loop b127_0)))
abbrev g127 : FC := ⟨c127, 30, []⟩
theorem comp127 : compF Go.Proofs.Try.prog (fun _ => 0) 127 = some g127 := by kernel_rfl

-- outlaw/glob.Fold
abbrev r128_0 : List IOp := [⟨some 2, .op (.mov), [.c (.str [])], none⟩]
abbrev r128_1 : List IOp := [⟨some 5, .op (.mov), [.t 0], none⟩,
  ⟨some 6, .op (.s2b 5), [.t 5], none⟩,
  ⟨some 3, .op (.mov), [.t 6], none⟩]
abbrev r128_2 : List IOp := [⟨some 7, .op (.mov), [.t 3], none⟩,
  ⟨some 8, .op (.len .slice), [.t 7], none⟩,
  ⟨some 9, .op (.mov), [.c (.int .i64 0)], none⟩]
abbrev r128_3 : List IOp := [⟨some 10, .op (.bin .lss .prim), [.t 9, .t 8], none⟩]
abbrev r128_4 : List IOp := [⟨some 11, .op (.mov), [.t 9], none⟩,
  ⟨some 4, .op (.mov), [.t 11], none⟩]
abbrev r128_5 : List IOp := [⟨some 12, .op (.mov), [.t 3], none⟩,
  ⟨some 13, .op (.mov), [.t 4], none⟩,
  ⟨some 14, .op (.mov), [.t 3], none⟩,
  ⟨some 15, .op (.mov), [.t 4], none⟩,
  ⟨some 16, .op (.iaddr 1), [.t 14, .t 15], none⟩,
  ⟨some 17, .op (.load none), [.t 16], none⟩,
  ⟨some 18, .call none, [.f 70, .t 17], none⟩,
  ⟨some 19, .op (.iaddr 1), [.t 12, .t 13], none⟩,
  ⟨none, .op (.store 1), [.t 19, .t 18], none⟩]
abbrev r128_6 : List IOp := [⟨some 20, .op (.bin .add .prim), [.t 9, .c (.int .i64 1)], none⟩,
  ⟨some 9, .op (.mov), [.t 20], none⟩]
abbrev b128_0 : IC := (IC.seq (IC.reg r128_3) (IC.seq (IC.cond (.t 10) IC.skip (IC.exit 0)) (IC.seq (IC.block 1 (IC.seq (IC.reg r128_4) (IC.reg r128_5))) (IC.reg r128_6))))
abbrev r128_7 : List IOp := [⟨some 21, .op (.mov), [.t 3], none⟩,
  ⟨some 22, .op (.b2s), [.t 21], none⟩,
  ⟨some 2, .op (.mov), [.t 22], none⟩]
abbrev c128 : IC := (IC.seq (IC.reg r128_0) (IC.seq (IC.reg r128_1) (IC.seq (IC.seq (IC.reg r128_2) (IC.block 0 (IC.loop b128_0))) (IC.seq (IC.reg r128_7) IC.ret))))
abbrev g128 : FC := ⟨c128, 23, [.t 2]⟩
theorem comp128 : compF Go.Proofs.Try.prog (fun _ => 0) 128 = some g128 := by kernel_rfl

-- outlaw/outlawref07.Wild
abbrev r129_0 : List IOp := [⟨some 2, .op (.mov), [.c (.bool false)], none⟩]
abbrev r129_1 : List IOp := [⟨some 3, .op (.mov), [.t 0], none⟩,
  ⟨some 4, .op (.bin .eql .prim), [.t 3, .c (.int .u8 42)], none⟩,
  ⟨some 5, .op (.mov), [.t 4], none⟩,
  ⟨some 6, .op (.mov), [.t 0], some (5, false)⟩,
  ⟨some 7, .op (.bin .eql .prim), [.t 6, .c (.int .u8 63)], some (5, false)⟩,
  ⟨some 8, .op (.pick), [.t 5, .c (.bool true), .t 7], none⟩,
  ⟨some 2, .op (.mov), [.t 8], none⟩]
abbrev c129 : IC := (IC.seq (IC.reg r129_0) (IC.seq (IC.reg r129_1) IC.ret))
abbrev g129 : FC := ⟨c129, 9, [.t 2]⟩
theorem comp129 : compF Go.Proofs.Try.prog (fun _ => 0) 129 = some g129 := by kernel_rfl

-- outlaw/outlawref07.Fold
abbrev r130_0 : List IOp := [⟨some 2, .op (.mov), [.c (.str [])], none⟩]
abbrev r130_1 : List IOp := [⟨some 5, .op (.mov), [.t 0], none⟩,
  ⟨some 6, .op (.s2b 5), [.t 5], none⟩,
  ⟨some 3, .op (.mov), [.t 6], none⟩]
abbrev r130_2 : List IOp := [⟨some 4, .op (.mov), [.c (.int .i64 0)], none⟩]
abbrev r130_3 : List IOp := [⟨some 7, .op (.mov), [.t 4], none⟩,
  ⟨some 8, .op (.mov), [.t 3], none⟩,
  ⟨some 9, .op (.len .slice), [.t 8], none⟩,
  ⟨some 10, .op (.bin .lss .prim), [.t 7, .t 9], none⟩]
abbrev r130_4 : List IOp := [⟨some 13, .op (.mov), [.t 3], none⟩,
  ⟨some 14, .op (.mov), [.t 4], none⟩,
  ⟨some 15, .op (.iaddr 1), [.t 13, .t 14], none⟩,
  ⟨some 16, .op (.load none), [.t 15], none⟩,
  ⟨some 17, .op (.bin .geq .prim), [.t 16, .c (.int .u8 65)], none⟩,
  ⟨some 18, .op (.mov), [.t 17], none⟩,
  ⟨some 19, .op (.mov), [.t 3], some (18, true)⟩,
  ⟨some 20, .op (.mov), [.t 4], some (18, true)⟩,
  ⟨some 21, .op (.iaddr 1), [.t 19, .t 20], some (18, true)⟩,
  ⟨some 22, .op (.load none), [.t 21], some (18, true)⟩,
  ⟨some 23, .op (.bin .leq .prim), [.t 22, .c (.int .u8 90)], some (18, true)⟩,
  ⟨some 24, .op (.pick), [.t 18, .t 23, .c (.bool false)], none⟩]
abbrev r130_5 : List IOp := [⟨some 25, .op (.mov), [.t 3], none⟩,
  ⟨some 26, .op (.mov), [.t 4], none⟩,
  ⟨some 27, .op (.mov), [.t 3], none⟩,
  ⟨some 28, .op (.mov), [.t 4], none⟩,
  ⟨some 29, .op (.iaddr 1), [.t 27, .t 28], none⟩,
  ⟨some 30, .op (.load none), [.t 29], none⟩,
  ⟨some 31, .op (.bin .add .prim), [.t 30, .c (.int .u8 32)], none⟩,
  ⟨some 32, .op (.iaddr 1), [.t 25, .t 26], none⟩,
  ⟨none, .op (.store 1), [.t 32, .t 31], none⟩]
abbrev r130_6 : List IOp := [⟨some 11, .op (.mov), [.t 4], none⟩,
  ⟨some 12, .op (.bin .add .prim), [.t 11, .c (.int .i64 1)], none⟩,
  ⟨some 4, .op (.mov), [.t 12], none⟩]
abbrev b130_0 : IC := (IC.seq (IC.seq (IC.reg r130_3) (IC.cond (.t 10) IC.skip (IC.exit 0))) (IC.seq (IC.block 1 (IC.seq (IC.reg r130_4) (IC.cond (.t 24) (IC.reg r130_5) IC.skip))) (IC.reg r130_6)))
abbrev r130_7 : List IOp := [⟨some 33, .op (.mov), [.t 3], none⟩,
  ⟨some 34, .op (.b2s), [.t 33], none⟩,
  ⟨some 2, .op (.mov), [.t 34], none⟩]
abbrev c130 : IC := (IC.seq (IC.reg r130_0) (IC.seq (IC.reg r130_1) (IC.seq (IC.seq (IC.reg r130_2) (IC.block 0 (IC.loop b130_0))) (IC.seq (IC.reg r130_7) IC.ret))))
abbrev g130 : FC := ⟨c130, 35, [.t 2]⟩
theorem comp130 : compF Go.Proofs.Try.prog (fun _ => 0) 130 = some g130 := by kernel_rfl

-- unicode/utf8.RuneCount
abbrev r132_0 : List IOp := [⟨some 2, .op (.mov), [.c (.int .i64 0)], none⟩]
abbrev r132_1 : List IOp := [⟨some 6, .op (.mov), [.t 0], none⟩,
  ⟨some 7, .op (.len .slice), [.t 6], none⟩,
  ⟨some 3, .op (.mov), [.t 7], none⟩]
abbrev r132_2 : List IOp := [⟨some 4, .op (.mov), [.c (.int .i64 0)], none⟩]
abbrev r132_3 : List IOp := [⟨some 8, .op (.mov), [.t 4], none⟩,
  ⟨some 9, .op (.mov), [.t 3], none⟩,
  ⟨some 10, .op (.bin .lss .prim), [.t 8, .t 9], none⟩]
abbrev r132_4 : List IOp := [⟨some 13, .op (.mov), [.t 0], none⟩,
  ⟨some 14, .op (.mov), [.t 4], none⟩,
  ⟨some 15, .op (.iaddr 1), [.t 13, .t 14], none⟩,
  ⟨some 16, .op (.load none), [.t 15], none⟩,
  ⟨some 5, .op (.mov), [.t 16], none⟩]
abbrev r132_5 : List IOp := [⟨some 17, .op (.mov), [.t 5], none⟩,
  ⟨some 18, .op (.bin .geq .prim), [.t 17, .c (.int .u8 128)], none⟩]
abbrev r132_6 : List IOp := [⟨some 19, .op (.mov), [.t 4], none⟩,
  ⟨some 20, .op (.mov), [.t 0], none⟩,
  ⟨some 21, .op (.mov), [.t 4], none⟩,
  ⟨some 22, .op (.slice 1 true false false), [.t 20, .t 21], none⟩,
  ⟨some 23, .op (.b2s), [.t 22], none⟩,
  ⟨some 24, .call none, [.f 138, .t 23], none⟩,
  ⟨some 25, .op (.bin .add .prim), [.t 19, .t 24], none⟩,
  ⟨some 2, .op (.mov), [.t 25], none⟩]
abbrev r132_7 : List IOp := [⟨some 11, .op (.mov), [.t 4], none⟩,
  ⟨some 12, .op (.bin .add .prim), [.t 11, .c (.int .i64 1)], none⟩,
  ⟨some 4, .op (.mov), [.t 12], none⟩]
abbrev b132_0 : IC := (IC.seq (IC.seq (IC.reg r132_3) (IC.cond (.t 10) IC.skip (IC.exit 0))) (IC.seq (IC.block 1 (IC.seq (IC.reg r132_4) (IC.seq (IC.reg r132_5) (IC.cond (.t 18) (IC.seq (IC.reg r132_6) IC.ret) IC.skip)))) (IC.reg r132_7)))
abbrev r132_8 : List IOp := [⟨some 26, .op (.mov), [.t 4], none⟩,
  ⟨some 2, .op (.mov), [.t 26], none⟩]
abbrev c132 : IC := (IC.seq (IC.reg r132_0) (IC.seq (IC.reg r132_1) (IC.seq (IC.reg r132_2) (IC.seq (IC.block 0 (IC.loop b132_0)) (IC.seq (IC.reg r132_8) IC.ret)))))
abbrev g132 : FC := ⟨c132, 27, [.t 2]⟩
theorem comp132 : compF Go.Proofs.Try.prog (fun _ => 0) 132 = some g132 := by kernel_rfl


-- bytes.Index
abbrev r134_0 : List IOp := [⟨some 4, .op (.mov), [.c (.int .i64 0)], none⟩]
abbrev r134_1 : List IOp := [⟨some 20, .op (.mov), [.t 1], none⟩,
  ⟨some 21, .op (.len .slice), [.t 20], none⟩,
  ⟨some 5, .op (.mov), [.t 21], none⟩]
abbrev r134_2 : List IOp := [⟨some 23, .op (.mov), [.t 5], none⟩,
  ⟨some 24, .op (.bin .eql .prim), [.t 23, .c (.int .i64 0)], none⟩,
  ⟨some 22, .op (.mov), [.t 24], none⟩]
abbrev r134_3 : List IOp := [⟨some 4, .op (.mov), [.c (.int .i64 0)], none⟩]
abbrev r134_4 : List IOp := [⟨some 26, .op (.mov), [.t 5], none⟩,
  ⟨some 27, .op (.bin .eql .prim), [.t 26, .c (.int .i64 1)], none⟩,
  ⟨some 25, .op (.mov), [.t 27], none⟩]
abbrev r134_5 : List IOp := [⟨some 28, .op (.mov), [.t 0], none⟩,
  ⟨some 29, .op (.mov), [.t 1], none⟩,
  ⟨some 30, .op (.iaddr 1), [.t 29, .c (.int .i64 0)], none⟩,
  ⟨some 31, .op (.load none), [.t 30], none⟩,
  ⟨some 32, .call none, [.f 139, .t 28, .t 31], none⟩,
  ⟨some 4, .op (.mov), [.t 32], none⟩]
abbrev r134_6 : List IOp := [⟨some 34, .op (.mov), [.t 5], none⟩,
  ⟨some 35, .op (.mov), [.t 0], none⟩,
  ⟨some 36, .op (.len .slice), [.t 35], none⟩,
  ⟨some 37, .op (.bin .eql .prim), [.t 34, .t 36], none⟩,
  ⟨some 33, .op (.mov), [.t 37], none⟩]
abbrev r134_7 : List IOp := [⟨some 38, .op (.mov), [.t 1], none⟩,
  ⟨some 39, .op (.mov), [.t 0], none⟩,
  ⟨some 40, .call none, [.f 140, .t 38, .t 39], none⟩]
abbrev r134_8 : List IOp := [⟨some 4, .op (.mov), [.c (.int .i64 0)], none⟩]
abbrev r134_9 : List IOp := [⟨some 4, .op (.mov), [.c (.int .i64 (-1))], none⟩]
abbrev r134_10 : List IOp := [⟨some 42, .op (.mov), [.t 5], none⟩,
  ⟨some 43, .op (.mov), [.t 0], none⟩,
  ⟨some 44, .op (.len .slice), [.t 43], none⟩,
  ⟨some 45, .op (.bin .gtr .prim), [.t 42, .t 44], none⟩,
  ⟨some 41, .op (.mov), [.t 45], none⟩]
abbrev r134_11 : List IOp := [⟨some 4, .op (.mov), [.c (.int .i64 (-1))], none⟩]
abbrev r134_12 : List IOp := [⟨some 47, .op (.mov), [.t 5], none⟩,
  ⟨some 48, .op (.never), [], none⟩,
  ⟨some 49, .op (.bin .leq .prim), [.t 47, .t 48], none⟩,
  ⟨some 46, .op (.mov), [.t 49], none⟩]
abbrev r134_13 : List IOp := [⟨some 50, .op (.mov), [.t 0], none⟩,
  ⟨some 51, .op (.len .slice), [.t 50], none⟩,
  ⟨some 52, .op (.bin .leq .prim), [.t 51, .c (.int .i64 64)], none⟩]
abbrev r134_14 : List IOp := [⟨some 53, .op (.mov), [.t 0], none⟩,
  ⟨some 54, .op (.mov), [.t 1], none⟩,
  ⟨some 55, .call none, [.f 141, .t 53, .t 54], none⟩,
  ⟨some 4, .op (.mov), [.t 55], none⟩]
abbrev r134_15 : List IOp := [⟨some 56, .op (.mov), [.t 1], none⟩,
  ⟨some 57, .op (.iaddr 1), [.t 56, .c (.int .i64 0)], none⟩,
  ⟨some 58, .op (.load none), [.t 57], none⟩,
  ⟨some 6, .op (.mov), [.t 58], none⟩]
abbrev r134_16 : List IOp := [⟨some 59, .op (.mov), [.t 1], none⟩,
  ⟨some 60, .op (.iaddr 1), [.t 59, .c (.int .i64 1)], none⟩,
  ⟨some 61, .op (.load none), [.t 60], none⟩,
  ⟨some 7, .op (.mov), [.t 61], none⟩]
abbrev r134_17 : List IOp := [⟨some 8, .op (.mov), [.c (.int .i64 0)], none⟩]
abbrev r134_18 : List IOp := [⟨some 62, .op (.mov), [.t 0], none⟩,
  ⟨some 63, .op (.len .slice), [.t 62], none⟩,
  ⟨some 64, .op (.mov), [.t 5], none⟩,
  ⟨some 65, .op (.bin .sub .prim), [.t 63, .t 64], none⟩,
  ⟨some 66, .op (.bin .add .prim), [.t 65, .c (.int .i64 1)], none⟩,
  ⟨some 9, .op (.mov), [.t 66], none⟩]
abbrev r134_19 : List IOp := [⟨some 10, .op (.mov), [.c (.int .i64 0)], none⟩]
abbrev r134_20 : List IOp := [⟨some 67, .op (.mov), [.t 8], none⟩,
  ⟨some 68, .op (.mov), [.t 9], none⟩,
  ⟨some 69, .op (.bin .lss .prim), [.t 67, .t 68], none⟩]
abbrev r134_21 : List IOp := [⟨some 70, .op (.mov), [.t 0], none⟩,
  ⟨some 71, .op (.mov), [.t 8], none⟩,
  ⟨some 72, .op (.iaddr 1), [.t 70, .t 71], none⟩,
  ⟨some 73, .op (.load none), [.t 72], none⟩,
  ⟨some 74, .op (.mov), [.t 6], none⟩,
  ⟨some 75, .op (.bin .neq .prim), [.t 73, .t 74], none⟩]
abbrev r134_22 : List IOp := [⟨some 76, .op (.mov), [.t 0], none⟩,
  ⟨some 77, .op (.mov), [.t 8], none⟩,
  ⟨some 78, .op (.bin .add .prim), [.t 77, .c (.int .i64 1)], none⟩,
  ⟨some 79, .op (.mov), [.t 9], none⟩,
  ⟨some 80, .op (.slice 1 true true false), [.t 76, .t 78, .t 79], none⟩,
  ⟨some 81, .op (.mov), [.t 6], none⟩,
  ⟨some 82, .call none, [.f 139, .t 80, .t 81], none⟩,
  ⟨some 11, .op (.mov), [.t 82], none⟩]
abbrev r134_23 : List IOp := [⟨some 83, .op (.mov), [.t 11], none⟩,
  ⟨some 84, .op (.bin .lss .prim), [.t 83, .c (.int .i64 0)], none⟩]
abbrev r134_24 : List IOp := [⟨some 4, .op (.mov), [.c (.int .i64 (-1))], none⟩]
abbrev r134_25 : List IOp := [⟨some 85, .op (.mov), [.t 8], none⟩,
  ⟨some 86, .op (.mov), [.t 11], none⟩,
  ⟨some 87, .op (.bin .add .prim), [.t 86, .c (.int .i64 1)], none⟩,
  ⟨some 88, .op (.bin .add .prim), [.t 85, .t 87], none⟩,
  ⟨some 8, .op (.mov), [.t 88], none⟩]
abbrev r134_26 : List IOp := [⟨some 89, .op (.mov), [.t 0], none⟩,
  ⟨some 90, .op (.mov), [.t 8], none⟩,
  ⟨some 91, .op (.bin .add .prim), [.t 90, .c (.int .i64 1)], none⟩,
  ⟨some 92, .op (.iaddr 1), [.t 89, .t 91], none⟩,
  ⟨some 93, .op (.load none), [.t 92], none⟩,
  ⟨some 94, .op (.mov), [.t 7], none⟩,
  ⟨some 95, .op (.bin .eql .prim), [.t 93, .t 94], none⟩,
  ⟨some 96, .op (.mov), [.t 95], none⟩,
  ⟨some 97, .op (.mov), [.t 0], some (96, true)⟩,
  ⟨some 98, .op (.mov), [.t 8], some (96, true)⟩,
  ⟨some 99, .op (.mov), [.t 8], some (96, true)⟩,
  ⟨some 100, .op (.mov), [.t 5], some (96, true)⟩,
  ⟨some 101, .op (.bin .add .prim), [.t 99, .t 100], some (96, true)⟩,
  ⟨some 102, .op (.slice 1 true true false), [.t 97, .t 98, .t 101], some (96, true)⟩,
  ⟨some 103, .op (.mov), [.t 1], some (96, true)⟩,
  ⟨some 104, .call none, [.f 140, .t 102, .t 103], some (96, true)⟩,
  ⟨some 105, .op (.pick), [.t 96, .t 104, .c (.bool false)], none⟩]
abbrev r134_27 : List IOp := [⟨some 106, .op (.mov), [.t 8], none⟩,
  ⟨some 4, .op (.mov), [.t 106], none⟩]
abbrev r134_28 : List IOp := [⟨some 107, .op (.mov), [.t 10], none⟩,
  ⟨some 108, .op (.bin .add .prim), [.t 107, .c (.int .i64 1)], none⟩,
  ⟨some 10, .op (.mov), [.t 108], none⟩]
abbrev r134_29 : List IOp := [⟨some 109, .op (.mov), [.t 8], none⟩,
  ⟨some 110, .op (.bin .add .prim), [.t 109, .c (.int .i64 1)], none⟩,
  ⟨some 8, .op (.mov), [.t 110], none⟩]
abbrev r134_30 : List IOp := [⟨some 111, .op (.mov), [.t 10], none⟩,
  ⟨some 112, .op (.mov), [.t 8], none⟩,
  ⟨some 113, .call none, [.f 142, .t 112], none⟩,
  ⟨some 114, .op (.bin .gtr .prim), [.t 111, .t 113], none⟩]
abbrev r134_31 : List IOp := [⟨some 115, .op (.mov), [.t 0], none⟩,
  ⟨some 116, .op (.mov), [.t 8], none⟩,
  ⟨some 117, .op (.slice 1 true false false), [.t 115, .t 116], none⟩,
  ⟨some 118, .op (.mov), [.t 1], none⟩,
  ⟨some 119, .call none, [.f 141, .t 117, .t 118], none⟩,
  ⟨some 12, .op (.mov), [.t 119], none⟩]
abbrev r134_32 : List IOp := [⟨some 120, .op (.mov), [.t 12], none⟩,
  ⟨some 121, .op (.bin .geq .prim), [.t 120, .c (.int .i64 0)], none⟩]
abbrev r134_33 : List IOp := [⟨some 122, .op (.mov), [.t 12], none⟩,
  ⟨some 123, .op (.mov), [.t 8], none⟩,
  ⟨some 124, .op (.bin .add .prim), [.t 122, .t 123], none⟩,
  ⟨some 4, .op (.mov), [.t 124], none⟩]
abbrev r134_34 : List IOp := [⟨some 4, .op (.mov), [.c (.int .i64 (-1))], none⟩]
abbrev b134_0 : IC := (IC.seq (IC.seq (IC.reg r134_20) (IC.cond (.t 69) IC.skip (IC.exit 1))) (IC.block 2 (IC.seq (IC.seq (IC.reg r134_21) (IC.cond (.t 75) (IC.seq (IC.reg r134_22) (IC.seq (IC.seq (IC.reg r134_23) (IC.cond (.t 84) (IC.seq (IC.reg r134_24) IC.ret) IC.skip)) (IC.reg r134_25))) IC.skip)) (IC.seq (IC.seq (IC.reg r134_26) (IC.cond (.t 105) (IC.seq (IC.reg r134_27) IC.ret) IC.skip)) (IC.seq (IC.reg r134_28) (IC.seq (IC.reg r134_29) (IC.seq (IC.reg r134_30) (IC.cond (.t 114) (IC.seq (IC.reg r134_31) (IC.seq (IC.seq (IC.reg r134_32) (IC.cond (.t 121) (IC.seq (IC.reg r134_33) IC.ret) IC.skip)) (IC.seq (IC.reg r134_34) IC.ret))) IC.skip))))))))
abbrev r134_35 : List IOp := [⟨some 4, .op (.mov), [.c (.int .i64 (-1))], none⟩]
abbrev r134_36 : List IOp := [⟨some 125, .op (.mov), [.t 1], none⟩,
  ⟨some 126, .op (.iaddr 1), [.t 125, .c (.int .i64 0)], none⟩,
  ⟨some 127, .op (.load none), [.t 126], none⟩,
  ⟨some 13, .op (.mov), [.t 127], none⟩]
abbrev r134_37 : List IOp := [⟨some 128, .op (.mov), [.t 1], none⟩,
  ⟨some 129, .op (.iaddr 1), [.t 128, .c (.int .i64 1)], none⟩,
  ⟨some 130, .op (.load none), [.t 129], none⟩,
  ⟨some 14, .op (.mov), [.t 130], none⟩]
abbrev r134_38 : List IOp := [⟨some 15, .op (.mov), [.c (.int .i64 0)], none⟩]
abbrev r134_39 : List IOp := [⟨some 16, .op (.mov), [.c (.int .i64 0)], none⟩]
abbrev r134_40 : List IOp := [⟨some 131, .op (.mov), [.t 0], none⟩,
  ⟨some 132, .op (.len .slice), [.t 131], none⟩,
  ⟨some 133, .op (.mov), [.t 5], none⟩,
  ⟨some 134, .op (.bin .sub .prim), [.t 132, .t 133], none⟩,
  ⟨some 135, .op (.bin .add .prim), [.t 134, .c (.int .i64 1)], none⟩,
  ⟨some 17, .op (.mov), [.t 135], none⟩]
abbrev r134_41 : List IOp := [⟨some 136, .op (.mov), [.t 15], none⟩,
  ⟨some 137, .op (.mov), [.t 17], none⟩,
  ⟨some 138, .op (.bin .lss .prim), [.t 136, .t 137], none⟩]
abbrev r134_42 : List IOp := [⟨some 139, .op (.mov), [.t 0], none⟩,
  ⟨some 140, .op (.mov), [.t 15], none⟩,
  ⟨some 141, .op (.iaddr 1), [.t 139, .t 140], none⟩,
  ⟨some 142, .op (.load none), [.t 141], none⟩,
  ⟨some 143, .op (.mov), [.t 13], none⟩,
  ⟨some 144, .op (.bin .neq .prim), [.t 142, .t 143], none⟩]
abbrev r134_43 : List IOp := [⟨some 145, .op (.mov), [.t 0], none⟩,
  ⟨some 146, .op (.mov), [.t 15], none⟩,
  ⟨some 147, .op (.bin .add .prim), [.t 146, .c (.int .i64 1)], none⟩,
  ⟨some 148, .op (.mov), [.t 17], none⟩,
  ⟨some 149, .op (.slice 1 true true false), [.t 145, .t 147, .t 148], none⟩,
  ⟨some 150, .op (.mov), [.t 13], none⟩,
  ⟨some 151, .call none, [.f 139, .t 149, .t 150], none⟩,
  ⟨some 18, .op (.mov), [.t 151], none⟩]
abbrev r134_44 : List IOp := [⟨some 152, .op (.mov), [.t 18], none⟩,
  ⟨some 153, .op (.bin .lss .prim), [.t 152, .c (.int .i64 0)], none⟩]
abbrev r134_45 : List IOp := [⟨some 154, .op (.mov), [.t 15], none⟩,
  ⟨some 155, .op (.mov), [.t 18], none⟩,
  ⟨some 156, .op (.bin .add .prim), [.t 155, .c (.int .i64 1)], none⟩,
  ⟨some 157, .op (.bin .add .prim), [.t 154, .t 156], none⟩,
  ⟨some 15, .op (.mov), [.t 157], none⟩]
abbrev r134_46 : List IOp := [⟨some 158, .op (.mov), [.t 0], none⟩,
  ⟨some 159, .op (.mov), [.t 15], none⟩,
  ⟨some 160, .op (.bin .add .prim), [.t 159, .c (.int .i64 1)], none⟩,
  ⟨some 161, .op (.iaddr 1), [.t 158, .t 160], none⟩,
  ⟨some 162, .op (.load none), [.t 161], none⟩,
  ⟨some 163, .op (.mov), [.t 14], none⟩,
  ⟨some 164, .op (.bin .eql .prim), [.t 162, .t 163], none⟩,
  ⟨some 165, .op (.mov), [.t 164], none⟩,
  ⟨some 166, .op (.mov), [.t 0], some (165, true)⟩,
  ⟨some 167, .op (.mov), [.t 15], some (165, true)⟩,
  ⟨some 168, .op (.mov), [.t 15], some (165, true)⟩,
  ⟨some 169, .op (.mov), [.t 5], some (165, true)⟩,
  ⟨some 170, .op (.bin .add .prim), [.t 168, .t 169], some (165, true)⟩,
  ⟨some 171, .op (.slice 1 true true false), [.t 166, .t 167, .t 170], some (165, true)⟩,
  ⟨some 172, .op (.mov), [.t 1], some (165, true)⟩,
  ⟨some 173, .call none, [.f 140, .t 171, .t 172], some (165, true)⟩,
  ⟨some 174, .op (.pick), [.t 165, .t 173, .c (.bool false)], none⟩]
abbrev r134_47 : List IOp := [⟨some 175, .op (.mov), [.t 15], none⟩,
  ⟨some 4, .op (.mov), [.t 175], none⟩]
abbrev r134_48 : List IOp := [⟨some 176, .op (.mov), [.t 15], none⟩,
  ⟨some 177, .op (.bin .add .prim), [.t 176, .c (.int .i64 1)], none⟩,
  ⟨some 15, .op (.mov), [.t 177], none⟩]
abbrev r134_49 : List IOp := [⟨some 178, .op (.mov), [.t 16], none⟩,
  ⟨some 179, .op (.bin .add .prim), [.t 178, .c (.int .i64 1)], none⟩,
  ⟨some 16, .op (.mov), [.t 179], none⟩]
abbrev r134_50 : List IOp := [⟨some 180, .op (.mov), [.t 16], none⟩,
  ⟨some 181, .op (.mov), [.t 15], none⟩,
  ⟨some 182, .op (.bin .shr .prim), [.t 181, .c (.int .u64 4)], none⟩,
  ⟨some 183, .op (.bin .add .prim), [.c (.int .i64 4), .t 182], none⟩,
  ⟨some 184, .op (.bin .geq .prim), [.t 180, .t 183], none⟩,
  ⟨some 185, .op (.mov), [.t 184], none⟩,
  ⟨some 186, .op (.mov), [.t 15], some (185, true)⟩,
  ⟨some 187, .op (.mov), [.t 17], some (185, true)⟩,
  ⟨some 188, .op (.bin .lss .prim), [.t 186, .t 187], some (185, true)⟩,
  ⟨some 189, .op (.pick), [.t 185, .t 188, .c (.bool false)], none⟩]
abbrev r134_51 : List IOp := [⟨some 190, .op (.mov), [.t 0], none⟩,
  ⟨some 191, .op (.mov), [.t 15], none⟩,
  ⟨some 192, .op (.slice 1 true false false), [.t 190, .t 191], none⟩,
  ⟨some 193, .op (.mov), [.t 1], none⟩,
  ⟨some 194, .call none, [.f 143, .t 192, .t 193], none⟩,
  ⟨some 19, .op (.mov), [.t 194], none⟩]
abbrev r134_52 : List IOp := [⟨some 195, .op (.mov), [.t 19], none⟩,
  ⟨some 196, .op (.bin .lss .prim), [.t 195, .c (.int .i64 0)], none⟩]
abbrev r134_53 : List IOp := [⟨some 4, .op (.mov), [.c (.int .i64 (-1))], none⟩]
abbrev r134_54 : List IOp := [⟨some 197, .op (.mov), [.t 15], none⟩,
  ⟨some 198, .op (.mov), [.t 19], none⟩,
  ⟨some 199, .op (.bin .add .prim), [.t 197, .t 198], none⟩,
  ⟨some 4, .op (.mov), [.t 199], none⟩]
abbrev b134_1 : IC := (IC.seq (IC.seq (IC.reg r134_41) (IC.cond (.t 138) IC.skip (IC.exit 3))) (IC.block 4 (IC.seq (IC.seq (IC.reg r134_42) (IC.cond (.t 144) (IC.seq (IC.reg r134_43) (IC.seq (IC.seq (IC.reg r134_44) (IC.cond (.t 153) (IC.exit 3) IC.skip)) (IC.reg r134_45))) IC.skip)) (IC.seq (IC.seq (IC.reg r134_46) (IC.cond (.t 174) (IC.seq (IC.reg r134_47) IC.ret) IC.skip)) (IC.seq (IC.reg r134_48) (IC.seq (IC.reg r134_49) (IC.seq (IC.reg r134_50) (IC.cond (.t 189) (IC.seq (IC.reg r134_51) (IC.seq (IC.seq (IC.reg r134_52) (IC.cond (.t 196) (IC.seq (IC.reg r134_53) IC.ret) IC.skip)) (IC.seq (IC.reg r134_54) IC.ret))) IC.skip))))))))
abbrev r134_55 : List IOp := [⟨some 4, .op (.mov), [.c (.int .i64 (-1))], none⟩]
abbrev c134 : IC := (IC.seq (IC.reg r134_0) (IC.seq (IC.reg r134_1) (IC.seq (IC.block 0 (IC.seq (IC.reg r134_2) (IC.cond (.t 22) (IC.seq (IC.reg r134_3) IC.ret) (IC.seq (IC.reg r134_4) (IC.cond (.t 25) (IC.seq (IC.reg r134_5) IC.ret) (IC.seq (IC.reg r134_6) (IC.cond (.t 33) (IC.seq (IC.seq (IC.reg r134_7) (IC.cond (.t 40) (IC.seq (IC.reg r134_8) IC.ret) IC.skip)) (IC.seq (IC.reg r134_9) IC.ret)) (IC.seq (IC.reg r134_10) (IC.cond (.t 41) (IC.seq (IC.reg r134_11) IC.ret) (IC.seq (IC.reg r134_12) (IC.cond (.t 46) (IC.seq (IC.seq (IC.reg r134_13) (IC.cond (.t 52) (IC.seq (IC.reg r134_14) IC.ret) IC.skip)) (IC.seq (IC.reg r134_15) (IC.seq (IC.reg r134_16) (IC.seq (IC.reg r134_17) (IC.seq (IC.reg r134_18) (IC.seq (IC.reg r134_19) (IC.seq (IC.block 1 (IC.loop b134_0)) (IC.seq (IC.reg r134_35) IC.ret)))))))) IC.skip))))))))))) (IC.seq (IC.reg r134_36) (IC.seq (IC.reg r134_37) (IC.seq (IC.reg r134_38) (IC.seq (IC.reg r134_39) (IC.seq (IC.reg r134_40) (IC.seq (IC.block 3 (IC.loop b134_1)) (IC.seq (IC.reg r134_55) IC.ret))))))))))
abbrev g134 : FC := ⟨c134, 200, [.t 4]⟩
theorem comp134 : compF Go.Proofs.Try.prog (fun _ => 0) 134 = some g134 := by kernel_rfl

-- math/bits.Mul
abbrev r135_0 : List IOp := [⟨some 4, .op (.mov), [.c (.int .u64 0)], none⟩,
  ⟨some 5, .op (.mov), [.c (.int .u64 0)], none⟩]
abbrev r135_1 : List IOp := [⟨some 11, .op (.mov), [.t 0], none⟩,
  ⟨some 12, .op (.toInt .u32), [.t 11], none⟩,
  ⟨some 13, .op (.mov), [.t 1], none⟩,
  ⟨some 14, .op (.toInt .u32), [.t 13], none⟩,
  ⟨some 15, .call none, [.f 144, .t 12, .t 14], none⟩,
  ⟨some 10, .op (.mov), [.t 15], none⟩,
  ⟨some 16, .op (.extract 0), [.t 10], none⟩,
  ⟨some 17, .op (.extract 1), [.t 10], none⟩,
  ⟨some 6, .op (.mov), [.t 16], none⟩,
  ⟨some 7, .op (.mov), [.t 17], none⟩]
abbrev r135_2 : List IOp := [⟨some 18, .op (.mov), [.t 6], none⟩,
  ⟨some 19, .op (.toInt .u64), [.t 18], none⟩,
  ⟨some 20, .op (.mov), [.t 7], none⟩,
  ⟨some 21, .op (.toInt .u64), [.t 20], none⟩,
  ⟨some 4, .op (.mov), [.t 19], none⟩,
  ⟨some 5, .op (.mov), [.t 21], none⟩]
abbrev r135_3 : List IOp := [⟨some 23, .op (.mov), [.t 0], none⟩,
  ⟨some 24, .op (.mov), [.t 1], none⟩,
  ⟨some 25, .call none, [.f 145, .t 23, .t 24], none⟩,
  ⟨some 22, .op (.mov), [.t 25], none⟩,
  ⟨some 26, .op (.extract 0), [.t 22], none⟩,
  ⟨some 27, .op (.extract 1), [.t 22], none⟩,
  ⟨some 8, .op (.mov), [.t 26], none⟩,
  ⟨some 9, .op (.mov), [.t 27], none⟩]
abbrev r135_4 : List IOp := [⟨some 28, .op (.mov), [.t 8], none⟩,
  ⟨some 29, .op (.mov), [.t 9], none⟩,
  ⟨some 4, .op (.mov), [.t 28], none⟩,
  ⟨some 5, .op (.mov), [.t 29], none⟩]
abbrev c135 : IC := (IC.seq (IC.reg r135_0) (IC.seq (IC.cond (.c (.bool false)) (IC.seq (IC.reg r135_1) (IC.seq (IC.reg r135_2) IC.ret)) IC.skip) (IC.seq (IC.reg r135_3) (IC.seq (IC.reg r135_4) IC.ret))))
abbrev g135 : FC := ⟨c135, 30, [.t 4, .t 5]⟩
theorem comp135 : compF Go.Proofs.Try.prog (fun _ => 0) 135 = some g135 := by kernel_rfl


-- (outlaw/nfa.row).all$1
abbrev r137_0 : List IOp := [⟨some 5, .op (.load none), [.t 1], none⟩,
  ⟨some 6, .op (.len .slice), [.t 5], none⟩,
  ⟨some 7, .op (.mov), [.c (.int .i64 0)], none⟩]
abbrev r137_1 : List IOp := [⟨some 8, .op (.bin .lss .prim), [.t 7, .t 6], none⟩]
abbrev r137_2 : List IOp := [⟨some 9, .op (.mov), [.t 7], none⟩,
  ⟨some 10, .op (.iaddr 1), [.t 5, .t 7], none⟩,
  ⟨some 11, .op (.load none), [.t 10], none⟩,
  ⟨some 3, .op (.mov), [.t 9], none⟩,
  ⟨some 4, .op (.mov), [.t 11], none⟩]
abbrev r137_3 : List IOp := [⟨some 12, .op (.mov), [.t 4], none⟩,
  ⟨some 13, .op (.mov), [.t 12], none⟩,
  ⟨some 14, .op (.mov), [.t 0], some (13, true)⟩,
  ⟨some 15, .op (.mov), [.t 3], some (13, true)⟩,
  ⟨some 16, .call none, [.t 14, .t 15], some (13, true)⟩,
  ⟨some 17, .op (.un .not), [.t 16], some (13, true)⟩,
  ⟨some 18, .op (.pick), [.t 13, .t 17, .c (.bool false)], none⟩]
abbrev r137_4 : List IOp := [⟨some 19, .op (.bin .add .prim), [.t 7, .c (.int .i64 1)], none⟩,
  ⟨some 7, .op (.mov), [.t 19], none⟩]
abbrev b137_0 : IC := (IC.seq (IC.reg r137_1) (IC.seq (IC.cond (.t 8) IC.skip (IC.exit 0)) (IC.seq (IC.block 1 (IC.seq (IC.reg r137_2) (IC.seq (IC.reg r137_3) (IC.cond (.t 18) IC.ret IC.skip)))) (IC.reg r137_4))))
abbrev c137 : IC := (IC.seq (IC.reg r137_0) (IC.block 0 (IC.loop b137_0)))
abbrev g137 : FC := ⟨c137, 20, []⟩
theorem comp137 : compF Go.Proofs.Try.prog (fun _ => 0) 137 = some g137 := by kernel_rfl

-- unicode/utf8.RuneCountInString
abbrev r138_0 : List IOp := [⟨some 2, .op (.mov), [.c (.int .i64 0)], none⟩]
abbrev r138_1 : List IOp := [⟨some 3, .op (.mov), [.t 0], none⟩,
  ⟨some 4, .op (.never), [], none⟩]
abbrev r138_2 : List IOp := [⟨some 5, .op (.never), [], none⟩,
  ⟨some 6, .op (.extract 0), [.t 5], none⟩]
abbrev r138_3 : List IOp := [⟨some 7, .op (.mov), [.t 2], none⟩,
  ⟨some 8, .op (.bin .add .prim), [.t 7, .c (.int .i64 1)], none⟩,
  ⟨some 2, .op (.mov), [.t 8], none⟩]
abbrev b138_0 : IC := (IC.seq (IC.reg r138_2) (IC.seq (IC.cond (.t 6) IC.skip (IC.exit 0)) (IC.block 1 (IC.reg r138_3))))
abbrev r138_4 : List IOp := [⟨some 9, .op (.mov), [.t 2], none⟩,
  ⟨some 2, .op (.mov), [.t 9], none⟩]
abbrev c138 : IC := (IC.seq (IC.reg r138_0) (IC.seq (IC.seq (IC.reg r138_1) (IC.block 0 (IC.loop b138_0))) (IC.seq (IC.reg r138_4) IC.ret)))
abbrev g138 : FC := ⟨c138, 10, [.t 2]⟩
theorem comp138 : compF Go.Proofs.Try.prog (fun _ => 0) 138 = some g138 := by kernel_rfl

-- bytes.IndexByte
abbrev r139_0 : List IOp := [⟨some 4, .op (.mov), [.c (.int .i64 0)], none⟩]
abbrev r139_1 : List IOp := [⟨some 5, .op (.mov), [.t 0], none⟩,
  ⟨some 6, .op (.mov), [.t 1], none⟩,
  ⟨some 7, .call none, [.f 146, .t 5, .t 6], none⟩,
  ⟨some 4, .op (.mov), [.t 7], none⟩]
abbrev c139 : IC := (IC.seq (IC.reg r139_0) (IC.seq (IC.reg r139_1) IC.ret))
abbrev g139 : FC := ⟨c139, 8, [.t 4]⟩
theorem comp139 : compF Go.Proofs.Try.prog (fun _ => 0) 139 = some g139 := by kernel_rfl

-- bytes.Equal
abbrev r140_0 : List IOp := [⟨some 4, .op (.mov), [.c (.bool false)], none⟩]
abbrev r140_1 : List IOp := [⟨some 5, .op (.mov), [.t 0], none⟩,
  ⟨some 6, .op (.b2s), [.t 5], none⟩,
  ⟨some 7, .op (.mov), [.t 1], none⟩,
  ⟨some 8, .op (.b2s), [.t 7], none⟩,
  ⟨some 9, .op (.bin .eql .prim), [.t 6, .t 8], none⟩,
  ⟨some 4, .op (.mov), [.t 9], none⟩]
abbrev c140 : IC := (IC.seq (IC.reg r140_0) (IC.seq (IC.reg r140_1) IC.ret))
abbrev g140 : FC := ⟨c140, 10, [.t 4]⟩
theorem comp140 : compF Go.Proofs.Try.prog (fun _ => 0) 140 = some g140 := by kernel_rfl


-- internal/bytealg.Cutover
abbrev r142_0 : List IOp := [⟨some 2, .op (.mov), [.c (.int .i64 0)], none⟩]
abbrev r142_1 : List IOp := [⟨some 3, .op (.mov), [.t 0], none⟩,
  ⟨some 4, .op (.bin .add .prim), [.t 3, .c (.int .i64 16)], none⟩,
  ⟨some 5, .op (.bin .quo .prim), [.t 4, .c (.int .i64 8)], none⟩,
  ⟨some 2, .op (.mov), [.t 5], none⟩]
abbrev c142 : IC := (IC.seq (IC.reg r142_0) (IC.seq (IC.reg r142_1) IC.ret))
abbrev g142 : FC := ⟨c142, 6, [.t 2]⟩
theorem comp142 : compF Go.Proofs.Try.prog (fun _ => 0) 142 = some g142 := by kernel_rfl

-- internal/bytealg.IndexRabinKarp[[]byte]
abbrev r143_0 : List IOp := [⟨some 4, .op (.mov), [.c (.int .i64 0)], none⟩]
abbrev r143_1 : List IOp := [⟨some 12, .op (.mov), [.t 1], none⟩,
  ⟨some 13, .call none, [.f 147, .t 12], none⟩,
  ⟨some 11, .op (.mov), [.t 13], none⟩,
  ⟨some 14, .op (.extract 0), [.t 11], none⟩,
  ⟨some 15, .op (.extract 1), [.t 11], none⟩,
  ⟨some 5, .op (.mov), [.t 14], none⟩,
  ⟨some 6, .op (.mov), [.t 15], none⟩]
abbrev r143_2 : List IOp := [⟨some 16, .op (.mov), [.t 1], none⟩,
  ⟨some 17, .op (.len .slice), [.t 16], none⟩,
  ⟨some 7, .op (.mov), [.t 17], none⟩]
abbrev r143_3 : List IOp := [⟨some 8, .op (.mov), [.c (.int .u32 0)], none⟩]
abbrev r143_4 : List IOp := [⟨some 9, .op (.mov), [.c (.int .i64 0)], none⟩]
abbrev r143_5 : List IOp := [⟨some 18, .op (.mov), [.t 9], none⟩,
  ⟨some 19, .op (.mov), [.t 7], none⟩,
  ⟨some 20, .op (.bin .lss .prim), [.t 18, .t 19], none⟩]
abbrev r143_6 : List IOp := [⟨some 23, .op (.mov), [.t 8], none⟩,
  ⟨some 24, .op (.bin .mul .prim), [.t 23, .c (.int .u32 16777619)], none⟩,
  ⟨some 25, .op (.mov), [.t 0], none⟩,
  ⟨some 26, .op (.mov), [.t 9], none⟩,
  ⟨some 27, .op (.iaddr 1), [.t 25, .t 26], none⟩,
  ⟨some 28, .op (.load none), [.t 27], none⟩,
  ⟨some 29, .op (.toInt .u32), [.t 28], none⟩,
  ⟨some 30, .op (.bin .add .prim), [.t 24, .t 29], none⟩,
  ⟨some 8, .op (.mov), [.t 30], none⟩]
abbrev r143_7 : List IOp := [⟨some 21, .op (.mov), [.t 9], none⟩,
  ⟨some 22, .op (.bin .add .prim), [.t 21, .c (.int .i64 1)], none⟩,
  ⟨some 9, .op (.mov), [.t 22], none⟩]
abbrev b143_0 : IC := (IC.seq (IC.seq (IC.reg r143_5) (IC.cond (.t 20) IC.skip (IC.exit 0))) (IC.seq (IC.block 1 (IC.reg r143_6)) (IC.reg r143_7)))
abbrev r143_8 : List IOp := [⟨some 31, .op (.mov), [.t 8], none⟩,
  ⟨some 32, .op (.mov), [.t 5], none⟩,
  ⟨some 33, .op (.bin .eql .prim), [.t 31, .t 32], none⟩,
  ⟨some 34, .op (.mov), [.t 33], none⟩,
  ⟨some 35, .op (.mov), [.t 0], some (34, true)⟩,
  ⟨some 36, .op (.mov), [.t 7], some (34, true)⟩,
  ⟨some 37, .op (.slice 1 false true false), [.t 35, .t 36], some (34, true)⟩,
  ⟨some 38, .op (.b2s), [.t 37], some (34, true)⟩,
  ⟨some 39, .op (.mov), [.t 1], some (34, true)⟩,
  ⟨some 40, .op (.b2s), [.t 39], some (34, true)⟩,
  ⟨some 41, .op (.bin .eql .prim), [.t 38, .t 40], some (34, true)⟩,
  ⟨some 42, .op (.pick), [.t 34, .t 41, .c (.bool false)], none⟩]
abbrev r143_9 : List IOp := [⟨some 4, .op (.mov), [.c (.int .i64 0)], none⟩]
abbrev r143_10 : List IOp := [⟨some 43, .op (.mov), [.t 7], none⟩,
  ⟨some 10, .op (.mov), [.t 43], none⟩]
abbrev r143_11 : List IOp := [⟨some 44, .op (.mov), [.t 10], none⟩,
  ⟨some 45, .op (.mov), [.t 0], none⟩,
  ⟨some 46, .op (.len .slice), [.t 45], none⟩,
  ⟨some 47, .op (.bin .lss .prim), [.t 44, .t 46], none⟩]
abbrev r143_12 : List IOp := [⟨some 48, .op (.mov), [.t 8], none⟩,
  ⟨some 49, .op (.bin .mul .prim), [.t 48, .c (.int .u32 16777619)], none⟩,
  ⟨some 8, .op (.mov), [.t 49], none⟩]
abbrev r143_13 : List IOp := [⟨some 50, .op (.mov), [.t 8], none⟩,
  ⟨some 51, .op (.mov), [.t 0], none⟩,
  ⟨some 52, .op (.mov), [.t 10], none⟩,
  ⟨some 53, .op (.iaddr 1), [.t 51, .t 52], none⟩,
  ⟨some 54, .op (.load none), [.t 53], none⟩,
  ⟨some 55, .op (.toInt .u32), [.t 54], none⟩,
  ⟨some 56, .op (.bin .add .prim), [.t 50, .t 55], none⟩,
  ⟨some 8, .op (.mov), [.t 56], none⟩]
abbrev r143_14 : List IOp := [⟨some 57, .op (.mov), [.t 8], none⟩,
  ⟨some 58, .op (.mov), [.t 6], none⟩,
  ⟨some 59, .op (.mov), [.t 0], none⟩,
  ⟨some 60, .op (.mov), [.t 10], none⟩,
  ⟨some 61, .op (.mov), [.t 7], none⟩,
  ⟨some 62, .op (.bin .sub .prim), [.t 60, .t 61], none⟩,
  ⟨some 63, .op (.iaddr 1), [.t 59, .t 62], none⟩,
  ⟨some 64, .op (.load none), [.t 63], none⟩,
  ⟨some 65, .op (.toInt .u32), [.t 64], none⟩,
  ⟨some 66, .op (.bin .mul .prim), [.t 58, .t 65], none⟩,
  ⟨some 67, .op (.bin .sub .prim), [.t 57, .t 66], none⟩,
  ⟨some 8, .op (.mov), [.t 67], none⟩]
abbrev r143_15 : List IOp := [⟨some 68, .op (.mov), [.t 10], none⟩,
  ⟨some 69, .op (.bin .add .prim), [.t 68, .c (.int .i64 1)], none⟩,
  ⟨some 10, .op (.mov), [.t 69], none⟩]
abbrev r143_16 : List IOp := [⟨some 70, .op (.mov), [.t 8], none⟩,
  ⟨some 71, .op (.mov), [.t 5], none⟩,
  ⟨some 72, .op (.bin .eql .prim), [.t 70, .t 71], none⟩,
  ⟨some 73, .op (.mov), [.t 72], none⟩,
  ⟨some 74, .op (.mov), [.t 0], some (73, true)⟩,
  ⟨some 75, .op (.mov), [.t 10], some (73, true)⟩,
  ⟨some 76, .op (.mov), [.t 7], some (73, true)⟩,
  ⟨some 77, .op (.bin .sub .prim), [.t 75, .t 76], some (73, true)⟩,
  ⟨some 78, .op (.mov), [.t 10], some (73, true)⟩,
  ⟨some 79, .op (.slice 1 true true false), [.t 74, .t 77, .t 78], some (73, true)⟩,
  ⟨some 80, .op (.b2s), [.t 79], some (73, true)⟩,
  ⟨some 81, .op (.mov), [.t 1], some (73, true)⟩,
  ⟨some 82, .op (.b2s), [.t 81], some (73, true)⟩,
  ⟨some 83, .op (.bin .eql .prim), [.t 80, .t 82], some (73, true)⟩,
  ⟨some 84, .op (.pick), [.t 73, .t 83, .c (.bool false)], none⟩]
abbrev r143_17 : List IOp := [⟨some 85, .op (.mov), [.t 10], none⟩,
  ⟨some 86, .op (.mov), [.t 7], none⟩,
  ⟨some 87, .op (.bin .sub .prim), [.t 85, .t 86], none⟩,
  ⟨some 4, .op (.mov), [.t 87], none⟩]
abbrev b143_1 : IC := (IC.seq (IC.seq (IC.reg r143_11) (IC.cond (.t 47) IC.skip (IC.exit 2))) (IC.block 3 (IC.seq (IC.reg r143_12) (IC.seq (IC.reg r143_13) (IC.seq (IC.reg r143_14) (IC.seq (IC.reg r143_15) (IC.seq (IC.regD .wild r143_16 (.take 0 (.take 1 (.take 2 (.take 3 (.take 4 (.take 5 (.take 6 (.take 7 (.take 8 (.take 9 (.take 10 (.take 11 (.take 12 (.take 13 (.take 14 (.done))))))))))))))))) (IC.cond (.t 84) (IC.seq (IC.reg r143_17) IC.ret) IC.skip))))))))
abbrev r143_18 : List IOp := [⟨some 4, .op (.mov), [.c (.int .i64 (-1))], none⟩]
abbrev c143 : IC := (IC.seq (IC.reg r143_0) (IC.seq (IC.reg r143_1) (IC.seq (IC.reg r143_2) (IC.seq (IC.reg r143_3) (IC.seq (IC.seq (IC.reg r143_4) (IC.block 0 (IC.loop b143_0))) (IC.seq (IC.seq (IC.regD .wild r143_8 (.take 0 (.take 1 (.take 2 (.take 3 (.take 4 (.take 5 (.take 6 (.take 7 (.take 8 (.take 9 (.take 10 (.take 11 (.done)))))))))))))) (IC.cond (.t 42) (IC.seq (IC.reg r143_9) IC.ret) IC.skip)) (IC.seq (IC.seq (IC.reg r143_10) (IC.block 2 (IC.loop b143_1))) (IC.seq (IC.reg r143_18) IC.ret))))))))
abbrev g143 : FC := ⟨c143, 88, [.t 4]⟩
theorem comp143 : compF Go.Proofs.Try.prog (hintL [(8, 6), (16, 6)]) 143 = some g143 := by kernel_rfl

-- math/bits.Mul32
abbrev r144_0 : List IOp := [⟨some 4, .op (.mov), [.c (.int .u32 0)], none⟩,
  ⟨some 5, .op (.mov), [.c (.int .u32 0)], none⟩]
abbrev r144_1 : List IOp := [⟨some 7, .op (.mov), [.t 0], none⟩,
  ⟨some 8, .op (.toInt .u64), [.t 7], none⟩,
  ⟨some 9, .op (.mov), [.t 1], none⟩,
  ⟨some 10, .op (.toInt .u64), [.t 9], none⟩,
  ⟨some 11, .op (.bin .mul .prim), [.t 8, .t 10], none⟩,
  ⟨some 6, .op (.mov), [.t 11], none⟩]
abbrev r144_2 : List IOp := [⟨some 12, .op (.mov), [.t 6], none⟩,
  ⟨some 13, .op (.bin .shr .prim), [.t 12, .c (.int .u64 32)], none⟩,
  ⟨some 14, .op (.toInt .u32), [.t 13], none⟩,
  ⟨some 15, .op (.mov), [.t 6], none⟩,
  ⟨some 16, .op (.toInt .u32), [.t 15], none⟩,
  ⟨some 4, .op (.mov), [.t 14], none⟩,
  ⟨some 5, .op (.mov), [.t 16], none⟩]
abbrev c144 : IC := (IC.seq (IC.reg r144_0) (IC.seq (IC.reg r144_1) (IC.seq (IC.reg r144_2) IC.ret)))
abbrev g144 : FC := ⟨c144, 17, [.t 4, .t 5]⟩
theorem comp144 : compF Go.Proofs.Try.prog (fun _ => 0) 144 = some g144 := by kernel_rfl

-- math/bits.Mul64
abbrev r145_0 : List IOp := [⟨some 4, .op (.mov), [.c (.int .u64 0)], none⟩,
  ⟨some 5, .op (.mov), [.c (.int .u64 0)], none⟩]
abbrev r145_1 : List IOp := [⟨some 14, .op (.mov), [.t 0], none⟩,
  ⟨some 15, .op (.bin .and .prim), [.t 14, .c (.int .u64 4294967295)], none⟩,
  ⟨some 6, .op (.mov), [.t 15], none⟩]
abbrev r145_2 : List IOp := [⟨some 16, .op (.mov), [.t 0], none⟩,
  ⟨some 17, .op (.bin .shr .prim), [.t 16, .c (.int .u64 32)], none⟩,
  ⟨some 7, .op (.mov), [.t 17], none⟩]
abbrev r145_3 : List IOp := [⟨some 18, .op (.mov), [.t 1], none⟩,
  ⟨some 19, .op (.bin .and .prim), [.t 18, .c (.int .u64 4294967295)], none⟩,
  ⟨some 8, .op (.mov), [.t 19], none⟩]
abbrev r145_4 : List IOp := [⟨some 20, .op (.mov), [.t 1], none⟩,
  ⟨some 21, .op (.bin .shr .prim), [.t 20, .c (.int .u64 32)], none⟩,
  ⟨some 9, .op (.mov), [.t 21], none⟩]
abbrev r145_5 : List IOp := [⟨some 22, .op (.mov), [.t 6], none⟩,
  ⟨some 23, .op (.mov), [.t 8], none⟩,
  ⟨some 24, .op (.bin .mul .prim), [.t 22, .t 23], none⟩,
  ⟨some 10, .op (.mov), [.t 24], none⟩]
abbrev r145_6 : List IOp := [⟨some 25, .op (.mov), [.t 7], none⟩,
  ⟨some 26, .op (.mov), [.t 8], none⟩,
  ⟨some 27, .op (.bin .mul .prim), [.t 25, .t 26], none⟩,
  ⟨some 28, .op (.mov), [.t 10], none⟩,
  ⟨some 29, .op (.bin .shr .prim), [.t 28, .c (.int .u64 32)], none⟩,
  ⟨some 30, .op (.bin .add .prim), [.t 27, .t 29], none⟩,
  ⟨some 11, .op (.mov), [.t 30], none⟩]
abbrev r145_7 : List IOp := [⟨some 31, .op (.mov), [.t 11], none⟩,
  ⟨some 32, .op (.bin .and .prim), [.t 31, .c (.int .u64 4294967295)], none⟩,
  ⟨some 12, .op (.mov), [.t 32], none⟩]
abbrev r145_8 : List IOp := [⟨some 33, .op (.mov), [.t 11], none⟩,
  ⟨some 34, .op (.bin .shr .prim), [.t 33, .c (.int .u64 32)], none⟩,
  ⟨some 13, .op (.mov), [.t 34], none⟩]
abbrev r145_9 : List IOp := [⟨some 35, .op (.mov), [.t 12], none⟩,
  ⟨some 36, .op (.mov), [.t 6], none⟩,
  ⟨some 37, .op (.mov), [.t 9], none⟩,
  ⟨some 38, .op (.bin .mul .prim), [.t 36, .t 37], none⟩,
  ⟨some 39, .op (.bin .add .prim), [.t 35, .t 38], none⟩,
  ⟨some 12, .op (.mov), [.t 39], none⟩]
abbrev r145_10 : List IOp := [⟨some 40, .op (.mov), [.t 7], none⟩,
  ⟨some 41, .op (.mov), [.t 9], none⟩,
  ⟨some 42, .op (.bin .mul .prim), [.t 40, .t 41], none⟩,
  ⟨some 43, .op (.mov), [.t 13], none⟩,
  ⟨some 44, .op (.bin .add .prim), [.t 42, .t 43], none⟩,
  ⟨some 45, .op (.mov), [.t 12], none⟩,
  ⟨some 46, .op (.bin .shr .prim), [.t 45, .c (.int .u64 32)], none⟩,
  ⟨some 47, .op (.bin .add .prim), [.t 44, .t 46], none⟩,
  ⟨some 4, .op (.mov), [.t 47], none⟩]
abbrev r145_11 : List IOp := [⟨some 48, .op (.mov), [.t 0], none⟩,
  ⟨some 49, .op (.mov), [.t 1], none⟩,
  ⟨some 50, .op (.bin .mul .prim), [.t 48, .t 49], none⟩,
  ⟨some 5, .op (.mov), [.t 50], none⟩]
abbrev c145 : IC := (IC.seq (IC.reg r145_0) (IC.seq (IC.reg r145_1) (IC.seq (IC.reg r145_2) (IC.seq (IC.reg r145_3) (IC.seq (IC.reg r145_4) (IC.seq (IC.reg r145_5) (IC.seq (IC.reg r145_6) (IC.seq (IC.reg r145_7) (IC.seq (IC.reg r145_8) (IC.seq (IC.reg r145_9) (IC.seq (IC.reg r145_10) (IC.seq (IC.reg r145_11) IC.ret))))))))))))
abbrev g145 : FC := ⟨c145, 51, [.t 4, .t 5]⟩
theorem comp145 : compF Go.Proofs.Try.prog (fun _ => 0) 145 = some g145 := by kernel_rfl


-- internal/bytealg.hashStr[[]byte]
abbrev r147_0 : List IOp := [⟨some 2, .op (.mov), [.c (.int .u32 0)], none⟩,
  ⟨some 3, .op (.mov), [.c (.int .u32 0)], none⟩]
abbrev r147_1 : List IOp := [⟨some 4, .op (.mov), [.c (.int .u32 0)], none⟩]
abbrev r147_2 : List IOp := [⟨some 5, .op (.mov), [.c (.int .i64 0)], none⟩]
abbrev r147_3 : List IOp := [⟨some 9, .op (.mov), [.t 5], none⟩,
  ⟨some 10, .op (.mov), [.t 0], none⟩,
  ⟨some 11, .op (.len .slice), [.t 10], none⟩,
  ⟨some 12, .op (.bin .lss .prim), [.t 9, .t 11], none⟩]
abbrev r147_4 : List IOp := [⟨some 15, .op (.mov), [.t 4], none⟩,
  ⟨some 16, .op (.bin .mul .prim), [.t 15, .c (.int .u32 16777619)], none⟩,
  ⟨some 17, .op (.mov), [.t 0], none⟩,
  ⟨some 18, .op (.mov), [.t 5], none⟩,
  ⟨some 19, .op (.iaddr 1), [.t 17, .t 18], none⟩,
  ⟨some 20, .op (.load none), [.t 19], none⟩,
  ⟨some 21, .op (.toInt .u32), [.t 20], none⟩,
  ⟨some 22, .op (.bin .add .prim), [.t 16, .t 21], none⟩,
  ⟨some 4, .op (.mov), [.t 22], none⟩]
abbrev r147_5 : List IOp := [⟨some 13, .op (.mov), [.t 5], none⟩,
  ⟨some 14, .op (.bin .add .prim), [.t 13, .c (.int .i64 1)], none⟩,
  ⟨some 5, .op (.mov), [.t 14], none⟩]
abbrev b147_0 : IC := (IC.seq (IC.seq (IC.reg r147_3) (IC.cond (.t 12) IC.skip (IC.exit 0))) (IC.seq (IC.block 1 (IC.reg r147_4)) (IC.reg r147_5)))
abbrev r147_6 : List IOp := [⟨some 6, .op (.mov), [.c (.int .u32 1)], none⟩,
  ⟨some 7, .op (.mov), [.c (.int .u32 16777619)], none⟩]
abbrev r147_7 : List IOp := [⟨some 23, .op (.mov), [.t 0], none⟩,
  ⟨some 24, .op (.len .slice), [.t 23], none⟩,
  ⟨some 8, .op (.mov), [.t 24], none⟩]
abbrev r147_8 : List IOp := [⟨some 25, .op (.mov), [.t 8], none⟩,
  ⟨some 26, .op (.bin .gtr .prim), [.t 25, .c (.int .i64 0)], none⟩]
abbrev r147_9 : List IOp := [⟨some 29, .op (.mov), [.t 8], none⟩,
  ⟨some 30, .op (.bin .and .prim), [.t 29, .c (.int .i64 1)], none⟩,
  ⟨some 31, .op (.bin .neq .prim), [.t 30, .c (.int .i64 0)], none⟩]
abbrev r147_10 : List IOp := [⟨some 32, .op (.mov), [.t 6], none⟩,
  ⟨some 33, .op (.mov), [.t 7], none⟩,
  ⟨some 34, .op (.bin .mul .prim), [.t 32, .t 33], none⟩,
  ⟨some 6, .op (.mov), [.t 34], none⟩]
abbrev r147_11 : List IOp := [⟨some 35, .op (.mov), [.t 7], none⟩,
  ⟨some 36, .op (.mov), [.t 7], none⟩,
  ⟨some 37, .op (.bin .mul .prim), [.t 35, .t 36], none⟩,
  ⟨some 7, .op (.mov), [.t 37], none⟩]
abbrev r147_12 : List IOp := [⟨some 27, .op (.mov), [.t 8], none⟩,
  ⟨some 28, .op (.bin .shr .prim), [.t 27, .c (.int .u64 1)], none⟩,
  ⟨some 8, .op (.mov), [.t 28], none⟩]
abbrev b147_1 : IC := (IC.seq (IC.seq (IC.reg r147_8) (IC.cond (.t 26) IC.skip (IC.exit 2))) (IC.seq (IC.block 3 (IC.seq (IC.seq (IC.reg r147_9) (IC.cond (.t 31) (IC.reg r147_10) IC.skip)) (IC.reg r147_11))) (IC.reg r147_12)))
abbrev r147_13 : List IOp := [⟨some 38, .op (.mov), [.t 4], none⟩,
  ⟨some 39, .op (.mov), [.t 6], none⟩,
  ⟨some 2, .op (.mov), [.t 38], none⟩,
  ⟨some 3, .op (.mov), [.t 39], none⟩]
abbrev c147 : IC := (IC.seq (IC.reg r147_0) (IC.seq (IC.reg r147_1) (IC.seq (IC.seq (IC.reg r147_2) (IC.block 0 (IC.loop b147_0))) (IC.seq (IC.reg r147_6) (IC.seq (IC.seq (IC.reg r147_7) (IC.block 2 (IC.loop b147_1))) (IC.seq (IC.reg r147_13) IC.ret))))))
abbrev g147 : FC := ⟨c147, 40, [.t 2, .t 3]⟩
theorem comp147 : compF Go.Proofs.Try.prog (fun _ => 0) 147 = some g147 := by kernel_rfl

set_option maxRecDepth 100000 in
abbrev FT : FTr := (.node 107 g107 (.node 58 g58 (.node 51 g51 (.node 14 g14 (.node 12 g12 (.node 10 g10 .nil .nil) (.node 13 g13 .nil .nil)) (.node 50 g50 (.node 17 g17 .nil .nil) .nil)) (.node 55 g55 (.node 53 g53 (.node 52 g52 .nil .nil) (.node 54 g54 .nil .nil)) (.node 57 g57 (.node 56 g56 .nil .nil) .nil))) (.node 65 g65 (.node 62 g62 (.node 60 g60 (.node 59 g59 .nil .nil) (.node 61 g61 .nil .nil)) (.node 64 g64 (.node 63 g63 .nil .nil) .nil)) (.node 69 g69 (.node 68 g68 (.node 66 g66 .nil .nil) .nil) (.node 106 g106 (.node 70 g70 .nil .nil) .nil)))) (.node 130 g130 (.node 114 g114 (.node 111 g111 (.node 109 g109 (.node 108 g108 .nil .nil) (.node 110 g110 .nil .nil)) (.node 113 g113 (.node 112 g112 .nil .nil) .nil)) (.node 127 g127 (.node 125 g125 (.node 124 g124 .nil .nil) (.node 126 g126 .nil .nil)) (.node 129 g129 (.node 128 g128 .nil .nil) .nil))) (.node 140 g140 (.node 137 g137 (.node 134 g134 (.node 132 g132 .nil .nil) (.node 135 g135 .nil .nil)) (.node 139 g139 (.node 138 g138 .nil .nil) .nil)) (.node 144 g144 (.node 143 g143 (.node 142 g142 .nil .nil) .nil) (.node 147 g147 (.node 145 g145 .nil .nil) .nil)))))
set_option maxRecDepth 100000 in
theorem FT_ok : FT.All (FOk Go.Proofs.Try.prog) := ⟨⟨_, comp107, by decide, .inr keys107⟩, ⟨⟨_, comp58, by decide, .inl (by decide)⟩, ⟨⟨_, comp51, by decide, .inl (by decide)⟩, ⟨⟨_, comp14, by decide, .inl (by decide)⟩, ⟨⟨_, comp12, by decide, .inl (by decide)⟩, ⟨⟨_, comp10, by decide, .inl (by decide)⟩, trivial, trivial⟩, ⟨⟨_, comp13, by decide, .inl (by decide)⟩, trivial, trivial⟩⟩, ⟨⟨_, comp50, by decide, .inl (by decide)⟩, ⟨⟨_, comp17, by decide, .inl (by decide)⟩, trivial, trivial⟩, trivial⟩⟩, ⟨⟨_, comp55, by decide, .inl (by decide)⟩, ⟨⟨_, comp53, by decide, .inl (by decide)⟩, ⟨⟨_, comp52, by decide, .inl (by decide)⟩, trivial, trivial⟩, ⟨⟨_, comp54, by decide, .inl (by decide)⟩, trivial, trivial⟩⟩, ⟨⟨_, comp57, by decide, .inl (by decide)⟩, ⟨⟨_, comp56, by decide, .inl (by decide)⟩, trivial, trivial⟩, trivial⟩⟩⟩, ⟨⟨_, comp65, by decide, .inl (by decide)⟩, ⟨⟨_, comp62, by decide, .inl (by decide)⟩, ⟨⟨_, comp60, by decide, .inl (by decide)⟩, ⟨⟨_, comp59, by decide, .inl (by decide)⟩, trivial, trivial⟩, ⟨⟨_, comp61, by decide, .inl (by decide)⟩, trivial, trivial⟩⟩, ⟨⟨_, comp64, by decide, .inl (by decide)⟩, ⟨⟨_, comp63, by decide, .inl (by decide)⟩, trivial, trivial⟩, trivial⟩⟩, ⟨⟨_, comp69, by decide, .inl (by decide)⟩, ⟨⟨_, comp68, by decide, .inl (by decide)⟩, ⟨⟨_, comp66, by decide, .inl (by decide)⟩, trivial, trivial⟩, trivial⟩, ⟨⟨_, comp106, by decide, .inl (by decide)⟩, ⟨⟨_, comp70, by decide, .inl (by decide)⟩, trivial, trivial⟩, trivial⟩⟩⟩⟩, ⟨⟨_, comp130, by decide, .inl (by decide)⟩, ⟨⟨_, comp114, by decide, .inl (by decide)⟩, ⟨⟨_, comp111, by decide, .inl (by decide)⟩, ⟨⟨_, comp109, by decide, .inr keys109⟩, ⟨⟨_, comp108, by decide, .inl (by decide)⟩, trivial, trivial⟩, ⟨⟨_, comp110, by decide, .inl (by decide)⟩, trivial, trivial⟩⟩, ⟨⟨_, comp113, by decide, .inl (by decide)⟩, ⟨⟨_, comp112, by decide, .inl (by decide)⟩, trivial, trivial⟩, trivial⟩⟩, ⟨⟨_, comp127, by decide, .inl (by decide)⟩, ⟨⟨_, comp125, by decide, .inl (by decide)⟩, ⟨⟨_, comp124, by decide, .inl (by decide)⟩, trivial, trivial⟩, ⟨⟨_, comp126, by decide, .inl (by decide)⟩, trivial, trivial⟩⟩, ⟨⟨_, comp129, by decide, .inl (by decide)⟩, ⟨⟨_, comp128, by decide, .inl (by decide)⟩, trivial, trivial⟩, trivial⟩⟩⟩, ⟨⟨_, comp140, by decide, .inl (by decide)⟩, ⟨⟨_, comp137, by decide, .inl (by decide)⟩, ⟨⟨_, comp134, by decide, .inl (by decide)⟩, ⟨⟨_, comp132, by decide, .inl (by decide)⟩, trivial, trivial⟩, ⟨⟨_, comp135, by decide, .inl (by decide)⟩, trivial, trivial⟩⟩, ⟨⟨_, comp139, by decide, .inl (by decide)⟩, ⟨⟨_, comp138, by decide, .inl (by decide)⟩, trivial, trivial⟩, trivial⟩⟩, ⟨⟨_, comp144, by decide, .inl (by decide)⟩, ⟨⟨_, comp143, by decide, .inl (by decide)⟩, ⟨⟨_, comp142, by decide, .inl (by decide)⟩, trivial, trivial⟩, trivial⟩, ⟨⟨_, comp147, by decide, .inl (by decide)⟩, ⟨⟨_, comp145, by decide, .inl (by decide)⟩, trivial, trivial⟩, trivial⟩⟩⟩⟩⟩
abbrev LT : List (Nat × LI) := [(107000, li107000), (109000, li109000)]
theorem LT_ok : LAll Go.Proofs.Try.prog LT := ⟨lok107000, ⟨lok109000, trivial⟩⟩
end Go.Gi
