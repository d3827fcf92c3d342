/- slices.Sort, as compiled, for elements that lie in one cell: what is common to all its functions; insertion sort, sifting, heap sort, turning round, the median. -/
/- slices.Sort, as compiled, for elements that lie in one cell: the pivot, patterns broken, partitions, the whole. -/
/- slices.Sort, as compiled, for elements that lie in one cell: partitions. -/
/- slices.Sort, as compiled, for elements that lie in one cell: patterns broken. -/
import Derived.Test.YtakdhioafodhcaaGreatDoorGiSL
import Derived.Sort.AssemblyPlain
import Derived.Sort.LotD5
set_option linter.unusedVariables false
set_option linter.unusedSimpArgs false
set_option linter.unusedSectionVars false
namespace Go.Gi
section
open Go

/-- Elements that lie in one cell. -/
structure El1 (α : Type) where
  E : Enc α
  v : α → AV
  hv : ∀ a, E.c a = [v a]
  one : ∀ a, oneA (v a) = true
  nt : ∀ a vs, v a ≠ .tup vs
  ce : ∀ a, cellsA (v a) = E.c a
  nv : ∀ a, nid (v a) = true
  fz : ∀ hp a, frz hp (v a) = some (v a)

abbrev insR0 (less : FuncId) : List IOp := [⟨some 8, .op (.mov), [.t 1], none⟩,
  ⟨some 9, .op (.bin .add .prim), [.t 8, .c (.int .i64 1)], none⟩,
  ⟨some 6, .op (.mov), [.t 9], none⟩]
abbrev insR1 (less : FuncId) : List IOp := [⟨some 10, .op (.mov), [.t 6], none⟩,
  ⟨some 11, .op (.mov), [.t 2], none⟩,
  ⟨some 12, .op (.bin .lss .prim), [.t 10, .t 11], none⟩]
abbrev insR2 (less : FuncId) : List IOp := [⟨some 15, .op (.mov), [.t 6], none⟩,
  ⟨some 7, .op (.mov), [.t 15], none⟩]
abbrev insR3 (less : FuncId) : List IOp := [⟨some 16, .op (.mov), [.t 7], none⟩,
  ⟨some 17, .op (.mov), [.t 1], none⟩,
  ⟨some 18, .op (.bin .gtr .prim), [.t 16, .t 17], none⟩,
  ⟨some 19, .op (.mov), [.t 18], none⟩,
  ⟨some 20, .op (.mov), [.t 0], some (19, true)⟩,
  ⟨some 21, .op (.mov), [.t 7], some (19, true)⟩,
  ⟨some 22, .op (.iaddr 1), [.t 20, .t 21], some (19, true)⟩,
  ⟨some 23, .op (.load none), [.t 22], some (19, true)⟩,
  ⟨some 24, .op (.mov), [.t 0], some (19, true)⟩,
  ⟨some 25, .op (.mov), [.t 7], some (19, true)⟩,
  ⟨some 26, .op (.bin .sub .prim), [.t 25, .c (.int .i64 1)], some (19, true)⟩,
  ⟨some 27, .op (.iaddr 1), [.t 24, .t 26], some (19, true)⟩,
  ⟨some 28, .op (.load none), [.t 27], some (19, true)⟩,
  ⟨some 29, .call none, [.f less, .t 23, .t 28], some (19, true)⟩,
  ⟨some 30, .op (.pick), [.t 19, .t 29, .c (.bool false)], none⟩]
abbrev insR4 (less : FuncId) : List IOp := [⟨some 33, .op (.mov), [.t 0], none⟩,
  ⟨some 34, .op (.mov), [.t 7], none⟩,
  ⟨some 35, .op (.mov), [.t 0], none⟩,
  ⟨some 36, .op (.mov), [.t 7], none⟩,
  ⟨some 37, .op (.bin .sub .prim), [.t 36, .c (.int .i64 1)], none⟩,
  ⟨some 38, .op (.mov), [.t 0], none⟩,
  ⟨some 39, .op (.mov), [.t 7], none⟩,
  ⟨some 40, .op (.bin .sub .prim), [.t 39, .c (.int .i64 1)], none⟩,
  ⟨some 41, .op (.iaddr 1), [.t 38, .t 40], none⟩,
  ⟨some 42, .op (.load none), [.t 41], none⟩,
  ⟨some 43, .op (.mov), [.t 0], none⟩,
  ⟨some 44, .op (.mov), [.t 7], none⟩,
  ⟨some 45, .op (.iaddr 1), [.t 43, .t 44], none⟩,
  ⟨some 46, .op (.load none), [.t 45], none⟩,
  ⟨some 47, .op (.iaddr 1), [.t 33, .t 34], none⟩,
  ⟨none, .op (.store 1), [.t 47, .t 42], none⟩,
  ⟨some 48, .op (.iaddr 1), [.t 35, .t 37], none⟩,
  ⟨none, .op (.store 1), [.t 48, .t 46], none⟩]
abbrev insR5 (less : FuncId) : List IOp := [⟨some 31, .op (.mov), [.t 7], none⟩,
  ⟨some 32, .op (.bin .sub .prim), [.t 31, .c (.int .i64 1)], none⟩,
  ⟨some 7, .op (.mov), [.t 32], none⟩]
abbrev insB0 (less : FuncId) : IC := (IC.seq (IC.seq (IC.regD .wild (insR3 less) (.take 0 (.take 1 (.take 2 (.take 3 (.take 4 (.take 5 (.take 6 (.take 7 (.take 8 (.take 9 (.take 10 (.take 11 (.take 12 (.take 13 (.take 14 (.done))))))))))))))))) (IC.cond (.t 30) IC.skip (IC.exit 2))) (IC.seq (IC.block 3 (IC.regD .wild (insR4 less) (.take 0 (.take 1 (.take 2 (.take 3 (.take 4 (.take 5 (.take 6 (.take 7 (.take 8 (.take 9 (.take 10 (.take 11 (.take 12 (.take 13 (.take 14 (.take 15 (.take 16 (.take 17 (.done))))))))))))))))))))) (IC.reg (insR5 less))))
abbrev insR6 (less : FuncId) : List IOp := [⟨some 13, .op (.mov), [.t 6], none⟩,
  ⟨some 14, .op (.bin .add .prim), [.t 13, .c (.int .i64 1)], none⟩,
  ⟨some 6, .op (.mov), [.t 14], none⟩]
abbrev insB1 (less : FuncId) : IC := (IC.seq (IC.seq (IC.reg (insR1 less)) (IC.cond (.t 12) IC.skip (IC.exit 0))) (IC.seq (IC.block 1 (IC.seq (IC.reg (insR2 less)) (IC.block 2 (IC.loop (insB0 less))))) (IC.reg (insR6 less))))
abbrev insC (less : FuncId) : IC := (IC.seq (IC.reg (insR0 less)) (IC.block 0 (IC.loop (insB1 less))))
abbrev insN : Nat := 49
abbrev sdR0 (less : FuncId) : List IOp := [⟨some 10, .op (.mov), [.t 1], none⟩,
  ⟨some 8, .op (.mov), [.t 10], none⟩]
abbrev sdR1 (less : FuncId) : List IOp := [⟨some 11, .op (.mov), [.t 8], none⟩,
  ⟨some 12, .op (.bin .mul .prim), [.c (.int .i64 2), .t 11], none⟩,
  ⟨some 13, .op (.bin .add .prim), [.t 12, .c (.int .i64 1)], none⟩,
  ⟨some 9, .op (.mov), [.t 13], none⟩]
abbrev sdR2 (less : FuncId) : List IOp := [⟨some 14, .op (.mov), [.t 9], none⟩,
  ⟨some 15, .op (.mov), [.t 2], none⟩,
  ⟨some 16, .op (.bin .geq .prim), [.t 14, .t 15], none⟩]
abbrev sdR3 (less : FuncId) : List IOp := [⟨some 17, .op (.mov), [.t 9], none⟩,
  ⟨some 18, .op (.bin .add .prim), [.t 17, .c (.int .i64 1)], none⟩,
  ⟨some 19, .op (.mov), [.t 2], none⟩,
  ⟨some 20, .op (.bin .lss .prim), [.t 18, .t 19], none⟩,
  ⟨some 21, .op (.mov), [.t 20], none⟩,
  ⟨some 22, .op (.mov), [.t 0], some (21, true)⟩,
  ⟨some 23, .op (.mov), [.t 3], some (21, true)⟩,
  ⟨some 24, .op (.mov), [.t 9], some (21, true)⟩,
  ⟨some 25, .op (.bin .add .prim), [.t 23, .t 24], some (21, true)⟩,
  ⟨some 26, .op (.iaddr 1), [.t 22, .t 25], some (21, true)⟩,
  ⟨some 27, .op (.load none), [.t 26], some (21, true)⟩,
  ⟨some 28, .op (.mov), [.t 0], some (21, true)⟩,
  ⟨some 29, .op (.mov), [.t 3], some (21, true)⟩,
  ⟨some 30, .op (.mov), [.t 9], some (21, true)⟩,
  ⟨some 31, .op (.bin .add .prim), [.t 29, .t 30], some (21, true)⟩,
  ⟨some 32, .op (.bin .add .prim), [.t 31, .c (.int .i64 1)], some (21, true)⟩,
  ⟨some 33, .op (.iaddr 1), [.t 28, .t 32], some (21, true)⟩,
  ⟨some 34, .op (.load none), [.t 33], some (21, true)⟩,
  ⟨some 35, .call none, [.f less, .t 27, .t 34], some (21, true)⟩,
  ⟨some 36, .op (.pick), [.t 21, .t 35, .c (.bool false)], none⟩]
abbrev sdR4 (less : FuncId) : List IOp := [⟨some 37, .op (.mov), [.t 9], none⟩,
  ⟨some 38, .op (.bin .add .prim), [.t 37, .c (.int .i64 1)], none⟩,
  ⟨some 9, .op (.mov), [.t 38], none⟩]
abbrev sdR5 (less : FuncId) : List IOp := [⟨some 39, .op (.mov), [.t 0], none⟩,
  ⟨some 40, .op (.mov), [.t 3], none⟩,
  ⟨some 41, .op (.mov), [.t 8], none⟩,
  ⟨some 42, .op (.bin .add .prim), [.t 40, .t 41], none⟩,
  ⟨some 43, .op (.iaddr 1), [.t 39, .t 42], none⟩,
  ⟨some 44, .op (.load none), [.t 43], none⟩,
  ⟨some 45, .op (.mov), [.t 0], none⟩,
  ⟨some 46, .op (.mov), [.t 3], none⟩,
  ⟨some 47, .op (.mov), [.t 9], none⟩,
  ⟨some 48, .op (.bin .add .prim), [.t 46, .t 47], none⟩,
  ⟨some 49, .op (.iaddr 1), [.t 45, .t 48], none⟩,
  ⟨some 50, .op (.load none), [.t 49], none⟩,
  ⟨some 51, .call none, [.f less, .t 44, .t 50], none⟩,
  ⟨some 52, .op (.un .not), [.t 51], none⟩]
abbrev sdR6 (less : FuncId) : List IOp := [⟨some 53, .op (.mov), [.t 0], none⟩,
  ⟨some 54, .op (.mov), [.t 3], none⟩,
  ⟨some 55, .op (.mov), [.t 8], none⟩,
  ⟨some 56, .op (.bin .add .prim), [.t 54, .t 55], none⟩,
  ⟨some 57, .op (.mov), [.t 0], none⟩,
  ⟨some 58, .op (.mov), [.t 3], none⟩,
  ⟨some 59, .op (.mov), [.t 9], none⟩,
  ⟨some 60, .op (.bin .add .prim), [.t 58, .t 59], none⟩,
  ⟨some 61, .op (.mov), [.t 0], none⟩,
  ⟨some 62, .op (.mov), [.t 3], none⟩,
  ⟨some 63, .op (.mov), [.t 9], none⟩,
  ⟨some 64, .op (.bin .add .prim), [.t 62, .t 63], none⟩,
  ⟨some 65, .op (.iaddr 1), [.t 61, .t 64], none⟩,
  ⟨some 66, .op (.load none), [.t 65], none⟩,
  ⟨some 67, .op (.mov), [.t 0], none⟩,
  ⟨some 68, .op (.mov), [.t 3], none⟩,
  ⟨some 69, .op (.mov), [.t 8], none⟩,
  ⟨some 70, .op (.bin .add .prim), [.t 68, .t 69], none⟩,
  ⟨some 71, .op (.iaddr 1), [.t 67, .t 70], none⟩,
  ⟨some 72, .op (.load none), [.t 71], none⟩,
  ⟨some 73, .op (.iaddr 1), [.t 53, .t 56], none⟩,
  ⟨none, .op (.store 1), [.t 73, .t 66], none⟩,
  ⟨some 74, .op (.iaddr 1), [.t 57, .t 60], none⟩,
  ⟨none, .op (.store 1), [.t 74, .t 72], none⟩]
abbrev sdR7 (less : FuncId) : List IOp := [⟨some 75, .op (.mov), [.t 9], none⟩,
  ⟨some 8, .op (.mov), [.t 75], none⟩]
abbrev sdB0 (less : FuncId) : IC := (IC.block 1 (IC.seq (IC.reg (sdR1 less)) (IC.seq (IC.seq (IC.reg (sdR2 less)) (IC.cond (.t 16) (IC.exit 0) IC.skip)) (IC.seq (IC.seq (IC.regD .wild (sdR3 less) (.take 0 (.take 1 (.take 2 (.take 3 (.take 4 (.take 5 (.take 6 (.take 7 (.take 8 (.take 9 (.take 10 (.take 11 (.take 12 (.take 13 (.take 14 (.take 15 (.take 16 (.take 17 (.take 18 (.take 19 (.done)))))))))))))))))))))) (IC.cond (.t 36) (IC.reg (sdR4 less)) IC.skip)) (IC.seq (IC.seq (IC.regD .wild (sdR5 less) (.take 0 (.take 1 (.take 2 (.take 3 (.take 4 (.take 5 (.take 6 (.take 7 (.take 8 (.take 9 (.take 10 (.take 11 (.take 12 (.take 13 (.done)))))))))))))))) (IC.cond (.t 52) IC.ret IC.skip)) (IC.seq (IC.regD .wild (sdR6 less) (.take 0 (.take 1 (.take 2 (.take 3 (.take 4 (.take 5 (.take 6 (.take 7 (.take 8 (.take 9 (.take 10 (.take 11 (.take 12 (.take 13 (.take 14 (.take 15 (.take 16 (.take 17 (.take 18 (.take 19 (.take 20 (.take 21 (.take 22 (.take 23 (.done)))))))))))))))))))))))))) (IC.reg (sdR7 less))))))))
abbrev sdC (less : FuncId) : IC := (IC.seq (IC.reg (sdR0 less)) (IC.block 0 (IC.loop (sdB0 less))))
abbrev sdN : Nat := 76
abbrev hsR0 (fsd : FuncId) : List IOp := [⟨some 11, .op (.mov), [.t 1], none⟩,
  ⟨some 6, .op (.mov), [.t 11], none⟩]
abbrev hsR1 (fsd : FuncId) : List IOp := [⟨some 7, .op (.mov), [.c (.int .i64 0)], none⟩]
abbrev hsR2 (fsd : FuncId) : List IOp := [⟨some 12, .op (.mov), [.t 2], none⟩,
  ⟨some 13, .op (.mov), [.t 1], none⟩,
  ⟨some 14, .op (.bin .sub .prim), [.t 12, .t 13], none⟩,
  ⟨some 8, .op (.mov), [.t 14], none⟩]
abbrev hsR3 (fsd : FuncId) : List IOp := [⟨some 15, .op (.mov), [.t 8], none⟩,
  ⟨some 16, .op (.bin .sub .prim), [.t 15, .c (.int .i64 1)], none⟩,
  ⟨some 17, .op (.bin .quo .prim), [.t 16, .c (.int .i64 2)], none⟩,
  ⟨some 9, .op (.mov), [.t 17], none⟩]
abbrev hsR4 (fsd : FuncId) : List IOp := [⟨some 18, .op (.mov), [.t 9], none⟩,
  ⟨some 19, .op (.bin .geq .prim), [.t 18, .c (.int .i64 0)], none⟩]
abbrev hsR5 (fsd : FuncId) : List IOp := [⟨some 22, .op (.mov), [.t 0], none⟩,
  ⟨some 23, .op (.mov), [.t 9], none⟩,
  ⟨some 24, .op (.mov), [.t 8], none⟩,
  ⟨some 25, .op (.mov), [.t 6], none⟩,
  ⟨some 26, .call none, [.f fsd, .t 22, .t 23, .t 24, .t 25], none⟩]
abbrev hsR6 (fsd : FuncId) : List IOp := [⟨some 20, .op (.mov), [.t 9], none⟩,
  ⟨some 21, .op (.bin .sub .prim), [.t 20, .c (.int .i64 1)], none⟩,
  ⟨some 9, .op (.mov), [.t 21], none⟩]
abbrev hsB0 (fsd : FuncId) : IC := (IC.seq (IC.seq (IC.reg (hsR4 fsd)) (IC.cond (.t 19) IC.skip (IC.exit 0))) (IC.seq (IC.block 1 (IC.reg (hsR5 fsd))) (IC.reg (hsR6 fsd))))
abbrev hsR7 (fsd : FuncId) : List IOp := [⟨some 27, .op (.mov), [.t 8], none⟩,
  ⟨some 28, .op (.bin .sub .prim), [.t 27, .c (.int .i64 1)], none⟩,
  ⟨some 10, .op (.mov), [.t 28], none⟩]
abbrev hsR8 (fsd : FuncId) : List IOp := [⟨some 29, .op (.mov), [.t 10], none⟩,
  ⟨some 30, .op (.bin .geq .prim), [.t 29, .c (.int .i64 0)], none⟩]
abbrev hsR9 (fsd : FuncId) : List IOp := [⟨some 33, .op (.mov), [.t 0], none⟩,
  ⟨some 34, .op (.mov), [.t 6], none⟩,
  ⟨some 35, .op (.mov), [.t 0], none⟩,
  ⟨some 36, .op (.mov), [.t 6], none⟩,
  ⟨some 37, .op (.mov), [.t 10], none⟩,
  ⟨some 38, .op (.bin .add .prim), [.t 36, .t 37], none⟩,
  ⟨some 39, .op (.mov), [.t 0], none⟩,
  ⟨some 40, .op (.mov), [.t 6], none⟩,
  ⟨some 41, .op (.mov), [.t 10], none⟩,
  ⟨some 42, .op (.bin .add .prim), [.t 40, .t 41], none⟩,
  ⟨some 43, .op (.iaddr 1), [.t 39, .t 42], none⟩,
  ⟨some 44, .op (.load none), [.t 43], none⟩,
  ⟨some 45, .op (.mov), [.t 0], none⟩,
  ⟨some 46, .op (.mov), [.t 6], none⟩,
  ⟨some 47, .op (.iaddr 1), [.t 45, .t 46], none⟩,
  ⟨some 48, .op (.load none), [.t 47], none⟩,
  ⟨some 49, .op (.iaddr 1), [.t 33, .t 34], none⟩,
  ⟨none, .op (.store 1), [.t 49, .t 44], none⟩,
  ⟨some 50, .op (.iaddr 1), [.t 35, .t 38], none⟩,
  ⟨none, .op (.store 1), [.t 50, .t 48], none⟩]
abbrev hsR10 (fsd : FuncId) : List IOp := [⟨some 51, .op (.mov), [.t 0], none⟩,
  ⟨some 52, .op (.mov), [.t 7], none⟩,
  ⟨some 53, .op (.mov), [.t 10], none⟩,
  ⟨some 54, .op (.mov), [.t 6], none⟩,
  ⟨some 55, .call none, [.f fsd, .t 51, .t 52, .t 53, .t 54], none⟩]
abbrev hsR11 (fsd : FuncId) : List IOp := [⟨some 31, .op (.mov), [.t 10], none⟩,
  ⟨some 32, .op (.bin .sub .prim), [.t 31, .c (.int .i64 1)], none⟩,
  ⟨some 10, .op (.mov), [.t 32], none⟩]
abbrev hsB1 (fsd : FuncId) : IC := (IC.seq (IC.seq (IC.reg (hsR8 fsd)) (IC.cond (.t 30) IC.skip (IC.exit 2))) (IC.seq (IC.block 3 (IC.seq (IC.regD .wild (hsR9 fsd) (.take 0 (.take 1 (.take 2 (.take 3 (.take 4 (.take 5 (.take 6 (.take 7 (.take 8 (.take 9 (.take 10 (.take 11 (.take 12 (.take 13 (.take 14 (.take 15 (.take 16 (.take 17 (.take 18 (.take 19 (.done)))))))))))))))))))))) (IC.reg (hsR10 fsd)))) (IC.reg (hsR11 fsd))))
abbrev hsC (fsd : FuncId) : IC := (IC.seq (IC.reg (hsR0 fsd)) (IC.seq (IC.reg (hsR1 fsd)) (IC.seq (IC.reg (hsR2 fsd)) (IC.seq (IC.seq (IC.reg (hsR3 fsd)) (IC.block 0 (IC.loop (hsB0 fsd)))) (IC.seq (IC.reg (hsR7 fsd)) (IC.block 2 (IC.loop (hsB1 fsd))))))))
abbrev hsN : Nat := 56
abbrev rvR0 : List IOp := [⟨some 8, .op (.mov), [.t 1], none⟩,
  ⟨some 6, .op (.mov), [.t 8], none⟩]
abbrev rvR1 : List IOp := [⟨some 9, .op (.mov), [.t 2], none⟩,
  ⟨some 10, .op (.bin .sub .prim), [.t 9, .c (.int .i64 1)], none⟩,
  ⟨some 7, .op (.mov), [.t 10], none⟩]
abbrev rvR2 : List IOp := [⟨some 11, .op (.mov), [.t 6], none⟩,
  ⟨some 12, .op (.mov), [.t 7], none⟩,
  ⟨some 13, .op (.bin .lss .prim), [.t 11, .t 12], none⟩]
abbrev rvR3 : List IOp := [⟨some 14, .op (.mov), [.t 0], none⟩,
  ⟨some 15, .op (.mov), [.t 6], none⟩,
  ⟨some 16, .op (.mov), [.t 0], none⟩,
  ⟨some 17, .op (.mov), [.t 7], none⟩,
  ⟨some 18, .op (.mov), [.t 0], none⟩,
  ⟨some 19, .op (.mov), [.t 7], none⟩,
  ⟨some 20, .op (.iaddr 1), [.t 18, .t 19], none⟩,
  ⟨some 21, .op (.load none), [.t 20], none⟩,
  ⟨some 22, .op (.mov), [.t 0], none⟩,
  ⟨some 23, .op (.mov), [.t 6], none⟩,
  ⟨some 24, .op (.iaddr 1), [.t 22, .t 23], none⟩,
  ⟨some 25, .op (.load none), [.t 24], none⟩,
  ⟨some 26, .op (.iaddr 1), [.t 14, .t 15], none⟩,
  ⟨none, .op (.store 1), [.t 26, .t 21], none⟩,
  ⟨some 27, .op (.iaddr 1), [.t 16, .t 17], none⟩,
  ⟨none, .op (.store 1), [.t 27, .t 25], none⟩]
abbrev rvR4 : List IOp := [⟨some 28, .op (.mov), [.t 6], none⟩,
  ⟨some 29, .op (.bin .add .prim), [.t 28, .c (.int .i64 1)], none⟩,
  ⟨some 6, .op (.mov), [.t 29], none⟩]
abbrev rvR5 : List IOp := [⟨some 30, .op (.mov), [.t 7], none⟩,
  ⟨some 31, .op (.bin .sub .prim), [.t 30, .c (.int .i64 1)], none⟩,
  ⟨some 7, .op (.mov), [.t 31], none⟩]
abbrev rvB0 : IC := (IC.seq (IC.seq (IC.reg rvR2) (IC.cond (.t 13) IC.skip (IC.exit 0))) (IC.block 1 (IC.seq (IC.regD .wild rvR3 (.take 0 (.take 1 (.take 2 (.take 3 (.take 4 (.take 5 (.take 6 (.take 7 (.take 8 (.take 9 (.take 10 (.take 11 (.take 12 (.take 13 (.take 14 (.take 15 (.done)))))))))))))))))) (IC.seq (IC.reg rvR4) (IC.reg rvR5)))))
abbrev rvC : IC := (IC.seq (IC.reg rvR0) (IC.seq (IC.reg rvR1) (IC.block 0 (IC.loop rvB0))))
abbrev rvN : Nat := 32
abbrev o2R0 (less : FuncId) : List IOp := [⟨some 8, .op (.mov), [.c (.int .i64 0)], none⟩,
  ⟨some 9, .op (.mov), [.c (.int .i64 0)], none⟩]
abbrev o2R1 (less : FuncId) : List IOp := [⟨some 10, .op (.mov), [.t 0], none⟩,
  ⟨some 11, .op (.mov), [.t 2], none⟩,
  ⟨some 12, .op (.iaddr 1), [.t 10, .t 11], none⟩,
  ⟨some 13, .op (.load none), [.t 12], none⟩,
  ⟨some 14, .op (.mov), [.t 0], none⟩,
  ⟨some 15, .op (.mov), [.t 1], none⟩,
  ⟨some 16, .op (.iaddr 1), [.t 14, .t 15], none⟩,
  ⟨some 17, .op (.load none), [.t 16], none⟩,
  ⟨some 18, .call none, [.f less, .t 13, .t 17], none⟩]
abbrev o2R2 (less : FuncId) : List IOp := [⟨some 19, .op (.mov), [.t 3], none⟩,
  ⟨some 20, .op (.nilchk), [.t 19], none⟩,
  ⟨some 21, .op (.load none), [.t 20], none⟩,
  ⟨some 22, .op (.bin .add .prim), [.t 21, .c (.int .i64 1)], none⟩,
  ⟨some 23, .op (.nilchk), [.t 19], none⟩,
  ⟨none, .op (.store 1), [.t 23, .t 22], none⟩]
abbrev o2R3 (less : FuncId) : List IOp := [⟨some 24, .op (.mov), [.t 2], none⟩,
  ⟨some 25, .op (.mov), [.t 1], none⟩,
  ⟨some 8, .op (.mov), [.t 24], none⟩,
  ⟨some 9, .op (.mov), [.t 25], none⟩]
abbrev o2R4 (less : FuncId) : List IOp := [⟨some 26, .op (.mov), [.t 1], none⟩,
  ⟨some 27, .op (.mov), [.t 2], none⟩,
  ⟨some 8, .op (.mov), [.t 26], none⟩,
  ⟨some 9, .op (.mov), [.t 27], none⟩]
abbrev o2C (less : FuncId) : IC := (IC.seq (IC.reg (o2R0 less)) (IC.seq (IC.seq (IC.regD .wild (o2R1 less) (.take 0 (.take 1 (.take 2 (.take 3 (.take 4 (.take 5 (.take 6 (.take 7 (.take 8 (.done))))))))))) (IC.cond (.t 18) (IC.seq (IC.reg (o2R2 less)) (IC.seq (IC.reg (o2R3 less)) IC.ret)) IC.skip)) (IC.seq (IC.reg (o2R4 less)) IC.ret)))
abbrev o2N : Nat := 28
abbrev mdR0 (fo2 : FuncId) : List IOp := [⟨some 10, .op (.mov), [.c (.int .i64 0)], none⟩]
abbrev mdR1 (fo2 : FuncId) : List IOp := [⟨some 12, .op (.mov), [.t 0], none⟩,
  ⟨some 13, .op (.mov), [.t 1], none⟩,
  ⟨some 14, .op (.mov), [.t 2], none⟩,
  ⟨some 15, .op (.mov), [.t 4], none⟩,
  ⟨some 16, .call none, [.f fo2, .t 12, .t 13, .t 14, .t 15], none⟩,
  ⟨some 11, .op (.mov), [.t 16], none⟩,
  ⟨some 17, .op (.extract 0), [.t 11], none⟩,
  ⟨some 18, .op (.extract 1), [.t 11], none⟩,
  ⟨some 1, .op (.mov), [.t 17], none⟩,
  ⟨some 2, .op (.mov), [.t 18], none⟩]
abbrev mdR2 (fo2 : FuncId) : List IOp := [⟨some 20, .op (.mov), [.t 0], none⟩,
  ⟨some 21, .op (.mov), [.t 2], none⟩,
  ⟨some 22, .op (.mov), [.t 3], none⟩,
  ⟨some 23, .op (.mov), [.t 4], none⟩,
  ⟨some 24, .call none, [.f fo2, .t 20, .t 21, .t 22, .t 23], none⟩,
  ⟨some 19, .op (.mov), [.t 24], none⟩,
  ⟨some 25, .op (.extract 0), [.t 19], none⟩,
  ⟨some 26, .op (.extract 1), [.t 19], none⟩,
  ⟨some 2, .op (.mov), [.t 25], none⟩,
  ⟨some 3, .op (.mov), [.t 26], none⟩]
abbrev mdR3 (fo2 : FuncId) : List IOp := [⟨some 28, .op (.mov), [.t 0], none⟩,
  ⟨some 29, .op (.mov), [.t 1], none⟩,
  ⟨some 30, .op (.mov), [.t 2], none⟩,
  ⟨some 31, .op (.mov), [.t 4], none⟩,
  ⟨some 32, .call none, [.f fo2, .t 28, .t 29, .t 30, .t 31], none⟩,
  ⟨some 27, .op (.mov), [.t 32], none⟩,
  ⟨some 33, .op (.extract 0), [.t 27], none⟩,
  ⟨some 34, .op (.extract 1), [.t 27], none⟩,
  ⟨some 1, .op (.mov), [.t 33], none⟩,
  ⟨some 2, .op (.mov), [.t 34], none⟩]
abbrev mdR4 (fo2 : FuncId) : List IOp := [⟨some 35, .op (.mov), [.t 2], none⟩,
  ⟨some 10, .op (.mov), [.t 35], none⟩]
abbrev mdC (fo2 : FuncId) : IC := (IC.seq (IC.reg (mdR0 fo2)) (IC.seq (IC.reg (mdR1 fo2)) (IC.seq (IC.reg (mdR2 fo2)) (IC.seq (IC.reg (mdR3 fo2)) (IC.seq (IC.reg (mdR4 fo2)) IC.ret)))))
abbrev mdN : Nat := 36
abbrev maR0 (fmd : FuncId) : List IOp := [⟨some 6, .op (.mov), [.c (.int .i64 0)], none⟩]
abbrev maR1 (fmd : FuncId) : List IOp := [⟨some 7, .op (.mov), [.t 0], none⟩,
  ⟨some 8, .op (.mov), [.t 1], none⟩,
  ⟨some 9, .op (.bin .sub .prim), [.t 8, .c (.int .i64 1)], none⟩,
  ⟨some 10, .op (.mov), [.t 1], none⟩,
  ⟨some 11, .op (.mov), [.t 1], none⟩,
  ⟨some 12, .op (.bin .add .prim), [.t 11, .c (.int .i64 1)], none⟩,
  ⟨some 13, .op (.mov), [.t 2], none⟩,
  ⟨some 14, .call none, [.f fmd, .t 7, .t 9, .t 10, .t 12, .t 13], none⟩,
  ⟨some 6, .op (.mov), [.t 14], none⟩]
abbrev maC (fmd : FuncId) : IC := (IC.seq (IC.reg (maR0 fmd)) (IC.seq (IC.reg (maR1 fmd)) IC.ret))
abbrev maN : Nat := 15

section
variable {α : Type} [Inhabited α] (L : El1 α)
theorem El1.sz : L.E.sz = 1 := by
  have := L.E.len default
  rw [L.hv] at this
  exact this.symm
theorem arr_get {d : Array α} {i : Nat} (h : i < d.size) : d.toList[i]? = some d[i]! := by
  rw [Array.getElem?_toList, Array.getElem?_eq_getElem h, getElem!_pos d i h]
/-- The memory while it is sorted: the row holds d; other blocks are as they were. -/
structure Srt (e : TypeId) (id : Nat) (hp0 hp : HP) (d : Array α) : Prop where
  row : d.size = 0 ∨ hp[id]? = some (some (.row e (L.E.cs d.toList)))
  oth : ∀ k, k ≠ id → k < hp0.length → hp[k]? = hp0[k]?
  len : hp0.length ≤ hp.length
/-- A slice over the row. -/
def SlA (id : Nat) (d : Array α) (v : AV) : Prop := (∀ i : Nat, i < d.size → iaddrA 1 v (.int .i64 (i : Int)) = some (.ptr id i)) ∧ d.size ≤ 1000000000000000000
theorem SlA.at_ {id : Nat} {d d' : Array α} {v : AV} (h : SlA id d v) (hs : d'.size = d.size) {i : Nat} (hi : i < d'.size) : iaddrA 1 v (.int .i64 (i : Int)) = some (.ptr id i) := h.1 i (by omega)
theorem SlA.of {id : Nat} {d d' : Array α} {v : AV} (h : SlA id d v) (hs : d'.size = d.size) : SlA id d' v := ⟨fun i hi => h.1 i (by omega), by rw [hs]; exact h.2⟩
variable {L} {e : TypeId} {id : Nat} {hp0 hp : HP} {d : Array α}
theorem Srt.get (s : Srt L e id hp0 hp d) {i : Nat} (hi : i < d.size) : hp[id]? = some (some (.row e (L.E.cs d.toList))) := s.row.resolve_left (by omega)
theorem pick_at {i : Nat} (hi : i < d.size) : pickA none (L.E.cs d.toList) i = some (L.v d[i]!) := L.E.pick1 L.sz (arr_get hi) (L.hv _) (L.one _)
theorem Srt.set (s : Srt L e id hp0 hp d) {i : Nat} (hi : i < d.size) (x : α) : storeA hp 1 (.ptr id i) (L.v x) = some (hp.set id (some (.row e (L.E.cs (d.setIfInBounds i x).toList)))) ∧ Srt L e id hp0 (hp.set id (some (.row e (L.E.cs (d.setIfInBounds i x).toList)))) (d.setIfInBounds i x) := by
  have hg := s.get hi
  have hlt : id < hp.length := (List.getElem?_eq_some_iff.1 hg).1
  refine ⟨?_, ⟨.inr ?_, fun k hk hl => ?_, ?_⟩⟩
  · have := L.E.sl_store1 L.sz hg (i := i) (by simpa using hi) (b := x) (L.ce x) (L.nt x)
    rw [Array.toList_setIfInBounds]
    exact this
  · rw [List.getElem?_set_self hlt]
  · rw [List.getElem?_set_ne (Ne.symm hk)]
    exact s.oth k hk hl
  · rw [List.length_set]
    exact s.len
/-- Two elements change places. -/
theorem Srt.swap (s : Srt L e id hp0 hp d) {i j : Nat} (hi : i < d.size) (hj : j < d.size) : ∃ hp1 hp2, storeA hp 1 (.ptr id i) (L.v d[j]!) = some hp1 ∧ storeA hp1 1 (.ptr id j) (L.v d[i]!) = some hp2 ∧ Srt L e id hp0 hp2 (Sort.swp d i j) := by
  obtain ⟨h1, s1⟩ := s.set hi d[j]!
  obtain ⟨h2, s2⟩ := s1.set (i := j) (by simpa using hj) d[i]!
  exact ⟨_, _, h1, h2, s2⟩
theorem Srt.refl (h : d.size = 0 ∨ hp[id]? = some (some (.row e (L.E.cs d.toList)))) : Srt L e id hp hp d := ⟨h, fun _ _ _ => rfl, Nat.le_refl _⟩
theorem Srt.app (s : Srt L e id hp0 hp d) (ys : HP) : Srt L e id hp0 (hp ++ ys) d := by
  refine ⟨s.row.imp (fun h => h) fun h => ?_, fun k hk hl => ?_, ?_⟩
  · rw [List.getElem?_append_left (List.getElem?_eq_some_iff.1 h).1]
    exact h
  · rw [List.getElem?_append_left (by have := s.len; omega)]
    exact s.oth k hk hl
  · rw [List.length_append]
    have := s.len
    omega
end

section
variable {α : Type} [Inhabited α] {L : El1 α} {lt : α → α → Bool} {P : Program} {T : Tab} {less : FuncId} {hint : Nat → Nat} {f : FuncId} {e : TypeId} {id : Nat} {hp0 hp : HP} {d : Array α} {v : AV}
/-- What compares gives what it should. -/
def Lss (L : El1 α) (lt : α → α → Bool) (T : Tab) (less : FuncId) : Prop := ∀ x y, T less [L.v x, L.v y] = some (.rd true (.bool (lt x y)))

theorem ins_calls (hm : P.follows .mixedOrders = true) (hT : TabOk P T) (hless : Lss L lt T less) (hf : compF P hint f = some ⟨insC less, insN, []⟩) (s : Srt L e id hp0 hp d) (hv : SlA id d v) {a b : Nat} (hb : b ≤ d.size) (ha : a ≤ d.size) : ACalls P f [v, .int .i64 a, .int .i64 b] hp fun r hp' => r = .tup [] ∧ Srt L e id hp0 hp' (Sort.insertionSort lt d a b) := by
  refine calls_e hm hT hf (by rfl) (by simp [insN]) ?_
  have hsz := hv.2
  have hw0 : IntKind.wrap .i64 ((a : Int) + 1) = ((a + 1 : Nat) : Int) := by rw [wrap_i64 (by omega) (by omega)]; rfl
  have hfz := L.fz
  refine vcE.step (by simp (disch := first | assumption | omega) only [go_sem, ↓reduceIte, Nat.reduceEqDiff, reduceCtorEq, Nat.reduceAdd, Nat.reduceLeDiff, hw0]; rfl) (vcE.block (vcE.loop (by intro l tm hp h; simp [RetE] at h) (fun k tm hp => ∃ (i : Nat) (d' : Array α), k = b - i ∧ d'.size = d.size ∧ Srt L e id hp0 hp d' ∧ Sort.insOuter lt a b i d' = Sort.insertionSort lt d a b ∧ tm 0 = v ∧ tm 1 = .int .i64 a ∧ tm 2 = .int .i64 b ∧ tm 6 = .int .i64 i ∧ i ≤ d.size + 1) (b - (a + 1)) ⟨a + 1, d, rfl, rfl, s, rfl, rfl, rfl, rfl, rfl, by omega⟩ ?_))
  rintro k tm hp ⟨i, d1, rfl, hd1, s1, hs, t0, t1, t2, t6, hi1⟩
  by_cases hi : i < b
  rotate_left
  · refine vcE.ex (by simp (disch := first | assumption | omega) only [go_sem, ↓reduceIte, Nat.reduceEqDiff, reduceCtorEq, Nat.reduceAdd, Nat.reduceLeDiff, t2, t6, hi, decide_false]; rfl) ?_
    refine ⟨.tup [], rfl, rfl, ?_⟩
    rw [Sort.insOuter, if_neg hi] at hs
    rw [← hs]
    exact s1
  rw [Sort.insOuter, if_pos hi] at hs
  have hw6 : IntKind.wrap .i64 ((i : Int) + 1) = ((i + 1 : Nat) : Int) := by rw [wrap_i64 (by omega) (by omega)]; rfl
  refine vcE.step (by simp (disch := first | assumption | omega) only [go_sem, ↓reduceIte, Nat.reduceEqDiff, reduceCtorEq, Nat.reduceAdd, Nat.reduceLeDiff, t2, t6, hi, decide_true]; rfl) ?_
  refine vcE.then (fun e' tm' hp' => e' = .normal ∧ Srt L e id hp0 hp' (Sort.insInner lt a i d1) ∧ (Sort.insInner lt a i d1).size = d.size ∧ tm' 0 = v ∧ tm' 1 = .int .i64 a ∧ tm' 2 = .int .i64 b ∧ tm' 6 = .int .i64 i) ?_ ?_
  · refine vcE.block (vcE.step (by simp (disch := first | assumption | omega) only [go_sem, ↓reduceIte, Nat.reduceEqDiff, reduceCtorEq, Nat.reduceAdd, Nat.reduceLeDiff, t6]; rfl) (vcE.block (vcE.loop (by intro l tm hp h; simp at h) (fun j tm hp => ∃ d' : Array α, j ≤ i ∧ d'.size = d.size ∧ Srt L e id hp0 hp d' ∧ Sort.insInner lt a j d' = Sort.insInner lt a i d1 ∧ tm 0 = v ∧ tm 1 = .int .i64 a ∧ tm 2 = .int .i64 b ∧ tm 6 = .int .i64 i ∧ tm 7 = .int .i64 j) i ⟨d1, Nat.le_refl _, hd1, s1, rfl, by simp only [upd_app, Nat.reduceEqDiff, ↓reduceIte, t0], by simp only [upd_app, Nat.reduceEqDiff, ↓reduceIte, t1], by simp only [upd_app, Nat.reduceEqDiff, ↓reduceIte, t2], by simp only [upd_app, Nat.reduceEqDiff, ↓reduceIte, t6], rfl⟩ ?_)))
    rintro j tm hp ⟨d2, hji, hd2, s2, hs2, t0, t1, t2, t6, t7⟩
    have fin : ∀ {tm' : Env}, Sort.insInner lt a j d2 = d2 → tm' 0 = v → tm' 1 = .int .i64 a → tm' 2 = .int .i64 b → tm' 6 = .int .i64 i → Srt L e id hp0 hp (Sort.insInner lt a i d1) ∧ (Sort.insInner lt a i d1).size = d.size ∧ tm' 0 = v ∧ tm' 1 = .int .i64 a ∧ tm' 2 = .int .i64 b ∧ tm' 6 = .int .i64 i := by
      intro tm' h u0 u1 u2 u6
      rw [← hs2, h]
      exact ⟨s2, hd2, u0, u1, u2, u6⟩
    by_cases hj : a < j
    rotate_left
    · refine vcE.ex (by simp (disch := first | assumption | omega) only [exC, chain, ordered, List.getElem?_cons_zero, List.getElem?_cons_succ, exOps.eq_2, exOp, wantedE, ↓reduceIte, ROp.run, evsE, evE, t7, putE, exOps, ty, Nat.reduceEqDiff, t1, same, binA, intA, gt_iff_lt, dec_false, Option.map_some, beq_iff_eq, cond_true]; rfl) ?_
      refine ⟨rfl, fin ?_ ?_ ?_ ?_ ?_⟩
      · cases j with
        | zero => rfl
        | succ j => rw [Sort.insInner, decide_eq_false (by omega), Bool.false_and, if_neg (by simp)]
      all_goals simp only [upd_app, Nat.reduceEqDiff, ↓reduceIte, t0, t1, t2, t6]
    obtain ⟨j, rfl⟩ : ∃ j', j = j' + 1 := ⟨j - 1, by omega⟩
    have hj1 : j + 1 < d2.size := by omega
    have g2 := s2.get hj1
    have i1 := hv.at_ hd2 hj1
    have i2 := hv.at_ hd2 (i := j) (by omega)
    have p1 := pick_at (L := L) hj1
    have p2 := pick_at (L := L) (d := d2) (i := j) (by omega)
    have hw7 : IntKind.wrap .i64 (((j + 1 : Nat) : Int) - 1) = ((j : Nat) : Int) := by rw [wrap_i64 (by omega) (by omega)]; omega
    have hc := hless d2[j + 1]! d2[j]!
    rw [Sort.insInner, decide_eq_true (show j + 1 > a from hj), Bool.true_and] at hs2 fin
    cases hl : lt d2[j + 1]! d2[j]! <;> rw [hl] at hc hs2 fin
    · refine vcE.ex (by simp (disch := first | assumption | omega) only [exC, chain, ordered, List.getElem?_cons_zero, List.getElem?_cons_succ, exOps.eq_2, exOp, wantedE, ↓reduceIte, ROp.run, evsE, evE, t7, putE, exOps, ty, Nat.reduceEqDiff, t1, same, binA, intA, gt_iff_lt, dec_true, Option.map_some, beq_self_eq_true, reduceCtorEq, t0, i1, loadA, rowA, g2, ↓p1, hw7, i2, ↓p2, List.append_nil, frzL.eq_2, hfz, frzL, hc, Cls.isFree, callCls, nidL.eq_2, nidL, Bool.true_or, cond_true]; rfl) ?_
      refine ⟨rfl, fin (by simp) ?_ ?_ ?_ ?_⟩
      all_goals simp only [upd_app, Nat.reduceEqDiff, ↓reduceIte, t0, t1, t2, t6]
    · obtain ⟨h1, h2, hst1, hst2, s3⟩ := s2.swap hj1 (j := j) (by omega)
      refine vcE.ex (by simp (disch := first | assumption | omega) only [exC, chain, ordered, List.getElem?_cons_zero, List.getElem?_cons_succ, exOps.eq_2, exOp, wantedE, ↓reduceIte, ROp.run, evsE, evE, t7, putE, exOps, ty, Nat.reduceEqDiff, t1, same, binA, intA, gt_iff_lt, dec_true, Option.map_some, beq_self_eq_true, reduceCtorEq, t0, i1, loadA, rowA, g2, ↓p1, hw7, i2, ↓p2, List.append_nil, frzL.eq_2, hfz, frzL, hc, Cls.isFree, callCls, nidL.eq_2, nidL, Bool.true_or, cond_true, ↓hst1, ↓hst2]; rfl) ?_
      refine ⟨j, by omega, _, by omega, ?_, s3, by simpa using hs2, ?_, ?_, ?_, ?_, ?_⟩
      · rw [Sort.swp_size]
        exact hd2
      all_goals simp only [upd_app, Nat.reduceEqDiff, ↓reduceIte, t0, t1, t2, t6]
  · rintro e' tm hp ⟨rfl, s2, hd2, t0, t1, t2, t6⟩
    refine vcE.ex (by simp (disch := first | assumption | omega) only [go_sem, ↓reduceIte, Nat.reduceEqDiff, reduceCtorEq, Nat.reduceAdd, Nat.reduceLeDiff, t6, hw6]; rfl) ?_
    refine ⟨b - (i + 1), by omega, i + 1, _, rfl, hd2, s2, hs, ?_, ?_, ?_, ?_, by omega⟩
    all_goals simp only [upd_app, Nat.reduceEqDiff, ↓reduceIte, t0, t1, t2]

theorem natW {x : Int} (n : Nat) (h : x = (n : Int)) (h2 : n ≤ 9000000000000000000) : IntKind.wrap .i64 x = (n : Int) := by
  subst h
  exact wrap_i64 (by omega) (by omega)
theorem sd_calls (hm : P.follows .mixedOrders = true) (hT : TabOk P T) (hless : Lss L lt T less) (hf : compF P hint f = some ⟨sdC less, sdN, []⟩) (s : Srt L e id hp0 hp d) (hv : SlA id d v) {lo hi first : Nat} (hfh : first + hi ≤ d.size) (hlo : lo ≤ d.size) : ACalls P f [v, .int .i64 lo, .int .i64 hi, .int .i64 first] hp fun r hp' => r = .tup [] ∧ Srt L e id hp0 hp' (Sort.siftDown lt hi first lo d) ∧ (Sort.siftDown lt hi first lo d).size = d.size := by
  refine calls_e hm hT hf (by rfl) (by simp [sdN]) ?_
  have hsz := hv.2
  have hfz := L.fz
  refine vcE.step (by simp (disch := first | assumption | omega) only [go_sem, ↓reduceIte, Nat.reduceEqDiff, reduceCtorEq, Nat.reduceAdd, Nat.reduceLeDiff]; rfl) (vcE.block (vcE.loop (by intro l tm hp h; simp [RetE] at h) (fun k tm hp => ∃ (root : Nat) (d' : Array α), k = hi - root ∧ root ≤ d.size ∧ d'.size = d.size ∧ Srt L e id hp0 hp d' ∧ Sort.siftDown lt hi first root d' = Sort.siftDown lt hi first lo d ∧ tm 0 = v ∧ tm 2 = .int .i64 hi ∧ tm 3 = .int .i64 first ∧ tm 8 = .int .i64 root) (hi - lo) ⟨lo, d, rfl, hlo, rfl, s, rfl, rfl, rfl, rfl, rfl⟩ ?_))
  rintro k tm hp ⟨root, d1, rfl, hroot, hd1, s1, hs, t0, t2, t3, t8⟩
  have stop : ∀ {ex : Exit} {tm' : Env}, ex = .ret ∨ ex = .normal → Sort.siftDown lt hi first root d1 = d1 → RetE [] (fun r hp' => r = .tup [] ∧ Srt L e id hp0 hp' (Sort.siftDown lt hi first lo d) ∧ (Sort.siftDown lt hi first lo d).size = d.size) ex tm' hp := by
    intro ex tm' hex h
    rw [← hs, h]
    rcases hex with rfl | rfl
    all_goals exact ⟨.tup [], rfl, rfl, s1, hd1⟩
  have w1 := natW (x := 2 * (root : Int)) (2 * root) (by omega) (by omega)
  have w2 := natW (x := ((2 * root : Nat) : Int) + 1) (2 * root + 1) (by omega) (by omega)
  have w3 := natW (x := ((2 * root + 1 : Nat) : Int) + 1) (2 * root + 1 + 1) (by omega) (by omega)
  have w4 := natW (x := (first : Int) + ((2 * root + 1 : Nat) : Int)) (first + (2 * root + 1)) (by omega) (by omega)
  have w5 := natW (x := ((first + (2 * root + 1) : Nat) : Int) + 1) (first + (2 * root + 1) + 1) (by omega) (by omega)
  have w6 := natW (x := (first : Int) + (root : Int)) (first + root) (by omega) (by omega)
  have w7 := natW (x := (first : Int) + ((2 * root + 1 + 1 : Nat) : Int)) (first + (2 * root + 1) + 1) (by omega) (by omega)
  by_cases h1 : hi ≤ 2 * root + 1
  · refine vcE.ex (by simp (disch := first | assumption | omega) only [exC, exOps, exOp, wantedE, ↓reduceIte, ROp.run, evsE, evE, t8, putE, ty, same, binA, intA, w1, Option.map_some, w2, Nat.reduceEqDiff, t2, ge_iff_le, Int.ofNat_le, h1, decide_true, reduceCtorEq]; rfl) ?_
    refine stop (.inr rfl) ?_
    rw [Sort.siftDown, dif_pos h1]
  rw [Sort.siftDown, dif_neg h1] at hs stop
  have hc : first + (2 * root + 1) < d1.size := by omega
  have hr : first + root < d1.size := by omega
  have g1 := s1.get hc
  have i1 := hv.at_ hd1 hc
  have i2 := hv.at_ hd1 hr
  have p1 := pick_at (L := L) hc
  have p2 := pick_at (L := L) hr
  refine vcE.block (vcE.step (by simp (disch := first | assumption | omega) only [go_sem, ↓reduceIte, Nat.reduceEqDiff, reduceCtorEq, Nat.reduceAdd, Nat.reduceLeDiff, t0, t2, t3, t8, w1, w2]; rfl) (vcE.step (by simp (disch := first | assumption | omega) only [exC, exOps, exOp, wantedE, ↓reduceIte, ROp.run, evsE, evE, ty, putE, Nat.reduceEqDiff, t2, same, binA, intA, ge_iff_le, Int.ofNat_le, h1, decide_false, Option.map_some]; rfl) ?_))
  -- the greater child
  refine vcE.then (fun e' tm' hp' => e' = .normal ∧ hp' = hp ∧ tm' 0 = v ∧ tm' 2 = .int .i64 hi ∧ tm' 3 = .int .i64 first ∧ tm' 8 = .int .i64 root ∧ tm' 9 = .int .i64 (if (decide (2 * root + 1 + 1 < hi) && lt d1[first + (2 * root + 1)]! d1[first + (2 * root + 1) + 1]!) = true then ((2 * root + 1 + 1 : Nat) : Int) else ((2 * root + 1 : Nat) : Int))) ?_ ?_
  · by_cases h2 : 2 * root + 1 + 1 < hi
    · have hc2 : first + (2 * root + 1) + 1 < d1.size := by omega
      have i3 := hv.at_ hd1 hc2
      have p3 := pick_at (L := L) hc2
      have hcl := hless d1[first + (2 * root + 1)]! d1[first + (2 * root + 1) + 1]!
      rw [decide_eq_true h2, Bool.true_and]
      cases hl : lt d1[first + (2 * root + 1)]! d1[first + (2 * root + 1) + 1]! <;> rw [hl] at hcl
      · refine vcE.ex (by simp (disch := first | assumption | omega) only [exC, chain, ordered, List.getElem?_cons_zero, List.getElem?_cons_succ, exOps.eq_2, exOp, wantedE, ↓reduceIte, ROp.run, evsE, evE, ty, Nat.reduceEqDiff, putE, exOps, same, binA, intA, w3, Option.map_some, t2, Int.ofNat_lt, h2, decide_true, beq_self_eq_true, reduceCtorEq, t0, t3, w4, i1, loadA, rowA, g1, ↓p1, w5, i3, ↓p3, List.append_nil, frzL.eq_2, hfz, frzL, hcl, Cls.isFree, callCls, nidL.eq_2, nidL, Bool.true_or, cond_true]; rfl) ?_
        refine ⟨rfl, rfl, ?_, ?_, ?_, ?_, ?_⟩
        all_goals simp only [upd_app, Nat.reduceEqDiff, ↓reduceIte, t0, t2, t3, t8, Bool.false_eq_true, if_false]
      · refine vcE.ex (by simp (disch := first | assumption | omega) only [exC, chain, ordered, List.getElem?_cons_zero, List.getElem?_cons_succ, exOps.eq_2, exOp, wantedE, ↓reduceIte, ROp.run, evsE, evE, ty, Nat.reduceEqDiff, putE, exOps, same, binA, intA, w3, Option.map_some, t2, Int.ofNat_lt, h2, decide_true, beq_self_eq_true, reduceCtorEq, t0, t3, w4, i1, loadA, rowA, g1, ↓p1, w5, i3, ↓p3, List.append_nil, frzL.eq_2, hfz, frzL, hcl, Cls.isFree, callCls, nidL.eq_2, nidL, Bool.true_or, cond_true]; rfl) ?_
        refine ⟨rfl, rfl, ?_, ?_, ?_, ?_, ?_⟩
        all_goals simp only [upd_app, Nat.reduceEqDiff, ↓reduceIte, t0, t2, t3, t8, if_true]
    · rw [decide_eq_false h2, Bool.false_and]
      refine vcE.ex (by simp (disch := first | assumption | omega) only [exC, chain, ordered, List.getElem?_cons_zero, List.getElem?_cons_succ, exOps.eq_2, exOp, wantedE, ↓reduceIte, ROp.run, evsE, evE, ty, Nat.reduceEqDiff, putE, exOps, same, binA, intA, w3, Option.map_some, t2, Int.ofNat_lt, h2, decide_false, beq_iff_eq, cond_true]; rfl) ?_
      refine ⟨rfl, rfl, ?_, ?_, ?_, ?_, ?_⟩
      all_goals simp only [upd_app, Nat.reduceEqDiff, ↓reduceIte, t0, t2, t3, t8, Bool.false_eq_true, if_false]
  clear t0 t2 t3 t8
  rintro e' tm hp' ⟨rfl, rfl, t0, t2, t3, t8, t9⟩
  by_cases hB : (decide (2 * root + 1 + 1 < hi) && lt d1[first + (2 * root + 1)]! d1[first + (2 * root + 1) + 1]!) = true
  · rw [if_pos hB] at t9 hs stop
    have h2 : 2 * root + 1 + 1 < hi := by
      simp only [Bool.and_eq_true, decide_eq_true_eq] at hB
      exact hB.1
    have hc2 : first + (2 * root + 1) + 1 < d1.size := by omega
    have i3 := hv.at_ hd1 hc2
    have p3 := pick_at (L := L) hc2
    have e2 : first + (2 * root + 2) = first + (2 * root + 1) + 1 := by omega
    rw [e2] at hs stop
    have hcl := hless d1[first + root]! d1[first + (2 * root + 1) + 1]!
    cases hl : lt d1[first + root]! d1[first + (2 * root + 1) + 1]! <;> rw [hl] at hcl hs stop
    · refine vcE.ex (by simp (disch := first | assumption | omega) only [exC, chain, ordered, List.getElem?_cons_zero, List.getElem?_cons_succ, exOps.eq_2, exOp, wantedE, ↓reduceIte, ROp.run, evsE, evE, t0, putE, exOps, ty, Nat.reduceEqDiff, t3, t8, same, binA, intA, w6, Option.map_some, i2, loadA, rowA, g1, ↓p2, reduceCtorEq, t9, w7, i3, ↓p3, List.append_nil, frzL.eq_2, hfz, frzL, hcl, Cls.isFree, callCls, Bool.not_false, nidL.eq_2, nidL, Bool.true_or, unA, cond_true]; rfl) ?_
      exact stop (.inl rfl) (by simp)
    · obtain ⟨h1', h2', hst1, hst2, s3⟩ := s1.swap hr hc2
      refine vcE.ex (by simp (disch := first | assumption | omega) only [exC, chain, ordered, List.getElem?_cons_zero, List.getElem?_cons_succ, exOps.eq_2, exOp, wantedE, ↓reduceIte, ROp.run, evsE, evE, t0, putE, exOps, ty, Nat.reduceEqDiff, t3, t8, same, binA, intA, w6, Option.map_some, i2, loadA, rowA, g1, ↓p2, reduceCtorEq, t9, w7, i3, ↓p3, List.append_nil, frzL.eq_2, hfz, frzL, hcl, Cls.isFree, callCls, nidL.eq_2, nidL, Bool.true_or, unA, Bool.not_true, cond_true, ↓hst1, ↓hst2]; rfl) ?_
      simp only [Bool.not_true, Bool.false_eq_true, if_false] at hs
      rw [dif_pos (show 2 * root + 2 < hi by omega)] at hs
      refine ⟨hi - (2 * root + 2), by omega, 2 * root + 2, _, rfl, by omega, ?_, s3, hs, ?_, ?_, ?_, ?_⟩
      · rw [Sort.swp_size]
        exact hd1
      all_goals simp only [upd_app, Nat.reduceEqDiff, ↓reduceIte, t0, t2, t3]
  · rw [if_neg hB] at t9 hs stop
    have hcl := hless d1[first + root]! d1[first + (2 * root + 1)]!
    cases hl : lt d1[first + root]! d1[first + (2 * root + 1)]! <;> rw [hl] at hcl hs stop
    · refine vcE.ex (by simp (disch := first | assumption | omega) only [exC, chain, ordered, List.getElem?_cons_zero, List.getElem?_cons_succ, exOps.eq_2, exOp, wantedE, ↓reduceIte, ROp.run, evsE, evE, t0, putE, exOps, ty, Nat.reduceEqDiff, t3, t8, same, binA, intA, w6, Option.map_some, i2, loadA, rowA, g1, ↓p2, reduceCtorEq, t9, w4, i1, ↓p1, List.append_nil, frzL.eq_2, hfz, frzL, hcl, Cls.isFree, callCls, Bool.not_false, nidL.eq_2, nidL, Bool.true_or, unA, cond_true]; rfl) ?_
      exact stop (.inl rfl) (by simp)
    · obtain ⟨h1', h2', hst1, hst2, s3⟩ := s1.swap hr hc
      refine vcE.ex (by simp (disch := first | assumption | omega) only [exC, chain, ordered, List.getElem?_cons_zero, List.getElem?_cons_succ, exOps.eq_2, exOp, wantedE, ↓reduceIte, ROp.run, evsE, evE, t0, putE, exOps, ty, Nat.reduceEqDiff, t3, t8, same, binA, intA, w6, Option.map_some, i2, loadA, rowA, g1, ↓p2, reduceCtorEq, t9, w4, i1, ↓p1, List.append_nil, frzL.eq_2, hfz, frzL, hcl, Cls.isFree, callCls, nidL.eq_2, nidL, Bool.true_or, unA, Bool.not_true, cond_true, ↓hst1, ↓hst2]; rfl) ?_
      simp only [Bool.not_true, Bool.false_eq_true, if_false] at hs
      refine ⟨hi - (2 * root + 1), by omega, 2 * root + 1, _, rfl, by omega, ?_, s3, hs, ?_, ?_, ?_, ?_⟩
      · rw [Sort.swp_size]
        exact hd1
      all_goals simp only [upd_app, Nat.reduceEqDiff, ↓reduceIte, t0, t2, t3]

theorem hs_calls (hm : P.follows .mixedOrders = true) (hT : TabOk P T) (hless : Lss L lt T less) {fsd : FuncId} {hint' : Nat → Nat} (hsd : compF P hint' fsd = some ⟨sdC less, sdN, []⟩) (hf : compF P hint f = some ⟨hsC fsd, hsN, []⟩) (s : Srt L e id hp0 hp d) (hv : SlA id d v) {a b : Nat} (hab : a < b) (hb : b ≤ d.size) : ACalls P f [v, .int .i64 a, .int .i64 b] hp fun r hp' => r = .tup [] ∧ Srt L e id hp0 hp' (Sort.heapSort lt d a b) := by
  refine calls_e hm hT hf (by rfl) (by simp [hsN]) ?_
  have hsz := hv.2
  have w1 := natW (x := (b : Int) - (a : Int)) (b - a) (by omega) (by omega)
  generalize hn : b - a = n at *
  have w2 : IntKind.wrap .i64 ((n : Int) - 1) = (n : Int) - 1 := wrap_i64 (by omega) (by omega)
  have w3 : ((n : Int) - 1).tdiv 2 = ((n : Int) - 1) / 2 := Int.tdiv_eq_ediv_of_nonneg (by omega)
  have w4 : IntKind.wrap .i64 (((n : Int) - 1) / 2) = (((n - 1) / 2 + 1 : Nat) : Int) - 1 := by rw [wrap_i64 (by omega) (by omega)]; omega
  unfold Sort.heapSort
  rw [hn]
  refine vcE.step (by simp (disch := first | assumption | omega) only [go_sem, ↓reduceIte, Nat.reduceEqDiff, reduceCtorEq, Nat.reduceAdd, Nat.reduceLeDiff]; rfl) (vcE.step (by simp (disch := first | assumption | omega) only [go_sem, ↓reduceIte, Nat.reduceEqDiff, reduceCtorEq, Nat.reduceAdd, Nat.reduceLeDiff]; rfl) (vcE.step (by simp (disch := first | assumption | omega) only [go_sem, ↓reduceIte, Nat.reduceEqDiff, reduceCtorEq, Nat.reduceAdd, Nat.reduceLeDiff, w1]; rfl) ?_))
  refine vcE.then (fun e' tm hp' => e' = .normal ∧ Srt L e id hp0 hp' (Sort.heapBuild lt n a ((n - 1) / 2 + 1) d) ∧ (Sort.heapBuild lt n a ((n - 1) / 2 + 1) d).size = d.size ∧ tm 0 = v ∧ tm 6 = .int .i64 a ∧ tm 7 = .int .i64 ((0 : Nat) : Int) ∧ tm 8 = .int .i64 n) ?_ ?_
  · refine vcE.step (by simp (disch := first | assumption | omega) only [go_sem, ↓reduceIte, Nat.reduceEqDiff, reduceCtorEq, Nat.reduceAdd, Nat.reduceLeDiff, w2, w3, w4]; rfl) (vcE.block (vcE.loop (by intro l tm hp h; simp at h) (fun k tm hp => ∃ d' : Array α, k ≤ (n - 1) / 2 + 1 ∧ d'.size = d.size ∧ Srt L e id hp0 hp d' ∧ Sort.heapBuild lt n a k d' = Sort.heapBuild lt n a ((n - 1) / 2 + 1) d ∧ tm 0 = v ∧ tm 6 = .int .i64 a ∧ tm 7 = .int .i64 ((0 : Nat) : Int) ∧ tm 8 = .int .i64 n ∧ tm 9 = .int .i64 ((k : Int) - 1)) ((n - 1) / 2 + 1) ⟨d, Nat.le_refl _, rfl, s, rfl, rfl, rfl, rfl, rfl, rfl⟩ ?_))
    rintro k tm hp ⟨d1, hk, hd1, s1, hs, t0, t6, t7, t8, t9⟩
    cases k with
    | zero =>
      have hge : ¬ (0 : Int) ≤ ((0 : Nat) : Int) - 1 := by omega
      refine vcE.ex (by simp (disch := first | assumption | omega) only [go_sem, ↓reduceIte, Nat.reduceEqDiff, reduceCtorEq, Nat.reduceAdd, Nat.reduceLeDiff, t9, ge_iff_le, hge, decide_false]; rfl) ?_
      rw [Sort.heapBuild] at hs
      rw [← hs]
      refine ⟨rfl, s1, hd1, ?_, ?_, ?_, ?_⟩
      all_goals simp only [upd_app, Nat.reduceEqDiff, ↓reduceIte, t0, t6, t7, t8]
    | succ k =>
      have ek : ((k + 1 : Nat) : Int) - 1 = (k : Int) := by omega
      rw [ek] at t9
      have hge : (0 : Int) ≤ (k : Int) := by omega
      have w5 : IntKind.wrap .i64 ((k : Int) - 1) = (k : Int) - 1 := wrap_i64 (by omega) (by omega)
      refine vcE.step (by simp (disch := first | assumption | omega) only [go_sem, ↓reduceIte, Nat.reduceEqDiff, reduceCtorEq, Nat.reduceAdd, Nat.reduceLeDiff, t9, ge_iff_le, hge, decide_true]; rfl) ?_
      refine vcE.then (fun e' tm' hp' => e' = .normal ∧ Srt L e id hp0 hp' (Sort.siftDown lt n a k d1) ∧ (Sort.siftDown lt n a k d1).size = d1.size ∧ tm' 0 = v ∧ tm' 6 = .int .i64 a ∧ tm' 7 = .int .i64 ((0 : Nat) : Int) ∧ tm' 8 = .int .i64 n ∧ tm' 9 = .int .i64 k) ?_ ?_
      · rw [show hsR5 fsd = (hsR5 fsd).take 4 ++ (hsR5 fsd).drop 4 from rfl]
        refine vcE.block (vcE.app (vcE.ex (by simp (disch := first | assumption | omega) only [go_sem, ↓reduceIte, Nat.reduceEqDiff, reduceCtorEq, Nat.reduceAdd, Nat.reduceLeDiff, t0, t6, t8, t9]; rfl) ⟨rfl, vcE.call (f := fsd) (caps := []) (ys := [v, .int .i64 k, .int .i64 n, .int .i64 a]) rfl ?_ (sd_calls hm hT hless hsd s1 (hv.of hd1) (lo := k) (hi := n) (first := a) (by omega) (by omega)) ?_⟩))
        · simp only [evsE, evE, upd_app, Nat.reduceEqDiff, ↓reduceIte, t0, t6, t8, t9]
        · rintro r hp' ⟨rfl, s2, hd2⟩
          refine ⟨rfl, s2, hd2, ?_, ?_, ?_, ?_, ?_⟩
          all_goals simp only [putE, upd_app, Nat.reduceEqDiff, ↓reduceIte, t0, t6, t7, t8, t9]
      · rintro e' tm' hp' ⟨rfl, s2, hd2, u0, u6, u7, u8, u9⟩
        refine vcE.ex (by simp (disch := first | assumption | omega) only [go_sem, ↓reduceIte, Nat.reduceEqDiff, reduceCtorEq, Nat.reduceAdd, Nat.reduceLeDiff, u9, w5]; rfl) ?_
        refine ⟨k, by omega, _, by omega, by omega, s2, by rw [← hs, Sort.heapBuild], ?_, ?_, ?_, ?_, ?_⟩
        all_goals simp only [upd_app, Nat.reduceEqDiff, ↓reduceIte, u0, u6, u7, u8]
  · rintro e' tm hp ⟨rfl, s1, hd1, t0, t6, t7, t8⟩
    generalize Sort.heapBuild lt n a ((n - 1) / 2 + 1) d = d1 at *
    refine vcE.step (by simp (disch := first | assumption | omega) only [go_sem, ↓reduceIte, Nat.reduceEqDiff, reduceCtorEq, Nat.reduceAdd, Nat.reduceLeDiff, t8, w2]; rfl) (vcE.block (vcE.loop (by intro l tm hp h; simp [RetE] at h) (fun k tm hp => ∃ d' : Array α, k ≤ n ∧ d'.size = d.size ∧ Srt L e id hp0 hp d' ∧ Sort.heapPop lt a k d' = Sort.heapPop lt a n d1 ∧ tm 0 = v ∧ tm 6 = .int .i64 a ∧ tm 7 = .int .i64 ((0 : Nat) : Int) ∧ tm 10 = .int .i64 ((k : Int) - 1)) n ⟨d1, Nat.le_refl _, hd1, s1, rfl, ?_, ?_, ?_, rfl⟩ ?_))
    · simp only [upd_app, Nat.reduceEqDiff, ↓reduceIte, t0]
    · simp only [upd_app, Nat.reduceEqDiff, ↓reduceIte, t6]
    · simp only [upd_app, Nat.reduceEqDiff, ↓reduceIte, t7]
    clear t0 t6 t7 t8
    rintro k tm hp ⟨d2, hk, hd2, s2, hs, t0, t6, t7, t10⟩
    cases k with
    | zero =>
      have hge : ¬ (0 : Int) ≤ ((0 : Nat) : Int) - 1 := by omega
      refine vcE.ex (by simp (disch := first | assumption | omega) only [go_sem, ↓reduceIte, Nat.reduceEqDiff, reduceCtorEq, Nat.reduceAdd, Nat.reduceLeDiff, t10, ge_iff_le, hge, decide_false]; rfl) ?_
      rw [Sort.heapPop] at hs
      rw [← hs]
      exact ⟨.tup [], rfl, rfl, s2⟩
    | succ k =>
      have ek : ((k + 1 : Nat) : Int) - 1 = (k : Int) := by omega
      rw [ek] at t10
      have hge : (0 : Int) ≤ (k : Int) := by omega
      have w5 : IntKind.wrap .i64 ((k : Int) - 1) = (k : Int) - 1 := wrap_i64 (by omega) (by omega)
      have w6 := natW (x := (a : Int) + (k : Int)) (a + k) (by omega) (by omega)
      have ha : a < d2.size := by omega
      have hak : a + k < d2.size := by omega
      have g1 := s2.get ha
      have i1 := hv.at_ hd2 ha
      have i2 := hv.at_ hd2 hak
      have p1 := pick_at (L := L) ha
      have p2 := pick_at (L := L) hak
      obtain ⟨x1, x2, hst1, hst2, s3⟩ := s2.swap ha hak
      refine vcE.step (by simp (disch := first | assumption | omega) only [go_sem, ↓reduceIte, Nat.reduceEqDiff, reduceCtorEq, Nat.reduceAdd, Nat.reduceLeDiff, t10, ge_iff_le, hge, decide_true]; rfl) ?_
      refine vcE.then (fun e' tm' hp' => e' = .normal ∧ Srt L e id hp0 hp' (Sort.siftDown lt k a 0 (Sort.swp d2 a (a + k))) ∧ (Sort.siftDown lt k a 0 (Sort.swp d2 a (a + k))).size = (Sort.swp d2 a (a + k)).size ∧ tm' 0 = v ∧ tm' 6 = .int .i64 a ∧ tm' 7 = .int .i64 ((0 : Nat) : Int) ∧ tm' 10 = .int .i64 k) ?_ ?_
      · refine vcE.block (vcE.step (by simp (disch := first | assumption | omega) only [exC, chain, ordered, List.getElem?_cons_zero, List.getElem?_cons_succ, exOps.eq_2, exOp, wantedE, ↓reduceIte, ROp.run, evsE, evE, ty, reduceCtorEq, t0, putE, exOps, Nat.reduceEqDiff, t6, t10, same, binA, intA, w6, Option.map_some, i2, loadA, rowA, g1, ↓p2, i1, ↓p1, ↓hst1, ↓hst2, cond_true]; rfl) ?_)
        rw [show hsR10 fsd = (hsR10 fsd).take 4 ++ (hsR10 fsd).drop 4 from rfl]
        refine vcE.app (vcE.ex (by simp (disch := first | assumption | omega) only [go_sem, ↓reduceIte, Nat.reduceEqDiff, reduceCtorEq, Nat.reduceAdd, Nat.reduceLeDiff, t0, t6, t7, t10]; rfl) ⟨rfl, vcE.call (f := fsd) (caps := []) (ys := [v, .int .i64 ((0 : Nat) : Int), .int .i64 k, .int .i64 a]) rfl ?_ (sd_calls hm hT hless hsd s3 (hv.of (by rw [Sort.swp_size]; exact hd2)) (lo := 0) (hi := k) (first := a) (by rw [Sort.swp_size]; omega) (by omega)) ?_⟩)
        · simp only [evsE, evE, upd_app, Nat.reduceEqDiff, ↓reduceIte, t0, t6, t7, t10]
        · rintro r hp' ⟨rfl, s4, hd4⟩
          refine ⟨rfl, s4, hd4, ?_, ?_, ?_, ?_⟩
          all_goals simp only [putE, upd_app, Nat.reduceEqDiff, ↓reduceIte, t0, t6, t7, t10]
      · rintro e' tm' hp' ⟨rfl, s4, hd4, u0, u6, u7, u10⟩
        refine vcE.ex (by simp (disch := first | assumption | omega) only [go_sem, ↓reduceIte, Nat.reduceEqDiff, reduceCtorEq, Nat.reduceAdd, Nat.reduceLeDiff, u10, w5]; rfl) ?_
        refine ⟨k, by omega, _, by omega, by rw [hd4, Sort.swp_size]; exact hd2, s4, by rw [← hs, Sort.heapPop], ?_, ?_, ?_, ?_⟩
        all_goals simp only [upd_app, Nat.reduceEqDiff, ↓reduceIte, u0, u6, u7]

theorem rv_calls (hm : P.follows .mixedOrders = true) (hT : TabOk P T) (hf : compF P hint f = some ⟨rvC, rvN, []⟩) (s : Srt L e id hp0 hp d) (hv : SlA id d v) {a b : Nat} (hab : a < b) (hb : b ≤ d.size) : ACalls P f [v, .int .i64 a, .int .i64 b] hp fun r hp' => r = .tup [] ∧ Srt L e id hp0 hp' (Sort.reverseRange d a b) ∧ (Sort.reverseRange d a b).size = d.size := by
  refine calls_e hm hT hf (by rfl) (by simp [rvN]) ?_
  have hsz := hv.2
  have w1 := natW (x := (b : Int) - 1) (b - 1) (by omega) (by omega)
  unfold Sort.reverseRange
  refine vcE.step (by simp (disch := first | assumption | omega) only [go_sem, ↓reduceIte, Nat.reduceEqDiff, reduceCtorEq, Nat.reduceAdd, Nat.reduceLeDiff]; rfl) (vcE.step (by simp (disch := first | assumption | omega) only [go_sem, ↓reduceIte, Nat.reduceEqDiff, reduceCtorEq, Nat.reduceAdd, Nat.reduceLeDiff, w1]; rfl) (vcE.block (vcE.loop (by intro l tm hp h; simp [RetE] at h) (fun k tm hp => ∃ (i j : Nat) (d' : Array α), k = j - i ∧ i ≤ d.size ∧ j < d.size ∧ d'.size = d.size ∧ Srt L e id hp0 hp d' ∧ Sort.reverseLoop i j d' = Sort.reverseLoop a (b - 1) d ∧ tm 0 = v ∧ tm 6 = .int .i64 i ∧ tm 7 = .int .i64 j) (b - 1 - a) ⟨a, b - 1, d, rfl, by omega, by omega, rfl, s, rfl, rfl, rfl, rfl⟩ ?_)))
  rintro k tm hp ⟨i, j, d1, rfl, hi, hj, hd1, s1, hs, t0, t6, t7⟩
  rw [Sort.reverseLoop] at hs
  by_cases h : i < j
  rotate_left
  · rw [if_neg h] at hs
    refine vcE.ex (by simp (disch := first | assumption | omega) only [exC, exOps, exOp, wantedE, ↓reduceIte, ROp.run, evsE, evE, t6, putE, ty, Nat.reduceEqDiff, t7, same, binA, intA, Int.ofNat_lt, h, decide_false, Option.map_some]; rfl) ?_
    rw [← hs]
    exact ⟨.tup [], rfl, rfl, s1, hd1⟩
  rw [if_pos h] at hs
  have h1 : i < d1.size := by omega
  have h2 : j < d1.size := by omega
  have g1 := s1.get h1
  have i1 := hv.at_ hd1 h1
  have i2 := hv.at_ hd1 h2
  have p1 := pick_at (L := L) h1
  have p2 := pick_at (L := L) h2
  obtain ⟨x1, x2, hst1, hst2, s3⟩ := s1.swap h1 h2
  have w2 := natW (x := (i : Int) + 1) (i + 1) (by omega) (by omega)
  have w3 := natW (x := (j : Int) - 1) (j - 1) (by omega) (by omega)
  refine vcE.ex (by simp (disch := first | assumption | omega) only [exC, exOps, exOp, wantedE, ↓reduceIte, ROp.run, evsE, evE, t6, putE, ty, Nat.reduceEqDiff, t7, same, binA, intA, Int.ofNat_lt, h, decide_true, Option.map_some, chain, ordered, List.getElem?_cons_zero, List.getElem?_cons_succ, exOps.eq_2, reduceCtorEq, t0, i2, loadA, rowA, g1, ↓p2, i1, ↓p1, ↓hst1, ↓hst2, cond_true, w2, w3]; rfl) ?_
  refine ⟨j - 1 - (i + 1), by omega, i + 1, j - 1, _, rfl, by omega, by omega, by rw [Sort.swp_size]; exact hd1, s3, hs, ?_, ?_, ?_⟩
  all_goals simp only [upd_app, Nat.reduceEqDiff, ↓reduceIte, t0]

theorem Srt.other (s : Srt L e id hp0 hp d) {k : Nat} (hk : hp0.length ≤ k) (hne : k ≠ id) (x : Option Blk) : Srt L e id hp0 (hp.set k x) d := by
  refine ⟨s.row.imp (fun h => h) fun h => ?_, fun i hi hl => ?_, ?_⟩
  · rw [List.getElem?_set_ne hne]
    exact h
  · rw [List.getElem?_set_ne (by omega)]
    exact s.oth i hi hl
  · rw [List.length_set]
    exact s.len
/-- How often was changed, in a cell. -/
abbrev SwA (ti : TypeId) (hp : HP) (k n : Nat) : Prop := hp[k]? = some (some (.row ti [.int .i64 (n : Int)]))
theorem o2_calls (hm : P.follows .mixedOrders = true) (hT : TabOk P T) (hless : Lss L lt T less) (hf : compF P hint f = some ⟨o2C less, o2N, [.t 8, .t 9]⟩) (s : Srt L e id hp0 hp d) (hv : SlA id d v) {a b k n : Nat} {ti : TypeId} (hw : SwA ti hp k n) (hk : hp0.length ≤ k) (hne : k ≠ id) (hn : n ≤ 1000) (ha : a < d.size) (hb : b < d.size) :
    ACalls P f [v, .int .i64 a, .int .i64 b, .ptr k 0] hp fun r hp' => r = .tup [.int .i64 ((Sort.order2 lt d a b n).1 : Nat), .int .i64 ((Sort.order2 lt d a b n).2.1 : Nat)] ∧ Srt L e id hp0 hp' d ∧ SwA ti hp' k (Sort.order2 lt d a b n).2.2 := by
  refine calls_e hm hT hf (by rfl) (by simp [o2N]) ?_
  have hfz := L.fz
  have g1 := s.get ha
  have i1 := hv.1 a ha
  have i2 := hv.1 b hb
  have p1 := pick_at (L := L) ha
  have p2 := pick_at (L := L) hb
  have hcl := hless d[b]! d[a]!
  unfold Sort.order2
  unfold SwA at hw
  have hlt : k < hp.length := (List.getElem?_eq_some_iff.1 hw).1
  have w1 := natW (x := (n : Int) + 1) (n + 1) (by omega) (by omega)
  cases hl : lt d[b]! d[a]! <;> rw [hl] at hcl
  · refine vcE.ex (by simp (disch := first | assumption | omega) only [exC, exOps, exOp, wantedE, ↓reduceIte, ROp.run, evsE, evE, putE, chain, ordered, List.getElem?_cons_zero, List.getElem?_cons_succ, exOps.eq_2, ty, reduceCtorEq, List.getD_cons_zero, Nat.reduceEqDiff, List.getD_cons_succ, same, i2, Option.map_some, loadA, rowA, g1, ↓p2, i1, ↓p1, List.append_nil, frzL.eq_2, hfz, frzL, hcl, Cls.isFree, callCls, nidL.eq_2, nidL, Bool.true_or, cond_true]; rfl) ?_
    exact ⟨_, rfl, rfl, s, hw⟩
  · refine vcE.ex (by simp (disch := first | assumption | omega) only [exC, exOps, exOp, wantedE, ↓reduceIte, ROp.run, evsE, evE, putE, chain, ordered, List.getElem?_cons_zero, List.getElem?_cons_succ, exOps.eq_2, ty, reduceCtorEq, List.getD_cons_zero, Nat.reduceEqDiff, List.getD_cons_succ, same, i2, Option.map_some, loadA, rowA, g1, ↓p2, i1, ↓p1, List.append_nil, frzL.eq_2, hfz, frzL, hcl, Cls.isFree, callCls, nidL.eq_2, nidL, Bool.true_or, cond_true, nilchkA, hw, pickA, tz, binA, intA, w1, storeA_eq, List.length_cons, List.length_nil, Nat.reduceLeDiff, decide_true, over, List.take_zero, List.nil_append, List.drop_succ_cons, List.drop_nil]; rfl) ?_
    refine ⟨_, rfl, rfl, s.other hk hne _, ?_⟩
    rw [SwA, List.getElem?_set_self hlt]
    rfl
theorem order2_lt {a b n : Nat} (ha : a < d.size) (hb : b < d.size) : (Sort.order2 lt d a b n).1 < d.size ∧ (Sort.order2 lt d a b n).2.1 < d.size ∧ (Sort.order2 lt d a b n).2.2 ≤ n + 1 := by
  unfold Sort.order2
  split
  · exact ⟨hb, ha, Nat.le_refl _⟩
  · exact ⟨ha, hb, Nat.le_succ _⟩
theorem median_eq (a b c n : Nat) : Sort.median lt d a b c n = ((Sort.order2 lt d (Sort.order2 lt d a b n).1 (Sort.order2 lt d (Sort.order2 lt d a b n).2.1 c (Sort.order2 lt d a b n).2.2).1 (Sort.order2 lt d (Sort.order2 lt d a b n).2.1 c (Sort.order2 lt d a b n).2.2).2.2).2.1, (Sort.order2 lt d (Sort.order2 lt d a b n).1 (Sort.order2 lt d (Sort.order2 lt d a b n).2.1 c (Sort.order2 lt d a b n).2.2).1 (Sort.order2 lt d (Sort.order2 lt d a b n).2.1 c (Sort.order2 lt d a b n).2.2).2.2).2.2) := rfl
theorem md_calls (hm : P.follows .mixedOrders = true) (hT : TabOk P T) (hless : Lss L lt T less) {fo : FuncId} {hint' : Nat → Nat} (ho : compF P hint' fo = some ⟨o2C less, o2N, [.t 8, .t 9]⟩) (hf : compF P hint f = some ⟨mdC fo, mdN, [.t 10]⟩) (s : Srt L e id hp0 hp d) (hv : SlA id d v) {a b c k n : Nat} {ti : TypeId} (hw : SwA ti hp k n) (hk : hp0.length ≤ k) (hne : k ≠ id) (hn : n ≤ 900) (ha : a < d.size) (hb : b < d.size) (hc : c < d.size) :
    ACalls P f [v, .int .i64 a, .int .i64 b, .int .i64 c, .ptr k 0] hp fun r hp' => r = .int .i64 ((Sort.median lt d a b c n).1 : Nat) ∧ Srt L e id hp0 hp' d ∧ SwA ti hp' k (Sort.median lt d a b c n).2 := by
  refine calls_e hm hT hf (by rfl) (by simp [mdN]) ?_
  rw [median_eq]
  obtain ⟨l1, l2, l3⟩ := order2_lt (lt := lt) (n := n) ha hb
  generalize h1 : Sort.order2 lt d a b n = r1 at *
  obtain ⟨a1, b1, n1⟩ := r1
  obtain ⟨m1, m2, m3⟩ := order2_lt (lt := lt) (n := n1) (a := b1) (b := c) l2 hc
  generalize h2 : Sort.order2 lt d b1 c n1 = r2 at *
  obtain ⟨b2, c2, n2⟩ := r2
  obtain ⟨q1, q2, q3⟩ := order2_lt (lt := lt) (n := n2) (a := a1) (b := b2) l1 m1
  simp only at *
  refine vcE.step (by simp (disch := first | assumption | omega) only [go_sem, ↓reduceIte, Nat.reduceEqDiff, reduceCtorEq, Nat.reduceAdd, Nat.reduceLeDiff]; rfl) (vcE.then (fun e' tm' hp' => e' = .normal ∧ Srt L e id hp0 hp' d ∧ SwA ti hp' k n1 ∧ tm' 0 = v ∧ tm' 1 = .int .i64 (a1 : Nat) ∧ tm' 2 = .int .i64 (b1 : Nat) ∧ tm' 3 = .int .i64 (c : Nat) ∧ tm' 4 = .ptr k 0) ?_ ?_)
  · rw [show mdR1 fo = (mdR1 fo).take 4 ++ ((mdR1 fo).drop 4).take 1 ++ (mdR1 fo).drop 5 from rfl]
    refine vcE.app (vcE.app (vcE.ex (by simp (disch := first | assumption | omega) only [go_sem, ↓reduceIte, Nat.reduceEqDiff, reduceCtorEq, Nat.reduceAdd, Nat.reduceLeDiff]; rfl) ⟨rfl, vcE.call (f := fo) (caps := []) (ys := [v, .int .i64 a, .int .i64 b, .ptr k 0]) rfl rfl (o2_calls hm hT hless ho s hv hw hk hne (by omega) ha hb) ?_⟩))
    rintro r hp' ⟨rfl, s1, hw1⟩
    rw [h1] at hw1 ⊢
    refine ⟨rfl, vcE.ex (by simp (disch := first | assumption | omega) only [go_sem, ↓reduceIte, Nat.reduceEqDiff, reduceCtorEq, Nat.reduceAdd, Nat.reduceLeDiff]; rfl) ?_⟩
    exact ⟨rfl, s1, hw1, rfl, rfl, rfl, rfl, rfl⟩
  rintro e' tm hp' ⟨rfl, s1, hw1, t0, t1, t2, t3, t4⟩
  refine vcE.then (fun e' tm' hp' => e' = .normal ∧ Srt L e id hp0 hp' d ∧ SwA ti hp' k n2 ∧ tm' 0 = v ∧ tm' 1 = .int .i64 (a1 : Nat) ∧ tm' 2 = .int .i64 (b2 : Nat) ∧ tm' 4 = .ptr k 0) ?_ ?_
  · rw [show mdR2 fo = (mdR2 fo).take 4 ++ ((mdR2 fo).drop 4).take 1 ++ (mdR2 fo).drop 5 from rfl]
    refine vcE.app (vcE.app (vcE.ex (by simp (disch := first | assumption | omega) only [go_sem, ↓reduceIte, Nat.reduceEqDiff, reduceCtorEq, Nat.reduceAdd, Nat.reduceLeDiff]; rfl) ⟨rfl, vcE.call (f := fo) (caps := []) (ys := [v, .int .i64 b1, .int .i64 c, .ptr k 0]) rfl ?_ (o2_calls hm hT hless ho s1 hv hw1 hk hne (by omega) l2 hc) ?_⟩))
    · simp only [evsE, evE, upd_app, Nat.reduceEqDiff, ↓reduceIte, t0, t2, t3, t4]
    rintro r hp' ⟨rfl, s2, hw2⟩
    rw [h2] at hw2 ⊢
    refine ⟨rfl, vcE.ex (by simp (disch := first | assumption | omega) only [go_sem, ↓reduceIte, Nat.reduceEqDiff, reduceCtorEq, Nat.reduceAdd, Nat.reduceLeDiff]; rfl) ?_⟩
    refine ⟨rfl, s2, hw2, ?_, ?_, ?_, ?_⟩
    all_goals simp only [upd_app, Nat.reduceEqDiff, ↓reduceIte, t0, t1, t4]
  clear t0 t1 t2 t3 t4
  rintro e' tm hp' ⟨rfl, s2, hw2, t0, t1, t2, t4⟩
  refine vcE.then (fun e' tm' hp' => e' = .normal ∧ Srt L e id hp0 hp' d ∧ SwA ti hp' k (Sort.order2 lt d a1 b2 n2).2.2 ∧ tm' 2 = .int .i64 ((Sort.order2 lt d a1 b2 n2).2.1 : Nat)) ?_ ?_
  · rw [show mdR3 fo = (mdR3 fo).take 4 ++ ((mdR3 fo).drop 4).take 1 ++ (mdR3 fo).drop 5 from rfl]
    refine vcE.app (vcE.app (vcE.ex (by simp (disch := first | assumption | omega) only [go_sem, ↓reduceIte, Nat.reduceEqDiff, reduceCtorEq, Nat.reduceAdd, Nat.reduceLeDiff]; rfl) ⟨rfl, vcE.call (f := fo) (caps := []) (ys := [v, .int .i64 a1, .int .i64 b2, .ptr k 0]) rfl ?_ (o2_calls hm hT hless ho s2 hv hw2 hk hne (by omega) l1 m1) ?_⟩))
    · simp only [evsE, evE, upd_app, Nat.reduceEqDiff, ↓reduceIte, t0, t1, t2, t4]
    rintro r hp' ⟨rfl, s3, hw3⟩
    refine ⟨rfl, vcE.ex (by simp (disch := first | assumption | omega) only [go_sem, ↓reduceIte, Nat.reduceEqDiff, reduceCtorEq, Nat.reduceAdd, Nat.reduceLeDiff]; rfl) ?_⟩
    refine ⟨rfl, s3, hw3, ?_⟩
    simp only [upd_app, Nat.reduceEqDiff, ↓reduceIte]
  rintro e' tm hp' ⟨rfl, s3, hw3, t2⟩
  refine vcE.ex (by simp (disch := first | assumption | omega) only [go_sem, ↓reduceIte, Nat.reduceEqDiff, reduceCtorEq, Nat.reduceAdd, Nat.reduceLeDiff, t2]; rfl) ?_
  exact ⟨_, rfl, rfl, s3, hw3⟩
theorem median_lt {a b c n : Nat} (ha : a < d.size) (hb : b < d.size) (hc : c < d.size) : (Sort.median lt d a b c n).1 < d.size ∧ (Sort.median lt d a b c n).2 ≤ n + 3 := by
  rw [median_eq]
  obtain ⟨l1, l2, l3⟩ := order2_lt (lt := lt) (n := n) ha hb
  obtain ⟨m1, m2, m3⟩ := order2_lt (lt := lt) (n := (Sort.order2 lt d a b n).2.2) l2 hc
  obtain ⟨q1, q2, q3⟩ := order2_lt (lt := lt) (n := (Sort.order2 lt d (Sort.order2 lt d a b n).2.1 c (Sort.order2 lt d a b n).2.2).2.2) l1 m1
  exact ⟨q2, Nat.le_trans q3 (by omega)⟩
theorem ma_calls (hm : P.follows .mixedOrders = true) (hT : TabOk P T) (hless : Lss L lt T less) {fo fmd : FuncId} {hint' hint2 : Nat → Nat} (ho : compF P hint' fo = some ⟨o2C less, o2N, [.t 8, .t 9]⟩) (hmd : compF P hint2 fmd = some ⟨mdC fo, mdN, [.t 10]⟩) (hf : compF P hint f = some ⟨maC fmd, maN, [.t 6]⟩) (s : Srt L e id hp0 hp d) (hv : SlA id d v) {a k n : Nat} {ti : TypeId} (hw : SwA ti hp k n) (hk : hp0.length ≤ k) (hne : k ≠ id) (hn : n ≤ 900) (ha : 1 ≤ a) (hb : a + 1 < d.size) :
    ACalls P f [v, .int .i64 a, .ptr k 0] hp fun r hp' => r = .int .i64 ((Sort.medianAdjacent lt d a n).1 : Nat) ∧ Srt L e id hp0 hp' d ∧ SwA ti hp' k (Sort.medianAdjacent lt d a n).2 := by
  refine calls_e hm hT hf (by rfl) (by simp [maN]) ?_
  have hsz := hv.2
  have w1 := natW (x := (a : Int) - 1) (a - 1) (by omega) (by omega)
  have w2 := natW (x := (a : Int) + 1) (a + 1) (by omega) (by omega)
  unfold Sort.medianAdjacent
  refine vcE.step (by simp (disch := first | assumption | omega) only [go_sem, ↓reduceIte, Nat.reduceEqDiff, reduceCtorEq, Nat.reduceAdd, Nat.reduceLeDiff]; rfl) ?_
  rw [show maR1 fmd = (maR1 fmd).take 7 ++ ((maR1 fmd).drop 7).take 1 ++ (maR1 fmd).drop 8 from rfl]
  refine vcE.seq (vcE.app (vcE.app (vcE.ex (by simp (disch := first | assumption | omega) only [go_sem, ↓reduceIte, Nat.reduceEqDiff, reduceCtorEq, Nat.reduceAdd, Nat.reduceLeDiff, w1, w2]; rfl) ⟨rfl, vcE.call (f := fmd) (caps := []) (ys := [v, .int .i64 ((a - 1 : Nat) : Int), .int .i64 a, .int .i64 ((a + 1 : Nat) : Int), .ptr k 0]) rfl ?_ (md_calls hm hT hless ho hmd s hv hw hk hne hn (by omega) (by omega) hb) ?_⟩)))
  · simp only [evsE, evE, upd_app, Nat.reduceEqDiff, ↓reduceIte]
  rintro r hp' ⟨rfl, s1, hw1⟩
  refine ⟨rfl, vcE.ex (by simp (disch := first | assumption | omega) only [go_sem, ↓reduceIte, Nat.reduceEqDiff, reduceCtorEq, Nat.reduceAdd, Nat.reduceLeDiff]; rfl) ?_⟩
  refine vcE.ex (by simp (disch := first | assumption | omega) only [go_sem, ↓reduceIte, Nat.reduceEqDiff, reduceCtorEq, Nat.reduceAdd, Nat.reduceLeDiff]; rfl) ?_
  exact ⟨_, rfl, rfl, s1, hw1⟩

end
end
section
open Go

abbrev cpR0 (fmd : FuncId) (fma : FuncId) (ti : TypeId) : List IOp := [⟨some 6, .op (.mov), [.c (.int .i64 0)], none⟩,
  ⟨some 7, .op (.mov), [.c (.int .i64 0)], none⟩]
abbrev cpR1 (fmd : FuncId) (fma : FuncId) (ti : TypeId) : List IOp := [⟨some 13, .op (.mov), [.t 2], none⟩,
  ⟨some 14, .op (.mov), [.t 1], none⟩,
  ⟨some 15, .op (.bin .sub .prim), [.t 13, .t 14], none⟩,
  ⟨some 8, .op (.mov), [.t 15], none⟩]
abbrev cpR2 (fmd : FuncId) (fma : FuncId) (ti : TypeId) : List IOp := [⟨some 9, .op (.alloc ti [.int .i64 0]), [], none⟩]
abbrev cpR3 (fmd : FuncId) (fma : FuncId) (ti : TypeId) : List IOp := [⟨some 16, .op (.mov), [.t 1], none⟩,
  ⟨some 17, .op (.mov), [.t 8], none⟩,
  ⟨some 18, .op (.bin .quo .prim), [.t 17, .c (.int .i64 4)], none⟩,
  ⟨some 19, .op (.bin .mul .prim), [.t 18, .c (.int .i64 1)], none⟩,
  ⟨some 20, .op (.bin .add .prim), [.t 16, .t 19], none⟩,
  ⟨some 10, .op (.mov), [.t 20], none⟩]
abbrev cpR4 (fmd : FuncId) (fma : FuncId) (ti : TypeId) : List IOp := [⟨some 21, .op (.mov), [.t 1], none⟩,
  ⟨some 22, .op (.mov), [.t 8], none⟩,
  ⟨some 23, .op (.bin .quo .prim), [.t 22, .c (.int .i64 4)], none⟩,
  ⟨some 24, .op (.bin .mul .prim), [.t 23, .c (.int .i64 2)], none⟩,
  ⟨some 25, .op (.bin .add .prim), [.t 21, .t 24], none⟩,
  ⟨some 11, .op (.mov), [.t 25], none⟩]
abbrev cpR5 (fmd : FuncId) (fma : FuncId) (ti : TypeId) : List IOp := [⟨some 26, .op (.mov), [.t 1], none⟩,
  ⟨some 27, .op (.mov), [.t 8], none⟩,
  ⟨some 28, .op (.bin .quo .prim), [.t 27, .c (.int .i64 4)], none⟩,
  ⟨some 29, .op (.bin .mul .prim), [.t 28, .c (.int .i64 3)], none⟩,
  ⟨some 30, .op (.bin .add .prim), [.t 26, .t 29], none⟩,
  ⟨some 12, .op (.mov), [.t 30], none⟩]
abbrev cpR6 (fmd : FuncId) (fma : FuncId) (ti : TypeId) : List IOp := [⟨some 31, .op (.mov), [.t 8], none⟩,
  ⟨some 32, .op (.bin .geq .prim), [.t 31, .c (.int .i64 8)], none⟩]
abbrev cpR7 (fmd : FuncId) (fma : FuncId) (ti : TypeId) : List IOp := [⟨some 33, .op (.mov), [.t 8], none⟩,
  ⟨some 34, .op (.bin .geq .prim), [.t 33, .c (.int .i64 50)], none⟩]
abbrev cpR8 (fmd : FuncId) (fma : FuncId) (ti : TypeId) : List IOp := [⟨some 35, .op (.mov), [.t 0], none⟩,
  ⟨some 36, .op (.mov), [.t 10], none⟩,
  ⟨some 37, .call none, [.f fma, .t 35, .t 36, .t 9], none⟩,
  ⟨some 10, .op (.mov), [.t 37], none⟩]
abbrev cpR9 (fmd : FuncId) (fma : FuncId) (ti : TypeId) : List IOp := [⟨some 38, .op (.mov), [.t 0], none⟩,
  ⟨some 39, .op (.mov), [.t 11], none⟩,
  ⟨some 40, .call none, [.f fma, .t 38, .t 39, .t 9], none⟩,
  ⟨some 11, .op (.mov), [.t 40], none⟩]
abbrev cpR10 (fmd : FuncId) (fma : FuncId) (ti : TypeId) : List IOp := [⟨some 41, .op (.mov), [.t 0], none⟩,
  ⟨some 42, .op (.mov), [.t 12], none⟩,
  ⟨some 43, .call none, [.f fma, .t 41, .t 42, .t 9], none⟩,
  ⟨some 12, .op (.mov), [.t 43], none⟩]
abbrev cpR11 (fmd : FuncId) (fma : FuncId) (ti : TypeId) : List IOp := [⟨some 44, .op (.mov), [.t 0], none⟩,
  ⟨some 45, .op (.mov), [.t 10], none⟩,
  ⟨some 46, .op (.mov), [.t 11], none⟩,
  ⟨some 47, .op (.mov), [.t 12], none⟩,
  ⟨some 48, .call none, [.f fmd, .t 44, .t 45, .t 46, .t 47, .t 9], none⟩,
  ⟨some 11, .op (.mov), [.t 48], none⟩]
abbrev cpR12 (fmd : FuncId) (fma : FuncId) (ti : TypeId) : List IOp := [⟨some 49, .op (.load none), [.t 9], none⟩]
abbrev cpR13 (fmd : FuncId) (fma : FuncId) (ti : TypeId) : List IOp := [⟨some 52, .op (.bin .eql .prim), [.t 49, .c (.int .i64 0)], none⟩,
  ⟨some 51, .op (.mov), [.t 52], none⟩]
abbrev cpR14 (fmd : FuncId) (fma : FuncId) (ti : TypeId) : List IOp := [⟨some 53, .op (.mov), [.t 11], none⟩,
  ⟨some 6, .op (.mov), [.t 53], none⟩,
  ⟨some 7, .op (.mov), [.c (.int .i64 1)], none⟩]
abbrev cpR15 (fmd : FuncId) (fma : FuncId) (ti : TypeId) : List IOp := [⟨some 55, .op (.bin .eql .prim), [.t 49, .c (.int .i64 12)], none⟩,
  ⟨some 54, .op (.mov), [.t 55], none⟩]
abbrev cpR16 (fmd : FuncId) (fma : FuncId) (ti : TypeId) : List IOp := [⟨some 56, .op (.mov), [.t 11], none⟩,
  ⟨some 6, .op (.mov), [.t 56], none⟩,
  ⟨some 7, .op (.mov), [.c (.int .i64 2)], none⟩]
abbrev cpR17 (fmd : FuncId) (fma : FuncId) (ti : TypeId) : List IOp := [⟨some 50, .op (.mov), [.t 11], none⟩,
  ⟨some 6, .op (.mov), [.t 50], none⟩,
  ⟨some 7, .op (.mov), [.c (.int .i64 0)], none⟩]
abbrev cpC (fmd : FuncId) (fma : FuncId) (ti : TypeId) : IC := (IC.seq (IC.reg (cpR0 fmd fma ti)) (IC.seq (IC.reg (cpR1 fmd fma ti)) (IC.seq (IC.reg (cpR2 fmd fma ti)) (IC.seq (IC.reg (cpR3 fmd fma ti)) (IC.seq (IC.reg (cpR4 fmd fma ti)) (IC.seq (IC.reg (cpR5 fmd fma ti)) (IC.seq (IC.seq (IC.reg (cpR6 fmd fma ti)) (IC.cond (.t 32) (IC.seq (IC.seq (IC.reg (cpR7 fmd fma ti)) (IC.cond (.t 34) (IC.seq (IC.reg (cpR8 fmd fma ti)) (IC.seq (IC.reg (cpR9 fmd fma ti)) (IC.reg (cpR10 fmd fma ti)))) IC.skip)) (IC.reg (cpR11 fmd fma ti))) IC.skip)) (IC.seq (IC.reg (cpR12 fmd fma ti)) (IC.block 0 (IC.seq (IC.reg (cpR13 fmd fma ti)) (IC.cond (.t 51) (IC.seq (IC.reg (cpR14 fmd fma ti)) IC.ret) (IC.seq (IC.reg (cpR15 fmd fma ti)) (IC.cond (.t 54) (IC.seq (IC.reg (cpR16 fmd fma ti)) IC.ret) (IC.seq (IC.reg (cpR17 fmd fma ti)) IC.ret))))))))))))))
abbrev cpN : Nat := 57
abbrev bpR0 (fnp : FuncId) (fxs : FuncId) (tx : TypeId) : List IOp := [⟨some 11, .op (.mov), [.t 2], none⟩,
  ⟨some 12, .op (.mov), [.t 1], none⟩,
  ⟨some 13, .op (.bin .sub .prim), [.t 11, .t 12], none⟩,
  ⟨some 6, .op (.mov), [.t 13], none⟩]
abbrev bpR1 (fnp : FuncId) (fxs : FuncId) (tx : TypeId) : List IOp := [⟨some 14, .op (.mov), [.t 6], none⟩,
  ⟨some 15, .op (.bin .geq .prim), [.t 14, .c (.int .i64 8)], none⟩]
abbrev bpR2 (fnp : FuncId) (fxs : FuncId) (tx : TypeId) : List IOp := [⟨some 16, .op (.mov), [.t 6], none⟩,
  ⟨some 17, .op (.toInt .u64), [.t 16], none⟩,
  ⟨some 7, .op (.alloc tx [.int .u64 0]), [], none⟩,
  ⟨none, .op (.store 1), [.t 7, .t 17], none⟩]
abbrev bpR3 (fnp : FuncId) (fxs : FuncId) (tx : TypeId) : List IOp := [⟨some 18, .op (.mov), [.t 6], none⟩,
  ⟨some 19, .call none, [.f fnp, .t 18], none⟩,
  ⟨some 8, .op (.mov), [.t 19], none⟩]
abbrev bpR4 (fnp : FuncId) (fxs : FuncId) (tx : TypeId) : List IOp := [⟨some 20, .op (.mov), [.t 1], none⟩,
  ⟨some 21, .op (.mov), [.t 6], none⟩,
  ⟨some 22, .op (.bin .quo .prim), [.t 21, .c (.int .i64 4)], none⟩,
  ⟨some 23, .op (.bin .mul .prim), [.t 22, .c (.int .i64 2)], none⟩,
  ⟨some 24, .op (.bin .add .prim), [.t 20, .t 23], none⟩,
  ⟨some 25, .op (.bin .sub .prim), [.t 24, .c (.int .i64 1)], none⟩,
  ⟨some 9, .op (.mov), [.t 25], none⟩]
abbrev bpR5 (fnp : FuncId) (fxs : FuncId) (tx : TypeId) : List IOp := [⟨some 26, .op (.mov), [.t 9], none⟩,
  ⟨some 27, .op (.mov), [.t 1], none⟩,
  ⟨some 28, .op (.mov), [.t 6], none⟩,
  ⟨some 29, .op (.bin .quo .prim), [.t 28, .c (.int .i64 4)], none⟩,
  ⟨some 30, .op (.bin .mul .prim), [.t 29, .c (.int .i64 2)], none⟩,
  ⟨some 31, .op (.bin .add .prim), [.t 27, .t 30], none⟩,
  ⟨some 32, .op (.bin .add .prim), [.t 31, .c (.int .i64 1)], none⟩,
  ⟨some 33, .op (.bin .leq .prim), [.t 26, .t 32], none⟩]
abbrev bpR6 (fnp : FuncId) (fxs : FuncId) (tx : TypeId) : List IOp := [⟨some 36, .call none, [.f fxs, .t 7], none⟩,
  ⟨some 37, .op (.mov), [.t 8], none⟩,
  ⟨some 38, .op (.bin .sub .prim), [.t 37, .c (.int .u64 1)], none⟩,
  ⟨some 39, .op (.bin .and .prim), [.t 36, .t 38], none⟩,
  ⟨some 40, .op (.toInt .i64), [.t 39], none⟩,
  ⟨some 10, .op (.mov), [.t 40], none⟩]
abbrev bpR7 (fnp : FuncId) (fxs : FuncId) (tx : TypeId) : List IOp := [⟨some 41, .op (.mov), [.t 10], none⟩,
  ⟨some 42, .op (.mov), [.t 6], none⟩,
  ⟨some 43, .op (.bin .geq .prim), [.t 41, .t 42], none⟩]
abbrev bpR8 (fnp : FuncId) (fxs : FuncId) (tx : TypeId) : List IOp := [⟨some 44, .op (.mov), [.t 10], none⟩,
  ⟨some 45, .op (.mov), [.t 6], none⟩,
  ⟨some 46, .op (.bin .sub .prim), [.t 44, .t 45], none⟩,
  ⟨some 10, .op (.mov), [.t 46], none⟩]
abbrev bpR9 (fnp : FuncId) (fxs : FuncId) (tx : TypeId) : List IOp := [⟨some 47, .op (.mov), [.t 0], none⟩,
  ⟨some 48, .op (.mov), [.t 9], none⟩,
  ⟨some 49, .op (.mov), [.t 0], none⟩,
  ⟨some 50, .op (.mov), [.t 1], none⟩,
  ⟨some 51, .op (.mov), [.t 10], none⟩,
  ⟨some 52, .op (.bin .add .prim), [.t 50, .t 51], none⟩,
  ⟨some 53, .op (.mov), [.t 0], none⟩,
  ⟨some 54, .op (.mov), [.t 1], none⟩,
  ⟨some 55, .op (.mov), [.t 10], none⟩,
  ⟨some 56, .op (.bin .add .prim), [.t 54, .t 55], none⟩,
  ⟨some 57, .op (.iaddr 1), [.t 53, .t 56], none⟩,
  ⟨some 58, .op (.load none), [.t 57], none⟩,
  ⟨some 59, .op (.mov), [.t 0], none⟩,
  ⟨some 60, .op (.mov), [.t 9], none⟩,
  ⟨some 61, .op (.iaddr 1), [.t 59, .t 60], none⟩,
  ⟨some 62, .op (.load none), [.t 61], none⟩,
  ⟨some 63, .op (.iaddr 1), [.t 47, .t 48], none⟩,
  ⟨none, .op (.store 1), [.t 63, .t 58], none⟩,
  ⟨some 64, .op (.iaddr 1), [.t 49, .t 52], none⟩,
  ⟨none, .op (.store 1), [.t 64, .t 62], none⟩]
abbrev bpR10 (fnp : FuncId) (fxs : FuncId) (tx : TypeId) : List IOp := [⟨some 34, .op (.mov), [.t 9], none⟩,
  ⟨some 35, .op (.bin .add .prim), [.t 34, .c (.int .i64 1)], none⟩,
  ⟨some 9, .op (.mov), [.t 35], none⟩]
abbrev bpB0 (fnp : FuncId) (fxs : FuncId) (tx : TypeId) : IC := (IC.seq (IC.seq (IC.reg (bpR5 fnp fxs tx)) (IC.cond (.t 33) IC.skip (IC.exit 0))) (IC.seq (IC.block 1 (IC.seq (IC.reg (bpR6 fnp fxs tx)) (IC.seq (IC.seq (IC.reg (bpR7 fnp fxs tx)) (IC.cond (.t 43) (IC.reg (bpR8 fnp fxs tx)) IC.skip)) (IC.regD .wild (bpR9 fnp fxs tx) (.take 0 (.take 1 (.take 2 (.take 3 (.take 4 (.take 5 (.take 6 (.take 7 (.take 8 (.take 9 (.take 10 (.take 11 (.take 12 (.take 13 (.take 14 (.take 15 (.take 16 (.take 17 (.take 18 (.take 19 (.done))))))))))))))))))))))))) (IC.reg (bpR10 fnp fxs tx))))
abbrev bpC (fnp : FuncId) (fxs : FuncId) (tx : TypeId) : IC := (IC.seq (IC.reg (bpR0 fnp fxs tx)) (IC.seq (IC.reg (bpR1 fnp fxs tx)) (IC.cond (.t 15) (IC.seq (IC.reg (bpR2 fnp fxs tx)) (IC.seq (IC.reg (bpR3 fnp fxs tx)) (IC.seq (IC.reg (bpR4 fnp fxs tx)) (IC.block 0 (IC.loop (bpB0 fnp fxs tx)))))) IC.skip)))
abbrev bpN : Nat := 65
abbrev npR0 (fbl : FuncId) : List IOp := [⟨some 2, .op (.mov), [.c (.int .u64 0)], none⟩]
abbrev npR1 (fbl : FuncId) : List IOp := [⟨some 3, .op (.mov), [.t 0], none⟩,
  ⟨some 4, .op (.toInt .u64), [.t 3], none⟩,
  ⟨some 5, .call none, [.f fbl, .t 4], none⟩,
  ⟨some 6, .op (.bin .shl .prim), [.c (.int .u64 1), .t 5], none⟩,
  ⟨some 2, .op (.mov), [.t 6], none⟩]
abbrev npC (fbl : FuncId) : IC := (IC.seq (IC.reg (npR0 fbl)) (IC.seq (IC.reg (npR1 fbl)) IC.ret))
abbrev npN : Nat := 7
abbrev xsR0 : List IOp := [⟨some 2, .op (.mov), [.c (.int .u64 0)], none⟩]
abbrev xsR1 : List IOp := [⟨some 3, .op (.mov), [.t 0], none⟩,
  ⟨some 4, .op (.nilchk), [.t 3], none⟩,
  ⟨some 5, .op (.load none), [.t 4], none⟩,
  ⟨some 6, .op (.mov), [.t 0], none⟩,
  ⟨some 7, .op (.nilchk), [.t 6], none⟩,
  ⟨some 8, .op (.load none), [.t 7], none⟩,
  ⟨some 9, .op (.bin .shl .prim), [.t 8, .c (.int .u64 13)], none⟩,
  ⟨some 10, .op (.bin .xor .prim), [.t 5, .t 9], none⟩,
  ⟨some 11, .op (.nilchk), [.t 3], none⟩,
  ⟨none, .op (.store 1), [.t 11, .t 10], none⟩]
abbrev xsR2 : List IOp := [⟨some 12, .op (.mov), [.t 0], none⟩,
  ⟨some 13, .op (.nilchk), [.t 12], none⟩,
  ⟨some 14, .op (.load none), [.t 13], none⟩,
  ⟨some 15, .op (.mov), [.t 0], none⟩,
  ⟨some 16, .op (.nilchk), [.t 15], none⟩,
  ⟨some 17, .op (.load none), [.t 16], none⟩,
  ⟨some 18, .op (.bin .shr .prim), [.t 17, .c (.int .u64 7)], none⟩,
  ⟨some 19, .op (.bin .xor .prim), [.t 14, .t 18], none⟩,
  ⟨some 20, .op (.nilchk), [.t 12], none⟩,
  ⟨none, .op (.store 1), [.t 20, .t 19], none⟩]
abbrev xsR3 : List IOp := [⟨some 21, .op (.mov), [.t 0], none⟩,
  ⟨some 22, .op (.nilchk), [.t 21], none⟩,
  ⟨some 23, .op (.load none), [.t 22], none⟩,
  ⟨some 24, .op (.mov), [.t 0], none⟩,
  ⟨some 25, .op (.nilchk), [.t 24], none⟩,
  ⟨some 26, .op (.load none), [.t 25], none⟩,
  ⟨some 27, .op (.bin .shl .prim), [.t 26, .c (.int .u64 17)], none⟩,
  ⟨some 28, .op (.bin .xor .prim), [.t 23, .t 27], none⟩,
  ⟨some 29, .op (.nilchk), [.t 21], none⟩,
  ⟨none, .op (.store 1), [.t 29, .t 28], none⟩]
abbrev xsR4 : List IOp := [⟨some 30, .op (.mov), [.t 0], none⟩,
  ⟨some 31, .op (.nilchk), [.t 30], none⟩,
  ⟨some 32, .op (.load none), [.t 31], none⟩,
  ⟨some 2, .op (.mov), [.t 32], none⟩]
abbrev xsC : IC := (IC.seq (IC.reg xsR0) (IC.seq (IC.regD .wild xsR1 (.take 0 (.take 1 (.take 2 (.take 3 (.take 4 (.take 5 (.take 6 (.take 7 (.take 8 (.take 9 (.done)))))))))))) (IC.seq (IC.regD .wild xsR2 (.take 0 (.take 1 (.take 2 (.take 3 (.take 4 (.take 5 (.take 6 (.take 7 (.take 8 (.take 9 (.done)))))))))))) (IC.seq (IC.regD .wild xsR3 (.take 0 (.take 1 (.take 2 (.take 3 (.take 4 (.take 5 (.take 6 (.take 7 (.take 8 (.take 9 (.done)))))))))))) (IC.seq (IC.reg xsR4) IC.ret)))))
abbrev xsN : Nat := 33
abbrev blR0 (fl64 : FuncId) (fl32 : FuncId) : List IOp := [⟨some 2, .op (.mov), [.c (.int .i64 0)], none⟩]
abbrev blR1 (fl64 : FuncId) (fl32 : FuncId) : List IOp := [⟨some 3, .op (.mov), [.t 0], none⟩,
  ⟨some 4, .op (.toInt .u32), [.t 3], none⟩,
  ⟨some 5, .call none, [.f fl32, .t 4], none⟩,
  ⟨some 2, .op (.mov), [.t 5], none⟩]
abbrev blR2 (fl64 : FuncId) (fl32 : FuncId) : List IOp := [⟨some 6, .op (.mov), [.t 0], none⟩,
  ⟨some 7, .call none, [.f fl64, .t 6], none⟩,
  ⟨some 2, .op (.mov), [.t 7], none⟩]
abbrev blC (fl64 : FuncId) (fl32 : FuncId) : IC := (IC.seq (IC.reg (blR0 fl64 fl32)) (IC.seq (IC.cond (.c (.bool false)) (IC.seq (IC.reg (blR1 fl64 fl32)) IC.ret) IC.skip) (IC.seq (IC.reg (blR2 fl64 fl32)) IC.ret)))
abbrev blN : Nat := 8
def lenT : List UInt8 := [0, 1, 2, 2, 3, 3, 3, 3, 4, 4, 4, 4, 4, 4, 4, 4, 5, 5, 5, 5, 5, 5, 5, 5, 5, 5, 5, 5, 5, 5, 5, 5, 6, 6, 6, 6, 6, 6, 6, 6, 6, 6, 6, 6, 6, 6, 6, 6, 6, 6, 6, 6, 6, 6, 6, 6, 6, 6, 6, 6, 6, 6, 6, 6, 7, 7, 7, 7, 7, 7, 7, 7, 7, 7, 7, 7, 7, 7, 7, 7, 7, 7, 7, 7, 7, 7, 7, 7, 7, 7, 7, 7, 7, 7, 7, 7, 7, 7, 7, 7, 7, 7, 7, 7, 7, 7, 7, 7, 7, 7, 7, 7, 7, 7, 7, 7, 7, 7, 7, 7, 7, 7, 7, 7, 7, 7, 7, 7, 8, 8, 8, 8, 8, 8, 8, 8, 8, 8, 8, 8, 8, 8, 8, 8, 8, 8, 8, 8, 8, 8, 8, 8, 8, 8, 8, 8, 8, 8, 8, 8, 8, 8, 8, 8, 8, 8, 8, 8, 8, 8, 8, 8, 8, 8, 8, 8, 8, 8, 8, 8, 8, 8, 8, 8, 8, 8, 8, 8, 8, 8, 8, 8, 8, 8, 8, 8, 8, 8, 8, 8, 8, 8, 8, 8, 8, 8, 8, 8, 8, 8, 8, 8, 8, 8, 8, 8, 8, 8, 8, 8, 8, 8, 8, 8, 8, 8, 8, 8, 8, 8, 8, 8, 8, 8, 8, 8, 8, 8, 8, 8, 8, 8, 8, 8, 8, 8, 8, 8, 8, 8, 8, 8, 8, 8, 8, 8]
abbrev l64R0 : List IOp := [⟨some 2, .op (.mov), [.c (.int .i64 0)], none⟩]
abbrev l64R1 : List IOp := [⟨some 3, .op (.mov), [.t 0], none⟩,
  ⟨some 4, .op (.bin .geq .prim), [.t 3, .c (.int .u64 4294967296)], none⟩]
abbrev l64R2 : List IOp := [⟨some 5, .op (.mov), [.t 0], none⟩,
  ⟨some 6, .op (.bin .shr .prim), [.t 5, .c (.int .u64 32)], none⟩,
  ⟨some 0, .op (.mov), [.t 6], none⟩]
abbrev l64R3 : List IOp := [⟨some 2, .op (.mov), [.c (.int .i64 32)], none⟩]
abbrev l64R4 : List IOp := [⟨some 7, .op (.mov), [.t 0], none⟩,
  ⟨some 8, .op (.bin .geq .prim), [.t 7, .c (.int .u64 65536)], none⟩]
abbrev l64R5 : List IOp := [⟨some 9, .op (.mov), [.t 0], none⟩,
  ⟨some 10, .op (.bin .shr .prim), [.t 9, .c (.int .u64 16)], none⟩,
  ⟨some 0, .op (.mov), [.t 10], none⟩]
abbrev l64R6 : List IOp := [⟨some 11, .op (.mov), [.t 2], none⟩,
  ⟨some 12, .op (.bin .add .prim), [.t 11, .c (.int .i64 16)], none⟩,
  ⟨some 2, .op (.mov), [.t 12], none⟩]
abbrev l64R7 : List IOp := [⟨some 13, .op (.mov), [.t 0], none⟩,
  ⟨some 14, .op (.bin .geq .prim), [.t 13, .c (.int .u64 256)], none⟩]
abbrev l64R8 : List IOp := [⟨some 15, .op (.mov), [.t 0], none⟩,
  ⟨some 16, .op (.bin .shr .prim), [.t 15, .c (.int .u64 8)], none⟩,
  ⟨some 0, .op (.mov), [.t 16], none⟩]
abbrev l64R9 : List IOp := [⟨some 17, .op (.mov), [.t 2], none⟩,
  ⟨some 18, .op (.bin .add .prim), [.t 17, .c (.int .i64 8)], none⟩,
  ⟨some 2, .op (.mov), [.t 18], none⟩]
abbrev l64R10 : List IOp := [⟨some 19, .op (.mov), [.t 2], none⟩,
  ⟨some 20, .op (.mov), [.t 0], none⟩,
  ⟨some 21, .op (.toInt .u8), [.t 20], none⟩,
  ⟨some 22, .op (.idxs), [.c (.str lenT), .t 21], none⟩,
  ⟨some 23, .op (.toInt .i64), [.t 22], none⟩,
  ⟨some 24, .op (.bin .add .prim), [.t 19, .t 23], none⟩,
  ⟨some 2, .op (.mov), [.t 24], none⟩]
abbrev l64C : IC := (IC.seq (IC.reg l64R0) (IC.seq (IC.seq (IC.reg l64R1) (IC.cond (.t 4) (IC.seq (IC.reg l64R2) (IC.reg l64R3)) IC.skip)) (IC.seq (IC.seq (IC.reg l64R4) (IC.cond (.t 8) (IC.seq (IC.reg l64R5) (IC.reg l64R6)) IC.skip)) (IC.seq (IC.seq (IC.reg l64R7) (IC.cond (.t 14) (IC.seq (IC.reg l64R8) (IC.reg l64R9)) IC.skip)) (IC.seq (IC.reg l64R10) IC.ret)))))
abbrev l64N : Nat := 25
abbrev ptR0 (less : FuncId) : List IOp := [⟨some 8, .op (.mov), [.c (.int .i64 0)], none⟩,
  ⟨some 9, .op (.mov), [.c (.bool false)], none⟩]
abbrev ptR1 (less : FuncId) : List IOp := [⟨some 12, .op (.mov), [.t 0], none⟩,
  ⟨some 13, .op (.mov), [.t 1], none⟩,
  ⟨some 14, .op (.mov), [.t 0], none⟩,
  ⟨some 15, .op (.mov), [.t 3], none⟩,
  ⟨some 16, .op (.mov), [.t 0], none⟩,
  ⟨some 17, .op (.mov), [.t 3], none⟩,
  ⟨some 18, .op (.iaddr 1), [.t 16, .t 17], none⟩,
  ⟨some 19, .op (.load none), [.t 18], none⟩,
  ⟨some 20, .op (.mov), [.t 0], none⟩,
  ⟨some 21, .op (.mov), [.t 1], none⟩,
  ⟨some 22, .op (.iaddr 1), [.t 20, .t 21], none⟩,
  ⟨some 23, .op (.load none), [.t 22], none⟩,
  ⟨some 24, .op (.iaddr 1), [.t 12, .t 13], none⟩,
  ⟨none, .op (.store 1), [.t 24, .t 19], none⟩,
  ⟨some 25, .op (.iaddr 1), [.t 14, .t 15], none⟩,
  ⟨none, .op (.store 1), [.t 25, .t 23], none⟩]
abbrev ptR2 (less : FuncId) : List IOp := [⟨some 26, .op (.mov), [.t 1], none⟩,
  ⟨some 27, .op (.bin .add .prim), [.t 26, .c (.int .i64 1)], none⟩,
  ⟨some 28, .op (.mov), [.t 2], none⟩,
  ⟨some 29, .op (.bin .sub .prim), [.t 28, .c (.int .i64 1)], none⟩,
  ⟨some 10, .op (.mov), [.t 27], none⟩,
  ⟨some 11, .op (.mov), [.t 29], none⟩]
abbrev ptR3 (less : FuncId) : List IOp := [⟨some 30, .op (.mov), [.t 10], none⟩,
  ⟨some 31, .op (.mov), [.t 11], none⟩,
  ⟨some 32, .op (.bin .leq .prim), [.t 30, .t 31], none⟩,
  ⟨some 33, .op (.mov), [.t 32], none⟩,
  ⟨some 34, .op (.mov), [.t 0], some (33, true)⟩,
  ⟨some 35, .op (.mov), [.t 10], some (33, true)⟩,
  ⟨some 36, .op (.iaddr 1), [.t 34, .t 35], some (33, true)⟩,
  ⟨some 37, .op (.load none), [.t 36], some (33, true)⟩,
  ⟨some 38, .op (.mov), [.t 0], some (33, true)⟩,
  ⟨some 39, .op (.mov), [.t 1], some (33, true)⟩,
  ⟨some 40, .op (.iaddr 1), [.t 38, .t 39], some (33, true)⟩,
  ⟨some 41, .op (.load none), [.t 40], some (33, true)⟩,
  ⟨some 42, .call none, [.f less, .t 37, .t 41], some (33, true)⟩,
  ⟨some 43, .op (.pick), [.t 33, .t 42, .c (.bool false)], none⟩]
abbrev ptR4 (less : FuncId) : List IOp := [⟨some 44, .op (.mov), [.t 10], none⟩,
  ⟨some 45, .op (.bin .add .prim), [.t 44, .c (.int .i64 1)], none⟩,
  ⟨some 10, .op (.mov), [.t 45], none⟩]
abbrev ptB0 (less : FuncId) : IC := (IC.seq (IC.seq (IC.regD .wild (ptR3 less) (.take 0 (.take 1 (.take 2 (.take 3 (.take 4 (.take 5 (.take 6 (.take 7 (.take 8 (.take 9 (.take 10 (.take 11 (.take 12 (.take 13 (.done)))))))))))))))) (IC.cond (.t 43) IC.skip (IC.exit 0))) (IC.block 1 (IC.reg (ptR4 less))))
abbrev ptR5 (less : FuncId) : List IOp := [⟨some 46, .op (.mov), [.t 10], none⟩,
  ⟨some 47, .op (.mov), [.t 11], none⟩,
  ⟨some 48, .op (.bin .leq .prim), [.t 46, .t 47], none⟩,
  ⟨some 49, .op (.mov), [.t 48], none⟩,
  ⟨some 50, .op (.mov), [.t 0], some (49, true)⟩,
  ⟨some 51, .op (.mov), [.t 11], some (49, true)⟩,
  ⟨some 52, .op (.iaddr 1), [.t 50, .t 51], some (49, true)⟩,
  ⟨some 53, .op (.load none), [.t 52], some (49, true)⟩,
  ⟨some 54, .op (.mov), [.t 0], some (49, true)⟩,
  ⟨some 55, .op (.mov), [.t 1], some (49, true)⟩,
  ⟨some 56, .op (.iaddr 1), [.t 54, .t 55], some (49, true)⟩,
  ⟨some 57, .op (.load none), [.t 56], some (49, true)⟩,
  ⟨some 58, .call none, [.f less, .t 53, .t 57], some (49, true)⟩,
  ⟨some 59, .op (.un .not), [.t 58], some (49, true)⟩,
  ⟨some 60, .op (.pick), [.t 49, .t 59, .c (.bool false)], none⟩]
abbrev ptR6 (less : FuncId) : List IOp := [⟨some 61, .op (.mov), [.t 11], none⟩,
  ⟨some 62, .op (.bin .sub .prim), [.t 61, .c (.int .i64 1)], none⟩,
  ⟨some 11, .op (.mov), [.t 62], none⟩]
abbrev ptB1 (less : FuncId) : IC := (IC.seq (IC.seq (IC.regD .wild (ptR5 less) (.take 0 (.take 1 (.take 2 (.take 3 (.take 4 (.take 5 (.take 6 (.take 7 (.take 8 (.take 9 (.take 10 (.take 11 (.take 12 (.take 13 (.take 14 (.done))))))))))))))))) (IC.cond (.t 60) IC.skip (IC.exit 2))) (IC.block 3 (IC.reg (ptR6 less))))
abbrev ptR7 (less : FuncId) : List IOp := [⟨some 63, .op (.mov), [.t 10], none⟩,
  ⟨some 64, .op (.mov), [.t 11], none⟩,
  ⟨some 65, .op (.bin .gtr .prim), [.t 63, .t 64], none⟩]
abbrev ptR8 (less : FuncId) : List IOp := [⟨some 66, .op (.mov), [.t 0], none⟩,
  ⟨some 67, .op (.mov), [.t 11], none⟩,
  ⟨some 68, .op (.mov), [.t 0], none⟩,
  ⟨some 69, .op (.mov), [.t 1], none⟩,
  ⟨some 70, .op (.mov), [.t 0], none⟩,
  ⟨some 71, .op (.mov), [.t 1], none⟩,
  ⟨some 72, .op (.iaddr 1), [.t 70, .t 71], none⟩,
  ⟨some 73, .op (.load none), [.t 72], none⟩,
  ⟨some 74, .op (.mov), [.t 0], none⟩,
  ⟨some 75, .op (.mov), [.t 11], none⟩,
  ⟨some 76, .op (.iaddr 1), [.t 74, .t 75], none⟩,
  ⟨some 77, .op (.load none), [.t 76], none⟩,
  ⟨some 78, .op (.iaddr 1), [.t 66, .t 67], none⟩,
  ⟨none, .op (.store 1), [.t 78, .t 73], none⟩,
  ⟨some 79, .op (.iaddr 1), [.t 68, .t 69], none⟩,
  ⟨none, .op (.store 1), [.t 79, .t 77], none⟩]
abbrev ptR9 (less : FuncId) : List IOp := [⟨some 80, .op (.mov), [.t 11], none⟩,
  ⟨some 8, .op (.mov), [.t 80], none⟩,
  ⟨some 9, .op (.mov), [.c (.bool true)], none⟩]
abbrev ptR10 (less : FuncId) : List IOp := [⟨some 81, .op (.mov), [.t 0], none⟩,
  ⟨some 82, .op (.mov), [.t 10], none⟩,
  ⟨some 83, .op (.mov), [.t 0], none⟩,
  ⟨some 84, .op (.mov), [.t 11], none⟩,
  ⟨some 85, .op (.mov), [.t 0], none⟩,
  ⟨some 86, .op (.mov), [.t 11], none⟩,
  ⟨some 87, .op (.iaddr 1), [.t 85, .t 86], none⟩,
  ⟨some 88, .op (.load none), [.t 87], none⟩,
  ⟨some 89, .op (.mov), [.t 0], none⟩,
  ⟨some 90, .op (.mov), [.t 10], none⟩,
  ⟨some 91, .op (.iaddr 1), [.t 89, .t 90], none⟩,
  ⟨some 92, .op (.load none), [.t 91], none⟩,
  ⟨some 93, .op (.iaddr 1), [.t 81, .t 82], none⟩,
  ⟨none, .op (.store 1), [.t 93, .t 88], none⟩,
  ⟨some 94, .op (.iaddr 1), [.t 83, .t 84], none⟩,
  ⟨none, .op (.store 1), [.t 94, .t 92], none⟩]
abbrev ptR11 (less : FuncId) : List IOp := [⟨some 95, .op (.mov), [.t 10], none⟩,
  ⟨some 96, .op (.bin .add .prim), [.t 95, .c (.int .i64 1)], none⟩,
  ⟨some 10, .op (.mov), [.t 96], none⟩]
abbrev ptR12 (less : FuncId) : List IOp := [⟨some 97, .op (.mov), [.t 11], none⟩,
  ⟨some 98, .op (.bin .sub .prim), [.t 97, .c (.int .i64 1)], none⟩,
  ⟨some 11, .op (.mov), [.t 98], none⟩]
abbrev ptR13 (less : FuncId) : List IOp := [⟨some 99, .op (.mov), [.t 10], none⟩,
  ⟨some 100, .op (.mov), [.t 11], none⟩,
  ⟨some 101, .op (.bin .leq .prim), [.t 99, .t 100], none⟩,
  ⟨some 102, .op (.mov), [.t 101], none⟩,
  ⟨some 103, .op (.mov), [.t 0], some (102, true)⟩,
  ⟨some 104, .op (.mov), [.t 10], some (102, true)⟩,
  ⟨some 105, .op (.iaddr 1), [.t 103, .t 104], some (102, true)⟩,
  ⟨some 106, .op (.load none), [.t 105], some (102, true)⟩,
  ⟨some 107, .op (.mov), [.t 0], some (102, true)⟩,
  ⟨some 108, .op (.mov), [.t 1], some (102, true)⟩,
  ⟨some 109, .op (.iaddr 1), [.t 107, .t 108], some (102, true)⟩,
  ⟨some 110, .op (.load none), [.t 109], some (102, true)⟩,
  ⟨some 111, .call none, [.f less, .t 106, .t 110], some (102, true)⟩,
  ⟨some 112, .op (.pick), [.t 102, .t 111, .c (.bool false)], none⟩]
abbrev ptR14 (less : FuncId) : List IOp := [⟨some 113, .op (.mov), [.t 10], none⟩,
  ⟨some 114, .op (.bin .add .prim), [.t 113, .c (.int .i64 1)], none⟩,
  ⟨some 10, .op (.mov), [.t 114], none⟩]
abbrev ptB2 (less : FuncId) : IC := (IC.seq (IC.seq (IC.regD .wild (ptR13 less) (.take 0 (.take 1 (.take 2 (.take 3 (.take 4 (.take 5 (.take 6 (.take 7 (.take 8 (.take 9 (.take 10 (.take 11 (.take 12 (.take 13 (.done)))))))))))))))) (IC.cond (.t 112) IC.skip (IC.exit 6))) (IC.block 7 (IC.reg (ptR14 less))))
abbrev ptR15 (less : FuncId) : List IOp := [⟨some 115, .op (.mov), [.t 10], none⟩,
  ⟨some 116, .op (.mov), [.t 11], none⟩,
  ⟨some 117, .op (.bin .leq .prim), [.t 115, .t 116], none⟩,
  ⟨some 118, .op (.mov), [.t 117], none⟩,
  ⟨some 119, .op (.mov), [.t 0], some (118, true)⟩,
  ⟨some 120, .op (.mov), [.t 11], some (118, true)⟩,
  ⟨some 121, .op (.iaddr 1), [.t 119, .t 120], some (118, true)⟩,
  ⟨some 122, .op (.load none), [.t 121], some (118, true)⟩,
  ⟨some 123, .op (.mov), [.t 0], some (118, true)⟩,
  ⟨some 124, .op (.mov), [.t 1], some (118, true)⟩,
  ⟨some 125, .op (.iaddr 1), [.t 123, .t 124], some (118, true)⟩,
  ⟨some 126, .op (.load none), [.t 125], some (118, true)⟩,
  ⟨some 127, .call none, [.f less, .t 122, .t 126], some (118, true)⟩,
  ⟨some 128, .op (.un .not), [.t 127], some (118, true)⟩,
  ⟨some 129, .op (.pick), [.t 118, .t 128, .c (.bool false)], none⟩]
abbrev ptR16 (less : FuncId) : List IOp := [⟨some 130, .op (.mov), [.t 11], none⟩,
  ⟨some 131, .op (.bin .sub .prim), [.t 130, .c (.int .i64 1)], none⟩,
  ⟨some 11, .op (.mov), [.t 131], none⟩]
abbrev ptB3 (less : FuncId) : IC := (IC.seq (IC.seq (IC.regD .wild (ptR15 less) (.take 0 (.take 1 (.take 2 (.take 3 (.take 4 (.take 5 (.take 6 (.take 7 (.take 8 (.take 9 (.take 10 (.take 11 (.take 12 (.take 13 (.take 14 (.done))))))))))))))))) (IC.cond (.t 129) IC.skip (IC.exit 8))) (IC.block 9 (IC.reg (ptR16 less))))
abbrev ptR17 (less : FuncId) : List IOp := [⟨some 132, .op (.mov), [.t 10], none⟩,
  ⟨some 133, .op (.mov), [.t 11], none⟩,
  ⟨some 134, .op (.bin .gtr .prim), [.t 132, .t 133], none⟩]
abbrev ptR18 (less : FuncId) : List IOp := [⟨some 135, .op (.mov), [.t 0], none⟩,
  ⟨some 136, .op (.mov), [.t 10], none⟩,
  ⟨some 137, .op (.mov), [.t 0], none⟩,
  ⟨some 138, .op (.mov), [.t 11], none⟩,
  ⟨some 139, .op (.mov), [.t 0], none⟩,
  ⟨some 140, .op (.mov), [.t 11], none⟩,
  ⟨some 141, .op (.iaddr 1), [.t 139, .t 140], none⟩,
  ⟨some 142, .op (.load none), [.t 141], none⟩,
  ⟨some 143, .op (.mov), [.t 0], none⟩,
  ⟨some 144, .op (.mov), [.t 10], none⟩,
  ⟨some 145, .op (.iaddr 1), [.t 143, .t 144], none⟩,
  ⟨some 146, .op (.load none), [.t 145], none⟩,
  ⟨some 147, .op (.iaddr 1), [.t 135, .t 136], none⟩,
  ⟨none, .op (.store 1), [.t 147, .t 142], none⟩,
  ⟨some 148, .op (.iaddr 1), [.t 137, .t 138], none⟩,
  ⟨none, .op (.store 1), [.t 148, .t 146], none⟩]
abbrev ptR19 (less : FuncId) : List IOp := [⟨some 149, .op (.mov), [.t 10], none⟩,
  ⟨some 150, .op (.bin .add .prim), [.t 149, .c (.int .i64 1)], none⟩,
  ⟨some 10, .op (.mov), [.t 150], none⟩]
abbrev ptR20 (less : FuncId) : List IOp := [⟨some 151, .op (.mov), [.t 11], none⟩,
  ⟨some 152, .op (.bin .sub .prim), [.t 151, .c (.int .i64 1)], none⟩,
  ⟨some 11, .op (.mov), [.t 152], none⟩]
abbrev ptB4 (less : FuncId) : IC := (IC.block 5 (IC.seq (IC.block 6 (IC.loop (ptB2 less))) (IC.seq (IC.block 8 (IC.loop (ptB3 less))) (IC.seq (IC.seq (IC.reg (ptR17 less)) (IC.cond (.t 134) (IC.exit 4) IC.skip)) (IC.seq (IC.regD .wild (ptR18 less) (.take 0 (.take 1 (.take 2 (.take 3 (.take 4 (.take 5 (.take 6 (.take 7 (.take 8 (.take 9 (.take 10 (.take 11 (.take 12 (.take 13 (.take 14 (.take 15 (.done)))))))))))))))))) (IC.seq (IC.reg (ptR19 less)) (IC.reg (ptR20 less))))))))
abbrev ptR21 (less : FuncId) : List IOp := [⟨some 153, .op (.mov), [.t 0], none⟩,
  ⟨some 154, .op (.mov), [.t 11], none⟩,
  ⟨some 155, .op (.mov), [.t 0], none⟩,
  ⟨some 156, .op (.mov), [.t 1], none⟩,
  ⟨some 157, .op (.mov), [.t 0], none⟩,
  ⟨some 158, .op (.mov), [.t 1], none⟩,
  ⟨some 159, .op (.iaddr 1), [.t 157, .t 158], none⟩,
  ⟨some 160, .op (.load none), [.t 159], none⟩,
  ⟨some 161, .op (.mov), [.t 0], none⟩,
  ⟨some 162, .op (.mov), [.t 11], none⟩,
  ⟨some 163, .op (.iaddr 1), [.t 161, .t 162], none⟩,
  ⟨some 164, .op (.load none), [.t 163], none⟩,
  ⟨some 165, .op (.iaddr 1), [.t 153, .t 154], none⟩,
  ⟨none, .op (.store 1), [.t 165, .t 160], none⟩,
  ⟨some 166, .op (.iaddr 1), [.t 155, .t 156], none⟩,
  ⟨none, .op (.store 1), [.t 166, .t 164], none⟩]
abbrev ptR22 (less : FuncId) : List IOp := [⟨some 167, .op (.mov), [.t 11], none⟩,
  ⟨some 8, .op (.mov), [.t 167], none⟩,
  ⟨some 9, .op (.mov), [.c (.bool false)], none⟩]
abbrev ptC (less : FuncId) : IC := (IC.seq (IC.reg (ptR0 less)) (IC.seq (IC.regD .wild (ptR1 less) (.take 0 (.take 1 (.take 2 (.take 3 (.take 4 (.take 5 (.take 6 (.take 7 (.take 8 (.take 9 (.take 10 (.take 11 (.take 12 (.take 13 (.take 14 (.take 15 (.done)))))))))))))))))) (IC.seq (IC.reg (ptR2 less)) (IC.seq (IC.block 0 (IC.loop (ptB0 less))) (IC.seq (IC.block 2 (IC.loop (ptB1 less))) (IC.seq (IC.seq (IC.reg (ptR7 less)) (IC.cond (.t 65) (IC.seq (IC.regD .wild (ptR8 less) (.take 0 (.take 1 (.take 2 (.take 3 (.take 4 (.take 5 (.take 6 (.take 7 (.take 8 (.take 9 (.take 10 (.take 11 (.take 12 (.take 13 (.take 14 (.take 15 (.done)))))))))))))))))) (IC.seq (IC.reg (ptR9 less)) IC.ret)) IC.skip)) (IC.seq (IC.regD .wild (ptR10 less) (.take 0 (.take 1 (.take 2 (.take 3 (.take 4 (.take 5 (.take 6 (.take 7 (.take 8 (.take 9 (.take 10 (.take 11 (.take 12 (.take 13 (.take 14 (.take 15 (.done)))))))))))))))))) (IC.seq (IC.reg (ptR11 less)) (IC.seq (IC.reg (ptR12 less)) (IC.seq (IC.block 4 (IC.loop (ptB4 less))) (IC.seq (IC.regD .wild (ptR21 less) (.take 0 (.take 1 (.take 2 (.take 3 (.take 4 (.take 5 (.take 6 (.take 7 (.take 8 (.take 9 (.take 10 (.take 11 (.take 12 (.take 13 (.take 14 (.take 15 (.done)))))))))))))))))) (IC.seq (IC.reg (ptR22 less)) IC.ret))))))))))))
abbrev ptN : Nat := 168
abbrev peR0 (less : FuncId) : List IOp := [⟨some 8, .op (.mov), [.c (.int .i64 0)], none⟩]
abbrev peR1 (less : FuncId) : List IOp := [⟨some 11, .op (.mov), [.t 0], none⟩,
  ⟨some 12, .op (.mov), [.t 1], none⟩,
  ⟨some 13, .op (.mov), [.t 0], none⟩,
  ⟨some 14, .op (.mov), [.t 3], none⟩,
  ⟨some 15, .op (.mov), [.t 0], none⟩,
  ⟨some 16, .op (.mov), [.t 3], none⟩,
  ⟨some 17, .op (.iaddr 1), [.t 15, .t 16], none⟩,
  ⟨some 18, .op (.load none), [.t 17], none⟩,
  ⟨some 19, .op (.mov), [.t 0], none⟩,
  ⟨some 20, .op (.mov), [.t 1], none⟩,
  ⟨some 21, .op (.iaddr 1), [.t 19, .t 20], none⟩,
  ⟨some 22, .op (.load none), [.t 21], none⟩,
  ⟨some 23, .op (.iaddr 1), [.t 11, .t 12], none⟩,
  ⟨none, .op (.store 1), [.t 23, .t 18], none⟩,
  ⟨some 24, .op (.iaddr 1), [.t 13, .t 14], none⟩,
  ⟨none, .op (.store 1), [.t 24, .t 22], none⟩]
abbrev peR2 (less : FuncId) : List IOp := [⟨some 25, .op (.mov), [.t 1], none⟩,
  ⟨some 26, .op (.bin .add .prim), [.t 25, .c (.int .i64 1)], none⟩,
  ⟨some 27, .op (.mov), [.t 2], none⟩,
  ⟨some 28, .op (.bin .sub .prim), [.t 27, .c (.int .i64 1)], none⟩,
  ⟨some 9, .op (.mov), [.t 26], none⟩,
  ⟨some 10, .op (.mov), [.t 28], none⟩]
abbrev peR3 (less : FuncId) : List IOp := [⟨some 29, .op (.mov), [.t 9], none⟩,
  ⟨some 30, .op (.mov), [.t 10], none⟩,
  ⟨some 31, .op (.bin .leq .prim), [.t 29, .t 30], none⟩,
  ⟨some 32, .op (.mov), [.t 31], none⟩,
  ⟨some 33, .op (.mov), [.t 0], some (32, true)⟩,
  ⟨some 34, .op (.mov), [.t 1], some (32, true)⟩,
  ⟨some 35, .op (.iaddr 1), [.t 33, .t 34], some (32, true)⟩,
  ⟨some 36, .op (.load none), [.t 35], some (32, true)⟩,
  ⟨some 37, .op (.mov), [.t 0], some (32, true)⟩,
  ⟨some 38, .op (.mov), [.t 9], some (32, true)⟩,
  ⟨some 39, .op (.iaddr 1), [.t 37, .t 38], some (32, true)⟩,
  ⟨some 40, .op (.load none), [.t 39], some (32, true)⟩,
  ⟨some 41, .call none, [.f less, .t 36, .t 40], some (32, true)⟩,
  ⟨some 42, .op (.un .not), [.t 41], some (32, true)⟩,
  ⟨some 43, .op (.pick), [.t 32, .t 42, .c (.bool false)], none⟩]
abbrev peR4 (less : FuncId) : List IOp := [⟨some 44, .op (.mov), [.t 9], none⟩,
  ⟨some 45, .op (.bin .add .prim), [.t 44, .c (.int .i64 1)], none⟩,
  ⟨some 9, .op (.mov), [.t 45], none⟩]
abbrev peB0 (less : FuncId) : IC := (IC.seq (IC.seq (IC.regD .wild (peR3 less) (.take 0 (.take 1 (.take 2 (.take 3 (.take 4 (.take 5 (.take 6 (.take 7 (.take 8 (.take 9 (.take 10 (.take 11 (.take 12 (.take 13 (.take 14 (.done))))))))))))))))) (IC.cond (.t 43) IC.skip (IC.exit 2))) (IC.block 3 (IC.reg (peR4 less))))
abbrev peR5 (less : FuncId) : List IOp := [⟨some 46, .op (.mov), [.t 9], none⟩,
  ⟨some 47, .op (.mov), [.t 10], none⟩,
  ⟨some 48, .op (.bin .leq .prim), [.t 46, .t 47], none⟩,
  ⟨some 49, .op (.mov), [.t 48], none⟩,
  ⟨some 50, .op (.mov), [.t 0], some (49, true)⟩,
  ⟨some 51, .op (.mov), [.t 1], some (49, true)⟩,
  ⟨some 52, .op (.iaddr 1), [.t 50, .t 51], some (49, true)⟩,
  ⟨some 53, .op (.load none), [.t 52], some (49, true)⟩,
  ⟨some 54, .op (.mov), [.t 0], some (49, true)⟩,
  ⟨some 55, .op (.mov), [.t 10], some (49, true)⟩,
  ⟨some 56, .op (.iaddr 1), [.t 54, .t 55], some (49, true)⟩,
  ⟨some 57, .op (.load none), [.t 56], some (49, true)⟩,
  ⟨some 58, .call none, [.f less, .t 53, .t 57], some (49, true)⟩,
  ⟨some 59, .op (.pick), [.t 49, .t 58, .c (.bool false)], none⟩]
abbrev peR6 (less : FuncId) : List IOp := [⟨some 60, .op (.mov), [.t 10], none⟩,
  ⟨some 61, .op (.bin .sub .prim), [.t 60, .c (.int .i64 1)], none⟩,
  ⟨some 10, .op (.mov), [.t 61], none⟩]
abbrev peB1 (less : FuncId) : IC := (IC.seq (IC.seq (IC.regD .wild (peR5 less) (.take 0 (.take 1 (.take 2 (.take 3 (.take 4 (.take 5 (.take 6 (.take 7 (.take 8 (.take 9 (.take 10 (.take 11 (.take 12 (.take 13 (.done)))))))))))))))) (IC.cond (.t 59) IC.skip (IC.exit 4))) (IC.block 5 (IC.reg (peR6 less))))
abbrev peR7 (less : FuncId) : List IOp := [⟨some 62, .op (.mov), [.t 9], none⟩,
  ⟨some 63, .op (.mov), [.t 10], none⟩,
  ⟨some 64, .op (.bin .gtr .prim), [.t 62, .t 63], none⟩]
abbrev peR8 (less : FuncId) : List IOp := [⟨some 65, .op (.mov), [.t 0], none⟩,
  ⟨some 66, .op (.mov), [.t 9], none⟩,
  ⟨some 67, .op (.mov), [.t 0], none⟩,
  ⟨some 68, .op (.mov), [.t 10], none⟩,
  ⟨some 69, .op (.mov), [.t 0], none⟩,
  ⟨some 70, .op (.mov), [.t 10], none⟩,
  ⟨some 71, .op (.iaddr 1), [.t 69, .t 70], none⟩,
  ⟨some 72, .op (.load none), [.t 71], none⟩,
  ⟨some 73, .op (.mov), [.t 0], none⟩,
  ⟨some 74, .op (.mov), [.t 9], none⟩,
  ⟨some 75, .op (.iaddr 1), [.t 73, .t 74], none⟩,
  ⟨some 76, .op (.load none), [.t 75], none⟩,
  ⟨some 77, .op (.iaddr 1), [.t 65, .t 66], none⟩,
  ⟨none, .op (.store 1), [.t 77, .t 72], none⟩,
  ⟨some 78, .op (.iaddr 1), [.t 67, .t 68], none⟩,
  ⟨none, .op (.store 1), [.t 78, .t 76], none⟩]
abbrev peR9 (less : FuncId) : List IOp := [⟨some 79, .op (.mov), [.t 9], none⟩,
  ⟨some 80, .op (.bin .add .prim), [.t 79, .c (.int .i64 1)], none⟩,
  ⟨some 9, .op (.mov), [.t 80], none⟩]
abbrev peR10 (less : FuncId) : List IOp := [⟨some 81, .op (.mov), [.t 10], none⟩,
  ⟨some 82, .op (.bin .sub .prim), [.t 81, .c (.int .i64 1)], none⟩,
  ⟨some 10, .op (.mov), [.t 82], none⟩]
abbrev peB2 (less : FuncId) : IC := (IC.block 1 (IC.seq (IC.block 2 (IC.loop (peB0 less))) (IC.seq (IC.block 4 (IC.loop (peB1 less))) (IC.seq (IC.seq (IC.reg (peR7 less)) (IC.cond (.t 64) (IC.exit 0) IC.skip)) (IC.seq (IC.regD .wild (peR8 less) (.take 0 (.take 1 (.take 2 (.take 3 (.take 4 (.take 5 (.take 6 (.take 7 (.take 8 (.take 9 (.take 10 (.take 11 (.take 12 (.take 13 (.take 14 (.take 15 (.done)))))))))))))))))) (IC.seq (IC.reg (peR9 less)) (IC.reg (peR10 less))))))))
abbrev peR11 (less : FuncId) : List IOp := [⟨some 83, .op (.mov), [.t 9], none⟩,
  ⟨some 8, .op (.mov), [.t 83], none⟩]
abbrev peC (less : FuncId) : IC := (IC.seq (IC.reg (peR0 less)) (IC.seq (IC.regD .wild (peR1 less) (.take 0 (.take 1 (.take 2 (.take 3 (.take 4 (.take 5 (.take 6 (.take 7 (.take 8 (.take 9 (.take 10 (.take 11 (.take 12 (.take 13 (.take 14 (.take 15 (.done)))))))))))))))))) (IC.seq (IC.reg (peR2 less)) (IC.seq (IC.block 0 (IC.loop (peB2 less))) (IC.seq (IC.reg (peR11 less)) IC.ret)))))
abbrev peN : Nat := 84
abbrev piR0 (less : FuncId) : List IOp := [⟨some 6, .op (.mov), [.c (.bool false)], none⟩]
abbrev piR1 (less : FuncId) : List IOp := [⟨some 11, .op (.mov), [.t 1], none⟩,
  ⟨some 12, .op (.bin .add .prim), [.t 11, .c (.int .i64 1)], none⟩,
  ⟨some 7, .op (.mov), [.t 12], none⟩]
abbrev piR2 (less : FuncId) : List IOp := [⟨some 8, .op (.mov), [.c (.int .i64 0)], none⟩]
abbrev piR3 (less : FuncId) : List IOp := [⟨some 13, .op (.mov), [.t 8], none⟩,
  ⟨some 14, .op (.bin .lss .prim), [.t 13, .c (.int .i64 5)], none⟩]
abbrev piR4 (less : FuncId) : List IOp := [⟨some 17, .op (.mov), [.t 7], none⟩,
  ⟨some 18, .op (.mov), [.t 2], none⟩,
  ⟨some 19, .op (.bin .lss .prim), [.t 17, .t 18], none⟩,
  ⟨some 20, .op (.mov), [.t 19], none⟩,
  ⟨some 21, .op (.mov), [.t 0], some (20, true)⟩,
  ⟨some 22, .op (.mov), [.t 7], some (20, true)⟩,
  ⟨some 23, .op (.iaddr 1), [.t 21, .t 22], some (20, true)⟩,
  ⟨some 24, .op (.load none), [.t 23], some (20, true)⟩,
  ⟨some 25, .op (.mov), [.t 0], some (20, true)⟩,
  ⟨some 26, .op (.mov), [.t 7], some (20, true)⟩,
  ⟨some 27, .op (.bin .sub .prim), [.t 26, .c (.int .i64 1)], some (20, true)⟩,
  ⟨some 28, .op (.iaddr 1), [.t 25, .t 27], some (20, true)⟩,
  ⟨some 29, .op (.load none), [.t 28], some (20, true)⟩,
  ⟨some 30, .call none, [.f less, .t 24, .t 29], some (20, true)⟩,
  ⟨some 31, .op (.un .not), [.t 30], some (20, true)⟩,
  ⟨some 32, .op (.pick), [.t 20, .t 31, .c (.bool false)], none⟩]
abbrev piR5 (less : FuncId) : List IOp := [⟨some 33, .op (.mov), [.t 7], none⟩,
  ⟨some 34, .op (.bin .add .prim), [.t 33, .c (.int .i64 1)], none⟩,
  ⟨some 7, .op (.mov), [.t 34], none⟩]
abbrev piB0 (less : FuncId) : IC := (IC.seq (IC.seq (IC.regD .wild (piR4 less) (.take 0 (.take 1 (.take 2 (.take 3 (.take 4 (.take 5 (.take 6 (.take 7 (.take 8 (.take 9 (.take 10 (.take 11 (.take 12 (.take 13 (.take 14 (.take 15 (.done)))))))))))))))))) (IC.cond (.t 32) IC.skip (IC.exit 2))) (IC.block 3 (IC.reg (piR5 less))))
abbrev piR6 (less : FuncId) : List IOp := [⟨some 35, .op (.mov), [.t 7], none⟩,
  ⟨some 36, .op (.mov), [.t 2], none⟩,
  ⟨some 37, .op (.bin .eql .prim), [.t 35, .t 36], none⟩]
abbrev piR7 (less : FuncId) : List IOp := [⟨some 6, .op (.mov), [.c (.bool true)], none⟩]
abbrev piR8 (less : FuncId) : List IOp := [⟨some 38, .op (.mov), [.t 2], none⟩,
  ⟨some 39, .op (.mov), [.t 1], none⟩,
  ⟨some 40, .op (.bin .sub .prim), [.t 38, .t 39], none⟩,
  ⟨some 41, .op (.bin .lss .prim), [.t 40, .c (.int .i64 50)], none⟩]
abbrev piR9 (less : FuncId) : List IOp := [⟨some 6, .op (.mov), [.c (.bool false)], none⟩]
abbrev piR10 (less : FuncId) : List IOp := [⟨some 42, .op (.mov), [.t 0], none⟩,
  ⟨some 43, .op (.mov), [.t 7], none⟩,
  ⟨some 44, .op (.mov), [.t 0], none⟩,
  ⟨some 45, .op (.mov), [.t 7], none⟩,
  ⟨some 46, .op (.bin .sub .prim), [.t 45, .c (.int .i64 1)], none⟩,
  ⟨some 47, .op (.mov), [.t 0], none⟩,
  ⟨some 48, .op (.mov), [.t 7], none⟩,
  ⟨some 49, .op (.bin .sub .prim), [.t 48, .c (.int .i64 1)], none⟩,
  ⟨some 50, .op (.iaddr 1), [.t 47, .t 49], none⟩,
  ⟨some 51, .op (.load none), [.t 50], none⟩,
  ⟨some 52, .op (.mov), [.t 0], none⟩,
  ⟨some 53, .op (.mov), [.t 7], none⟩,
  ⟨some 54, .op (.iaddr 1), [.t 52, .t 53], none⟩,
  ⟨some 55, .op (.load none), [.t 54], none⟩,
  ⟨some 56, .op (.iaddr 1), [.t 42, .t 43], none⟩,
  ⟨none, .op (.store 1), [.t 56, .t 51], none⟩,
  ⟨some 57, .op (.iaddr 1), [.t 44, .t 46], none⟩,
  ⟨none, .op (.store 1), [.t 57, .t 55], none⟩]
abbrev piR11 (less : FuncId) : List IOp := [⟨some 58, .op (.mov), [.t 7], none⟩,
  ⟨some 59, .op (.mov), [.t 1], none⟩,
  ⟨some 60, .op (.bin .sub .prim), [.t 58, .t 59], none⟩,
  ⟨some 61, .op (.bin .geq .prim), [.t 60, .c (.int .i64 2)], none⟩]
abbrev piR12 (less : FuncId) : List IOp := [⟨some 62, .op (.mov), [.t 7], none⟩,
  ⟨some 63, .op (.bin .sub .prim), [.t 62, .c (.int .i64 1)], none⟩,
  ⟨some 9, .op (.mov), [.t 63], none⟩]
abbrev piR13 (less : FuncId) : List IOp := [⟨some 64, .op (.mov), [.t 9], none⟩,
  ⟨some 65, .op (.bin .geq .prim), [.t 64, .c (.int .i64 1)], none⟩]
abbrev piR14 (less : FuncId) : List IOp := [⟨some 68, .op (.mov), [.t 0], none⟩,
  ⟨some 69, .op (.mov), [.t 9], none⟩,
  ⟨some 70, .op (.iaddr 1), [.t 68, .t 69], none⟩,
  ⟨some 71, .op (.load none), [.t 70], none⟩,
  ⟨some 72, .op (.mov), [.t 0], none⟩,
  ⟨some 73, .op (.mov), [.t 9], none⟩,
  ⟨some 74, .op (.bin .sub .prim), [.t 73, .c (.int .i64 1)], none⟩,
  ⟨some 75, .op (.iaddr 1), [.t 72, .t 74], none⟩,
  ⟨some 76, .op (.load none), [.t 75], none⟩,
  ⟨some 77, .call none, [.f less, .t 71, .t 76], none⟩,
  ⟨some 78, .op (.un .not), [.t 77], none⟩]
abbrev piR15 (less : FuncId) : List IOp := [⟨some 79, .op (.mov), [.t 0], none⟩,
  ⟨some 80, .op (.mov), [.t 9], none⟩,
  ⟨some 81, .op (.mov), [.t 0], none⟩,
  ⟨some 82, .op (.mov), [.t 9], none⟩,
  ⟨some 83, .op (.bin .sub .prim), [.t 82, .c (.int .i64 1)], none⟩,
  ⟨some 84, .op (.mov), [.t 0], none⟩,
  ⟨some 85, .op (.mov), [.t 9], none⟩,
  ⟨some 86, .op (.bin .sub .prim), [.t 85, .c (.int .i64 1)], none⟩,
  ⟨some 87, .op (.iaddr 1), [.t 84, .t 86], none⟩,
  ⟨some 88, .op (.load none), [.t 87], none⟩,
  ⟨some 89, .op (.mov), [.t 0], none⟩,
  ⟨some 90, .op (.mov), [.t 9], none⟩,
  ⟨some 91, .op (.iaddr 1), [.t 89, .t 90], none⟩,
  ⟨some 92, .op (.load none), [.t 91], none⟩,
  ⟨some 93, .op (.iaddr 1), [.t 79, .t 80], none⟩,
  ⟨none, .op (.store 1), [.t 93, .t 88], none⟩,
  ⟨some 94, .op (.iaddr 1), [.t 81, .t 83], none⟩,
  ⟨none, .op (.store 1), [.t 94, .t 92], none⟩]
abbrev piR16 (less : FuncId) : List IOp := [⟨some 66, .op (.mov), [.t 9], none⟩,
  ⟨some 67, .op (.bin .sub .prim), [.t 66, .c (.int .i64 1)], none⟩,
  ⟨some 9, .op (.mov), [.t 67], none⟩]
abbrev piB1 (less : FuncId) : IC := (IC.seq (IC.seq (IC.reg (piR13 less)) (IC.cond (.t 65) IC.skip (IC.exit 4))) (IC.seq (IC.block 5 (IC.seq (IC.seq (IC.regD .wild (piR14 less) (.take 0 (.take 1 (.take 2 (.take 3 (.take 4 (.take 5 (.take 6 (.take 7 (.take 8 (.take 9 (.take 10 (.done))))))))))))) (IC.cond (.t 78) (IC.exit 4) IC.skip)) (IC.regD .wild (piR15 less) (.take 0 (.take 1 (.take 2 (.take 3 (.take 4 (.take 5 (.take 6 (.take 7 (.take 8 (.take 9 (.take 10 (.take 11 (.take 12 (.take 13 (.take 14 (.take 15 (.take 16 (.take 17 (.done)))))))))))))))))))))) (IC.reg (piR16 less))))
abbrev piR17 (less : FuncId) : List IOp := [⟨some 95, .op (.mov), [.t 2], none⟩,
  ⟨some 96, .op (.mov), [.t 7], none⟩,
  ⟨some 97, .op (.bin .sub .prim), [.t 95, .t 96], none⟩,
  ⟨some 98, .op (.bin .geq .prim), [.t 97, .c (.int .i64 2)], none⟩]
abbrev piR18 (less : FuncId) : List IOp := [⟨some 99, .op (.mov), [.t 7], none⟩,
  ⟨some 100, .op (.bin .add .prim), [.t 99, .c (.int .i64 1)], none⟩,
  ⟨some 10, .op (.mov), [.t 100], none⟩]
abbrev piR19 (less : FuncId) : List IOp := [⟨some 101, .op (.mov), [.t 10], none⟩,
  ⟨some 102, .op (.mov), [.t 2], none⟩,
  ⟨some 103, .op (.bin .lss .prim), [.t 101, .t 102], none⟩]
abbrev piR20 (less : FuncId) : List IOp := [⟨some 106, .op (.mov), [.t 0], none⟩,
  ⟨some 107, .op (.mov), [.t 10], none⟩,
  ⟨some 108, .op (.iaddr 1), [.t 106, .t 107], none⟩,
  ⟨some 109, .op (.load none), [.t 108], none⟩,
  ⟨some 110, .op (.mov), [.t 0], none⟩,
  ⟨some 111, .op (.mov), [.t 10], none⟩,
  ⟨some 112, .op (.bin .sub .prim), [.t 111, .c (.int .i64 1)], none⟩,
  ⟨some 113, .op (.iaddr 1), [.t 110, .t 112], none⟩,
  ⟨some 114, .op (.load none), [.t 113], none⟩,
  ⟨some 115, .call none, [.f less, .t 109, .t 114], none⟩,
  ⟨some 116, .op (.un .not), [.t 115], none⟩]
abbrev piR21 (less : FuncId) : List IOp := [⟨some 117, .op (.mov), [.t 0], none⟩,
  ⟨some 118, .op (.mov), [.t 10], none⟩,
  ⟨some 119, .op (.mov), [.t 0], none⟩,
  ⟨some 120, .op (.mov), [.t 10], none⟩,
  ⟨some 121, .op (.bin .sub .prim), [.t 120, .c (.int .i64 1)], none⟩,
  ⟨some 122, .op (.mov), [.t 0], none⟩,
  ⟨some 123, .op (.mov), [.t 10], none⟩,
  ⟨some 124, .op (.bin .sub .prim), [.t 123, .c (.int .i64 1)], none⟩,
  ⟨some 125, .op (.iaddr 1), [.t 122, .t 124], none⟩,
  ⟨some 126, .op (.load none), [.t 125], none⟩,
  ⟨some 127, .op (.mov), [.t 0], none⟩,
  ⟨some 128, .op (.mov), [.t 10], none⟩,
  ⟨some 129, .op (.iaddr 1), [.t 127, .t 128], none⟩,
  ⟨some 130, .op (.load none), [.t 129], none⟩,
  ⟨some 131, .op (.iaddr 1), [.t 117, .t 118], none⟩,
  ⟨none, .op (.store 1), [.t 131, .t 126], none⟩,
  ⟨some 132, .op (.iaddr 1), [.t 119, .t 121], none⟩,
  ⟨none, .op (.store 1), [.t 132, .t 130], none⟩]
abbrev piR22 (less : FuncId) : List IOp := [⟨some 104, .op (.mov), [.t 10], none⟩,
  ⟨some 105, .op (.bin .add .prim), [.t 104, .c (.int .i64 1)], none⟩,
  ⟨some 10, .op (.mov), [.t 105], none⟩]
abbrev piB2 (less : FuncId) : IC := (IC.seq (IC.seq (IC.reg (piR19 less)) (IC.cond (.t 103) IC.skip (IC.exit 6))) (IC.seq (IC.block 7 (IC.seq (IC.seq (IC.regD .wild (piR20 less) (.take 0 (.take 1 (.take 2 (.take 3 (.take 4 (.take 5 (.take 6 (.take 7 (.take 8 (.take 9 (.take 10 (.done))))))))))))) (IC.cond (.t 116) (IC.exit 6) IC.skip)) (IC.regD .wild (piR21 less) (.take 0 (.take 1 (.take 2 (.take 3 (.take 4 (.take 5 (.take 6 (.take 7 (.take 8 (.take 9 (.take 10 (.take 11 (.take 12 (.take 13 (.take 14 (.take 15 (.take 16 (.take 17 (.done)))))))))))))))))))))) (IC.reg (piR22 less))))
abbrev piR23 (less : FuncId) : List IOp := [⟨some 15, .op (.mov), [.t 8], none⟩,
  ⟨some 16, .op (.bin .add .prim), [.t 15, .c (.int .i64 1)], none⟩,
  ⟨some 8, .op (.mov), [.t 16], none⟩]
abbrev piB3 (less : FuncId) : IC := (IC.seq (IC.seq (IC.reg (piR3 less)) (IC.cond (.t 14) IC.skip (IC.exit 0))) (IC.seq (IC.block 1 (IC.seq (IC.block 2 (IC.loop (piB0 less))) (IC.seq (IC.seq (IC.reg (piR6 less)) (IC.cond (.t 37) (IC.seq (IC.reg (piR7 less)) IC.ret) IC.skip)) (IC.seq (IC.seq (IC.reg (piR8 less)) (IC.cond (.t 41) (IC.seq (IC.reg (piR9 less)) IC.ret) IC.skip)) (IC.seq (IC.regD .wild (piR10 less) (.take 0 (.take 1 (.take 2 (.take 3 (.take 4 (.take 5 (.take 6 (.take 7 (.take 8 (.take 9 (.take 10 (.take 11 (.take 12 (.take 13 (.take 14 (.take 15 (.take 16 (.take 17 (.done)))))))))))))))))))) (IC.seq (IC.seq (IC.reg (piR11 less)) (IC.cond (.t 61) (IC.seq (IC.reg (piR12 less)) (IC.block 4 (IC.loop (piB1 less)))) IC.skip)) (IC.seq (IC.reg (piR17 less)) (IC.cond (.t 98) (IC.seq (IC.reg (piR18 less)) (IC.block 6 (IC.loop (piB2 less)))) IC.skip)))))))) (IC.reg (piR23 less))))
abbrev piR24 (less : FuncId) : List IOp := [⟨some 6, .op (.mov), [.c (.bool false)], none⟩]
abbrev piC (less : FuncId) : IC := (IC.seq (IC.reg (piR0 less)) (IC.seq (IC.reg (piR1 less)) (IC.seq (IC.seq (IC.reg (piR2 less)) (IC.block 0 (IC.loop (piB3 less)))) (IC.seq (IC.reg (piR24 less)) IC.ret))))
abbrev piN : Nat := 133
abbrev pdqR0 (less : FuncId) (fins : FuncId) (fhs : FuncId) (fbp : FuncId) (fcp : FuncId) (frv : FuncId) (fpi : FuncId) (fpe : FuncId) (fpt : FuncId) (fpdq : FuncId) : List IOp := [⟨some 8, .op (.mov), [.c (.bool true)], none⟩]
abbrev pdqR1 (less : FuncId) (fins : FuncId) (fhs : FuncId) (fbp : FuncId) (fcp : FuncId) (frv : FuncId) (fpi : FuncId) (fpe : FuncId) (fpt : FuncId) (fpdq : FuncId) : List IOp := [⟨some 9, .op (.mov), [.c (.bool true)], none⟩]
abbrev pdqR2 (less : FuncId) (fins : FuncId) (fhs : FuncId) (fbp : FuncId) (fcp : FuncId) (frv : FuncId) (fpi : FuncId) (fpe : FuncId) (fpt : FuncId) (fpdq : FuncId) : List IOp := [⟨some 19, .op (.mov), [.t 2], none⟩,
  ⟨some 20, .op (.mov), [.t 1], none⟩,
  ⟨some 21, .op (.bin .sub .prim), [.t 19, .t 20], none⟩,
  ⟨some 10, .op (.mov), [.t 21], none⟩]
abbrev pdqR3 (less : FuncId) (fins : FuncId) (fhs : FuncId) (fbp : FuncId) (fcp : FuncId) (frv : FuncId) (fpi : FuncId) (fpe : FuncId) (fpt : FuncId) (fpdq : FuncId) : List IOp := [⟨some 22, .op (.mov), [.t 10], none⟩,
  ⟨some 23, .op (.bin .leq .prim), [.t 22, .c (.int .i64 12)], none⟩]
abbrev pdqR4 (less : FuncId) (fins : FuncId) (fhs : FuncId) (fbp : FuncId) (fcp : FuncId) (frv : FuncId) (fpi : FuncId) (fpe : FuncId) (fpt : FuncId) (fpdq : FuncId) : List IOp := [⟨some 24, .op (.mov), [.t 0], none⟩,
  ⟨some 25, .op (.mov), [.t 1], none⟩,
  ⟨some 26, .op (.mov), [.t 2], none⟩,
  ⟨some 27, .call none, [.f fins, .t 24, .t 25, .t 26], none⟩]
abbrev pdqR5 (less : FuncId) (fins : FuncId) (fhs : FuncId) (fbp : FuncId) (fcp : FuncId) (frv : FuncId) (fpi : FuncId) (fpe : FuncId) (fpt : FuncId) (fpdq : FuncId) : List IOp := [⟨some 28, .op (.mov), [.t 3], none⟩,
  ⟨some 29, .op (.bin .eql .prim), [.t 28, .c (.int .i64 0)], none⟩]
abbrev pdqR6 (less : FuncId) (fins : FuncId) (fhs : FuncId) (fbp : FuncId) (fcp : FuncId) (frv : FuncId) (fpi : FuncId) (fpe : FuncId) (fpt : FuncId) (fpdq : FuncId) : List IOp := [⟨some 30, .op (.mov), [.t 0], none⟩,
  ⟨some 31, .op (.mov), [.t 1], none⟩,
  ⟨some 32, .op (.mov), [.t 2], none⟩,
  ⟨some 33, .call none, [.f fhs, .t 30, .t 31, .t 32], none⟩]
abbrev pdqR7 (less : FuncId) (fins : FuncId) (fhs : FuncId) (fbp : FuncId) (fcp : FuncId) (frv : FuncId) (fpi : FuncId) (fpe : FuncId) (fpt : FuncId) (fpdq : FuncId) : List IOp := [⟨some 34, .op (.mov), [.t 8], none⟩,
  ⟨some 35, .op (.un .not), [.t 34], none⟩]
abbrev pdqR8 (less : FuncId) (fins : FuncId) (fhs : FuncId) (fbp : FuncId) (fcp : FuncId) (frv : FuncId) (fpi : FuncId) (fpe : FuncId) (fpt : FuncId) (fpdq : FuncId) : List IOp := [⟨some 36, .op (.mov), [.t 0], none⟩,
  ⟨some 37, .op (.mov), [.t 1], none⟩,
  ⟨some 38, .op (.mov), [.t 2], none⟩,
  ⟨some 39, .call none, [.f fbp, .t 36, .t 37, .t 38], none⟩]
abbrev pdqR9 (less : FuncId) (fins : FuncId) (fhs : FuncId) (fbp : FuncId) (fcp : FuncId) (frv : FuncId) (fpi : FuncId) (fpe : FuncId) (fpt : FuncId) (fpdq : FuncId) : List IOp := [⟨some 40, .op (.mov), [.t 3], none⟩,
  ⟨some 41, .op (.bin .sub .prim), [.t 40, .c (.int .i64 1)], none⟩,
  ⟨some 3, .op (.mov), [.t 41], none⟩]
abbrev pdqR10 (less : FuncId) (fins : FuncId) (fhs : FuncId) (fbp : FuncId) (fcp : FuncId) (frv : FuncId) (fpi : FuncId) (fpe : FuncId) (fpt : FuncId) (fpdq : FuncId) : List IOp := [⟨some 43, .op (.mov), [.t 0], none⟩,
  ⟨some 44, .op (.mov), [.t 1], none⟩,
  ⟨some 45, .op (.mov), [.t 2], none⟩,
  ⟨some 46, .call none, [.f fcp, .t 43, .t 44, .t 45], none⟩,
  ⟨some 42, .op (.mov), [.t 46], none⟩,
  ⟨some 47, .op (.extract 0), [.t 42], none⟩,
  ⟨some 48, .op (.extract 1), [.t 42], none⟩,
  ⟨some 11, .op (.mov), [.t 47], none⟩,
  ⟨some 12, .op (.mov), [.t 48], none⟩]
abbrev pdqR11 (less : FuncId) (fins : FuncId) (fhs : FuncId) (fbp : FuncId) (fcp : FuncId) (frv : FuncId) (fpi : FuncId) (fpe : FuncId) (fpt : FuncId) (fpdq : FuncId) : List IOp := [⟨some 49, .op (.mov), [.t 12], none⟩,
  ⟨some 50, .op (.bin .eql .prim), [.t 49, .c (.int .i64 2)], none⟩]
abbrev pdqR12 (less : FuncId) (fins : FuncId) (fhs : FuncId) (fbp : FuncId) (fcp : FuncId) (frv : FuncId) (fpi : FuncId) (fpe : FuncId) (fpt : FuncId) (fpdq : FuncId) : List IOp := [⟨some 51, .op (.mov), [.t 0], none⟩,
  ⟨some 52, .op (.mov), [.t 1], none⟩,
  ⟨some 53, .op (.mov), [.t 2], none⟩,
  ⟨some 54, .call none, [.f frv, .t 51, .t 52, .t 53], none⟩]
abbrev pdqR13 (less : FuncId) (fins : FuncId) (fhs : FuncId) (fbp : FuncId) (fcp : FuncId) (frv : FuncId) (fpi : FuncId) (fpe : FuncId) (fpt : FuncId) (fpdq : FuncId) : List IOp := [⟨some 55, .op (.mov), [.t 2], none⟩,
  ⟨some 56, .op (.bin .sub .prim), [.t 55, .c (.int .i64 1)], none⟩,
  ⟨some 57, .op (.mov), [.t 11], none⟩,
  ⟨some 58, .op (.mov), [.t 1], none⟩,
  ⟨some 59, .op (.bin .sub .prim), [.t 57, .t 58], none⟩,
  ⟨some 60, .op (.bin .sub .prim), [.t 56, .t 59], none⟩,
  ⟨some 11, .op (.mov), [.t 60], none⟩]
abbrev pdqR14 (less : FuncId) (fins : FuncId) (fhs : FuncId) (fbp : FuncId) (fcp : FuncId) (frv : FuncId) (fpi : FuncId) (fpe : FuncId) (fpt : FuncId) (fpdq : FuncId) : List IOp := [⟨some 12, .op (.mov), [.c (.int .i64 1)], none⟩]
abbrev pdqR15 (less : FuncId) (fins : FuncId) (fhs : FuncId) (fbp : FuncId) (fcp : FuncId) (frv : FuncId) (fpi : FuncId) (fpe : FuncId) (fpt : FuncId) (fpdq : FuncId) : List IOp := [⟨some 61, .op (.mov), [.t 8], none⟩,
  ⟨some 62, .op (.mov), [.t 61], none⟩,
  ⟨some 63, .op (.mov), [.t 9], some (62, true)⟩,
  ⟨some 64, .op (.pick), [.t 62, .t 63, .c (.bool false)], none⟩,
  ⟨some 65, .op (.mov), [.t 64], none⟩,
  ⟨some 66, .op (.mov), [.t 12], some (65, true)⟩,
  ⟨some 67, .op (.bin .eql .prim), [.t 66, .c (.int .i64 1)], some (65, true)⟩,
  ⟨some 68, .op (.pick), [.t 65, .t 67, .c (.bool false)], none⟩]
abbrev pdqR16 (less : FuncId) (fins : FuncId) (fhs : FuncId) (fbp : FuncId) (fcp : FuncId) (frv : FuncId) (fpi : FuncId) (fpe : FuncId) (fpt : FuncId) (fpdq : FuncId) : List IOp := [⟨some 69, .op (.mov), [.t 0], none⟩,
  ⟨some 70, .op (.mov), [.t 1], none⟩,
  ⟨some 71, .op (.mov), [.t 2], none⟩,
  ⟨some 72, .call none, [.f fpi, .t 69, .t 70, .t 71], none⟩]
abbrev pdqR17 (less : FuncId) (fins : FuncId) (fhs : FuncId) (fbp : FuncId) (fcp : FuncId) (frv : FuncId) (fpi : FuncId) (fpe : FuncId) (fpt : FuncId) (fpdq : FuncId) : List IOp := [⟨some 73, .op (.mov), [.t 1], none⟩,
  ⟨some 74, .op (.bin .gtr .prim), [.t 73, .c (.int .i64 0)], none⟩,
  ⟨some 75, .op (.mov), [.t 74], none⟩,
  ⟨some 76, .op (.mov), [.t 0], some (75, true)⟩,
  ⟨some 77, .op (.mov), [.t 1], some (75, true)⟩,
  ⟨some 78, .op (.bin .sub .prim), [.t 77, .c (.int .i64 1)], some (75, true)⟩,
  ⟨some 79, .op (.iaddr 1), [.t 76, .t 78], some (75, true)⟩,
  ⟨some 80, .op (.load none), [.t 79], some (75, true)⟩,
  ⟨some 81, .op (.mov), [.t 0], some (75, true)⟩,
  ⟨some 82, .op (.mov), [.t 11], some (75, true)⟩,
  ⟨some 83, .op (.iaddr 1), [.t 81, .t 82], some (75, true)⟩,
  ⟨some 84, .op (.load none), [.t 83], some (75, true)⟩,
  ⟨some 85, .call none, [.f less, .t 80, .t 84], some (75, true)⟩,
  ⟨some 86, .op (.un .not), [.t 85], some (75, true)⟩,
  ⟨some 87, .op (.pick), [.t 75, .t 86, .c (.bool false)], none⟩]
abbrev pdqR18 (less : FuncId) (fins : FuncId) (fhs : FuncId) (fbp : FuncId) (fcp : FuncId) (frv : FuncId) (fpi : FuncId) (fpe : FuncId) (fpt : FuncId) (fpdq : FuncId) : List IOp := [⟨some 88, .op (.mov), [.t 0], none⟩,
  ⟨some 89, .op (.mov), [.t 1], none⟩,
  ⟨some 90, .op (.mov), [.t 2], none⟩,
  ⟨some 91, .op (.mov), [.t 11], none⟩,
  ⟨some 92, .call none, [.f fpe, .t 88, .t 89, .t 90, .t 91], none⟩,
  ⟨some 13, .op (.mov), [.t 92], none⟩]
abbrev pdqR19 (less : FuncId) (fins : FuncId) (fhs : FuncId) (fbp : FuncId) (fcp : FuncId) (frv : FuncId) (fpi : FuncId) (fpe : FuncId) (fpt : FuncId) (fpdq : FuncId) : List IOp := [⟨some 93, .op (.mov), [.t 13], none⟩,
  ⟨some 1, .op (.mov), [.t 93], none⟩]
abbrev pdqR20 (less : FuncId) (fins : FuncId) (fhs : FuncId) (fbp : FuncId) (fcp : FuncId) (frv : FuncId) (fpi : FuncId) (fpe : FuncId) (fpt : FuncId) (fpdq : FuncId) : List IOp := [⟨some 95, .op (.mov), [.t 0], none⟩,
  ⟨some 96, .op (.mov), [.t 1], none⟩,
  ⟨some 97, .op (.mov), [.t 2], none⟩,
  ⟨some 98, .op (.mov), [.t 11], none⟩,
  ⟨some 99, .call none, [.f fpt, .t 95, .t 96, .t 97, .t 98], none⟩,
  ⟨some 94, .op (.mov), [.t 99], none⟩,
  ⟨some 100, .op (.extract 0), [.t 94], none⟩,
  ⟨some 101, .op (.extract 1), [.t 94], none⟩,
  ⟨some 14, .op (.mov), [.t 100], none⟩,
  ⟨some 15, .op (.mov), [.t 101], none⟩]
abbrev pdqR21 (less : FuncId) (fins : FuncId) (fhs : FuncId) (fbp : FuncId) (fcp : FuncId) (frv : FuncId) (fpi : FuncId) (fpe : FuncId) (fpt : FuncId) (fpdq : FuncId) : List IOp := [⟨some 102, .op (.mov), [.t 15], none⟩,
  ⟨some 9, .op (.mov), [.t 102], none⟩]
abbrev pdqR22 (less : FuncId) (fins : FuncId) (fhs : FuncId) (fbp : FuncId) (fcp : FuncId) (frv : FuncId) (fpi : FuncId) (fpe : FuncId) (fpt : FuncId) (fpdq : FuncId) : List IOp := [⟨some 103, .op (.mov), [.t 14], none⟩,
  ⟨some 104, .op (.mov), [.t 1], none⟩,
  ⟨some 105, .op (.bin .sub .prim), [.t 103, .t 104], none⟩,
  ⟨some 106, .op (.mov), [.t 2], none⟩,
  ⟨some 107, .op (.mov), [.t 14], none⟩,
  ⟨some 108, .op (.bin .sub .prim), [.t 106, .t 107], none⟩,
  ⟨some 16, .op (.mov), [.t 105], none⟩,
  ⟨some 17, .op (.mov), [.t 108], none⟩]
abbrev pdqR23 (less : FuncId) (fins : FuncId) (fhs : FuncId) (fbp : FuncId) (fcp : FuncId) (frv : FuncId) (fpi : FuncId) (fpe : FuncId) (fpt : FuncId) (fpdq : FuncId) : List IOp := [⟨some 109, .op (.mov), [.t 10], none⟩,
  ⟨some 110, .op (.bin .quo .prim), [.t 109, .c (.int .i64 8)], none⟩,
  ⟨some 18, .op (.mov), [.t 110], none⟩]
abbrev pdqR24 (less : FuncId) (fins : FuncId) (fhs : FuncId) (fbp : FuncId) (fcp : FuncId) (frv : FuncId) (fpi : FuncId) (fpe : FuncId) (fpt : FuncId) (fpdq : FuncId) : List IOp := [⟨some 111, .op (.mov), [.t 16], none⟩,
  ⟨some 112, .op (.mov), [.t 17], none⟩,
  ⟨some 113, .op (.bin .lss .prim), [.t 111, .t 112], none⟩]
abbrev pdqR25 (less : FuncId) (fins : FuncId) (fhs : FuncId) (fbp : FuncId) (fcp : FuncId) (frv : FuncId) (fpi : FuncId) (fpe : FuncId) (fpt : FuncId) (fpdq : FuncId) : List IOp := [⟨some 114, .op (.mov), [.t 16], none⟩,
  ⟨some 115, .op (.mov), [.t 18], none⟩,
  ⟨some 116, .op (.bin .geq .prim), [.t 114, .t 115], none⟩,
  ⟨some 8, .op (.mov), [.t 116], none⟩]
abbrev pdqR26 (less : FuncId) (fins : FuncId) (fhs : FuncId) (fbp : FuncId) (fcp : FuncId) (frv : FuncId) (fpi : FuncId) (fpe : FuncId) (fpt : FuncId) (fpdq : FuncId) : List IOp := [⟨some 117, .op (.mov), [.t 0], none⟩,
  ⟨some 118, .op (.mov), [.t 1], none⟩,
  ⟨some 119, .op (.mov), [.t 14], none⟩,
  ⟨some 120, .op (.mov), [.t 3], none⟩,
  ⟨some 121, .call none, [.f fpdq, .t 117, .t 118, .t 119, .t 120], none⟩]
abbrev pdqR27 (less : FuncId) (fins : FuncId) (fhs : FuncId) (fbp : FuncId) (fcp : FuncId) (frv : FuncId) (fpi : FuncId) (fpe : FuncId) (fpt : FuncId) (fpdq : FuncId) : List IOp := [⟨some 122, .op (.mov), [.t 14], none⟩,
  ⟨some 123, .op (.bin .add .prim), [.t 122, .c (.int .i64 1)], none⟩,
  ⟨some 1, .op (.mov), [.t 123], none⟩]
abbrev pdqR28 (less : FuncId) (fins : FuncId) (fhs : FuncId) (fbp : FuncId) (fcp : FuncId) (frv : FuncId) (fpi : FuncId) (fpe : FuncId) (fpt : FuncId) (fpdq : FuncId) : List IOp := [⟨some 124, .op (.mov), [.t 17], none⟩,
  ⟨some 125, .op (.mov), [.t 18], none⟩,
  ⟨some 126, .op (.bin .geq .prim), [.t 124, .t 125], none⟩,
  ⟨some 8, .op (.mov), [.t 126], none⟩]
abbrev pdqR29 (less : FuncId) (fins : FuncId) (fhs : FuncId) (fbp : FuncId) (fcp : FuncId) (frv : FuncId) (fpi : FuncId) (fpe : FuncId) (fpt : FuncId) (fpdq : FuncId) : List IOp := [⟨some 127, .op (.mov), [.t 0], none⟩,
  ⟨some 128, .op (.mov), [.t 14], none⟩,
  ⟨some 129, .op (.bin .add .prim), [.t 128, .c (.int .i64 1)], none⟩,
  ⟨some 130, .op (.mov), [.t 2], none⟩,
  ⟨some 131, .op (.mov), [.t 3], none⟩,
  ⟨some 132, .call none, [.f fpdq, .t 127, .t 129, .t 130, .t 131], none⟩]
abbrev pdqR30 (less : FuncId) (fins : FuncId) (fhs : FuncId) (fbp : FuncId) (fcp : FuncId) (frv : FuncId) (fpi : FuncId) (fpe : FuncId) (fpt : FuncId) (fpdq : FuncId) : List IOp := [⟨some 133, .op (.mov), [.t 14], none⟩,
  ⟨some 2, .op (.mov), [.t 133], none⟩]
abbrev pdqB0 (less : FuncId) (fins : FuncId) (fhs : FuncId) (fbp : FuncId) (fcp : FuncId) (frv : FuncId) (fpi : FuncId) (fpe : FuncId) (fpt : FuncId) (fpdq : FuncId) : IC := (IC.block 1 (IC.seq (IC.reg (pdqR2 less fins fhs fbp fcp frv fpi fpe fpt fpdq)) (IC.seq (IC.seq (IC.reg (pdqR3 less fins fhs fbp fcp frv fpi fpe fpt fpdq)) (IC.cond (.t 23) (IC.seq (IC.reg (pdqR4 less fins fhs fbp fcp frv fpi fpe fpt fpdq)) IC.ret) IC.skip)) (IC.seq (IC.seq (IC.reg (pdqR5 less fins fhs fbp fcp frv fpi fpe fpt fpdq)) (IC.cond (.t 29) (IC.seq (IC.reg (pdqR6 less fins fhs fbp fcp frv fpi fpe fpt fpdq)) IC.ret) IC.skip)) (IC.seq (IC.seq (IC.reg (pdqR7 less fins fhs fbp fcp frv fpi fpe fpt fpdq)) (IC.cond (.t 35) (IC.seq (IC.reg (pdqR8 less fins fhs fbp fcp frv fpi fpe fpt fpdq)) (IC.reg (pdqR9 less fins fhs fbp fcp frv fpi fpe fpt fpdq))) IC.skip)) (IC.seq (IC.reg (pdqR10 less fins fhs fbp fcp frv fpi fpe fpt fpdq)) (IC.seq (IC.seq (IC.reg (pdqR11 less fins fhs fbp fcp frv fpi fpe fpt fpdq)) (IC.cond (.t 50) (IC.seq (IC.reg (pdqR12 less fins fhs fbp fcp frv fpi fpe fpt fpdq)) (IC.seq (IC.reg (pdqR13 less fins fhs fbp fcp frv fpi fpe fpt fpdq)) (IC.reg (pdqR14 less fins fhs fbp fcp frv fpi fpe fpt fpdq)))) IC.skip)) (IC.seq (IC.seq (IC.reg (pdqR15 less fins fhs fbp fcp frv fpi fpe fpt fpdq)) (IC.cond (.t 68) (IC.seq (IC.reg (pdqR16 less fins fhs fbp fcp frv fpi fpe fpt fpdq)) (IC.cond (.t 72) IC.ret IC.skip)) IC.skip)) (IC.seq (IC.seq (IC.regD .wild (pdqR17 less fins fhs fbp fcp frv fpi fpe fpt fpdq) (.take 0 (.take 1 (.take 2 (.take 3 (.take 4 (.take 5 (.take 6 (.take 7 (.take 8 (.take 9 (.take 10 (.take 11 (.take 12 (.take 13 (.take 14 (.done))))))))))))))))) (IC.cond (.t 87) (IC.seq (IC.reg (pdqR18 less fins fhs fbp fcp frv fpi fpe fpt fpdq)) (IC.seq (IC.reg (pdqR19 less fins fhs fbp fcp frv fpi fpe fpt fpdq)) (IC.exit 1))) IC.skip)) (IC.seq (IC.reg (pdqR20 less fins fhs fbp fcp frv fpi fpe fpt fpdq)) (IC.seq (IC.reg (pdqR21 less fins fhs fbp fcp frv fpi fpe fpt fpdq)) (IC.seq (IC.reg (pdqR22 less fins fhs fbp fcp frv fpi fpe fpt fpdq)) (IC.seq (IC.reg (pdqR23 less fins fhs fbp fcp frv fpi fpe fpt fpdq)) (IC.seq (IC.reg (pdqR24 less fins fhs fbp fcp frv fpi fpe fpt fpdq)) (IC.cond (.t 113) (IC.seq (IC.reg (pdqR25 less fins fhs fbp fcp frv fpi fpe fpt fpdq)) (IC.seq (IC.reg (pdqR26 less fins fhs fbp fcp frv fpi fpe fpt fpdq)) (IC.reg (pdqR27 less fins fhs fbp fcp frv fpi fpe fpt fpdq)))) (IC.seq (IC.reg (pdqR28 less fins fhs fbp fcp frv fpi fpe fpt fpdq)) (IC.seq (IC.reg (pdqR29 less fins fhs fbp fcp frv fpi fpe fpt fpdq)) (IC.reg (pdqR30 less fins fhs fbp fcp frv fpi fpe fpt fpdq)))))))))))))))))))
abbrev pdqC (less : FuncId) (fins : FuncId) (fhs : FuncId) (fbp : FuncId) (fcp : FuncId) (frv : FuncId) (fpi : FuncId) (fpe : FuncId) (fpt : FuncId) (fpdq : FuncId) : IC := (IC.seq (IC.reg (pdqR0 less fins fhs fbp fcp frv fpi fpe fpt fpdq)) (IC.seq (IC.reg (pdqR1 less fins fhs fbp fcp frv fpi fpe fpt fpdq)) (IC.block 0 (IC.loop (pdqB0 less fins fhs fbp fcp frv fpi fpe fpt fpdq)))))
abbrev pdqN : Nat := 134
abbrev srtR0 (fbl : FuncId) (fpdq : FuncId) : List IOp := [⟨some 3, .op (.mov), [.t 0], none⟩,
  ⟨some 4, .op (.len .slice), [.t 3], none⟩,
  ⟨some 2, .op (.mov), [.t 4], none⟩]
abbrev srtR1 (fbl : FuncId) (fpdq : FuncId) : List IOp := [⟨some 5, .op (.mov), [.t 0], none⟩,
  ⟨some 6, .op (.mov), [.t 2], none⟩,
  ⟨some 7, .op (.mov), [.t 2], none⟩,
  ⟨some 8, .op (.toInt .u64), [.t 7], none⟩,
  ⟨some 9, .call none, [.f fbl, .t 8], none⟩,
  ⟨some 10, .call none, [.f fpdq, .t 5, .c (.int .i64 0), .t 6, .t 9], none⟩]
abbrev srtC (fbl : FuncId) (fpdq : FuncId) : IC := (IC.seq (IC.reg (srtR0 fbl fpdq)) (IC.reg (srtR1 fbl fpdq)))
abbrev srtN : Nat := 11

section
variable {α : Type} [Inhabited α] {L : El1 α} {lt : α → α → Bool} {P : Program} {T : Tab} {less : FuncId} {hint : Nat → Nat} {f : FuncId} {e : TypeId} {id : Nat} {hp0 hp : HP} {d : Array α} {v : AV}
def hintI : Sort.Hint → Int
  | .unknown => 0
  | .increasing => 1
  | .decreasing => 2
theorem natQ (n m : Nat) : ((n : Nat) : Int).tdiv ((m : Nat) : Int) = ((n / m : Nat) : Int) := by
  rw [Int.tdiv_eq_ediv_of_nonneg (by omega)]
  rfl
/-- The median that is taken, and how often was changed. -/
def pivR (lt : α → α → Bool) (d : Array α) (a b : Nat) : Nat × Nat :=
  if b - a ≥ 8 then
    if b - a ≥ 50 then
      let ri := Sort.medianAdjacent lt d (a + (b - a) / 4 * 1) 0
      let rj := Sort.medianAdjacent lt d (a + (b - a) / 4 * 2) ri.2
      let rk := Sort.medianAdjacent lt d (a + (b - a) / 4 * 3) rj.2
      Sort.median lt d ri.1 rj.1 rk.1 rk.2
    else Sort.median lt d (a + (b - a) / 4 * 1) (a + (b - a) / 4 * 2) (a + (b - a) / 4 * 3) 0
  else (a + (b - a) / 4 * 2, 0)
theorem choose_eq (a b : Nat) : Sort.choosePivot lt d a b = ((pivR lt d a b).1, if (pivR lt d a b).2 = 0 then .increasing else if (pivR lt d a b).2 = 12 then .decreasing else .unknown) := rfl
theorem cp_calls (hm : P.follows .mixedOrders = true) (hT : TabOk P T) (hless : Lss L lt T less) {fo2 fmd fma : FuncId} {h1 h2 h3 : Nat → Nat} (ho : compF P h1 fo2 = some ⟨o2C less, o2N, [.t 8, .t 9]⟩) (hmd : compF P h2 fmd = some ⟨mdC fo2, mdN, [.t 10]⟩) (hma : compF P h3 fma = some ⟨maC fmd, maN, [.t 6]⟩) {ti : TypeId} (hf : compF P hint f = some ⟨cpC fmd fma ti, cpN, [.t 6, .t 7]⟩) (s : Srt L e id hp0 hp d) (hv : SlA id d v) {a b : Nat} (hab : a < b) (hb : b ≤ d.size) :
    ACalls P f [v, .int .i64 a, .int .i64 b] hp fun r hp' => r = .tup [.int .i64 ((Sort.choosePivot lt d a b).1 : Nat), .int .i64 (hintI (Sort.choosePivot lt d a b).2)] ∧ Srt L e id hp0 hp' d := by
  refine calls_e hm hT hf (by rfl) (by simp [cpN]) ?_
  have hsz := hv.2
  have hid : id < hp.length := (List.getElem?_eq_some_iff.1 (s.get (i := a) (by omega))).1
  rw [choose_eq]
  have w1 := natW (x := (b : Int) - (a : Int)) (b - a) (by omega) (by omega)
  generalize hn : b - a = n at *
  have hpr : pivR lt d a b = if n ≥ 8 then (if n ≥ 50 then (let ri := Sort.medianAdjacent lt d (a + n / 4 * 1) 0; let rj := Sort.medianAdjacent lt d (a + n / 4 * 2) ri.2; let rk := Sort.medianAdjacent lt d (a + n / 4 * 3) rj.2; Sort.median lt d ri.1 rj.1 rk.1 rk.2) else Sort.median lt d (a + n / 4 * 1) (a + n / 4 * 2) (a + n / 4 * 3) 0) else (a + n / 4 * 2, 0) := by
    unfold pivR
    rw [hn]
  have q4 : ((n : Nat) : Int).tdiv 4 = ((n / 4 : Nat) : Int) := natQ n 4
  have w2 := natW (x := ((n / 4 : Nat) : Int)) (n / 4) rfl (by omega)
  have w3 := natW (x := ((n / 4 : Nat) : Int) * 1) (n / 4 * 1) (by omega) (by omega)
  have w4 := natW (x := ((n / 4 : Nat) : Int) * 2) (n / 4 * 2) (by omega) (by omega)
  have w5 := natW (x := ((n / 4 : Nat) : Int) * 3) (n / 4 * 3) (by omega) (by omega)
  have w6 := natW (x := (a : Int) + ((n / 4 * 1 : Nat) : Int)) (a + n / 4 * 1) (by omega) (by omega)
  have w7 := natW (x := (a : Int) + ((n / 4 * 2 : Nat) : Int)) (a + n / 4 * 2) (by omega) (by omega)
  have w8 := natW (x := (a : Int) + ((n / 4 * 3 : Nat) : Int)) (a + n / 4 * 3) (by omega) (by omega)
  have w6b := natW (x := (a : Int) + ((n / 4 : Nat) : Int)) (a + n / 4 * 1) (by omega) (by omega)
  have w6c : (a : Int) + ((n / 4 : Nat) : Int) = ((a + n / 4 * 1 : Nat) : Int) := by omega
  have bi : a + n / 4 * 1 < d.size := by omega
  have bj : a + n / 4 * 2 < d.size := by omega
  have bk : a + n / 4 * 3 < d.size := by omega
  have hw0 : SwA ti (hp ++ [some (.row ti [.int .i64 0])]) hp.length 0 := by simp [SwA]
  have s0 := s.app [some (.row ti [.int .i64 0])]
  generalize hpi : a + n / 4 * 1 = pi at *
  generalize hpj : a + n / 4 * 2 = pj at *
  generalize hpk : a + n / 4 * 3 = pk at *
  refine vcE.step (by simp (disch := first | assumption | omega) only [go_sem, ↓reduceIte, Nat.reduceEqDiff, reduceCtorEq, Nat.reduceAdd, Nat.reduceLeDiff]; rfl) (vcE.step (by simp (disch := first | assumption | omega) only [go_sem, ↓reduceIte, Nat.reduceEqDiff, reduceCtorEq, Nat.reduceAdd, Nat.reduceLeDiff, w1]; rfl) (vcE.step (by simp (disch := first | assumption | omega) only [go_sem, ↓reduceIte, Nat.reduceEqDiff, reduceCtorEq, Nat.reduceAdd, Nat.reduceLeDiff, allocA]; rfl) (vcE.step (by simp (disch := first | assumption | omega) only [go_sem, ↓reduceIte, Nat.reduceEqDiff, reduceCtorEq, Nat.reduceAdd, Nat.reduceLeDiff, q4, w2, w3, w6, w6b, w6c]; rfl) (vcE.step (by simp (disch := first | assumption | omega) only [go_sem, ↓reduceIte, Nat.reduceEqDiff, reduceCtorEq, Nat.reduceAdd, Nat.reduceLeDiff, q4, w2, w4, w7]; rfl) (vcE.step (by simp (disch := first | assumption | omega) only [go_sem, ↓reduceIte, Nat.reduceEqDiff, reduceCtorEq, Nat.reduceAdd, Nat.reduceLeDiff, q4, w2, w5, w8]; rfl) ?_)))))
  generalize hp ++ [some (.row ti [.int .i64 0])] = hp1 at *
  have hle := s.len
  refine vcE.then (fun e' tm' hp' => e' = .normal ∧ Srt L e id hp0 hp' d ∧ SwA ti hp' hp.length (pivR lt d a b).2 ∧ tm' 9 = .ptr hp.length 0 ∧ tm' 11 = .int .i64 ((pivR lt d a b).1 : Nat)) ?_ ?_
  · rw [hpr]
    by_cases h8 : 8 ≤ n
    rotate_left
    · rw [if_neg h8]
      refine vcE.ex (by simp (disch := first | assumption | omega) only [go_sem, ↓reduceIte, Nat.reduceEqDiff, reduceCtorEq, Nat.reduceAdd, Nat.reduceLeDiff, ge_iff_le, h8, decide_false]; rfl) ?_
      refine ⟨rfl, s0, hw0, ?_, ?_⟩
      all_goals simp only [upd_app, Nat.reduceEqDiff, ↓reduceIte]
    rw [if_pos h8]
    refine vcE.step (by simp (disch := first | assumption | omega) only [go_sem, ↓reduceIte, Nat.reduceEqDiff, reduceCtorEq, Nat.reduceAdd, Nat.reduceLeDiff, ge_iff_le, h8, decide_true]; rfl) (vcE.condTrue (by simp only [evE, upd_app, Nat.reduceEqDiff, ↓reduceIte]) ?_)
    by_cases h50 : 50 ≤ n
    rotate_left
    · rw [if_neg h50]
      refine vcE.step (by simp (disch := first | assumption | omega) only [go_sem, ↓reduceIte, Nat.reduceEqDiff, reduceCtorEq, Nat.reduceAdd, Nat.reduceLeDiff, ge_iff_le, h50, decide_false]; rfl) ?_
      rw [show cpR11 fmd fma ti = (cpR11 fmd fma ti).take 4 ++ ((cpR11 fmd fma ti).drop 4).take 1 ++ (cpR11 fmd fma ti).drop 5 from rfl]
      refine vcE.app (vcE.app (vcE.ex (by simp (disch := first | assumption | omega) only [go_sem, ↓reduceIte, Nat.reduceEqDiff, reduceCtorEq, Nat.reduceAdd, Nat.reduceLeDiff]; rfl) ⟨rfl, vcE.call (f := fmd) (caps := []) (ys := [v, .int .i64 pi, .int .i64 pj, .int .i64 pk, .ptr hp.length 0]) rfl ?_ (md_calls hm hT hless ho hmd s0 hv hw0 hle (by omega) (by omega) bi bj bk) ?_⟩))
      · simp only [evsE, evE, upd_app, Nat.reduceEqDiff, ↓reduceIte]
      rintro r hp' ⟨rfl, s1, hw1⟩
      refine ⟨rfl, vcE.ex (by simp (disch := first | assumption | omega) only [go_sem, ↓reduceIte, Nat.reduceEqDiff, reduceCtorEq, Nat.reduceAdd, Nat.reduceLeDiff]; rfl) ?_⟩
      refine ⟨rfl, s1, hw1, ?_, ?_⟩
      all_goals simp only [putE, upd_app, Nat.reduceEqDiff, ↓reduceIte]
    · rw [if_pos h50]
      obtain ⟨x1, x2⟩ := median_lt (lt := lt) (n := 0) (d := d) (a := pi - 1) (b := pi) (c := pi + 1) (by omega) bi (by omega)
      have y1 : Sort.median lt d (pi - 1) pi (pi + 1) 0 = Sort.medianAdjacent lt d pi 0 := rfl
      rw [y1] at x1 x2
      generalize hri : Sort.medianAdjacent lt d pi 0 = ri at *
      obtain ⟨x3, x4⟩ := median_lt (lt := lt) (n := ri.2) (d := d) (a := pj - 1) (b := pj) (c := pj + 1) (by omega) bj (by omega)
      have y2 : Sort.median lt d (pj - 1) pj (pj + 1) ri.2 = Sort.medianAdjacent lt d pj ri.2 := rfl
      rw [y2] at x3 x4
      generalize hrj : Sort.medianAdjacent lt d pj ri.2 = rj at *
      obtain ⟨x5, x6⟩ := median_lt (lt := lt) (n := rj.2) (d := d) (a := pk - 1) (b := pk) (c := pk + 1) (by omega) bk (by omega)
      have y3 : Sort.median lt d (pk - 1) pk (pk + 1) rj.2 = Sort.medianAdjacent lt d pk rj.2 := rfl
      rw [y3] at x5 x6
      simp only [hrj]
      generalize hrk : Sort.medianAdjacent lt d pk rj.2 = rk at *
      refine vcE.then (fun e' tm' hp' => e' = .normal ∧ Srt L e id hp0 hp' d ∧ SwA ti hp' hp.length rk.2 ∧ tm' 0 = v ∧ tm' 9 = .ptr hp.length 0 ∧ tm' 10 = .int .i64 (ri.1 : Nat) ∧ tm' 11 = .int .i64 (rj.1 : Nat) ∧ tm' 12 = .int .i64 (rk.1 : Nat)) ?_ ?_
      · refine vcE.step (by simp (disch := first | assumption | omega) only [go_sem, ↓reduceIte, Nat.reduceEqDiff, reduceCtorEq, Nat.reduceAdd, Nat.reduceLeDiff, ge_iff_le, h50, decide_true]; rfl) (vcE.condTrue (by simp only [evE, upd_app, Nat.reduceEqDiff, ↓reduceIte]) ?_)
        refine vcE.then (fun e' tm' hp' => e' = .normal ∧ Srt L e id hp0 hp' d ∧ SwA ti hp' hp.length ri.2 ∧ tm' 0 = v ∧ tm' 9 = .ptr hp.length 0 ∧ tm' 10 = .int .i64 (ri.1 : Nat) ∧ tm' 11 = .int .i64 (pj : Nat) ∧ tm' 12 = .int .i64 (pk : Nat)) ?_ ?_
        · rw [show cpR8 fmd fma ti = (cpR8 fmd fma ti).take 2 ++ ((cpR8 fmd fma ti).drop 2).take 1 ++ (cpR8 fmd fma ti).drop 3 from rfl]
          refine vcE.app (vcE.app (vcE.ex (by simp (disch := first | assumption | omega) only [go_sem, ↓reduceIte, Nat.reduceEqDiff, reduceCtorEq, Nat.reduceAdd, Nat.reduceLeDiff]; rfl) ⟨rfl, vcE.call (f := fma) (caps := []) (ys := [v, .int .i64 pi, .ptr hp.length 0]) rfl ?_ (ma_calls hm hT hless ho hmd hma s0 hv hw0 hle (by omega) (by omega) (by omega) (by omega)) ?_⟩))
          · simp only [evsE, evE, upd_app, Nat.reduceEqDiff, ↓reduceIte]
          rintro r hp' ⟨rfl, s1, hw1⟩
          rw [hri] at hw1 ⊢
          refine ⟨rfl, vcE.ex (by simp (disch := first | assumption | omega) only [go_sem, ↓reduceIte, Nat.reduceEqDiff, reduceCtorEq, Nat.reduceAdd, Nat.reduceLeDiff]; rfl) ?_⟩
          refine ⟨rfl, s1, hw1, ?_, ?_, ?_, ?_, ?_⟩
          all_goals simp only [putE, upd_app, Nat.reduceEqDiff, ↓reduceIte]
          rfl
        rintro e' tm hp' ⟨rfl, s1, hw1, t0, t9, t10, t11, t12⟩
        refine vcE.then (fun e' tm' hp' => e' = .normal ∧ Srt L e id hp0 hp' d ∧ SwA ti hp' hp.length rj.2 ∧ tm' 0 = v ∧ tm' 9 = .ptr hp.length 0 ∧ tm' 10 = .int .i64 (ri.1 : Nat) ∧ tm' 11 = .int .i64 (rj.1 : Nat) ∧ tm' 12 = .int .i64 (pk : Nat)) ?_ ?_
        · rw [show cpR9 fmd fma ti = (cpR9 fmd fma ti).take 2 ++ ((cpR9 fmd fma ti).drop 2).take 1 ++ (cpR9 fmd fma ti).drop 3 from rfl]
          refine vcE.app (vcE.app (vcE.ex (by simp (disch := first | assumption | omega) only [go_sem, ↓reduceIte, Nat.reduceEqDiff, reduceCtorEq, Nat.reduceAdd, Nat.reduceLeDiff]; rfl) ⟨rfl, vcE.call (f := fma) (caps := []) (ys := [v, .int .i64 pj, .ptr hp.length 0]) rfl ?_ (ma_calls hm hT hless ho hmd hma s1 hv hw1 hle (by omega) (by omega) (by omega) (by omega)) ?_⟩))
          · simp only [evsE, evE, upd_app, Nat.reduceEqDiff, ↓reduceIte, t0, t9, t11]
          rintro r hp' ⟨rfl, s2, hw2⟩
          rw [hrj] at hw2 ⊢
          refine ⟨rfl, vcE.ex (by simp (disch := first | assumption | omega) only [go_sem, ↓reduceIte, Nat.reduceEqDiff, reduceCtorEq, Nat.reduceAdd, Nat.reduceLeDiff]; rfl) ?_⟩
          refine ⟨rfl, s2, hw2, ?_, ?_, ?_, ?_, ?_⟩
          all_goals simp only [putE, upd_app, Nat.reduceEqDiff, ↓reduceIte, t0, t9, t10, t12]
        clear t0 t9 t10 t11 t12
        rintro e' tm hp' ⟨rfl, s2, hw2, t0, t9, t10, t11, t12⟩
        rw [show cpR10 fmd fma ti = (cpR10 fmd fma ti).take 2 ++ ((cpR10 fmd fma ti).drop 2).take 1 ++ (cpR10 fmd fma ti).drop 3 from rfl]
        refine vcE.app (vcE.app (vcE.ex (by simp (disch := first | assumption | omega) only [go_sem, ↓reduceIte, Nat.reduceEqDiff, reduceCtorEq, Nat.reduceAdd, Nat.reduceLeDiff]; rfl) ⟨rfl, vcE.call (f := fma) (caps := []) (ys := [v, .int .i64 pk, .ptr hp.length 0]) rfl ?_ (ma_calls hm hT hless ho hmd hma s2 hv hw2 hle (by omega) (by omega) (by omega) (by omega)) ?_⟩))
        · simp only [evsE, evE, upd_app, Nat.reduceEqDiff, ↓reduceIte, t0, t9, t12]
        rintro r hp' ⟨rfl, s3, hw3⟩
        rw [hrk] at hw3 ⊢
        refine ⟨rfl, vcE.ex (by simp (disch := first | assumption | omega) only [go_sem, ↓reduceIte, Nat.reduceEqDiff, reduceCtorEq, Nat.reduceAdd, Nat.reduceLeDiff]; rfl) ?_⟩
        refine ⟨rfl, s3, hw3, ?_, ?_, ?_, ?_, ?_⟩
        all_goals simp only [putE, upd_app, Nat.reduceEqDiff, ↓reduceIte, t0, t9, t10, t11]
      rintro e' tm hp' ⟨rfl, s3, hw3, t0, t9, t10, t11, t12⟩
      rw [show cpR11 fmd fma ti = (cpR11 fmd fma ti).take 4 ++ ((cpR11 fmd fma ti).drop 4).take 1 ++ (cpR11 fmd fma ti).drop 5 from rfl]
      refine vcE.app (vcE.app (vcE.ex (by simp (disch := first | assumption | omega) only [go_sem, ↓reduceIte, Nat.reduceEqDiff, reduceCtorEq, Nat.reduceAdd, Nat.reduceLeDiff]; rfl) ⟨rfl, vcE.call (f := fmd) (caps := []) (ys := [v, .int .i64 ri.1, .int .i64 rj.1, .int .i64 rk.1, .ptr hp.length 0]) rfl ?_ (md_calls hm hT hless ho hmd s3 hv hw3 hle (by omega) (by omega) x1 x3 x5) ?_⟩))
      · simp only [evsE, evE, upd_app, Nat.reduceEqDiff, ↓reduceIte, t0, t9, t10, t11, t12]
      rintro r hp' ⟨rfl, s4, hw4⟩
      refine ⟨rfl, vcE.ex (by simp (disch := first | assumption | omega) only [go_sem, ↓reduceIte, Nat.reduceEqDiff, reduceCtorEq, Nat.reduceAdd, Nat.reduceLeDiff]; rfl) ?_⟩
      refine ⟨rfl, s4, hw4, ?_, ?_⟩
      all_goals simp only [putE, upd_app, Nat.reduceEqDiff, ↓reduceIte, t9]
  · rintro e' tm hp' ⟨rfl, s1, hw1, t9, t11⟩
    generalize pivR lt d a b = r at *
    obtain ⟨p, n2⟩ := r
    simp only at *
    unfold SwA at hw1
    by_cases k0 : n2 = 0
    · subst k0
      refine vcE.ex (by simp (disch := first | assumption | omega) only [go_sem, ↓reduceIte, Nat.reduceEqDiff, reduceCtorEq, Nat.reduceAdd, Nat.reduceLeDiff, t9, t11, hw1]; rfl) ?_
      exact ⟨_, rfl, rfl, s1⟩
    by_cases k12 : n2 = 12
    · subst k12
      refine vcE.ex (by simp (disch := first | assumption | omega) only [go_sem, ↓reduceIte, Nat.reduceEqDiff, reduceCtorEq, Nat.reduceAdd, Nat.reduceLeDiff, t9, t11, hw1]; rfl) ?_
      exact ⟨_, rfl, rfl, s1⟩
    have z0 : ¬ ((n2 : Int) = 0) := by omega
    have z12 : ¬ ((n2 : Int) = 12) := by omega
    refine vcE.ex (by simp (disch := first | assumption | omega) only [exC, exOps, exOp, wantedE, ↓reduceIte, ROp.run, evsE, evE, t9, same, loadA, rowA, hw1, pickA, List.getElem?_cons_zero, tz, Option.map_some, putE, ty, binA, intA, z0, decide_false, Nat.reduceEqDiff, z12, t11]; rfl) ?_
    refine ⟨_, rfl, ?_, s1⟩
    rw [if_neg k0, if_neg k12]
    rfl
end
end
section
open Go

section
variable {α : Type} [Inhabited α] {L : El1 α} {lt : α → α → Bool} {P : Program} {T : Tab} {less : FuncId} {hint : Nat → Nat} {f : FuncId} {e : TypeId} {id : Nat} {hp0 hp : HP} {d : Array α} {v : AV}
theorem su_go (p : α → Bool) {d : Array α} {j i : Nat} (h : i ≤ j) (hp : p d[i]! = true) : Sort.scanUp p d j (i + 1) = Sort.scanUp p d j i := by
  conv => rhs; rw [Sort.scanUp]
  rw [if_pos (by simp [h, hp])]
theorem su_end (p : α → Bool) {d : Array α} {j i : Nat} (h : i ≤ j → p d[i]! = false) : Sort.scanUp p d j i = i := by
  rw [Sort.scanUp, if_neg]
  simp only [Bool.and_eq_true, decide_eq_true_eq, not_and, Bool.not_eq_true]
  exact h
theorem sd_go (p : α → Bool) {d : Array α} {j i : Nat} (h : i ≤ j + 1) (hp : p d[j + 1]! = true) : Sort.scanDown p d i j = Sort.scanDown p d i (j + 1) := by
  conv => rhs; rw [Sort.scanDown]
  rw [if_pos (by simp [h, hp])]
theorem sd_end (p : α → Bool) {d : Array α} {i : Nat} : ∀ {j : Nat}, (i ≤ j → p d[j]! = false) → Sort.scanDown p d i j = j
  | 0, h => rfl
  | j + 1, h => by
    rw [Sort.scanDown, if_neg]
    simp only [Bool.and_eq_true, decide_eq_true_eq, not_and, Bool.not_eq_true]
    exact h
theorem pt_up0 {n : Nat} {tm : Env} {a i j : Nat} (hless : Lss L lt T less) (s : Srt L e id hp0 hp d) (hv : SlA id d v) (ha : a < d.size) (hj : j < d.size) (t0 : tm 0 = v) (t1 : tm 1 = .int .i64 a) (ti : tm 10 = .int .i64 i) (tj : tm 11 = .int .i64 j) :
    vcE P hint T n (IC.block 0 (IC.loop (ptB0 less))) tm hp fun e' tm' hp' => e' = .normal ∧ hp' = hp ∧ tm' 0 = v ∧ tm' 1 = .int .i64 a ∧ tm' 10 = .int .i64 ((Sort.scanUp (fun x => lt x d[a]!) d j i : Nat) : Int) ∧ tm' 11 = .int .i64 (j : Nat) := by
  have hsz := hv.2
  have hfz := L.fz
  have hid := s.get ha
  have ia := hv.1 a ha
  have pa := pick_at (L := L) ha
  refine vcE.block (vcE.loop (by intro l tm hp h; simp at h) (fun k tm' hp' => ∃ i' : Nat, k = j + 1 - i' ∧ hp' = hp ∧ Sort.scanUp (fun x => lt x d[a]!) d j i' = Sort.scanUp (fun x => lt x d[a]!) d j i ∧ tm' 0 = v ∧ tm' 1 = .int .i64 a ∧ tm' 10 = .int .i64 (i' : Nat) ∧ tm' 11 = .int .i64 (j : Nat)) (j + 1 - i) ⟨i, rfl, rfl, rfl, t0, t1, ti, tj⟩ ?_)
  clear t0 t1 ti tj
  rintro k tm hp' ⟨i', rfl, rfl, hs, t0, t1, ti, tj⟩
  by_cases h : i' ≤ j
  rotate_left
  · refine vcE.ex (by simp (disch := first | assumption | omega) only [exC, chain, ordered, List.getElem?_cons_zero, List.getElem?_cons_succ, exOps.eq_2, exOp, wantedE, ↓reduceIte, ROp.run, evsE, evE, ti, putE, exOps, ty, Nat.reduceEqDiff, tj, same, binA, intA, Int.ofNat_le, h, decide_false, Option.map_some, beq_iff_eq, cond_true]; rfl) ?_
    rw [su_end _ (fun h' => absurd h' h)] at hs
    refine ⟨rfl, rfl, ?_, ?_, ?_, ?_⟩
    all_goals simp only [upd_app, Nat.reduceEqDiff, ↓reduceIte, t0, t1, ti, tj, ← hs]
  have hx : i' < d.size := by omega
  have ix := hv.1 i' hx
  have px := pick_at (L := L) hx
  have w1 := natW (x := (i' : Int) + 1) (i' + 1) (by omega) (by omega)
  have hc := hless d[i']! d[a]!
  cases hl : lt d[i']! d[a]! <;> rw [hl] at hc
  · refine vcE.ex (by simp (disch := first | assumption | omega) only [exC, chain, ordered, List.getElem?_cons_zero, List.getElem?_cons_succ, exOps.eq_2, exOp, wantedE, ↓reduceIte, ROp.run, evsE, evE, ti, putE, exOps, ty, Nat.reduceEqDiff, tj, same, binA, intA, Int.ofNat_le, h, decide_true, Option.map_some, beq_self_eq_true, reduceCtorEq, t0, ix, loadA, rowA, hid, ↓px, t1, ia, ↓pa, List.append_nil, frzL.eq_2, hfz, frzL, hc, Cls.isFree, callCls, Bool.not_false, nidL.eq_2, nidL, Bool.true_or, cond_true]; rfl) ?_
    rw [su_end _ (fun _ => by simp [hl])] at hs
    refine ⟨rfl, rfl, ?_, ?_, ?_, ?_⟩
    all_goals simp only [upd_app, Nat.reduceEqDiff, ↓reduceIte, t0, t1, ti, tj, ← hs]
  · refine vcE.ex (by simp (disch := first | assumption | omega) only [exC, chain, ordered, List.getElem?_cons_zero, List.getElem?_cons_succ, exOps.eq_2, exOp, wantedE, ↓reduceIte, ROp.run, evsE, evE, ti, putE, exOps, ty, Nat.reduceEqDiff, tj, same, binA, intA, Int.ofNat_le, h, decide_true, Option.map_some, beq_self_eq_true, reduceCtorEq, t0, ix, loadA, rowA, hid, ↓px, t1, ia, ↓pa, List.append_nil, frzL.eq_2, hfz, frzL, hc, Cls.isFree, callCls, Bool.not_false, nidL.eq_2, nidL, Bool.true_or, cond_true, w1]; rfl) ?_
    refine ⟨j + 1 - (i' + 1), by omega, i' + 1, rfl, rfl, ?_, ?_, ?_, ?_, ?_⟩
    · rw [← hs]
      exact su_go _ h (by simp [hl])
    all_goals simp only [upd_app, Nat.reduceEqDiff, ↓reduceIte, t0, t1, ti, tj]

theorem pt_dn1 {n : Nat} {tm : Env} {a i j : Nat} (hless : Lss L lt T less) (s : Srt L e id hp0 hp d) (hv : SlA id d v) (ha : a < d.size) (hj : j < d.size) (hi1 : 1 ≤ i) (t0 : tm 0 = v) (t1 : tm 1 = .int .i64 a) (ti : tm 10 = .int .i64 i) (tj : tm 11 = .int .i64 j) :
    vcE P hint T n (IC.block 2 (IC.loop (ptB1 less))) tm hp fun e' tm' hp' => e' = .normal ∧ hp' = hp ∧ tm' 0 = v ∧ tm' 1 = .int .i64 a ∧ tm' 10 = .int .i64 (i : Nat) ∧ tm' 11 = .int .i64 ((Sort.scanDown (fun x => !lt x d[a]!) d i j : Nat) : Int) := by
  have hsz := hv.2
  have hfz := L.fz
  have hid := s.get ha
  have ia := hv.1 a ha
  have pa := pick_at (L := L) ha
  refine vcE.block (vcE.loop (by intro l tm hp h; simp at h) (fun k tm' hp' => ∃ j' : Nat, j' = k ∧ j' ≤ j ∧ hp' = hp ∧ Sort.scanDown (fun x => !lt x d[a]!) d i j' = Sort.scanDown (fun x => !lt x d[a]!) d i j ∧ tm' 0 = v ∧ tm' 1 = .int .i64 a ∧ tm' 10 = .int .i64 (i : Nat) ∧ tm' 11 = .int .i64 (j' : Nat)) j ⟨j, rfl, Nat.le_refl _, rfl, rfl, t0, t1, ti, tj⟩ ?_)
  clear t0 t1 ti tj
  rintro k tm hp' ⟨j', rfl, hj1, rfl, hs, t0, t1, ti, tj⟩
  by_cases h : i ≤ j'
  rotate_left
  · refine vcE.ex (by simp (disch := first | assumption | omega) only [exC, chain, ordered, List.getElem?_cons_zero, List.getElem?_cons_succ, exOps.eq_2, exOp, wantedE, ↓reduceIte, ROp.run, evsE, evE, ti, putE, exOps, ty, Nat.reduceEqDiff, tj, same, binA, intA, Int.ofNat_le, h, decide_false, Option.map_some, beq_iff_eq, cond_true]; rfl) ?_
    rw [sd_end _ (fun h' => absurd h' h)] at hs
    refine ⟨rfl, rfl, ?_, ?_, ?_, ?_⟩
    all_goals simp only [upd_app, Nat.reduceEqDiff, ↓reduceIte, t0, t1, ti, tj, ← hs]
  have hx : j' < d.size := by omega
  have ix := hv.1 j' hx
  have px := pick_at (L := L) hx
  have w1 := natW (x := (j' : Int) - 1) (j' - 1) (by omega) (by omega)
  have hc := hless d[j']! d[a]!
  cases hl : lt d[j']! d[a]! <;> rw [hl] at hc
  · refine vcE.ex (by simp (disch := first | assumption | omega) only [exC, chain, ordered, List.getElem?_cons_zero, List.getElem?_cons_succ, exOps.eq_2, exOp, wantedE, ↓reduceIte, ROp.run, evsE, evE, ti, putE, exOps, ty, Nat.reduceEqDiff, tj, same, binA, intA, Int.ofNat_le, h, decide_true, Option.map_some, beq_self_eq_true, reduceCtorEq, t0, ix, loadA, rowA, hid, ↓px, t1, ia, ↓pa, List.append_nil, frzL.eq_2, hfz, frzL, hc, Cls.isFree, callCls, Bool.not_false, nidL.eq_2, nidL, Bool.true_or, unA, cond_true, w1]; rfl) ?_
    obtain ⟨j', rfl⟩ : ∃ j2, j' = j2 + 1 := ⟨j' - 1, by omega⟩
    refine ⟨j', by omega, j', rfl, by omega, rfl, ?_, ?_, ?_, ?_, ?_⟩
    · rw [← hs]
      exact sd_go _ h (by simp [hl])
    all_goals simp only [upd_app, Nat.reduceEqDiff, ↓reduceIte, t0, t1, ti, tj, Nat.add_sub_cancel]
  · refine vcE.ex (by simp (disch := first | assumption | omega) only [exC, chain, ordered, List.getElem?_cons_zero, List.getElem?_cons_succ, exOps.eq_2, exOp, wantedE, ↓reduceIte, ROp.run, evsE, evE, ti, putE, exOps, ty, Nat.reduceEqDiff, tj, same, binA, intA, Int.ofNat_le, h, decide_true, Option.map_some, beq_self_eq_true, reduceCtorEq, t0, ix, loadA, rowA, hid, ↓px, t1, ia, ↓pa, List.append_nil, frzL.eq_2, hfz, frzL, hc, Cls.isFree, callCls, Bool.not_false, nidL.eq_2, nidL, Bool.true_or, unA, Bool.not_true, cond_true]; rfl) ?_
    rw [sd_end _ (fun _ => by simp [hl])] at hs
    refine ⟨rfl, rfl, ?_, ?_, ?_, ?_⟩
    all_goals simp only [upd_app, Nat.reduceEqDiff, ↓reduceIte, t0, t1, ti, tj, ← hs]

theorem pt_up2 {n : Nat} {tm : Env} {a i j : Nat} (hless : Lss L lt T less) (s : Srt L e id hp0 hp d) (hv : SlA id d v) (ha : a < d.size) (hj : j < d.size) (t0 : tm 0 = v) (t1 : tm 1 = .int .i64 a) (ti : tm 10 = .int .i64 i) (tj : tm 11 = .int .i64 j) :
    vcE P hint T n (IC.block 6 (IC.loop (ptB2 less))) tm hp fun e' tm' hp' => e' = .normal ∧ hp' = hp ∧ tm' 0 = v ∧ tm' 1 = .int .i64 a ∧ tm' 10 = .int .i64 ((Sort.scanUp (fun x => lt x d[a]!) d j i : Nat) : Int) ∧ tm' 11 = .int .i64 (j : Nat) := by
  have hsz := hv.2
  have hfz := L.fz
  have hid := s.get ha
  have ia := hv.1 a ha
  have pa := pick_at (L := L) ha
  refine vcE.block (vcE.loop (by intro l tm hp h; simp at h) (fun k tm' hp' => ∃ i' : Nat, k = j + 1 - i' ∧ hp' = hp ∧ Sort.scanUp (fun x => lt x d[a]!) d j i' = Sort.scanUp (fun x => lt x d[a]!) d j i ∧ tm' 0 = v ∧ tm' 1 = .int .i64 a ∧ tm' 10 = .int .i64 (i' : Nat) ∧ tm' 11 = .int .i64 (j : Nat)) (j + 1 - i) ⟨i, rfl, rfl, rfl, t0, t1, ti, tj⟩ ?_)
  clear t0 t1 ti tj
  rintro k tm hp' ⟨i', rfl, rfl, hs, t0, t1, ti, tj⟩
  by_cases h : i' ≤ j
  rotate_left
  · refine vcE.ex (by simp (disch := first | assumption | omega) only [exC, chain, ordered, List.getElem?_cons_zero, List.getElem?_cons_succ, exOps.eq_2, exOp, wantedE, ↓reduceIte, ROp.run, evsE, evE, ti, putE, exOps, ty, Nat.reduceEqDiff, tj, same, binA, intA, Int.ofNat_le, h, decide_false, Option.map_some, beq_iff_eq, cond_true]; rfl) ?_
    rw [su_end _ (fun h' => absurd h' h)] at hs
    refine ⟨rfl, rfl, ?_, ?_, ?_, ?_⟩
    all_goals simp only [upd_app, Nat.reduceEqDiff, ↓reduceIte, t0, t1, ti, tj, ← hs]
  have hx : i' < d.size := by omega
  have ix := hv.1 i' hx
  have px := pick_at (L := L) hx
  have w1 := natW (x := (i' : Int) + 1) (i' + 1) (by omega) (by omega)
  have hc := hless d[i']! d[a]!
  cases hl : lt d[i']! d[a]! <;> rw [hl] at hc
  · refine vcE.ex (by simp (disch := first | assumption | omega) only [exC, chain, ordered, List.getElem?_cons_zero, List.getElem?_cons_succ, exOps.eq_2, exOp, wantedE, ↓reduceIte, ROp.run, evsE, evE, ti, putE, exOps, ty, Nat.reduceEqDiff, tj, same, binA, intA, Int.ofNat_le, h, decide_true, Option.map_some, beq_self_eq_true, reduceCtorEq, t0, ix, loadA, rowA, hid, ↓px, t1, ia, ↓pa, List.append_nil, frzL.eq_2, hfz, frzL, hc, Cls.isFree, callCls, Bool.not_false, nidL.eq_2, nidL, Bool.true_or, cond_true]; rfl) ?_
    rw [su_end _ (fun _ => by simp [hl])] at hs
    refine ⟨rfl, rfl, ?_, ?_, ?_, ?_⟩
    all_goals simp only [upd_app, Nat.reduceEqDiff, ↓reduceIte, t0, t1, ti, tj, ← hs]
  · refine vcE.ex (by simp (disch := first | assumption | omega) only [exC, chain, ordered, List.getElem?_cons_zero, List.getElem?_cons_succ, exOps.eq_2, exOp, wantedE, ↓reduceIte, ROp.run, evsE, evE, ti, putE, exOps, ty, Nat.reduceEqDiff, tj, same, binA, intA, Int.ofNat_le, h, decide_true, Option.map_some, beq_self_eq_true, reduceCtorEq, t0, ix, loadA, rowA, hid, ↓px, t1, ia, ↓pa, List.append_nil, frzL.eq_2, hfz, frzL, hc, Cls.isFree, callCls, Bool.not_false, nidL.eq_2, nidL, Bool.true_or, cond_true, w1]; rfl) ?_
    refine ⟨j + 1 - (i' + 1), by omega, i' + 1, rfl, rfl, ?_, ?_, ?_, ?_, ?_⟩
    · rw [← hs]
      exact su_go _ h (by simp [hl])
    all_goals simp only [upd_app, Nat.reduceEqDiff, ↓reduceIte, t0, t1, ti, tj]

theorem pt_dn3 {n : Nat} {tm : Env} {a i j : Nat} (hless : Lss L lt T less) (s : Srt L e id hp0 hp d) (hv : SlA id d v) (ha : a < d.size) (hj : j < d.size) (hi1 : 1 ≤ i) (t0 : tm 0 = v) (t1 : tm 1 = .int .i64 a) (ti : tm 10 = .int .i64 i) (tj : tm 11 = .int .i64 j) :
    vcE P hint T n (IC.block 8 (IC.loop (ptB3 less))) tm hp fun e' tm' hp' => e' = .normal ∧ hp' = hp ∧ tm' 0 = v ∧ tm' 1 = .int .i64 a ∧ tm' 10 = .int .i64 (i : Nat) ∧ tm' 11 = .int .i64 ((Sort.scanDown (fun x => !lt x d[a]!) d i j : Nat) : Int) := by
  have hsz := hv.2
  have hfz := L.fz
  have hid := s.get ha
  have ia := hv.1 a ha
  have pa := pick_at (L := L) ha
  refine vcE.block (vcE.loop (by intro l tm hp h; simp at h) (fun k tm' hp' => ∃ j' : Nat, j' = k ∧ j' ≤ j ∧ hp' = hp ∧ Sort.scanDown (fun x => !lt x d[a]!) d i j' = Sort.scanDown (fun x => !lt x d[a]!) d i j ∧ tm' 0 = v ∧ tm' 1 = .int .i64 a ∧ tm' 10 = .int .i64 (i : Nat) ∧ tm' 11 = .int .i64 (j' : Nat)) j ⟨j, rfl, Nat.le_refl _, rfl, rfl, t0, t1, ti, tj⟩ ?_)
  clear t0 t1 ti tj
  rintro k tm hp' ⟨j', rfl, hj1, rfl, hs, t0, t1, ti, tj⟩
  by_cases h : i ≤ j'
  rotate_left
  · refine vcE.ex (by simp (disch := first | assumption | omega) only [exC, chain, ordered, List.getElem?_cons_zero, List.getElem?_cons_succ, exOps.eq_2, exOp, wantedE, ↓reduceIte, ROp.run, evsE, evE, ti, putE, exOps, ty, Nat.reduceEqDiff, tj, same, binA, intA, Int.ofNat_le, h, decide_false, Option.map_some, beq_iff_eq, cond_true]; rfl) ?_
    rw [sd_end _ (fun h' => absurd h' h)] at hs
    refine ⟨rfl, rfl, ?_, ?_, ?_, ?_⟩
    all_goals simp only [upd_app, Nat.reduceEqDiff, ↓reduceIte, t0, t1, ti, tj, ← hs]
  have hx : j' < d.size := by omega
  have ix := hv.1 j' hx
  have px := pick_at (L := L) hx
  have w1 := natW (x := (j' : Int) - 1) (j' - 1) (by omega) (by omega)
  have hc := hless d[j']! d[a]!
  cases hl : lt d[j']! d[a]! <;> rw [hl] at hc
  · refine vcE.ex (by simp (disch := first | assumption | omega) only [exC, chain, ordered, List.getElem?_cons_zero, List.getElem?_cons_succ, exOps.eq_2, exOp, wantedE, ↓reduceIte, ROp.run, evsE, evE, ti, putE, exOps, ty, Nat.reduceEqDiff, tj, same, binA, intA, Int.ofNat_le, h, decide_true, Option.map_some, beq_self_eq_true, reduceCtorEq, t0, ix, loadA, rowA, hid, ↓px, t1, ia, ↓pa, List.append_nil, frzL.eq_2, hfz, frzL, hc, Cls.isFree, callCls, Bool.not_false, nidL.eq_2, nidL, Bool.true_or, unA, cond_true, w1]; rfl) ?_
    obtain ⟨j', rfl⟩ : ∃ j2, j' = j2 + 1 := ⟨j' - 1, by omega⟩
    refine ⟨j', by omega, j', rfl, by omega, rfl, ?_, ?_, ?_, ?_, ?_⟩
    · rw [← hs]
      exact sd_go _ h (by simp [hl])
    all_goals simp only [upd_app, Nat.reduceEqDiff, ↓reduceIte, t0, t1, ti, tj, Nat.add_sub_cancel]
  · refine vcE.ex (by simp (disch := first | assumption | omega) only [exC, chain, ordered, List.getElem?_cons_zero, List.getElem?_cons_succ, exOps.eq_2, exOp, wantedE, ↓reduceIte, ROp.run, evsE, evE, ti, putE, exOps, ty, Nat.reduceEqDiff, tj, same, binA, intA, Int.ofNat_le, h, decide_true, Option.map_some, beq_self_eq_true, reduceCtorEq, t0, ix, loadA, rowA, hid, ↓px, t1, ia, ↓pa, List.append_nil, frzL.eq_2, hfz, frzL, hc, Cls.isFree, callCls, Bool.not_false, nidL.eq_2, nidL, Bool.true_or, unA, Bool.not_true, cond_true]; rfl) ?_
    rw [sd_end _ (fun _ => by simp [hl])] at hs
    refine ⟨rfl, rfl, ?_, ?_, ?_, ?_⟩
    all_goals simp only [upd_app, Nat.reduceEqDiff, ↓reduceIte, t0, t1, ti, tj, ← hs]

theorem pe_up0 {n : Nat} {tm : Env} {a i j : Nat} (hless : Lss L lt T less) (s : Srt L e id hp0 hp d) (hv : SlA id d v) (ha : a < d.size) (hj : j < d.size) (t0 : tm 0 = v) (t1 : tm 1 = .int .i64 a) (ti : tm 9 = .int .i64 i) (tj : tm 10 = .int .i64 j) :
    vcE P hint T n (IC.block 2 (IC.loop (peB0 less))) tm hp fun e' tm' hp' => e' = .normal ∧ hp' = hp ∧ tm' 0 = v ∧ tm' 1 = .int .i64 a ∧ tm' 9 = .int .i64 ((Sort.scanUp (fun x => !lt d[a]! x) d j i : Nat) : Int) ∧ tm' 10 = .int .i64 (j : Nat) := by
  have hsz := hv.2
  have hfz := L.fz
  have hid := s.get ha
  have ia := hv.1 a ha
  have pa := pick_at (L := L) ha
  refine vcE.block (vcE.loop (by intro l tm hp h; simp at h) (fun k tm' hp' => ∃ i' : Nat, k = j + 1 - i' ∧ hp' = hp ∧ Sort.scanUp (fun x => !lt d[a]! x) d j i' = Sort.scanUp (fun x => !lt d[a]! x) d j i ∧ tm' 0 = v ∧ tm' 1 = .int .i64 a ∧ tm' 9 = .int .i64 (i' : Nat) ∧ tm' 10 = .int .i64 (j : Nat)) (j + 1 - i) ⟨i, rfl, rfl, rfl, t0, t1, ti, tj⟩ ?_)
  clear t0 t1 ti tj
  rintro k tm hp' ⟨i', rfl, rfl, hs, t0, t1, ti, tj⟩
  by_cases h : i' ≤ j
  rotate_left
  · refine vcE.ex (by simp (disch := first | assumption | omega) only [exC, chain, ordered, List.getElem?_cons_zero, List.getElem?_cons_succ, exOps.eq_2, exOp, wantedE, ↓reduceIte, ROp.run, evsE, evE, ti, putE, exOps, ty, Nat.reduceEqDiff, tj, same, binA, intA, Int.ofNat_le, h, decide_false, Option.map_some, beq_iff_eq, cond_true]; rfl) ?_
    rw [su_end _ (fun h' => absurd h' h)] at hs
    refine ⟨rfl, rfl, ?_, ?_, ?_, ?_⟩
    all_goals simp only [upd_app, Nat.reduceEqDiff, ↓reduceIte, t0, t1, ti, tj, ← hs]
  have hx : i' < d.size := by omega
  have ix := hv.1 i' hx
  have px := pick_at (L := L) hx
  have w1 := natW (x := (i' : Int) + 1) (i' + 1) (by omega) (by omega)
  have hc := hless d[a]! d[i']!
  cases hl : lt d[a]! d[i']! <;> rw [hl] at hc
  · refine vcE.ex (by simp (disch := first | assumption | omega) only [exC, chain, ordered, List.getElem?_cons_zero, List.getElem?_cons_succ, exOps.eq_2, exOp, wantedE, ↓reduceIte, ROp.run, evsE, evE, ti, putE, exOps, ty, Nat.reduceEqDiff, tj, same, binA, intA, Int.ofNat_le, h, decide_true, Option.map_some, beq_self_eq_true, reduceCtorEq, t0, t1, ia, loadA, rowA, hid, ↓pa, ix, ↓px, List.append_nil, frzL.eq_2, hfz, frzL, hc, Cls.isFree, callCls, Bool.not_false, nidL.eq_2, nidL, Bool.true_or, unA, cond_true, w1]; rfl) ?_
    refine ⟨j + 1 - (i' + 1), by omega, i' + 1, rfl, rfl, ?_, ?_, ?_, ?_, ?_⟩
    · rw [← hs]
      exact su_go _ h (by simp [hl])
    all_goals simp only [upd_app, Nat.reduceEqDiff, ↓reduceIte, t0, t1, ti, tj]
  · refine vcE.ex (by simp (disch := first | assumption | omega) only [exC, chain, ordered, List.getElem?_cons_zero, List.getElem?_cons_succ, exOps.eq_2, exOp, wantedE, ↓reduceIte, ROp.run, evsE, evE, ti, putE, exOps, ty, Nat.reduceEqDiff, tj, same, binA, intA, Int.ofNat_le, h, decide_true, Option.map_some, beq_self_eq_true, reduceCtorEq, t0, t1, ia, loadA, rowA, hid, ↓pa, ix, ↓px, List.append_nil, frzL.eq_2, hfz, frzL, hc, Cls.isFree, callCls, Bool.not_false, nidL.eq_2, nidL, Bool.true_or, unA, Bool.not_true, cond_true]; rfl) ?_
    rw [su_end _ (fun _ => by simp [hl])] at hs
    refine ⟨rfl, rfl, ?_, ?_, ?_, ?_⟩
    all_goals simp only [upd_app, Nat.reduceEqDiff, ↓reduceIte, t0, t1, ti, tj, ← hs]

theorem pe_dn1 {n : Nat} {tm : Env} {a i j : Nat} (hless : Lss L lt T less) (s : Srt L e id hp0 hp d) (hv : SlA id d v) (ha : a < d.size) (hj : j < d.size) (hi1 : 1 ≤ i) (t0 : tm 0 = v) (t1 : tm 1 = .int .i64 a) (ti : tm 9 = .int .i64 i) (tj : tm 10 = .int .i64 j) :
    vcE P hint T n (IC.block 4 (IC.loop (peB1 less))) tm hp fun e' tm' hp' => e' = .normal ∧ hp' = hp ∧ tm' 0 = v ∧ tm' 1 = .int .i64 a ∧ tm' 9 = .int .i64 (i : Nat) ∧ tm' 10 = .int .i64 ((Sort.scanDown (fun x => lt d[a]! x) d i j : Nat) : Int) := by
  have hsz := hv.2
  have hfz := L.fz
  have hid := s.get ha
  have ia := hv.1 a ha
  have pa := pick_at (L := L) ha
  refine vcE.block (vcE.loop (by intro l tm hp h; simp at h) (fun k tm' hp' => ∃ j' : Nat, j' = k ∧ j' ≤ j ∧ hp' = hp ∧ Sort.scanDown (fun x => lt d[a]! x) d i j' = Sort.scanDown (fun x => lt d[a]! x) d i j ∧ tm' 0 = v ∧ tm' 1 = .int .i64 a ∧ tm' 9 = .int .i64 (i : Nat) ∧ tm' 10 = .int .i64 (j' : Nat)) j ⟨j, rfl, Nat.le_refl _, rfl, rfl, t0, t1, ti, tj⟩ ?_)
  clear t0 t1 ti tj
  rintro k tm hp' ⟨j', rfl, hj1, rfl, hs, t0, t1, ti, tj⟩
  by_cases h : i ≤ j'
  rotate_left
  · refine vcE.ex (by simp (disch := first | assumption | omega) only [exC, chain, ordered, List.getElem?_cons_zero, List.getElem?_cons_succ, exOps.eq_2, exOp, wantedE, ↓reduceIte, ROp.run, evsE, evE, ti, putE, exOps, ty, Nat.reduceEqDiff, tj, same, binA, intA, Int.ofNat_le, h, decide_false, Option.map_some, beq_iff_eq, cond_true]; rfl) ?_
    rw [sd_end _ (fun h' => absurd h' h)] at hs
    refine ⟨rfl, rfl, ?_, ?_, ?_, ?_⟩
    all_goals simp only [upd_app, Nat.reduceEqDiff, ↓reduceIte, t0, t1, ti, tj, ← hs]
  have hx : j' < d.size := by omega
  have ix := hv.1 j' hx
  have px := pick_at (L := L) hx
  have w1 := natW (x := (j' : Int) - 1) (j' - 1) (by omega) (by omega)
  have hc := hless d[a]! d[j']!
  cases hl : lt d[a]! d[j']! <;> rw [hl] at hc
  · refine vcE.ex (by simp (disch := first | assumption | omega) only [exC, chain, ordered, List.getElem?_cons_zero, List.getElem?_cons_succ, exOps.eq_2, exOp, wantedE, ↓reduceIte, ROp.run, evsE, evE, ti, putE, exOps, ty, Nat.reduceEqDiff, tj, same, binA, intA, Int.ofNat_le, h, decide_true, Option.map_some, beq_self_eq_true, reduceCtorEq, t0, t1, ia, loadA, rowA, hid, ↓pa, ix, ↓px, List.append_nil, frzL.eq_2, hfz, frzL, hc, Cls.isFree, callCls, Bool.not_false, nidL.eq_2, nidL, Bool.true_or, cond_true]; rfl) ?_
    rw [sd_end _ (fun _ => by simp [hl])] at hs
    refine ⟨rfl, rfl, ?_, ?_, ?_, ?_⟩
    all_goals simp only [upd_app, Nat.reduceEqDiff, ↓reduceIte, t0, t1, ti, tj, ← hs]
  · refine vcE.ex (by simp (disch := first | assumption | omega) only [exC, chain, ordered, List.getElem?_cons_zero, List.getElem?_cons_succ, exOps.eq_2, exOp, wantedE, ↓reduceIte, ROp.run, evsE, evE, ti, putE, exOps, ty, Nat.reduceEqDiff, tj, same, binA, intA, Int.ofNat_le, h, decide_true, Option.map_some, beq_self_eq_true, reduceCtorEq, t0, t1, ia, loadA, rowA, hid, ↓pa, ix, ↓px, List.append_nil, frzL.eq_2, hfz, frzL, hc, Cls.isFree, callCls, Bool.not_false, nidL.eq_2, nidL, Bool.true_or, cond_true, w1]; rfl) ?_
    obtain ⟨j', rfl⟩ : ∃ j2, j' = j2 + 1 := ⟨j' - 1, by omega⟩
    refine ⟨j', by omega, j', rfl, by omega, rfl, ?_, ?_, ?_, ?_, ?_⟩
    · rw [← hs]
      exact sd_go _ h (by simp [hl])
    all_goals simp only [upd_app, Nat.reduceEqDiff, ↓reduceIte, t0, t1, ti, tj, Nat.add_sub_cancel]

theorem pt_loop {n : Nat} {tm : Env} {a i j : Nat} (hless : Lss L lt T less) (s : Srt L e id hp0 hp d) (hv : SlA id d v) (hai : a < i) (ha : a < d.size) (hj : j < d.size) (t0 : tm 0 = v) (t1 : tm 1 = .int .i64 a) (ti : tm 10 = .int .i64 i) (tj : tm 11 = .int .i64 j) :
    vcE P hint T n (IC.block 4 (IC.loop (ptB4 less))) tm hp fun e' tm' hp' => e' = .normal ∧ Srt L e id hp0 hp' (Sort.partLoop lt a i j d).2 ∧ (Sort.partLoop lt a i j d).2.size = d.size ∧ (Sort.partLoop lt a i j d).1 < d.size ∧ tm' 0 = v ∧ tm' 1 = .int .i64 a ∧ tm' 11 = .int .i64 ((Sort.partLoop lt a i j d).1 : Nat) := by
  have hsz := hv.2
  refine vcE.block (vcE.loop (by intro l tm hp h; simp at h) (fun k tm' hp' => ∃ (i' j' : Nat) (d' : Array α), k = j' + 1 - i' ∧ a < i' ∧ j' < d.size ∧ d'.size = d.size ∧ Srt L e id hp0 hp' d' ∧ Sort.partLoop lt a i' j' d' = Sort.partLoop lt a i j d ∧ tm' 0 = v ∧ tm' 1 = .int .i64 a ∧ tm' 10 = .int .i64 i' ∧ tm' 11 = .int .i64 j') (j + 1 - i) ⟨i, j, d, rfl, hai, hj, rfl, s, rfl, t0, t1, ti, tj⟩ ?_)
  clear t0 t1 ti tj s
  rintro k tm hp ⟨i1, j1, d1, rfl, hai1, hj1, hd1, s, hs, t0, t1, ti, tj⟩
  have hv1 := hv.of hd1
  refine vcE.block (vcE.then _ (pt_up2 hless s hv1 (by omega) (by omega) t0 t1 ti tj) ?_)
  clear t0 t1 ti tj
  rintro e' tm hp' ⟨rfl, rfl, t0, t1, ti, tj⟩
  have g1 := Sort.scanUp_ge (fun x => lt x d1[a]!) d1 j1 i1
  rw [Sort.partLoop_eq] at hs
  generalize hi2 : Sort.scanUp (fun x => lt x d1[a]!) d1 j1 i1 = i2 at *
  refine vcE.then _ (pt_dn3 hless s hv1 (by omega) (by omega) (by omega) t0 t1 ti tj) ?_
  clear t0 t1 ti tj
  rintro e' tm hp' ⟨rfl, rfl, t0, t1, ti, tj⟩
  have g2 := Sort.scanDown_le (fun x => !lt x d1[a]!) d1 i2 j1
  generalize hj2 : Sort.scanDown (fun x => !lt x d1[a]!) d1 i2 j1 = j2 at *
  by_cases h : i2 > j2
  · rw [if_pos h] at hs
    refine vcE.ex (by simp (disch := first | assumption | omega) only [exC, exOps, exOp, wantedE, ↓reduceIte, ROp.run, evsE, evE, ti, putE, ty, Nat.reduceEqDiff, tj, same, binA, intA, gt_iff_lt, Int.ofNat_lt, h, decide_true, Option.map_some]; rfl) ?_
    rw [← hs]
    refine ⟨rfl, s, hd1, by omega, ?_, ?_, ?_⟩
    all_goals simp only [upd_app, Nat.reduceEqDiff, ↓reduceIte, t0, t1, tj]
  · rw [if_neg h] at hs
    have h1 : i2 < d1.size := by omega
    have h2 : j2 < d1.size := by omega
    have x1 := s.get h1
    have y1 := hv1.1 i2 h1
    have y2 := hv1.1 j2 h2
    have p1 := pick_at (L := L) h1
    have p2 := pick_at (L := L) h2
    obtain ⟨z1, z2, hst1, hst2, s3⟩ := s.swap h1 h2
    have w2 := natW (x := (i2 : Int) + 1) (i2 + 1) (by omega) (by omega)
    have w3 := natW (x := (j2 : Int) - 1) (j2 - 1) (by omega) (by omega)
    have h' : ¬ (j2 : Int) < (i2 : Int) := by omega
    refine vcE.ex (by simp (disch := first | assumption | omega) only [exC, exOps, exOp, wantedE, ↓reduceIte, ROp.run, evsE, evE, ti, putE, ty, Nat.reduceEqDiff, tj, same, binA, intA, h', decide_false, Option.map_some, chain, ordered, List.getElem?_cons_zero, List.getElem?_cons_succ, exOps.eq_2, reduceCtorEq, t0, y2, loadA, rowA, x1, ↓p2, y1, ↓p1, ↓hst1, ↓hst2, cond_true, w2, w3]; rfl) ?_
    refine ⟨j2 - 1 + 1 - (i2 + 1), by omega, i2 + 1, j2 - 1, _, rfl, by omega, by omega, by rw [Sort.swp_size]; exact hd1, s3, hs, ?_, ?_, ?_, ?_⟩
    all_goals simp only [upd_app, Nat.reduceEqDiff, ↓reduceIte, t0, t1]
theorem partition_unf (a b p : Nat) : Sort.partition lt d a b p = if Sort.scanUp (fun x => lt x (Sort.swp d a p)[a]!) (Sort.swp d a p) (b - 1) (a + 1) > Sort.scanDown (fun x => !lt x (Sort.swp d a p)[a]!) (Sort.swp d a p) (Sort.scanUp (fun x => lt x (Sort.swp d a p)[a]!) (Sort.swp d a p) (b - 1) (a + 1)) (b - 1) then (Sort.scanDown (fun x => !lt x (Sort.swp d a p)[a]!) (Sort.swp d a p) (Sort.scanUp (fun x => lt x (Sort.swp d a p)[a]!) (Sort.swp d a p) (b - 1) (a + 1)) (b - 1), true, Sort.swp (Sort.swp d a p) (Sort.scanDown (fun x => !lt x (Sort.swp d a p)[a]!) (Sort.swp d a p) (Sort.scanUp (fun x => lt x (Sort.swp d a p)[a]!) (Sort.swp d a p) (b - 1) (a + 1)) (b - 1)) a) else ((Sort.partLoop lt a (Sort.scanUp (fun x => lt x (Sort.swp d a p)[a]!) (Sort.swp d a p) (b - 1) (a + 1) + 1) (Sort.scanDown (fun x => !lt x (Sort.swp d a p)[a]!) (Sort.swp d a p) (Sort.scanUp (fun x => lt x (Sort.swp d a p)[a]!) (Sort.swp d a p) (b - 1) (a + 1)) (b - 1) - 1) (Sort.swp (Sort.swp d a p) (Sort.scanUp (fun x => lt x (Sort.swp d a p)[a]!) (Sort.swp d a p) (b - 1) (a + 1)) (Sort.scanDown (fun x => !lt x (Sort.swp d a p)[a]!) (Sort.swp d a p) (Sort.scanUp (fun x => lt x (Sort.swp d a p)[a]!) (Sort.swp d a p) (b - 1) (a + 1)) (b - 1)))).1, false, Sort.swp (Sort.partLoop lt a (Sort.scanUp (fun x => lt x (Sort.swp d a p)[a]!) (Sort.swp d a p) (b - 1) (a + 1) + 1) (Sort.scanDown (fun x => !lt x (Sort.swp d a p)[a]!) (Sort.swp d a p) (Sort.scanUp (fun x => lt x (Sort.swp d a p)[a]!) (Sort.swp d a p) (b - 1) (a + 1)) (b - 1) - 1) (Sort.swp (Sort.swp d a p) (Sort.scanUp (fun x => lt x (Sort.swp d a p)[a]!) (Sort.swp d a p) (b - 1) (a + 1)) (Sort.scanDown (fun x => !lt x (Sort.swp d a p)[a]!) (Sort.swp d a p) (Sort.scanUp (fun x => lt x (Sort.swp d a p)[a]!) (Sort.swp d a p) (b - 1) (a + 1)) (b - 1)))).2 (Sort.partLoop lt a (Sort.scanUp (fun x => lt x (Sort.swp d a p)[a]!) (Sort.swp d a p) (b - 1) (a + 1) + 1) (Sort.scanDown (fun x => !lt x (Sort.swp d a p)[a]!) (Sort.swp d a p) (Sort.scanUp (fun x => lt x (Sort.swp d a p)[a]!) (Sort.swp d a p) (b - 1) (a + 1)) (b - 1) - 1) (Sort.swp (Sort.swp d a p) (Sort.scanUp (fun x => lt x (Sort.swp d a p)[a]!) (Sort.swp d a p) (b - 1) (a + 1)) (Sort.scanDown (fun x => !lt x (Sort.swp d a p)[a]!) (Sort.swp d a p) (Sort.scanUp (fun x => lt x (Sort.swp d a p)[a]!) (Sort.swp d a p) (b - 1) (a + 1)) (b - 1)))).1 a) := rfl
theorem pt_calls (hm : P.follows .mixedOrders = true) (hT : TabOk P T) (hless : Lss L lt T less) (hf : compF P hint f = some ⟨ptC less, ptN, [.t 8, .t 9]⟩) (s : Srt L e id hp0 hp d) (hv : SlA id d v) {a b p : Nat} (hab : a < b) (hb : b ≤ d.size) (hpv : p < d.size) :
    ACalls P f [v, .int .i64 a, .int .i64 b, .int .i64 p] hp fun r hp' => r = .tup [.int .i64 ((Sort.partition lt d a b p).1 : Nat), .bool (Sort.partition lt d a b p).2.1] ∧ Srt L e id hp0 hp' (Sort.partition lt d a b p).2.2 ∧ (Sort.partition lt d a b p).2.2.size = d.size := by
  refine calls_e hm hT hf (by rfl) (by simp [ptN]) ?_
  have hsz := hv.2
  rw [partition_unf]
  have h1 : a < d.size := by omega
  have x1 := s.get h1
  have y1 := hv.1 a h1
  have y2 := hv.1 p hpv
  have p1 := pick_at (L := L) h1
  have p2 := pick_at (L := L) hpv
  obtain ⟨z1, z2, hst1, hst2, s3⟩ := s.swap h1 hpv
  have w2 := natW (x := (a : Int) + 1) (a + 1) (by omega) (by omega)
  have w3 := natW (x := (b : Int) - 1) (b - 1) (by omega) (by omega)
  refine vcE.step (by simp (disch := first | assumption | omega) only [go_sem, ↓reduceIte, Nat.reduceEqDiff, reduceCtorEq, Nat.reduceAdd, Nat.reduceLeDiff]; rfl) (vcE.step (by simp (disch := first | assumption | omega) only [go_sem, ↓reduceIte, Nat.reduceEqDiff, reduceCtorEq, Nat.reduceAdd, Nat.reduceLeDiff, y1, y2, x1, ↓p1, ↓p2, ↓hst1, ↓hst2]; rfl) (vcE.step (by simp (disch := first | assumption | omega) only [go_sem, ↓reduceIte, Nat.reduceEqDiff, reduceCtorEq, Nat.reduceAdd, Nat.reduceLeDiff, w2, w3]; rfl) ?_))
  have hd1 : (Sort.swp d a p).size = d.size := Sort.swp_size _ _ _
  generalize Sort.swp d a p = d1 at *
  have hv1 := hv.of hd1
  clear p1 p2 hst1 hst2 x1 s
  refine vcE.then _ (pt_up0 hless s3 hv1 (i := a + 1) (j := b - 1) (a := a) (by omega) (by omega) ?_ ?_ ?_ ?_) ?_
  · simp only [upd_app, Nat.reduceEqDiff, ↓reduceIte]
    rfl
  · simp only [upd_app, Nat.reduceEqDiff, ↓reduceIte]
    rfl
  · simp only [upd_app, Nat.reduceEqDiff, ↓reduceIte]
  · simp only [upd_app, Nat.reduceEqDiff, ↓reduceIte]
  rintro e' tm hp' ⟨rfl, rfl, t0, t1, ti, tj⟩
  have g1 := Sort.scanUp_ge (fun x => lt x d1[a]!) d1 (b - 1) (a + 1)
  generalize hi2 : Sort.scanUp (fun x => lt x d1[a]!) d1 (b - 1) (a + 1) = i2 at *
  refine vcE.then _ (pt_dn1 hless s3 hv1 (by omega) (by omega) (by omega) t0 t1 ti tj) ?_
  clear t0 t1 ti tj
  rintro e' tm hp' ⟨rfl, rfl, t0, t1, ti, tj⟩
  have g2 := Sort.scanDown_le (fun x => !lt x d1[a]!) d1 i2 (b - 1)
  generalize hj2 : Sort.scanDown (fun x => !lt x d1[a]!) d1 i2 (b - 1) = j2 at *
  have h2 : j2 < d1.size := by omega
  have ha1 : a < d1.size := by omega
  have x1 := s3.get h2
  have y3 := hv1.1 j2 h2
  have p1 := pick_at (L := L) h2
  by_cases h : i2 > j2
  · rw [if_pos h]
    have p2 := pick_at (L := L) ha1
    obtain ⟨u1, u2, hst1, hst2, s4⟩ := s3.swap h2 ha1
    refine vcE.ex (by simp (disch := first | assumption | omega) only [exC, exOps, exOp, wantedE, ↓reduceIte, ROp.run, evsE, evE, ti, putE, ty, Nat.reduceEqDiff, tj, same, binA, intA, gt_iff_lt, Int.ofNat_lt, h, decide_true, Option.map_some, chain, ordered, List.getElem?_cons_zero, List.getElem?_cons_succ, exOps.eq_2, reduceCtorEq, t0, t1, y1, loadA, rowA, x1, ↓p2, y3, ↓p1, ↓hst1, ↓hst2, cond_true]; rfl) ?_
    refine ⟨_, rfl, rfl, s4, ?_⟩
    simp only [Sort.swp_size, hd1]
  rw [if_neg h]
  have hi3 : i2 < d1.size := by omega
  have y4 := hv1.1 i2 hi3
  have p2 := pick_at (L := L) hi3
  obtain ⟨u1, u2, hst1, hst2, s4⟩ := s3.swap hi3 h2
  have h' : ¬ (j2 : Int) < (i2 : Int) := by omega
  have w4 := natW (x := (i2 : Int) + 1) (i2 + 1) (by omega) (by omega)
  have w5 := natW (x := (j2 : Int) - 1) (j2 - 1) (by omega) (by omega)
  refine vcE.step (by simp (disch := first | assumption | omega) only [exC, exOps, exOp, wantedE, ↓reduceIte, ROp.run, evsE, evE, ti, putE, ty, Nat.reduceEqDiff, tj, same, binA, intA, h', decide_false, Option.map_some]; rfl) (vcE.step (by simp (disch := first | assumption | omega) only [exC, chain, ordered, List.getElem?_cons_zero, List.getElem?_cons_succ, exOps.eq_2, exOp, wantedE, ↓reduceIte, ROp.run, evsE, evE, ty, reduceCtorEq, t0, putE, exOps, Nat.reduceEqDiff, ti, tj, same, y3, Option.map_some, loadA, rowA, x1, ↓p1, y4, ↓p2, ↓hst1, ↓hst2, cond_true]; rfl) (vcE.step (by simp (disch := first | assumption | omega) only [go_sem, ↓reduceIte, Nat.reduceEqDiff, reduceCtorEq, Nat.reduceAdd, Nat.reduceLeDiff, ti, w4]; rfl) (vcE.step (by simp (disch := first | assumption | omega) only [go_sem, ↓reduceIte, Nat.reduceEqDiff, reduceCtorEq, Nat.reduceAdd, Nat.reduceLeDiff, tj, w5]; rfl) ?_)))
  have hd2 : (Sort.swp d1 i2 j2).size = d1.size := Sort.swp_size _ _ _
  generalize Sort.swp d1 i2 j2 = d2 at *
  refine vcE.then _ (pt_loop hless s4 (hv1.of hd2) (i := i2 + 1) (j := j2 - 1) (a := a) (by omega) (by omega) (by omega) ?_ ?_ ?_ ?_) ?_
  · simp only [upd_app, Nat.reduceEqDiff, ↓reduceIte, t0]
  · simp only [upd_app, Nat.reduceEqDiff, ↓reduceIte, t1]
  · simp only [upd_app, Nat.reduceEqDiff, ↓reduceIte]
  · simp only [upd_app, Nat.reduceEqDiff, ↓reduceIte]
  clear t0 t1 ti tj
  rintro e' tm hp' ⟨rfl, s5, hd3, hlt, t0, t1, tj⟩
  generalize Sort.partLoop lt a (i2 + 1) (j2 - 1) d2 = r at *
  obtain ⟨jj, d3⟩ := r
  simp only at *
  have hj3 : jj < d3.size := by omega
  have ha3 : a < d3.size := by omega
  have y5 := hv.1 jj (by omega)
  have q1 := pick_at (L := L) hj3
  have q2 := pick_at (L := L) ha3
  have x3 := s5.get hj3
  obtain ⟨v1, v2, hst3, hst4, s6⟩ := s5.swap hj3 ha3
  refine vcE.ex (by simp (disch := first | assumption | omega) only [exC, chain, ordered, List.getElem?_cons_zero, List.getElem?_cons_succ, exOps.eq_2, exOp, wantedE, ↓reduceIte, ROp.run, evsE, evE, t0, putE, exOps, ty, Nat.reduceEqDiff, tj, reduceCtorEq, t1, same, y1, Option.map_some, loadA, rowA, x3, ↓q2, y5, ↓q1, ↓hst3, ↓hst4, cond_true]; rfl) ?_
  refine ⟨_, rfl, rfl, s6, ?_⟩
  rw [Sort.swp_size]
  omega
theorem pe_loop {n : Nat} {tm : Env} {a i j : Nat} (hless : Lss L lt T less) (s : Srt L e id hp0 hp d) (hv : SlA id d v) (hai : a < i) (hi : i ≤ d.size) (ha : a < d.size) (hj : j < d.size) (t0 : tm 0 = v) (t1 : tm 1 = .int .i64 a) (ti : tm 9 = .int .i64 i) (tj : tm 10 = .int .i64 j) :
    vcE P hint T n (IC.block 0 (IC.loop (peB2 less))) tm hp fun e' tm' hp' => e' = .normal ∧ Srt L e id hp0 hp' (Sort.partEqLoop lt a i j d).2 ∧ (Sort.partEqLoop lt a i j d).2.size = d.size ∧ tm' 9 = .int .i64 ((Sort.partEqLoop lt a i j d).1 : Nat) := by
  have hsz := hv.2
  refine vcE.block (vcE.loop (by intro l tm hp h; simp at h) (fun k tm' hp' => ∃ (i' j' : Nat) (d' : Array α), k = j' + 1 - i' ∧ a < i' ∧ j' < d.size ∧ d'.size = d.size ∧ Srt L e id hp0 hp' d' ∧ Sort.partEqLoop lt a i' j' d' = Sort.partEqLoop lt a i j d ∧ tm' 0 = v ∧ tm' 1 = .int .i64 a ∧ tm' 9 = .int .i64 i' ∧ tm' 10 = .int .i64 j') (j + 1 - i) ⟨i, j, d, rfl, hai, hj, rfl, s, rfl, t0, t1, ti, tj⟩ ?_)
  clear t0 t1 ti tj s
  rintro k tm hp ⟨i1, j1, d1, rfl, hai1, hj1, hd1, s, hs, t0, t1, ti, tj⟩
  have hv1 := hv.of hd1
  refine vcE.block (vcE.then _ (pe_up0 hless s hv1 (by omega) (by omega) t0 t1 ti tj) ?_)
  clear t0 t1 ti tj
  rintro e' tm hp' ⟨rfl, rfl, t0, t1, ti, tj⟩
  have g1 := Sort.scanUp_ge (fun x => !lt d1[a]! x) d1 j1 i1
  rw [Sort.partEqLoop_eq] at hs
  generalize hi2 : Sort.scanUp (fun x => !lt d1[a]! x) d1 j1 i1 = i2 at *
  refine vcE.then _ (pe_dn1 hless s hv1 (by omega) (by omega) (by omega) t0 t1 ti tj) ?_
  clear t0 t1 ti tj
  rintro e' tm hp' ⟨rfl, rfl, t0, t1, ti, tj⟩
  have g2 := Sort.scanDown_le (fun x => lt d1[a]! x) d1 i2 j1
  generalize hj2 : Sort.scanDown (fun x => lt d1[a]! x) d1 i2 j1 = j2 at *
  by_cases h : i2 > j2
  · rw [if_pos h] at hs
    refine vcE.ex (by simp (disch := first | assumption | omega) only [exC, exOps, exOp, wantedE, ↓reduceIte, ROp.run, evsE, evE, ti, putE, ty, Nat.reduceEqDiff, tj, same, binA, intA, gt_iff_lt, Int.ofNat_lt, h, decide_true, Option.map_some]; rfl) ?_
    rw [← hs]
    refine ⟨rfl, s, hd1, ?_⟩
    all_goals simp only [upd_app, Nat.reduceEqDiff, ↓reduceIte, ti]
  · rw [if_neg h] at hs
    have h1 : i2 < d1.size := by omega
    have h2 : j2 < d1.size := by omega
    have x1 := s.get h1
    have y1 := hv1.1 i2 h1
    have y2 := hv1.1 j2 h2
    have p1 := pick_at (L := L) h1
    have p2 := pick_at (L := L) h2
    obtain ⟨z1, z2, hst1, hst2, s3⟩ := s.swap h1 h2
    have w2 := natW (x := (i2 : Int) + 1) (i2 + 1) (by omega) (by omega)
    have w3 := natW (x := (j2 : Int) - 1) (j2 - 1) (by omega) (by omega)
    have h' : ¬ (j2 : Int) < (i2 : Int) := by omega
    refine vcE.ex (by simp (disch := first | assumption | omega) only [exC, exOps, exOp, wantedE, ↓reduceIte, ROp.run, evsE, evE, ti, putE, ty, Nat.reduceEqDiff, tj, same, binA, intA, h', decide_false, Option.map_some, chain, ordered, List.getElem?_cons_zero, List.getElem?_cons_succ, exOps.eq_2, reduceCtorEq, t0, y2, loadA, rowA, x1, ↓p2, y1, ↓p1, ↓hst1, ↓hst2, cond_true, w2, w3]; rfl) ?_
    refine ⟨j2 - 1 + 1 - (i2 + 1), by omega, i2 + 1, j2 - 1, _, rfl, by omega, by omega, by rw [Sort.swp_size]; exact hd1, s3, hs, ?_, ?_, ?_, ?_⟩
    all_goals simp only [upd_app, Nat.reduceEqDiff, ↓reduceIte, t0, t1]
theorem pe_calls (hm : P.follows .mixedOrders = true) (hT : TabOk P T) (hless : Lss L lt T less) (hf : compF P hint f = some ⟨peC less, peN, [.t 8]⟩) (s : Srt L e id hp0 hp d) (hv : SlA id d v) {a b p : Nat} (hab : a < b) (hb : b ≤ d.size) (hpv : p < d.size) :
    ACalls P f [v, .int .i64 a, .int .i64 b, .int .i64 p] hp fun r hp' => r = .int .i64 ((Sort.partitionEqual lt d a b p).1 : Nat) ∧ Srt L e id hp0 hp' (Sort.partitionEqual lt d a b p).2 ∧ (Sort.partitionEqual lt d a b p).2.size = d.size := by
  refine calls_e hm hT hf (by rfl) (by simp [peN]) ?_
  have hsz := hv.2
  unfold Sort.partitionEqual
  have h1 : a < d.size := by omega
  have x1 := s.get h1
  have y1 := hv.1 a h1
  have y2 := hv.1 p hpv
  have p1 := pick_at (L := L) h1
  have p2 := pick_at (L := L) hpv
  obtain ⟨z1, z2, hst1, hst2, s3⟩ := s.swap h1 hpv
  have w2 := natW (x := (a : Int) + 1) (a + 1) (by omega) (by omega)
  have w3 := natW (x := (b : Int) - 1) (b - 1) (by omega) (by omega)
  refine vcE.step (by simp (disch := first | assumption | omega) only [go_sem, ↓reduceIte, Nat.reduceEqDiff, reduceCtorEq, Nat.reduceAdd, Nat.reduceLeDiff]; rfl) (vcE.step (by simp (disch := first | assumption | omega) only [go_sem, ↓reduceIte, Nat.reduceEqDiff, reduceCtorEq, Nat.reduceAdd, Nat.reduceLeDiff, y1, y2, x1, ↓p1, ↓p2, ↓hst1, ↓hst2]; rfl) (vcE.step (by simp (disch := first | assumption | omega) only [go_sem, ↓reduceIte, Nat.reduceEqDiff, reduceCtorEq, Nat.reduceAdd, Nat.reduceLeDiff, w2, w3]; rfl) ?_))
  have hd1 : (Sort.swp d a p).size = d.size := Sort.swp_size _ _ _
  generalize Sort.swp d a p = d1 at *
  have hv1 := hv.of hd1
  clear p1 p2 hst1 hst2 x1 s
  refine vcE.then _ (pe_loop hless s3 hv1 (i := a + 1) (j := b - 1) (a := a) (by omega) (by omega) (by omega) (by omega) ?_ ?_ ?_ ?_) ?_
  · simp only [upd_app, Nat.reduceEqDiff, ↓reduceIte]
    rfl
  · simp only [upd_app, Nat.reduceEqDiff, ↓reduceIte]
    rfl
  · simp only [upd_app, Nat.reduceEqDiff, ↓reduceIte]
  · simp only [upd_app, Nat.reduceEqDiff, ↓reduceIte]
  rintro e' tm hp' ⟨rfl, s5, hd3, ti⟩
  refine vcE.ex (by simp (disch := first | assumption | omega) only [go_sem, ↓reduceIte, Nat.reduceEqDiff, reduceCtorEq, Nat.reduceAdd, Nat.reduceLeDiff, ti]; rfl) ?_
  exact ⟨_, rfl, rfl, s5, by omega⟩
theorem pi_scan {n : Nat} {tm : Env} {a b i c : Nat} (hless : Lss L lt T less) (s : Srt L e id hp0 hp d) (hv : SlA id d v) (hb : b ≤ d.size) (hi : 1 ≤ i) (hib : i ≤ b) (t0 : tm 0 = v) (t1 : tm 1 = .int .i64 a) (t2 : tm 2 = .int .i64 b) (t7 : tm 7 = .int .i64 i) (t8 : tm 8 = .int .i64 c) :
    vcE P hint T n (IC.block 2 (IC.loop (piB0 less))) tm hp fun e' tm' hp' => e' = .normal ∧ hp' = hp ∧ i ≤ Sort.scanSorted lt d b i ∧ Sort.scanSorted lt d b i ≤ b ∧ tm' 0 = v ∧ tm' 1 = .int .i64 a ∧ tm' 2 = .int .i64 b ∧ tm' 7 = .int .i64 (Sort.scanSorted lt d b i : Nat) ∧ tm' 8 = .int .i64 c := by
  have hsz := hv.2
  have hfz := L.fz
  refine vcE.block (vcE.loop (by intro l tm hp h; simp at h) (fun k tm' hp' => ∃ i' : Nat, k = b - i' ∧ i ≤ i' ∧ i' ≤ b ∧ hp' = hp ∧ Sort.scanSorted lt d b i' = Sort.scanSorted lt d b i ∧ tm' 0 = v ∧ tm' 1 = .int .i64 a ∧ tm' 2 = .int .i64 b ∧ tm' 7 = .int .i64 i' ∧ tm' 8 = .int .i64 c) (b - i) ⟨i, rfl, Nat.le_refl _, hib, rfl, rfl, t0, t1, t2, t7, t8⟩ ?_)
  clear t0 t1 t2 t7 t8
  rintro k tm hp' ⟨i1, rfl, hi1, hi2, rfl, hs, t0, t1, t2, t7, t8⟩
  rw [Sort.scanSorted] at hs
  by_cases h : i1 < b
  rotate_left
  · rw [if_neg (by simp [h])] at hs
    refine vcE.ex (by simp (disch := first | assumption | omega) only [exC, chain, ordered, List.getElem?_cons_zero, List.getElem?_cons_succ, exOps.eq_2, exOp, wantedE, ↓reduceIte, ROp.run, evsE, evE, t7, putE, exOps, ty, Nat.reduceEqDiff, t2, same, binA, intA, Int.ofNat_lt, h, decide_false, Option.map_some, beq_iff_eq, cond_true]; rfl) ?_
    rw [← hs]
    refine ⟨rfl, rfl, hi1, hi2, ?_, ?_, ?_, ?_, ?_⟩
    all_goals simp only [upd_app, Nat.reduceEqDiff, ↓reduceIte, t0, t1, t2, t7, t8]
  have h1 : i1 < d.size := by omega
  have h2 : i1 - 1 < d.size := by omega
  have x1 := s.get h1
  have y1 := hv.1 i1 h1
  have y2 := hv.1 (i1 - 1) h2
  have p1 := pick_at (L := L) h1
  have p2 := pick_at (L := L) h2
  have w1 := natW (x := (i1 : Int) - 1) (i1 - 1) (by omega) (by omega)
  have w2 := natW (x := (i1 : Int) + 1) (i1 + 1) (by omega) (by omega)
  have hc := hless d[i1]! d[i1 - 1]!
  rw [decide_eq_true h, Bool.true_and] at hs
  cases hl : lt d[i1]! d[i1 - 1]! <;> rw [hl] at hc hs
  · refine vcE.ex (by simp (disch := first | assumption | omega) only [exC, chain, ordered, List.getElem?_cons_zero, List.getElem?_cons_succ, exOps.eq_2, exOp, wantedE, ↓reduceIte, ROp.run, evsE, evE, t7, putE, exOps, ty, Nat.reduceEqDiff, t2, same, binA, intA, Int.ofNat_lt, h, decide_true, Option.map_some, beq_self_eq_true, reduceCtorEq, t0, y1, loadA, rowA, x1, ↓p1, w1, y2, ↓p2, List.append_nil, frzL.eq_2, hfz, frzL, hc, Cls.isFree, callCls, Bool.not_false, nidL.eq_2, nidL, Bool.true_or, unA, cond_true, w2]; rfl) ?_
    refine ⟨b - (i1 + 1), by omega, i1 + 1, rfl, by omega, by omega, rfl, by simpa using hs, ?_, ?_, ?_, ?_, ?_⟩
    all_goals simp only [upd_app, Nat.reduceEqDiff, ↓reduceIte, t0, t1, t2, t8]
  · rw [if_neg (by simp)] at hs
    refine vcE.ex (by simp (disch := first | assumption | omega) only [exC, chain, ordered, List.getElem?_cons_zero, List.getElem?_cons_succ, exOps.eq_2, exOp, wantedE, ↓reduceIte, ROp.run, evsE, evE, t7, putE, exOps, ty, Nat.reduceEqDiff, t2, same, binA, intA, Int.ofNat_lt, h, decide_true, Option.map_some, beq_self_eq_true, reduceCtorEq, t0, y1, loadA, rowA, x1, ↓p1, w1, y2, ↓p2, List.append_nil, frzL.eq_2, hfz, frzL, hc, Cls.isFree, callCls, nidL.eq_2, nidL, Bool.true_or, unA, Bool.not_true, cond_true]; rfl) ?_
    rw [← hs]
    refine ⟨rfl, rfl, hi1, hi2, ?_, ?_, ?_, ?_, ?_⟩
    all_goals simp only [upd_app, Nat.reduceEqDiff, ↓reduceIte, t0, t1, t2, t7, t8]
theorem pi_down {n : Nat} {tm : Env} {a b i j c : Nat} (hless : Lss L lt T less) (s : Srt L e id hp0 hp d) (hv : SlA id d v) (hj : j < d.size) (t0 : tm 0 = v) (t1 : tm 1 = .int .i64 a) (t2 : tm 2 = .int .i64 b) (t7 : tm 7 = .int .i64 i) (t8 : tm 8 = .int .i64 c) (t9 : tm 9 = .int .i64 j) :
    vcE P hint T n (IC.block 4 (IC.loop (piB1 less))) tm hp fun e' tm' hp' => e' = .normal ∧ Srt L e id hp0 hp' (Sort.shiftDown lt j d) ∧ (Sort.shiftDown lt j d).size = d.size ∧ tm' 0 = v ∧ tm' 1 = .int .i64 a ∧ tm' 2 = .int .i64 b ∧ tm' 7 = .int .i64 i ∧ tm' 8 = .int .i64 c := by
  have hsz := hv.2
  have hfz := L.fz
  refine vcE.block (vcE.loop (by intro l tm hp h; simp at h) (fun k tm' hp' => ∃ d' : Array α, k ≤ j ∧ d'.size = d.size ∧ Srt L e id hp0 hp' d' ∧ Sort.shiftDown lt k d' = Sort.shiftDown lt j d ∧ tm' 0 = v ∧ tm' 1 = .int .i64 a ∧ tm' 2 = .int .i64 b ∧ tm' 7 = .int .i64 i ∧ tm' 8 = .int .i64 c ∧ tm' 9 = .int .i64 (k : Nat)) j ⟨d, Nat.le_refl _, rfl, s, rfl, t0, t1, t2, t7, t8, t9⟩ ?_)
  clear t0 t1 t2 t7 t8 t9 s
  rintro k tm hp ⟨d1, hk, hd1, s, hs, t0, t1, t2, t7, t8, t9⟩
  have hv1 := hv.of hd1
  cases k with
  | zero =>
    have h : ¬ (1 : Int) ≤ ((0 : Nat) : Int) := by omega
    refine vcE.ex (by simp (disch := first | assumption | omega) only [go_sem, ↓reduceIte, Nat.reduceEqDiff, reduceCtorEq, Nat.reduceAdd, Nat.reduceLeDiff, t9, ge_iff_le, h, decide_false]; rfl) ?_
    rw [← hs]
    refine ⟨rfl, s, hd1, ?_, ?_, ?_, ?_, ?_⟩
    all_goals simp only [upd_app, Nat.reduceEqDiff, ↓reduceIte, t0, t1, t2, t7, t8]
  | succ k =>
    have h : (1 : Int) ≤ ((k + 1 : Nat) : Int) := by omega
    have h1 : k + 1 < d1.size := by omega
    have h2 : k < d1.size := by omega
    have x1 := s.get h1
    have y1 := hv1.1 (k + 1) h1
    have y2 := hv1.1 k h2
    have p1 := pick_at (L := L) h1
    have p2 := pick_at (L := L) h2
    have w1 := natW (x := ((k + 1 : Nat) : Int) - 1) k (by omega) (by omega)
    have hc := hless d1[k + 1]! d1[k]!
    rw [Sort.shiftDown] at hs
    cases hl : lt d1[k + 1]! d1[k]! <;> rw [hl] at hc hs
    · rw [if_pos (by simp)] at hs
      refine vcE.ex (by simp (disch := first | assumption | omega) only [exC, exOps, exOp, wantedE, ↓reduceIte, ROp.run, evsE, evE, t9, putE, ty, same, binA, intA, ge_iff_le, h, decide_true, Option.map_some, chain, ordered, List.getElem?_cons_zero, List.getElem?_cons_succ, exOps.eq_2, reduceCtorEq, t0, Nat.reduceEqDiff, y1, loadA, rowA, x1, ↓p1, w1, y2, ↓p2, List.append_nil, frzL.eq_2, hfz, frzL, hc, Cls.isFree, callCls, Bool.not_false, nidL.eq_2, nidL, Bool.true_or, unA, cond_true]; rfl) ?_
      rw [← hs]
      refine ⟨rfl, s, hd1, ?_, ?_, ?_, ?_, ?_⟩
      all_goals simp only [upd_app, Nat.reduceEqDiff, ↓reduceIte, t0, t1, t2, t7, t8]
    · rw [if_neg (by simp)] at hs
      obtain ⟨z1, z2, hst1, hst2, s3⟩ := s.swap h1 h2
      refine vcE.ex (by simp (disch := first | assumption | omega) only [exC, exOps, exOp, wantedE, ↓reduceIte, ROp.run, evsE, evE, t9, putE, ty, same, binA, intA, ge_iff_le, h, decide_true, Option.map_some, chain, ordered, List.getElem?_cons_zero, List.getElem?_cons_succ, exOps.eq_2, reduceCtorEq, t0, Nat.reduceEqDiff, y1, loadA, rowA, x1, ↓p1, w1, y2, ↓p2, List.append_nil, frzL.eq_2, hfz, frzL, hc, Cls.isFree, callCls, nidL.eq_2, nidL, Bool.true_or, unA, Bool.not_true, cond_true, ↓hst1, ↓hst2]; rfl) ?_
      refine ⟨k, by omega, _, by omega, by rw [Sort.swp_size]; exact hd1, s3, hs, ?_, ?_, ?_, ?_, ?_, ?_⟩
      all_goals simp only [upd_app, Nat.reduceEqDiff, ↓reduceIte, t0, t1, t2, t7, t8]
theorem pi_up {n : Nat} {tm : Env} {a b i j c : Nat} (hless : Lss L lt T less) (s : Srt L e id hp0 hp d) (hv : SlA id d v) (hb : b ≤ d.size) (hj : 1 ≤ j) (hjb : j ≤ b) (t0 : tm 0 = v) (t1 : tm 1 = .int .i64 a) (t2 : tm 2 = .int .i64 b) (t7 : tm 7 = .int .i64 i) (t8 : tm 8 = .int .i64 c) (t10 : tm 10 = .int .i64 j) :
    vcE P hint T n (IC.block 6 (IC.loop (piB2 less))) tm hp fun e' tm' hp' => e' = .normal ∧ Srt L e id hp0 hp' (Sort.shiftUp lt b j d) ∧ (Sort.shiftUp lt b j d).size = d.size ∧ tm' 0 = v ∧ tm' 1 = .int .i64 a ∧ tm' 2 = .int .i64 b ∧ tm' 7 = .int .i64 i ∧ tm' 8 = .int .i64 c := by
  have hsz := hv.2
  have hfz := L.fz
  refine vcE.block (vcE.loop (by intro l tm hp h; simp at h) (fun k tm' hp' => ∃ (j' : Nat) (d' : Array α), k = b - j' ∧ j ≤ j' ∧ j' ≤ b ∧ d'.size = d.size ∧ Srt L e id hp0 hp' d' ∧ Sort.shiftUp lt b j' d' = Sort.shiftUp lt b j d ∧ tm' 0 = v ∧ tm' 1 = .int .i64 a ∧ tm' 2 = .int .i64 b ∧ tm' 7 = .int .i64 i ∧ tm' 8 = .int .i64 c ∧ tm' 10 = .int .i64 j') (b - j) ⟨j, d, rfl, Nat.le_refl _, hjb, rfl, s, rfl, t0, t1, t2, t7, t8, t10⟩ ?_)
  clear t0 t1 t2 t7 t8 t10 s
  rintro k tm hp ⟨j1, d1, rfl, hj1, hj2, hd1, s, hs, t0, t1, t2, t7, t8, t10⟩
  have hv1 := hv.of hd1
  rw [Sort.shiftUp] at hs
  by_cases h : j1 < b
  rotate_left
  · rw [if_neg h] at hs
    refine vcE.ex (by simp (disch := first | assumption | omega) only [exC, exOps, exOp, wantedE, ↓reduceIte, ROp.run, evsE, evE, t10, putE, ty, Nat.reduceEqDiff, t2, same, binA, intA, Int.ofNat_lt, h, decide_false, Option.map_some]; rfl) ?_
    rw [← hs]
    refine ⟨rfl, s, hd1, ?_, ?_, ?_, ?_, ?_⟩
    all_goals simp only [upd_app, Nat.reduceEqDiff, ↓reduceIte, t0, t1, t2, t7, t8]
  rw [if_pos h] at hs
  have h1 : j1 < d1.size := by omega
  have h2 : j1 - 1 < d1.size := by omega
  have x1 := s.get h1
  have y1 := hv1.1 j1 h1
  have y2 := hv1.1 (j1 - 1) h2
  have p1 := pick_at (L := L) h1
  have p2 := pick_at (L := L) h2
  have w1 := natW (x := (j1 : Int) - 1) (j1 - 1) (by omega) (by omega)
  have w2 := natW (x := (j1 : Int) + 1) (j1 + 1) (by omega) (by omega)
  have hc := hless d1[j1]! d1[j1 - 1]!
  cases hl : lt d1[j1]! d1[j1 - 1]! <;> rw [hl] at hc hs
  · rw [if_pos (by simp)] at hs
    refine vcE.ex (by simp (disch := first | assumption | omega) only [exC, exOps, exOp, wantedE, ↓reduceIte, ROp.run, evsE, evE, t10, putE, ty, Nat.reduceEqDiff, t2, same, binA, intA, Int.ofNat_lt, h, decide_true, Option.map_some, chain, ordered, List.getElem?_cons_zero, List.getElem?_cons_succ, exOps.eq_2, reduceCtorEq, t0, y1, loadA, rowA, x1, ↓p1, w1, y2, ↓p2, List.append_nil, frzL.eq_2, hfz, frzL, hc, Cls.isFree, callCls, Bool.not_false, nidL.eq_2, nidL, Bool.true_or, unA, cond_true]; rfl) ?_
    rw [← hs]
    refine ⟨rfl, s, hd1, ?_, ?_, ?_, ?_, ?_⟩
    all_goals simp only [upd_app, Nat.reduceEqDiff, ↓reduceIte, t0, t1, t2, t7, t8]
  · rw [if_neg (by simp)] at hs
    obtain ⟨z1, z2, hst1, hst2, s3⟩ := s.swap h1 h2
    refine vcE.ex (by simp (disch := first | assumption | omega) only [exC, exOps, exOp, wantedE, ↓reduceIte, ROp.run, evsE, evE, t10, putE, ty, Nat.reduceEqDiff, t2, same, binA, intA, Int.ofNat_lt, h, decide_true, Option.map_some, chain, ordered, List.getElem?_cons_zero, List.getElem?_cons_succ, exOps.eq_2, reduceCtorEq, t0, y1, loadA, rowA, x1, ↓p1, w1, y2, ↓p2, List.append_nil, frzL.eq_2, hfz, frzL, hc, Cls.isFree, callCls, nidL.eq_2, nidL, Bool.true_or, unA, Bool.not_true, cond_true, ↓hst1, ↓hst2, w2]; rfl) ?_
    refine ⟨b - (j1 + 1), by omega, j1 + 1, _, rfl, by omega, by omega, by rw [Sort.swp_size]; exact hd1, s3, hs, ?_, ?_, ?_, ?_, ?_, ?_⟩
    all_goals simp only [upd_app, Nat.reduceEqDiff, ↓reduceIte, t0, t1, t2, t7, t8]
theorem pi_zero (a b i : Nat) (d : Array α) : Sort.partialIns lt a b 0 i d = (d, false) := rfl
theorem pi_succ (a b k i : Nat) (d : Array α) : Sort.partialIns lt a b (k + 1) i d = if Sort.scanSorted lt d b i = b then (d, true) else if b - a < 50 then (d, false) else Sort.partialIns lt a b k (Sort.scanSorted lt d b i) (if b - Sort.scanSorted lt d b i ≥ 2 then Sort.shiftUp lt b (Sort.scanSorted lt d b i + 1) (if Sort.scanSorted lt d b i - a ≥ 2 then Sort.shiftDown lt (Sort.scanSorted lt d b i - 1) (Sort.swp d (Sort.scanSorted lt d b i) (Sort.scanSorted lt d b i - 1)) else Sort.swp d (Sort.scanSorted lt d b i) (Sort.scanSorted lt d b i - 1)) else (if Sort.scanSorted lt d b i - a ≥ 2 then Sort.shiftDown lt (Sort.scanSorted lt d b i - 1) (Sort.swp d (Sort.scanSorted lt d b i) (Sort.scanSorted lt d b i - 1)) else Sort.swp d (Sort.scanSorted lt d b i) (Sort.scanSorted lt d b i - 1))) := rfl
theorem pi_calls (hm : P.follows .mixedOrders = true) (hT : TabOk P T) (hless : Lss L lt T less) (hf : compF P hint f = some ⟨piC less, piN, [.t 6]⟩) (s : Srt L e id hp0 hp d) (hv : SlA id d v) {a b : Nat} (hab : a < b) (hb : b ≤ d.size) :
    ACalls P f [v, .int .i64 a, .int .i64 b] hp fun r hp' => r = .bool (Sort.partialInsertionSort lt d a b).2 ∧ Srt L e id hp0 hp' (Sort.partialInsertionSort lt d a b).1 ∧ (Sort.partialInsertionSort lt d a b).1.size = d.size := by
  refine calls_e hm hT hf (by rfl) (by simp [piN]) ?_
  have hsz := hv.2
  unfold Sort.partialInsertionSort
  have w0 := natW (x := (a : Int) + 1) (a + 1) (by omega) (by omega)
  refine vcE.step (by simp (disch := first | assumption | omega) only [go_sem, ↓reduceIte, Nat.reduceEqDiff, reduceCtorEq, Nat.reduceAdd, Nat.reduceLeDiff]; rfl) (vcE.step (by simp (disch := first | assumption | omega) only [go_sem, ↓reduceIte, Nat.reduceEqDiff, reduceCtorEq, Nat.reduceAdd, Nat.reduceLeDiff, w0]; rfl) ?_)
  refine vcE.then (fun e' tm' hp' => RetE [.t 6] (fun r hp' => r = .bool (Sort.partialIns lt a b 5 (a + 1) d).2 ∧ Srt L e id hp0 hp' (Sort.partialIns lt a b 5 (a + 1) d).1 ∧ (Sort.partialIns lt a b 5 (a + 1) d).1.size = d.size) .ret tm' hp' ∧ e' = .ret ∨ e' = .normal ∧ Srt L e id hp0 hp' (Sort.partialIns lt a b 5 (a + 1) d).1 ∧ (Sort.partialIns lt a b 5 (a + 1) d).1.size = d.size ∧ (Sort.partialIns lt a b 5 (a + 1) d).2 = false) ?_ ?_
  rotate_left
  · rintro e' tm hp' (⟨h, rfl⟩ | ⟨rfl, s1, hd1, hr⟩)
    · exact h
    · refine vcE.ex (by simp (disch := first | assumption | omega) only [go_sem, ↓reduceIte, Nat.reduceEqDiff, reduceCtorEq, Nat.reduceAdd, Nat.reduceLeDiff]; rfl) ?_
      exact ⟨_, rfl, by rw [hr]; rfl, s1, hd1⟩
  refine vcE.step (by simp (disch := first | assumption | omega) only [go_sem, ↓reduceIte, Nat.reduceEqDiff, reduceCtorEq, Nat.reduceAdd, Nat.reduceLeDiff]; rfl) (vcE.block (vcE.loop (by intro l tm hp h; simp at h) (fun k tm' hp' => ∃ (i : Nat) (d' : Array α), k ≤ 5 ∧ 1 ≤ i ∧ i ≤ b ∧ d'.size = d.size ∧ Srt L e id hp0 hp' d' ∧ Sort.partialIns lt a b k i d' = Sort.partialIns lt a b 5 (a + 1) d ∧ tm' 0 = v ∧ tm' 1 = .int .i64 a ∧ tm' 2 = .int .i64 b ∧ tm' 7 = .int .i64 i ∧ tm' 8 = .int .i64 ((5 - k : Nat) : Int)) 5 ⟨a + 1, d, by omega, by omega, by omega, rfl, s, rfl, rfl, rfl, rfl, rfl, rfl⟩ ?_))
  clear s
  rintro k tm hp ⟨i, d1, hk5, hi1, hib, hd1, s, hs, t0, t1, t2, t7, t8⟩
  have hv1 := hv.of hd1
  cases k with
  | zero =>
    have h : ¬ ((5 - 0 : Nat) : Int) < 5 := by omega
    refine vcE.ex (by simp (disch := first | assumption | omega) only [go_sem, ↓reduceIte, Nat.reduceEqDiff, reduceCtorEq, Nat.reduceAdd, Nat.reduceLeDiff, t8, h, decide_false]; rfl) ?_
    rw [pi_zero] at hs
    rw [← hs]
    exact .inr ⟨rfl, s, hd1, rfl⟩
  | succ k =>
    have h : ((5 - (k + 1) : Nat) : Int) < 5 := by omega
    refine vcE.step (by simp (disch := first | assumption | omega) only [go_sem, ↓reduceIte, Nat.reduceEqDiff, reduceCtorEq, Nat.reduceAdd, Nat.reduceLeDiff, t8, h, decide_true]; rfl) ?_
    refine vcE.then (fun e' tm' hp' => RetE [.t 6] (fun r hp' => r = .bool (Sort.partialIns lt a b 5 (a + 1) d).2 ∧ Srt L e id hp0 hp' (Sort.partialIns lt a b 5 (a + 1) d).1 ∧ (Sort.partialIns lt a b 5 (a + 1) d).1.size = d.size) .ret tm' hp' ∧ e' = .ret ∨ e' = .normal ∧ ∃ (i : Nat) (d' : Array α), 1 ≤ i ∧ i ≤ b ∧ d'.size = d.size ∧ Srt L e id hp0 hp' d' ∧ Sort.partialIns lt a b k i d' = Sort.partialIns lt a b 5 (a + 1) d ∧ tm' 0 = v ∧ tm' 1 = .int .i64 a ∧ tm' 2 = .int .i64 b ∧ tm' 7 = .int .i64 i ∧ tm' 8 = .int .i64 ((5 - (k + 1) : Nat) : Int)) ?_ ?_
    rotate_left
    · rintro e' tm hp' (⟨h, rfl⟩ | ⟨rfl, i2, d2, g1, g2, g3, g4, g5, u0, u1, u2, u7, u8⟩)
      · exact .inl ⟨h, rfl⟩
      · have w8 := natW (x := ((5 - (k + 1) : Nat) : Int) + 1) (5 - k) (by omega) (by omega)
        refine vcE.ex (by simp (disch := first | assumption | omega) only [go_sem, ↓reduceIte, Nat.reduceEqDiff, reduceCtorEq, Nat.reduceAdd, Nat.reduceLeDiff, u8, w8]; rfl) ?_
        refine ⟨k, by omega, i2, d2, by omega, g1, g2, g3, g4, g5, ?_, ?_, ?_, ?_, ?_⟩
        all_goals simp only [upd_app, Nat.reduceEqDiff, ↓reduceIte, u0, u1, u2, u7]
    refine vcE.block (vcE.then _ (pi_scan (a := a) (c := 5 - (k + 1)) hless s hv1 (by omega) hi1 hib (by simp only [upd_app, Nat.reduceEqDiff, ↓reduceIte, t0]) (by simp only [upd_app, Nat.reduceEqDiff, ↓reduceIte, t1]) (by simp only [upd_app, Nat.reduceEqDiff, ↓reduceIte, t2]) (by simp only [upd_app, Nat.reduceEqDiff, ↓reduceIte, t7]) (by simp only [upd_app, Nat.reduceEqDiff, ↓reduceIte, t8])) ?_)
    clear t0 t1 t2 t7 t8
    rintro e' tm hp' ⟨rfl, rfl, q1, q2, t0, t1, t2, t7, t8⟩
    rw [pi_succ] at hs
    generalize hi2 : Sort.scanSorted lt d1 b i = i2 at *
    by_cases hb2 : i2 = b
    · rw [if_pos hb2] at hs
      subst hb2
      refine vcE.ex (by simp (disch := first | assumption | omega) only [go_sem, ↓reduceIte, Nat.reduceEqDiff, reduceCtorEq, Nat.reduceAdd, Nat.reduceLeDiff, t2, t7]; rfl) ?_
      rw [← hs]
      exact .inl ⟨⟨_, rfl, rfl, s, hd1⟩, rfl⟩
    rw [if_neg hb2] at hs
    have hb3 : ¬ (i2 : Int) = (b : Int) := by omega
    refine vcE.step (by simp (disch := first | assumption | omega) only [go_sem, ↓reduceIte, Nat.reduceEqDiff, reduceCtorEq, Nat.reduceAdd, Nat.reduceLeDiff, t2, t7, hb3, decide_false]; rfl) ?_
    have w9 := natW (x := (b : Int) - (a : Int)) (b - a) (by omega) (by omega)
    by_cases h50 : b - a < 50
    · rw [if_pos h50] at hs
      have h50' : ((b - a : Nat) : Int) < 50 := by omega
      refine vcE.ex (by simp (disch := first | assumption | omega) only [go_sem, ↓reduceIte, Nat.reduceEqDiff, reduceCtorEq, Nat.reduceAdd, Nat.reduceLeDiff, t1, t2, w9, h50', decide_true]; rfl) ?_
      rw [← hs]
      exact .inl ⟨⟨_, rfl, rfl, s, hd1⟩, rfl⟩
    rw [if_neg h50] at hs
    have h50' : ¬ ((b - a : Nat) : Int) < 50 := by omega
    refine vcE.step (by simp (disch := first | assumption | omega) only [go_sem, ↓reduceIte, Nat.reduceEqDiff, reduceCtorEq, Nat.reduceAdd, Nat.reduceLeDiff, t1, t2, w9, h50', decide_false]; rfl) ?_
    have h1 : i2 < d1.size := by omega
    have h2 : i2 - 1 < d1.size := by omega
    have x1 := s.get h1
    have y1 := hv1.1 i2 h1
    have y2 := hv1.1 (i2 - 1) h2
    have p1 := pick_at (L := L) h1
    have p2 := pick_at (L := L) h2
    have w1 := natW (x := (i2 : Int) - 1) (i2 - 1) (by omega) (by omega)
    have w2 := natW (x := (i2 : Int) + 1) (i2 + 1) (by omega) (by omega)
    have w3 : IntKind.wrap .i64 ((i2 : Int) - (a : Int)) = (i2 : Int) - (a : Int) := wrap_i64 (by omega) (by omega)
    have w4 := natW (x := (b : Int) - (i2 : Int)) (b - i2) (by omega) (by omega)
    obtain ⟨z1, z2, hst1, hst2, s3⟩ := s.swap h1 h2
    refine vcE.step (by simp (disch := first | assumption | omega) only [exC, chain, ordered, List.getElem?_cons_zero, List.getElem?_cons_succ, exOps.eq_2, exOp, wantedE, ↓reduceIte, ROp.run, evsE, evE, ty, reduceCtorEq, t0, putE, exOps, Nat.reduceEqDiff, t7, same, binA, intA, w1, Option.map_some, y2, loadA, rowA, x1, ↓p2, y1, ↓p1, ↓hst1, ↓hst2, cond_true]; rfl) ?_
    have hd2 : (Sort.swp d1 i2 (i2 - 1)).size = d1.size := Sort.swp_size _ _ _
    generalize Sort.swp d1 i2 (i2 - 1) = d2 at *
    have hv2 := hv1.of hd2
    refine vcE.then (fun e' tm' hp' => e' = .normal ∧ Srt L e id hp0 hp' (if i2 - a ≥ 2 then Sort.shiftDown lt (i2 - 1) d2 else d2) ∧ (if i2 - a ≥ 2 then Sort.shiftDown lt (i2 - 1) d2 else d2).size = d.size ∧ tm' 0 = v ∧ tm' 1 = .int .i64 a ∧ tm' 2 = .int .i64 b ∧ tm' 7 = .int .i64 i2 ∧ tm' 8 = .int .i64 ((5 - (k + 1) : Nat) : Int)) ?_ ?_
    · by_cases hge : i2 - a ≥ 2
      · have hge' : (2 : Int) ≤ (i2 : Int) - (a : Int) := by omega
        simp only [if_pos hge]
        refine vcE.step (by simp (disch := first | assumption | omega) only [exC, exOps, exOp, wantedE, ↓reduceIte, ROp.run, evsE, evE, ty, Nat.reduceEqDiff, t7, putE, t1, same, binA, intA, w3, Option.map_some, hge', decide_true]; rfl) (vcE.condTrue (by simp only [evE, upd_app, Nat.reduceEqDiff, ↓reduceIte]) (vcE.step (by simp (disch := first | assumption | omega) only [go_sem, ↓reduceIte, Nat.reduceEqDiff, reduceCtorEq, Nat.reduceAdd, Nat.reduceLeDiff, t7, w1]; rfl) ?_))
        refine vcE.mono (pi_down (a := a) (b := b) (i := i2) (c := 5 - (k + 1)) hless s3 hv2 (j := i2 - 1) (by omega) (by simp only [upd_app, Nat.reduceEqDiff, ↓reduceIte, t0]) (by simp only [upd_app, Nat.reduceEqDiff, ↓reduceIte, t1]) (by simp only [upd_app, Nat.reduceEqDiff, ↓reduceIte, t2]) (by simp only [upd_app, Nat.reduceEqDiff, ↓reduceIte, t7]) (by simp only [upd_app, Nat.reduceEqDiff, ↓reduceIte, t8]) (by simp only [upd_app, Nat.reduceEqDiff, ↓reduceIte])) ?_
        rintro e' tm' hp' ⟨rfl, g1, g2, g3⟩
        exact ⟨rfl, g1, by omega, g3⟩
      · have hge' : ¬ (2 : Int) ≤ (i2 : Int) - (a : Int) := by omega
        simp only [if_neg hge]
        refine vcE.ex (by simp (disch := first | assumption | omega) only [exC, exOps, exOp, wantedE, ↓reduceIte, ROp.run, evsE, evE, ty, Nat.reduceEqDiff, t7, putE, t1, same, binA, intA, w3, Option.map_some, hge', decide_false]; rfl) ?_
        refine ⟨rfl, s3, by omega, ?_, ?_, ?_, ?_, ?_⟩
        all_goals simp only [upd_app, Nat.reduceEqDiff, ↓reduceIte, t0, t1, t2, t7, t8]
    clear t0 t1 t2 t7 t8
    rintro e' tm hp' ⟨rfl, s4, hd4, t0, t1, t2, t7, t8⟩
    generalize (if i2 - a ≥ 2 then Sort.shiftDown lt (i2 - 1) d2 else d2) = d3 at *
    have hv3 := hv.of hd4
    by_cases hge : b - i2 ≥ 2
    · have hge' : (2 : Int) ≤ ((b - i2 : Nat) : Int) := by omega
      rw [if_pos hge] at hs
      refine vcE.step (by simp (disch := first | assumption | omega) only [exC, exOps, exOp, wantedE, ↓reduceIte, ROp.run, evsE, evE, t2, putE, ty, Nat.reduceEqDiff, t7, same, binA, intA, w4, Option.map_some, hge', decide_true]; rfl) (vcE.condTrue (by simp only [evE, upd_app, Nat.reduceEqDiff, ↓reduceIte]) (vcE.step (by simp (disch := first | assumption | omega) only [go_sem, ↓reduceIte, Nat.reduceEqDiff, reduceCtorEq, Nat.reduceAdd, Nat.reduceLeDiff, t7, w2]; rfl) ?_))
      refine vcE.mono (pi_up (a := a) (b := b) (i := i2) (c := 5 - (k + 1)) hless s4 hv3 (j := i2 + 1) (by omega) (by omega) (by omega) (by simp only [upd_app, Nat.reduceEqDiff, ↓reduceIte, t0]) (by simp only [upd_app, Nat.reduceEqDiff, ↓reduceIte, t1]) (by simp only [upd_app, Nat.reduceEqDiff, ↓reduceIte, t2]) (by simp only [upd_app, Nat.reduceEqDiff, ↓reduceIte, t7]) (by simp only [upd_app, Nat.reduceEqDiff, ↓reduceIte, t8]) (by simp only [upd_app, Nat.reduceEqDiff, ↓reduceIte])) ?_
      rintro e' tm' hp' ⟨rfl, g1, g2, g3⟩
      exact .inr ⟨rfl, i2, _, by omega, by omega, by omega, g1, hs, g3⟩
    · have hge' : ¬ (2 : Int) ≤ ((b - i2 : Nat) : Int) := by omega
      rw [if_neg hge] at hs
      refine vcE.ex (by simp (disch := first | assumption | omega) only [exC, exOps, exOp, wantedE, ↓reduceIte, ROp.run, evsE, evE, t2, putE, ty, Nat.reduceEqDiff, t7, same, binA, intA, w4, Option.map_some, hge', decide_false]; rfl) ?_
      refine .inr ⟨rfl, i2, _, by omega, by omega, hd4, s4, hs, ?_, ?_, ?_, ?_, ?_⟩
      all_goals simp only [upd_app, Nat.reduceEqDiff, ↓reduceIte, t0, t1, t2, t7, t8]
end
end
section
open Go

theorem wrapU {n : Nat} (h : n < 18446744073709551616) : IntKind.wrap .u64 (n : Int) = (n : Int) := by
  have : IntKind.wrap .u64 (n : Int) = (n : Int) % 18446744073709551616 := by simp [IntKind.wrap, IntKind.bits, IntKind.signed]
  omega
theorem wrapUm (n : Nat) : IntKind.wrap .u64 (n : Int) = ((n % 18446744073709551616 : Nat) : Int) := by
  have : IntKind.wrap .u64 (n : Int) = (n : Int) % 18446744073709551616 := by simp [IntKind.wrap, IntKind.bits, IntKind.signed]
  omega
theorem bxor {x y : Nat} {K : EqK} (hx : x < 18446744073709551616) (hy : y < 18446744073709551616) : binA .xor K (.int .u64 (x : Int)) (.int .u64 (y : Int)) = some (.int .u64 ((x ^^^ y : Nat) : Int)) := by
  have e : ((BitVec.ofInt 64 (x : Int)) ^^^ (BitVec.ofInt 64 (y : Int))).toNat = x ^^^ y := by
    rw [BitVec.ofInt_natCast, BitVec.ofInt_natCast, BitVec.toNat_xor, BitVec.toNat_ofNat, BitVec.toNat_ofNat, Nat.mod_eq_of_lt (by omega), Nat.mod_eq_of_lt (by omega)]
  have hl : x ^^^ y < 18446744073709551616 := Nat.xor_lt_two_pow (n := 64) (by omega) (by omega)
  simp only [binA, intA, bitsA, if_true, Option.map_some]
  show some (AV.int IntKind.u64 (IntKind.wrap .u64 (((BitVec.ofInt 64 (x : Int)) ^^^ (BitVec.ofInt 64 (y : Int))).toNat : Int))) = _
  rw [e, wrapU hl]
theorem band {x y : Nat} {K : EqK} (hx : x < 18446744073709551616) (hy : y < 18446744073709551616) : binA .and K (.int .u64 (x : Int)) (.int .u64 (y : Int)) = some (.int .u64 ((x &&& y : Nat) : Int)) := by
  have e : ((BitVec.ofInt 64 (x : Int)) &&& (BitVec.ofInt 64 (y : Int))).toNat = x &&& y := by
    rw [BitVec.ofInt_natCast, BitVec.ofInt_natCast, BitVec.toNat_and, BitVec.toNat_ofNat, BitVec.toNat_ofNat, Nat.mod_eq_of_lt (by omega), Nat.mod_eq_of_lt (by omega)]
  have hl : x &&& y < 18446744073709551616 := Nat.lt_of_le_of_lt Nat.and_le_left hx
  simp only [binA, intA, bitsA, if_true, Option.map_some]
  show some (AV.int IntKind.u64 (IntKind.wrap .u64 (((BitVec.ofInt 64 (x : Int)) &&& (BitVec.ofInt 64 (y : Int))).toNat : Int))) = _
  rw [e, wrapU hl]
theorem bshl {x k : Nat} {q : IntKind} {K : EqK} (hk : k ≤ 64) : binA .shl K (.int .u64 (x : Int)) (.int q (k : Int)) = some (.int .u64 ((x * 2 ^ k % 18446744073709551616 : Nat) : Int)) := by
  simp only [binA]
  rw [if_neg (by omega), Int.toNat_natCast]
  have e : (x : Int) * 2 ^ min k IntKind.u64.bits = ((x * 2 ^ k : Nat) : Int) := by
    rw [Nat.min_eq_left (show k ≤ IntKind.u64.bits from hk)]
    push_cast
    rfl
  rw [e, wrapUm]
theorem bshr {x k : Nat} {q : IntKind} {K : EqK} (hk : k ≤ 64) : binA .shr K (.int .u64 (x : Int)) (.int q (k : Int)) = some (.int .u64 ((x / 2 ^ k : Nat) : Int)) := by
  simp only [binA]
  rw [if_neg (by omega), Int.toNat_natCast, Nat.min_eq_left (show k ≤ IntKind.u64.bits from hk), Int.fdiv_eq_ediv_of_nonneg _ (Int.pow_nonneg (by omega))]
  push_cast
  rfl
theorem len_shift {x m : Nat} (h : 2 ^ m ≤ x) : Sort.bitsLen x = Sort.bitsLen (x / 2 ^ m) + m := by
  have hp : 0 < 2 ^ m := Nat.two_pow_pos m
  apply Nat.le_antisymm
  · rw [Sort.bitsLen_le_iff, Nat.pow_add]
    exact (Nat.div_lt_iff_lt_mul hp).1 ((Sort.bitsLen_le_iff _ _).1 (Nat.le_refl _))
  · have h1 := (Sort.bitsLen_le_iff x _).1 (Nat.le_refl _)
    have hm : m ≤ Sort.bitsLen x := by
      rcases Nat.lt_or_ge (Sort.bitsLen x) m with g | g
      · have := Nat.pow_le_pow_right (n := 2) (by omega) (Nat.le_of_lt g)
        omega
      · exact g
    have : Sort.bitsLen (x / 2 ^ m) ≤ Sort.bitsLen x - m := by
      rw [Sort.bitsLen_le_iff, Nat.div_lt_iff_lt_mul hp, ← Nat.pow_add, Nat.sub_add_cancel hm]
      exact h1
    omega
section
variable {P : Program} {T : Tab} {hint : Nat → Nat} {f : FuncId} {hp : HP}
theorem xs_calls (hm : P.follows .mixedOrders = true) (hT : TabOk P T) (hf : compF P hint f = some ⟨xsC, xsN, [.t 2]⟩) {rb X : Nat} {tx : TypeId} (hX : X < 18446744073709551616) (hr : hp[rb]? = some (some (.row tx [.int .u64 (X : Int)]))) :
    ACalls P f [.ptr rb 0] hp fun r hp' => r = .int .u64 (Sort.xorNextN X : Nat) ∧ hp' = hp.set rb (some (.row tx [.int .u64 (Sort.xorNextN X : Nat)])) := by
  refine calls_e hm hT hf (by rfl) (by simp [xsN]) ?_
  have hlt : rb < hp.length := (List.getElem?_eq_some_iff.1 hr).1
  obtain ⟨X1, hX1⟩ : ∃ X1 : Nat, X1 = X * 2 ^ 13 % 18446744073709551616 := ⟨_, rfl⟩
  obtain ⟨A, hA⟩ : ∃ A : Nat, A = X ^^^ X1 := ⟨_, rfl⟩
  obtain ⟨A1, hA1⟩ : ∃ A1 : Nat, A1 = A / 2 ^ 7 := ⟨_, rfl⟩
  obtain ⟨B, hB⟩ : ∃ B : Nat, B = A ^^^ A1 := ⟨_, rfl⟩
  obtain ⟨B1, hB1⟩ : ∃ B1 : Nat, B1 = B * 2 ^ 17 % 18446744073709551616 := ⟨_, rfl⟩
  obtain ⟨C, hC⟩ : ∃ C : Nat, C = B ^^^ B1 := ⟨_, rfl⟩
  have lX1 : X1 < 18446744073709551616 := by rw [hX1]; exact Nat.mod_lt _ (by decide)
  have lA : A < 18446744073709551616 := by rw [hA]; exact Nat.xor_lt_two_pow (n := 64) hX lX1
  have lA1 : A1 < 18446744073709551616 := by rw [hA1]; exact Nat.lt_of_le_of_lt (Nat.div_le_self _ _) lA
  have lB : B < 18446744073709551616 := by rw [hB]; exact Nat.xor_lt_two_pow (n := 64) lA lA1
  have lB1 : B1 < 18446744073709551616 := by rw [hB1]; exact Nat.mod_lt _ (by decide)
  have s1 : binA .shl .prim (.int .u64 (X : Int)) (.int .u64 13) = some (.int .u64 (X1 : Int)) := by
    rw [hX1]
    exact bshl (x := X) (k := 13) (q := .u64) (K := .prim) (by omega)
  have s2 : binA .shr .prim (.int .u64 (A : Int)) (.int .u64 7) = some (.int .u64 (A1 : Int)) := by
    rw [hA1]
    exact bshr (x := A) (k := 7) (q := .u64) (K := .prim) (by omega)
  have s3 : binA .shl .prim (.int .u64 (B : Int)) (.int .u64 17) = some (.int .u64 (B1 : Int)) := by
    rw [hB1]
    exact bshl (x := B) (k := 17) (q := .u64) (K := .prim) (by omega)
  have x1 := bxor (x := X) (y := X1) (K := .prim) hX lX1
  have x2 := bxor (x := A) (y := A1) (K := .prim) lA lA1
  have x3 := bxor (x := B) (y := B1) (K := .prim) lB lB1
  rw [← hA] at x1
  rw [← hB] at x2
  rw [← hC] at x3
  have e : Sort.xorNextN X = C := by
    rw [show (2 : Nat) ^ 13 = 8192 by decide] at hX1
    rw [show (2 : Nat) ^ 7 = 128 by decide] at hA1
    rw [show (2 : Nat) ^ 17 = 131072 by decide] at hB1
    unfold Sort.xorNextN
    rw [hC, hB1, hB, hA1, hA, hX1]
  rw [e]
  clear hX1 hA1 hB1
  clear hA hB hC e
  refine vcE.step (by simp (disch := first | assumption | omega) only [go_sem, ↓reduceIte, Nat.reduceEqDiff, reduceCtorEq, Nat.reduceAdd, Nat.reduceLeDiff]; rfl) (vcE.step (by simp (disch := first | assumption | omega) only [go_sem, ↓reduceIte, Nat.reduceEqDiff, reduceCtorEq, Nat.reduceAdd, Nat.reduceLeDiff, nilchkA, isNilA, hr, ↓s1, ↓x1]; rfl) ?_)
  have h1 : (hp.set rb (some (.row tx [.int .u64 (A : Int)])))[rb]? = some (some (.row tx [.int .u64 (A : Int)])) := List.getElem?_set_self hlt
  refine vcE.step (by simp (disch := first | assumption | omega) only [go_sem, ↓reduceIte, Nat.reduceEqDiff, reduceCtorEq, Nat.reduceAdd, Nat.reduceLeDiff, nilchkA, isNilA, h1, ↓s2, ↓x2]; rfl) ?_
  have h2 : ((hp.set rb (some (.row tx [.int .u64 (A : Int)]))).set rb (some (.row tx [.int .u64 (B : Int)])))[rb]? = some (some (.row tx [.int .u64 (B : Int)])) := List.getElem?_set_self (by simpa using hlt)
  refine vcE.step (by simp (disch := first | assumption | omega) only [go_sem, ↓reduceIte, Nat.reduceEqDiff, reduceCtorEq, Nat.reduceAdd, Nat.reduceLeDiff, nilchkA, isNilA, h2, ↓s3, ↓x3]; rfl) ?_
  have h3 : (((hp.set rb (some (.row tx [.int .u64 (A : Int)]))).set rb (some (.row tx [.int .u64 (B : Int)]))).set rb (some (.row tx [.int .u64 (C : Int)])))[rb]? = some (some (.row tx [.int .u64 (C : Int)])) := List.getElem?_set_self (by simpa using hlt)
  refine vcE.ex (by simp (disch := first | assumption | omega) only [go_sem, ↓reduceIte, Nat.reduceEqDiff, reduceCtorEq, Nat.reduceAdd, Nat.reduceLeDiff, nilchkA, isNilA, h3]; rfl) ?_
  refine ⟨_, rfl, rfl, ?_⟩
  simp only [List.set_set]
theorem lenTab {x : Nat} (hx : x < 256) : indexSA (.str lenT) (.int .u8 (x : Int)) = some (byteA (UInt8.ofNat (Sort.bitsLen x))) := by
  have h : ∀ y : Fin 256, lenT[y.val]? = some (UInt8.ofNat (Sort.bitsLen y.val)) := by decide +kernel
  have := h ⟨x, hx⟩
  simp only [indexSA]
  rw [if_pos (by omega), Int.toNat_natCast]
  simp only at this
  rw [this]
theorem l64_calls (hm : P.follows .mixedOrders = true) (hT : TabOk P T) (hf : compF P hint f = some ⟨l64C, l64N, [.t 2]⟩) {x : Nat} (hx : x < 18446744073709551616) : ACalls P f [.int .u64 (x : Int)] hp fun r hp' => r = .int .i64 (Sort.bitsLen x : Nat) ∧ hp' = hp := by
  refine calls_e hm hT hf (by rfl) (by simp [l64N]) ?_
  refine vcE.step (by simp (disch := first | assumption | omega) only [go_sem, ↓reduceIte, Nat.reduceEqDiff, reduceCtorEq, Nat.reduceAdd, Nat.reduceLeDiff]; rfl) ?_
  refine vcE.then (fun e' tm' hp' => e' = .normal ∧ hp' = hp ∧ ∃ y m : Nat, y < 4294967296 ∧ m ≤ 32 ∧ Sort.bitsLen x = Sort.bitsLen y + m ∧ tm' 0 = .int .u64 (y : Int) ∧ tm' 2 = .int .i64 (m : Int)) ?_ ?_
  · by_cases h : 4294967296 ≤ x
    · have h' : (4294967296 : Int) ≤ (x : Int) := by omega
      have s1 : binA .shr .prim (.int .u64 (x : Int)) (.int .u64 32) = some (.int .u64 ((x / 4294967296 : Nat) : Int)) := bshr (x := x) (k := 32) (q := .u64) (K := .prim) (by omega)
      have hl := len_shift (x := x) (m := 32) h
      refine vcE.ex (by simp (disch := first | assumption | omega) only [go_sem, ↓reduceIte, Nat.reduceEqDiff, reduceCtorEq, Nat.reduceAdd, Nat.reduceLeDiff, h', ge_iff_le, decide_true, ↓s1]; rfl) ?_
      exact ⟨rfl, rfl, x / 4294967296, 32, by omega, by omega, hl, rfl, rfl⟩
    · have h' : ¬ (4294967296 : Int) ≤ (x : Int) := by omega
      refine vcE.ex (by simp (disch := first | assumption | omega) only [go_sem, ↓reduceIte, Nat.reduceEqDiff, reduceCtorEq, Nat.reduceAdd, Nat.reduceLeDiff, h', ge_iff_le, decide_false]; rfl) ?_
      exact ⟨rfl, rfl, x, 0, by omega, by omega, rfl, rfl, rfl⟩
  rintro e' tm hp' ⟨rfl, rfl, y, m, hy, hm1, he, t0, t2⟩
  refine vcE.then (fun e' tm' hp'' => e' = .normal ∧ hp'' = hp' ∧ ∃ y m : Nat, y < 65536 ∧ m ≤ 48 ∧ Sort.bitsLen x = Sort.bitsLen y + m ∧ tm' 0 = .int .u64 (y : Int) ∧ tm' 2 = .int .i64 (m : Int)) ?_ ?_
  · by_cases h : 65536 ≤ y
    · have h' : (65536 : Int) ≤ (y : Int) := by omega
      have s1 : binA .shr .prim (.int .u64 (y : Int)) (.int .u64 16) = some (.int .u64 ((y / 65536 : Nat) : Int)) := bshr (x := y) (k := 16) (q := .u64) (K := .prim) (by omega)
      have hl := len_shift (x := y) (m := 16) h
      have w1 := natW (x := (m : Int) + 16) (m + 16) (by omega) (by omega)
      refine vcE.ex (by simp (disch := first | assumption | omega) only [exC, exOps, exOp, wantedE, ↓reduceIte, ROp.run, evsE, evE, t0, putE, ty, same, binA, intA, h', decide_true, Option.map_some, reduceCtorEq, ↓s1, Nat.reduceEqDiff, t2, w1]; rfl) ?_
      refine ⟨rfl, rfl, y / 65536, m + 16, by omega, by omega, by rw [he, hl]; exact (Nat.add_assoc _ _ _).trans (congrArg _ (Nat.add_comm _ _)), ?_, ?_⟩
      all_goals simp only [upd_app, Nat.reduceEqDiff, ↓reduceIte]
    · have h' : ¬ (65536 : Int) ≤ (y : Int) := by omega
      refine vcE.ex (by simp (disch := first | assumption | omega) only [go_sem, ↓reduceIte, Nat.reduceEqDiff, reduceCtorEq, Nat.reduceAdd, Nat.reduceLeDiff, t0, h', ge_iff_le, decide_false]; rfl) ?_
      refine ⟨rfl, rfl, y, m, by omega, by omega, he, ?_, ?_⟩
      all_goals simp only [upd_app, Nat.reduceEqDiff, ↓reduceIte, t0, t2]
  clear t0 t2 he hm1 hy y m
  rintro e' tm hp'' ⟨rfl, rfl, y, m, hy, hm1, he, t0, t2⟩
  refine vcE.then (fun e' tm' hp' => e' = .normal ∧ hp' = hp'' ∧ ∃ y m : Nat, y < 256 ∧ m ≤ 56 ∧ Sort.bitsLen x = Sort.bitsLen y + m ∧ tm' 0 = .int .u64 (y : Int) ∧ tm' 2 = .int .i64 (m : Int)) ?_ ?_
  · by_cases h : 256 ≤ y
    · have h' : (256 : Int) ≤ (y : Int) := by omega
      have s1 : binA .shr .prim (.int .u64 (y : Int)) (.int .u64 8) = some (.int .u64 ((y / 256 : Nat) : Int)) := bshr (x := y) (k := 8) (q := .u64) (K := .prim) (by omega)
      have hl := len_shift (x := y) (m := 8) h
      have w1 := natW (x := (m : Int) + 8) (m + 8) (by omega) (by omega)
      refine vcE.ex (by simp (disch := first | assumption | omega) only [exC, exOps, exOp, wantedE, ↓reduceIte, ROp.run, evsE, evE, t0, putE, ty, same, binA, intA, h', decide_true, Option.map_some, reduceCtorEq, ↓s1, Nat.reduceEqDiff, t2, w1]; rfl) ?_
      refine ⟨rfl, rfl, y / 256, m + 8, by omega, by omega, by rw [he, hl]; exact (Nat.add_assoc _ _ _).trans (congrArg _ (Nat.add_comm _ _)), ?_, ?_⟩
      all_goals simp only [upd_app, Nat.reduceEqDiff, ↓reduceIte]
    · have h' : ¬ (256 : Int) ≤ (y : Int) := by omega
      refine vcE.ex (by simp (disch := first | assumption | omega) only [go_sem, ↓reduceIte, Nat.reduceEqDiff, reduceCtorEq, Nat.reduceAdd, Nat.reduceLeDiff, t0, h', ge_iff_le, decide_false]; rfl) ?_
      refine ⟨rfl, rfl, y, m, by omega, by omega, he, ?_, ?_⟩
      all_goals simp only [upd_app, Nat.reduceEqDiff, ↓reduceIte, t0, t2]
  clear t0 t2 he hm1 hy y m
  rintro e' tm hp' ⟨rfl, rfl, y, m, hy, hm1, he, t0, t2⟩
  have ht := lenTab hy
  have w1 : IntKind.wrap .u8 (y : Int) = (y : Int) := wrap_u8 (by omega) (by omega)
  have hb8 : Sort.bitsLen y ≤ 8 := (Sort.bitsLen_le_iff y 8).2 (by omega)
  have hby : byteA (UInt8.ofNat (Sort.bitsLen y)) = .int .u8 ((Sort.bitsLen y : Nat) : Int) := by
    have : (UInt8.ofNat (Sort.bitsLen y)).toNat = Sort.bitsLen y := by
      rw [UInt8.toNat_ofNat']
      omega
    simp only [byteA, this]
  rw [hby] at ht
  have w2 := natW (x := ((Sort.bitsLen y : Nat) : Int)) (Sort.bitsLen y) rfl (by omega)
  have w3 := natW (x := (m : Int) + ((Sort.bitsLen y : Nat) : Int)) (Sort.bitsLen x) (by omega) (by omega)
  refine vcE.ex (by simp (disch := first | assumption | omega) only [go_sem, ↓reduceIte, Nat.reduceEqDiff, reduceCtorEq, Nat.reduceAdd, Nat.reduceLeDiff, t0, t2, w1, w2, w3, ↓ht]; rfl) ?_
  exact ⟨_, rfl, rfl, rfl⟩
theorem bl_calls (hm : P.follows .mixedOrders = true) (hT : TabOk P T) {fl64 fl32 : FuncId} {hint' : Nat → Nat} (h64 : compF P hint' fl64 = some ⟨l64C, l64N, [.t 2]⟩) (hf : compF P hint f = some ⟨blC fl64 fl32, blN, [.t 2]⟩) {x : Nat} (hx : x < 18446744073709551616) : ACalls P f [.int .u64 (x : Int)] hp fun r hp' => r = .int .i64 (Sort.bitsLen x : Nat) ∧ hp' = hp := by
  refine calls_e hm hT hf (by rfl) (by simp [blN]) ?_
  refine vcE.step (by simp (disch := first | assumption | omega) only [go_sem, ↓reduceIte, Nat.reduceEqDiff, reduceCtorEq, Nat.reduceAdd, Nat.reduceLeDiff]; rfl) (vcE.step (by simp (disch := first | assumption | omega) only [go_sem, ↓reduceIte, Nat.reduceEqDiff, reduceCtorEq, Nat.reduceAdd, Nat.reduceLeDiff]; rfl) ?_)
  rw [show blR2 fl64 fl32 = (blR2 fl64 fl32).take 1 ++ ((blR2 fl64 fl32).drop 1).take 1 ++ (blR2 fl64 fl32).drop 2 from rfl]
  refine vcE.seq (vcE.app (vcE.app (vcE.ex (by simp (disch := first | assumption | omega) only [go_sem, ↓reduceIte, Nat.reduceEqDiff, reduceCtorEq, Nat.reduceAdd, Nat.reduceLeDiff]; rfl) ⟨rfl, vcE.call (f := fl64) (caps := []) (ys := [.int .u64 (x : Int)]) rfl ?_ (l64_calls hm hT h64 hx) ?_⟩)))
  · simp only [evsE, evE, upd_app, Nat.reduceEqDiff, ↓reduceIte]
  rintro r hp' ⟨rfl, rfl⟩
  refine ⟨rfl, vcE.ex (by simp (disch := first | assumption | omega) only [go_sem, ↓reduceIte, Nat.reduceEqDiff, reduceCtorEq, Nat.reduceAdd, Nat.reduceLeDiff]; rfl) ?_⟩
  refine vcE.ex (by simp (disch := first | assumption | omega) only [go_sem, ↓reduceIte, Nat.reduceEqDiff, reduceCtorEq, Nat.reduceAdd, Nat.reduceLeDiff]; rfl) ?_
  exact ⟨_, rfl, rfl, rfl⟩
theorem np_calls (hm : P.follows .mixedOrders = true) (hT : TabOk P T) {fl64 fl32 fbl : FuncId} {h1 h2 : Nat → Nat} (h64 : compF P h1 fl64 = some ⟨l64C, l64N, [.t 2]⟩) (hbl : compF P h2 fbl = some ⟨blC fl64 fl32, blN, [.t 2]⟩) (hf : compF P hint f = some ⟨npC fbl, npN, [.t 2]⟩) {x : Nat} (hx : x ≤ 1000000000000000000) : ACalls P f [.int .i64 (x : Int)] hp fun r hp' => r = .int .u64 (1 <<< Sort.bitsLen x : Nat) ∧ hp' = hp := by
  refine calls_e hm hT hf (by rfl) (by simp [npN]) ?_
  have w1 := wrapU (n := x) (by omega)
  have hb : Sort.bitsLen x ≤ 62 := (Sort.bitsLen_le_iff x 62).2 (by omega)
  have hsh : (1 : Nat) * 2 ^ Sort.bitsLen x % 18446744073709551616 = 1 <<< Sort.bitsLen x := by
    rw [Nat.one_shiftLeft, Nat.one_mul]
    apply Nat.mod_eq_of_lt
    have := Nat.pow_le_pow_right (n := 2) (by omega) hb
    omega
  have s1 : binA .shl .prim (.int .u64 1) (.int .i64 ((Sort.bitsLen x : Nat) : Int)) = some (.int .u64 ((1 <<< Sort.bitsLen x : Nat) : Int)) := by
    have := bshl (x := 1) (k := Sort.bitsLen x) (q := .i64) (K := .prim) (by omega)
    rw [hsh] at this
    exact this
  refine vcE.step (by simp (disch := first | assumption | omega) only [go_sem, ↓reduceIte, Nat.reduceEqDiff, reduceCtorEq, Nat.reduceAdd, Nat.reduceLeDiff]; rfl) ?_
  rw [show npR1 fbl = (npR1 fbl).take 2 ++ ((npR1 fbl).drop 2).take 1 ++ (npR1 fbl).drop 3 from rfl]
  refine vcE.seq (vcE.app (vcE.app (vcE.ex (by simp (disch := first | assumption | omega) only [go_sem, ↓reduceIte, Nat.reduceEqDiff, reduceCtorEq, Nat.reduceAdd, Nat.reduceLeDiff, w1]; rfl) ⟨rfl, vcE.call (f := fbl) (caps := []) (ys := [.int .u64 (x : Int)]) rfl ?_ (bl_calls hm hT h64 hbl (by omega)) ?_⟩)))
  · simp only [evsE, evE, upd_app, Nat.reduceEqDiff, ↓reduceIte]
  rintro r hp' ⟨rfl, rfl⟩
  refine ⟨rfl, vcE.ex (by simp (disch := first | assumption | omega) only [go_sem, ↓reduceIte, Nat.reduceEqDiff, reduceCtorEq, Nat.reduceAdd, Nat.reduceLeDiff, putE, ↓s1]; rfl) ?_⟩
  refine vcE.ex (by simp (disch := first | assumption | omega) only [go_sem, ↓reduceIte, Nat.reduceEqDiff, reduceCtorEq, Nat.reduceAdd, Nat.reduceLeDiff]; rfl) ?_
  exact ⟨_, rfl, rfl, rfl⟩

end
section
variable {α : Type} [Inhabited α] {L : El1 α} {lt : α → α → Bool} {P : Program} {T : Tab} {less : FuncId} {hint : Nat → Nat} {f : FuncId} {e : TypeId} {id : Nat} {hp0 hp : HP} {d : Array α} {v : AV}
theorem Srt.swapk (s : Srt L e id hp0 hp d) {i j : Nat} (hi : i < d.size) (hj : j < d.size) : ∃ hp1 hp2, storeA hp 1 (.ptr id i) (L.v d[j]!) = some hp1 ∧ storeA hp1 1 (.ptr id j) (L.v d[i]!) = some hp2 ∧ Srt L e id hp0 hp2 (Sort.swp d i j) ∧ ∀ k, k ≠ id → hp2[k]? = hp[k]? := by
  obtain ⟨h1, s1⟩ := s.set hi d[j]!
  obtain ⟨h2, s2⟩ := s1.set (i := j) (by simpa using hj) d[i]!
  refine ⟨_, _, h1, h2, s2, fun k hk => ?_⟩
  rw [List.getElem?_set_ne (Ne.symm hk), List.getElem?_set_ne (Ne.symm hk)]
/-- So many rounds are left, t have been made. -/
def bpLeft (a n M i0 : Nat) : Nat → Nat → UInt64 × Array α → Array α
  | 0, _, st => st.2
  | k + 1, t, st => bpLeft a n M i0 k (t + 1) (Sort.breakStep a n M st (i0 + t))
theorem bp_eq (a b : Nat) (h8 : b - a ≥ 8) : Sort.breakPatterns d a b = bpLeft a (b - a) (1 <<< Sort.bitsLen (b - a)) (a + (b - a) / 4 * 2 - 1) 3 0 (UInt64.ofNat (b - a), d) := by
  unfold Sort.breakPatterns
  simp only []
  rw [if_pos h8]
  rfl
theorem bp_calls (hm : P.follows .mixedOrders = true) (hT : TabOk P T) {fl64 fl32 fbl fnp fxs : FuncId} {h1 h2 h3 h4 : Nat → Nat} (h64 : compF P h1 fl64 = some ⟨l64C, l64N, [.t 2]⟩) (hbl : compF P h2 fbl = some ⟨blC fl64 fl32, blN, [.t 2]⟩) (hnp : compF P h3 fnp = some ⟨npC fbl, npN, [.t 2]⟩) (hxs : compF P h4 fxs = some ⟨xsC, xsN, [.t 2]⟩) {tx : TypeId} (hf : compF P hint f = some ⟨bpC fnp fxs tx, bpN, []⟩) (s : Srt L e id hp0 hp d) (hv : SlA id d v) {a b : Nat} (hab : a < b) (hb : b ≤ d.size) :
    ACalls P f [v, .int .i64 a, .int .i64 b] hp fun r hp' => r = .tup [] ∧ Srt L e id hp0 hp' (Sort.breakPatterns d a b) ∧ (Sort.breakPatterns d a b).size = d.size := by
  refine calls_e hm hT hf (by rfl) (by simp [bpN]) ?_
  have hsz := hv.2
  have hid : id < hp.length := (List.getElem?_eq_some_iff.1 (s.get (i := a) (by omega))).1
  have w1 := natW (x := (b : Int) - (a : Int)) (b - a) (by omega) (by omega)
  by_cases h8 : b - a ≥ 8
  rotate_left
  · have h8' : ¬ (8 : Int) ≤ ((b - a : Nat) : Int) := by omega
    have e8 : Sort.breakPatterns d a b = d := by
      unfold Sort.breakPatterns
      simp only []
      rw [if_neg h8]
    rw [e8]
    refine vcE.ex (by simp (disch := first | assumption | omega) only [go_sem, ↓reduceIte, Nat.reduceEqDiff, reduceCtorEq, Nat.reduceAdd, Nat.reduceLeDiff, w1, h8', ge_iff_le, decide_false]; rfl) ?_
    exact ⟨_, rfl, rfl, s, rfl⟩
  rw [bp_eq a b h8]
  generalize hn : b - a = n at *
  have h8' : (8 : Int) ≤ (n : Int) := by omega
  obtain ⟨M, hM⟩ : ∃ M, M = 1 <<< Sort.bitsLen n := ⟨_, rfl⟩
  have hM1 : 1 ≤ M := by rw [hM, Nat.one_shiftLeft]; exact Nat.two_pow_pos _
  have hM2 : M ≤ 2 * n := by rw [hM, Nat.one_shiftLeft]; exact Sort.two_pow_bitsLen_le (by omega)
  rw [← hM]
  have wu := wrapU (n := n) (by omega)
  have hst : storeA (hp ++ [some (.row tx [.int .u64 0])]) 1 (.ptr hp.length 0) (.int .u64 (n : Int)) = some (hp ++ [some (.row tx [.int .u64 (n : Int)])]) := by
    simp [storeA, cellsA, List.getElem?_append_right]
    rfl
  refine vcE.step (by simp (disch := first | assumption | omega) only [go_sem, ↓reduceIte, Nat.reduceEqDiff, reduceCtorEq, Nat.reduceAdd, Nat.reduceLeDiff, w1]; rfl) (vcE.step (by simp (disch := first | assumption | omega) only [go_sem, ↓reduceIte, Nat.reduceEqDiff, reduceCtorEq, Nat.reduceAdd, Nat.reduceLeDiff, h8', ge_iff_le, decide_true]; rfl) (vcE.condTrue (by simp only [evE, upd_app, Nat.reduceEqDiff, ↓reduceIte]) (vcE.step (by simp (disch := first | assumption | omega) only [go_sem, ↓reduceIte, Nat.reduceEqDiff, reduceCtorEq, Nat.reduceAdd, Nat.reduceLeDiff, wu, allocA, ↓hst]; rfl) ?_)))
  have s1 := s.app [some (.row tx [.int .u64 (n : Int)])]
  have hr1 : (hp ++ [some (.row tx [.int .u64 (n : Int)])])[hp.length]? = some (some (.row tx [.int .u64 (n : Int)])) := by simp
  have hle := s.len
  generalize hp ++ [some (.row tx [.int .u64 (n : Int)])] = hp1 at *
  generalize hrb : hp.length = rb at *
  refine vcE.then (fun e' tm' hp' => e' = .normal ∧ hp' = hp1 ∧ tm' 0 = v ∧ tm' 1 = .int .i64 a ∧ tm' 6 = .int .i64 n ∧ tm' 7 = .ptr rb 0 ∧ tm' 8 = .int .u64 (M : Int)) ?_ ?_
  · rw [show bpR3 fnp fxs tx = (bpR3 fnp fxs tx).take 1 ++ ((bpR3 fnp fxs tx).drop 1).take 1 ++ (bpR3 fnp fxs tx).drop 2 from rfl]
    refine vcE.app (vcE.app (vcE.ex (by simp (disch := first | assumption | omega) only [go_sem, ↓reduceIte, Nat.reduceEqDiff, reduceCtorEq, Nat.reduceAdd, Nat.reduceLeDiff]; rfl) ⟨rfl, vcE.call (f := fnp) (caps := []) (ys := [.int .i64 (n : Int)]) rfl ?_ (np_calls hm hT h64 hbl hnp (x := n) (by omega)) ?_⟩))
    · simp only [evsE, evE, upd_app, Nat.reduceEqDiff, ↓reduceIte]
    rintro r hp' ⟨rfl, rfl⟩
    refine ⟨rfl, vcE.ex (by simp (disch := first | assumption | omega) only [go_sem, ↓reduceIte, Nat.reduceEqDiff, reduceCtorEq, Nat.reduceAdd, Nat.reduceLeDiff]; rfl) ?_⟩
    refine ⟨rfl, rfl, ?_, ?_, ?_, ?_, ?_⟩
    all_goals first | (simp only [putE, upd_app, Nat.reduceEqDiff, ↓reduceIte, hM]; done) | (simp only [putE, upd_app, Nat.reduceEqDiff, ↓reduceIte]; rfl)
  rintro e' tm hp' ⟨rfl, rfl, t0, t1, t6, t7, t8⟩
  have q4 : ((n : Nat) : Int).tdiv 4 = ((n / 4 : Nat) : Int) := natQ n 4
  have w2 := natW (x := ((n / 4 : Nat) : Int)) (n / 4) rfl (by omega)
  have w3 := natW (x := ((n / 4 : Nat) : Int) * 2) (n / 4 * 2) (by omega) (by omega)
  have w4 := natW (x := (a : Int) + ((n / 4 * 2 : Nat) : Int)) (a + n / 4 * 2) (by omega) (by omega)
  have w5 := natW (x := ((a + n / 4 * 2 : Nat) : Int) - 1) (a + n / 4 * 2 - 1) (by omega) (by omega)
  have w6 := natW (x := ((a + n / 4 * 2 : Nat) : Int) + 1) (a + n / 4 * 2 + 1) (by omega) (by omega)
  generalize hq : a + n / 4 * 2 = q at *
  have hq1 : 1 ≤ q := by omega
  have hq2 : q + 1 < b := by omega
  have wM := wrapU (n := M - 1) (by omega)
  have wM' : IntKind.wrap .u64 ((M : Int) - 1) = ((M - 1 : Nat) : Int) := by
    rw [← wM]
    congr 1
    omega
  refine vcE.step (by simp (disch := first | assumption | omega) only [go_sem, ↓reduceIte, Nat.reduceEqDiff, reduceCtorEq, Nat.reduceAdd, Nat.reduceLeDiff, t1, t6, q4, w2, w3, w4, w5]; rfl) (vcE.block (vcE.loop (by intro l tm hp h; simp [RetE] at h) (fun k tm' hp' => ∃ (t : Nat) (r : UInt64) (dk : Array α), k = 3 - t ∧ t ≤ 3 ∧ dk.size = d.size ∧ Srt L e id hp0 hp' dk ∧ hp'[rb]? = some (some (.row tx [.int .u64 (r.toNat : Int)])) ∧ bpLeft a n M (q - 1) (3 - t) t (r, dk) = bpLeft a n M (q - 1) 3 0 (UInt64.ofNat n, d) ∧ tm' 0 = v ∧ tm' 1 = .int .i64 a ∧ tm' 6 = .int .i64 n ∧ tm' 7 = .ptr rb 0 ∧ tm' 8 = .int .u64 (M : Int) ∧ tm' 9 = .int .i64 ((q - 1 + t : Nat) : Int)) 3 ⟨0, UInt64.ofNat n, d, rfl, by omega, rfl, s1, ?_, rfl, ?_, ?_, ?_, ?_, ?_, ?_⟩ ?_))
  · rw [hr1, show (UInt64.ofNat n).toNat = n from by simp; omega]
  · simp only [upd_app, Nat.reduceEqDiff, ↓reduceIte, t0]
  · simp only [upd_app, Nat.reduceEqDiff, ↓reduceIte, t1]
  · simp only [upd_app, Nat.reduceEqDiff, ↓reduceIte, t6]
  · simp only [upd_app, Nat.reduceEqDiff, ↓reduceIte, t7]
  · simp only [upd_app, Nat.reduceEqDiff, ↓reduceIte, t8]
  · simp only [upd_app, Nat.reduceEqDiff, ↓reduceIte, Nat.add_zero]
  clear t0 t1 t6 t7 t8 s s1 hst
  rintro k tm hp2 ⟨t, r, dk, rfl, ht, hdk, s2, hr2, hs, t0, t1, t6, t7, t8, t9⟩
  by_cases h3 : t = 3
  · subst h3
    have hle' : ¬ ((q - 1 + 3 : Nat) : Int) ≤ ((q + 1 : Nat) : Int) := by omega
    refine vcE.ex (by simp (disch := first | assumption | omega) only [exC, exOps, exOp, wantedE, ↓reduceIte, ROp.run, evsE, evE, t9, putE, ty, Nat.reduceEqDiff, t1, t6, same, binA, intA, q4, w2, if_neg, Option.map_some, w3, w4, w6, hle', decide_false]; rfl) ?_
    rw [← hs]
    exact ⟨_, rfl, rfl, s2, hdk⟩
  have hle' : ((q - 1 + t : Nat) : Int) ≤ ((q + 1 : Nat) : Int) := by omega
  refine vcE.step (by simp (disch := first | assumption | omega) only [exC, exOps, exOp, wantedE, ↓reduceIte, ROp.run, evsE, evE, t9, putE, ty, Nat.reduceEqDiff, t1, t6, same, binA, intA, q4, w2, if_neg, Option.map_some, w3, w4, w6, hle', decide_true]; rfl) ?_
  have hR : Sort.xorNextN r.toNat = (Sort.xorNext r).toNat := (Sort.xorNext_toNat r).symm
  obtain ⟨O, hO⟩ : ∃ O, O = (Sort.xorNext r).toNat &&& (M - 1) := ⟨_, rfl⟩
  have lO : O ≤ M - 1 := by rw [hO]; exact Nat.and_le_right
  have lR : (Sort.xorNext r).toNat < 18446744073709551616 := (Sort.xorNext r).toNat_lt
  have a1 := band (x := (Sort.xorNext r).toNat) (y := M - 1) (K := .prim) lR (by omega)
  rw [← hO] at a1
  have wO := natW (x := (O : Int)) O rfl (by omega)
  have hrne : rb ≠ id := by omega
  have hrlt : rb < hp2.length := (List.getElem?_eq_some_iff.1 hr2).1
  have step : bpLeft a n M (q - 1) (3 - (t + 1)) (t + 1) (Sort.xorNext r, Sort.swp dk (q - 1 + t) (a + if O ≥ n then O - n else O)) = bpLeft a n M (q - 1) 3 0 (UInt64.ofNat n, d) := by
    rw [← hs, show 3 - t = (3 - (t + 1)) + 1 by omega, bpLeft]
    unfold Sort.breakStep
    simp only [← hO]
  refine vcE.then (fun e' tm' hp' => e' = .normal ∧ Srt L e id hp0 hp' (Sort.swp dk (q - 1 + t) (a + if O ≥ n then O - n else O)) ∧ hp'[rb]? = some (some (.row tx [.int .u64 ((Sort.xorNext r).toNat : Int)])) ∧ tm' 0 = v ∧ tm' 1 = .int .i64 a ∧ tm' 6 = .int .i64 n ∧ tm' 7 = .ptr rb 0 ∧ tm' 8 = .int .u64 (M : Int) ∧ tm' 9 = .int .i64 ((q - 1 + t : Nat) : Int)) ?_ ?_
  rotate_left
  · rintro e' tm hp' ⟨rfl, s3, hr3, u0, u1, u6, u7, u8, u9⟩
    have w9 := natW (x := ((q - 1 + t : Nat) : Int) + 1) (q - 1 + (t + 1)) (by omega) (by omega)
    refine vcE.ex (by simp (disch := first | assumption | omega) only [go_sem, ↓reduceIte, Nat.reduceEqDiff, reduceCtorEq, Nat.reduceAdd, Nat.reduceLeDiff, u9, w9]; rfl) ?_
    refine ⟨3 - (t + 1), by omega, t + 1, Sort.xorNext r, _, rfl, by omega, ?_, s3, hr3, step, ?_, ?_, ?_, ?_, ?_, ?_⟩
    · rw [Sort.swp_size]
      exact hdk
    all_goals simp only [upd_app, Nat.reduceEqDiff, ↓reduceIte, u0, u1, u6, u7, u8]
  refine vcE.block (vcE.then (fun e' tm' hp' => e' = .normal ∧ Srt L e id hp0 hp' dk ∧ hp'[rb]? = some (some (.row tx [.int .u64 ((Sort.xorNext r).toNat : Int)])) ∧ tm' 0 = v ∧ tm' 1 = .int .i64 a ∧ tm' 6 = .int .i64 n ∧ tm' 7 = .ptr rb 0 ∧ tm' 8 = .int .u64 (M : Int) ∧ tm' 9 = .int .i64 ((q - 1 + t : Nat) : Int) ∧ tm' 10 = .int .i64 (O : Int)) ?_ ?_)
  · rw [show bpR6 fnp fxs tx = (bpR6 fnp fxs tx).take 1 ++ (bpR6 fnp fxs tx).drop 1 from rfl]
    refine vcE.app (vcE.call (f := fxs) (caps := []) (ys := [.ptr rb 0]) rfl ?_ (xs_calls hm hT hxs (X := r.toNat) (tx := tx) r.toNat_lt hr2) ?_)
    · simp only [evsE, evE, upd_app, Nat.reduceEqDiff, ↓reduceIte, t7]
    rintro r' hp' ⟨rfl, rfl⟩
    rw [hR]
    refine ⟨rfl, vcE.ex (by simp (disch := first | assumption | omega) only [go_sem, ↓reduceIte, Nat.reduceEqDiff, reduceCtorEq, Nat.reduceAdd, Nat.reduceLeDiff, putE, t8, wM', ↓a1, wO]; rfl) ?_⟩
    refine ⟨rfl, s2.other (by omega) hrne _, List.getElem?_set_self hrlt, ?_, ?_, ?_, ?_, ?_, ?_, ?_⟩
    all_goals simp only [upd_app, Nat.reduceEqDiff, ↓reduceIte, t0, t1, t6, t7, t8, t9]
  clear t0 t1 t6 t7 t8 t9 s2 hr2 hrlt
  rintro e' tm hp3 ⟨rfl, s2, hr2, t0, t1, t6, t7, t8, t9, t10⟩
  refine vcE.then (fun e' tm' hp' => e' = .normal ∧ hp' = hp3 ∧ tm' 0 = v ∧ tm' 1 = .int .i64 a ∧ tm' 6 = .int .i64 n ∧ tm' 7 = .ptr rb 0 ∧ tm' 8 = .int .u64 (M : Int) ∧ tm' 9 = .int .i64 ((q - 1 + t : Nat) : Int) ∧ tm' 10 = .int .i64 ((if O ≥ n then O - n else O : Nat) : Int)) ?_ ?_
  · by_cases hge : O ≥ n
    · have hge' : (n : Int) ≤ (O : Int) := by omega
      have wd := natW (x := (O : Int) - (n : Int)) (O - n) (by omega) (by omega)
      simp only [if_pos hge]
      refine vcE.ex (by simp (disch := first | assumption | omega) only [exC, exOps, exOp, wantedE, ↓reduceIte, ROp.run, evsE, evE, t10, putE, ty, Nat.reduceEqDiff, t6, same, binA, intA, hge', decide_true, Option.map_some, wd]; rfl) ?_
      refine ⟨rfl, rfl, ?_, ?_, ?_, ?_, ?_, ?_, ?_⟩
      all_goals simp only [upd_app, Nat.reduceEqDiff, ↓reduceIte, t0, t1, t6, t7, t8, t9]
    · have hge' : ¬ (n : Int) ≤ (O : Int) := by omega
      simp only [if_neg hge]
      refine vcE.ex (by simp (disch := first | assumption | omega) only [exC, exOps, exOp, wantedE, ↓reduceIte, ROp.run, evsE, evE, t10, putE, ty, Nat.reduceEqDiff, t6, same, binA, intA, hge', decide_false, Option.map_some]; rfl) ?_
      refine ⟨rfl, rfl, ?_, ?_, ?_, ?_, ?_, ?_, ?_⟩
      all_goals simp only [upd_app, Nat.reduceEqDiff, ↓reduceIte, t0, t1, t6, t7, t8, t9, t10]
  clear t0 t1 t6 t7 t8 t9 t10
  rintro e' tm hp' ⟨rfl, rfl, t0, t1, t6, t7, t8, t9, t10⟩
  have hoth : (if O ≥ n then O - n else O : Nat) < n := by split <;> omega
  generalize (if O ≥ n then O - n else O : Nat) = o at *
  have g1 : q - 1 + t < dk.size := by omega
  have g2 : a + o < dk.size := by omega
  have x1 := s2.get g1
  have y1 := hv.at_ hdk g1
  have y2 := hv.at_ hdk g2
  have p1 := pick_at (L := L) g1
  have p2 := pick_at (L := L) g2
  have wo := natW (x := (a : Int) + (o : Int)) (a + o) (by omega) (by omega)
  obtain ⟨z1, z2, hst1, hst2, s3, hk3⟩ := s2.swapk g1 g2
  refine vcE.ex (by simp (disch := first | assumption | omega) only [exC, chain, ordered, List.getElem?_cons_zero, List.getElem?_cons_succ, exOps.eq_2, exOp, wantedE, ↓reduceIte, ROp.run, evsE, evE, t0, putE, exOps, ty, Nat.reduceEqDiff, t9, reduceCtorEq, t1, t10, same, binA, intA, wo, Option.map_some, y2, loadA, rowA, x1, ↓p2, y1, ↓p1, ↓hst1, ↓hst2, cond_true]; rfl) ?_
  refine ⟨rfl, s3, by rw [hk3 _ hrne]; exact hr2, ?_, ?_, ?_, ?_, ?_, ?_⟩
  all_goals simp only [upd_app, Nat.reduceEqDiff, ↓reduceIte, t0, t1, t6, t7, t8, t9]
end
end
end Go.Gi
