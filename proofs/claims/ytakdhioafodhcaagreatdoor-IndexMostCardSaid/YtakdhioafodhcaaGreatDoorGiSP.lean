/- slices.Sort, as compiled, for elements that lie in one cell: what is common to all its functions; insertion sort, sifting, heap sort, turning round, the median. -/
import Derived.Test.YtakdhioafodhcaaGreatDoorGiSL
import Derived.Sort.AssemblyPlain
set_option linter.unusedVariables false
set_option linter.unusedSimpArgs false
set_option linter.unusedSectionVars false
namespace Go.Gi
open _root_.Bool renaming false_eq_true → qA, false_and → xR, not_true → xB, true_and → xQ
open _root_.Int renaming ofNat_lt → qT, ofNat_le → xG
open _root_.Go.IntKind renaming wrap → qU
open _root_.List renaming getElem?_eq_some_iff → qf, getElem?_append_left → qm, getElem?_set_self → xf, getElem?_set_ne → qv, length_set → xU
open _root_.Nat renaming reduceEqDiff → qa, le_refl → qk
set_option linter.unusedSectionVars false
variable [Mx]
open Go
structure El1 (α:Type) where
 E:Enc α
 v:α→AV
 hv:∀ a,E.c a=[v a]
 one:∀ a,oneA (v a)=true
 nt:∀ a vs,v a≠.tup vs
 ce:∀ a,cellsA (v a)=E.c a
 nv:∀ a,nid (v a)=true
 fz:∀ hp a,frz hp (v a)=some (v a)
abbrev insR0 (less:FuncId):List IOp:=[mv 8 1,
 zk 9 (.bin .add .prim) 8 (.int .i64 1),
 mv 6 9]
abbrev insR1 (less:FuncId):List IOp:=[mv 10 6,
 mv 11 2,
 z2 12 (.bin .lss .prim) 10 11]
abbrev insR2 (less:FuncId):List IOp:=[mv 15 6,
 mv 7 15]
abbrev insR3 (less:FuncId):List IOp:=[mv 16 7,
 mv 17 1,
 z2 18 (.bin .gtr .prim) 16 17,
 mv 19 18,
 o2 20 (.mov) [.t 0] 19 true,
 o2 21 (.mov) [.t 7] 19 true,
 o2 22 (.iaddr 1) [.t 20,.t 21] 19 true,
 o2 23 (.load none) [.t 22] 19 true,
 o2 24 (.mov) [.t 0] 19 true,
 o2 25 (.mov) [.t 7] 19 true,
 o2 26 (.bin .sub .prim) [.t 25,.c (.int .i64 1)] 19 true,
 o2 27 (.iaddr 1) [.t 24,.t 26] 19 true,
 o2 28 (.load none) [.t 27] 19 true,
 ⟨some 29,.call none,[.f less,.t 23,.t 28],some (19,true)⟩,
 o1 30 (.pick) [.t 19,.t 29,.c (.bool false)]]
abbrev insR4 (less:FuncId):List IOp:=[mv 33 0,
 mv 34 7,
 mv 35 0,
 mv 36 7,
 zk 37 (.bin .sub .prim) 36 (.int .i64 1),
 mv 38 0,
 mv 39 7,
 zk 40 (.bin .sub .prim) 39 (.int .i64 1),
 z2 41 (.iaddr 1) 38 40,
 z1 42 (.load none) 41,
 mv 43 0,
 mv 44 7,
 z2 45 (.iaddr 1) 43 44,
 z1 46 (.load none) 45,
 z2 47 (.iaddr 1) 33 34,
 sr 1 [.t 47,.t 42],
 z2 48 (.iaddr 1) 35 37,
 sr 1 [.t 48,.t 46]]
abbrev insR5 (less:FuncId):List IOp:=[mv 31 7,
 zk 32 (.bin .sub .prim) 31 (.int .i64 1),
 mv 7 32]
abbrev insB0 (less:FuncId):IC:=(IC.seq (IC.seq (IC.regD .wild (insR3 less) (.take 0 (.take 1 (.take 2 (.take 3 (.take 4 (.take 5 (.take 6 (.take 7 (.take 8 (.take 9 (.take 10 (.take 11 (.take 12 (.take 13 (.take 14 (.done))))))))))))))))) (IC.cond (.t 30) IC.skip (IC.exit 2))) (IC.seq (IC.block 3 (IC.regD .wild (insR4 less) (.take 0 (.take 1 (.take 2 (.take 3 (.take 4 (.take 5 (.take 6 (.take 7 (.take 8 (.take 9 (.take 10 (.take 11 (.take 12 (.take 13 (.take 14 (.take 15 (.take 16 (.take 17 (.done))))))))))))))))))))) (IC.reg (insR5 less))))
abbrev insR6 (less:FuncId):List IOp:=[mv 13 6,
 zk 14 (.bin .add .prim) 13 (.int .i64 1),
 mv 6 14]
abbrev insB1 (less:FuncId):IC:=(IC.seq (IC.seq (IC.reg (insR1 less)) (IC.cond (.t 12) IC.skip (IC.exit 0))) (IC.seq (IC.block 1 (IC.seq (IC.reg (insR2 less)) (IC.block 2 (IC.loop (insB0 less))))) (IC.reg (insR6 less))))
abbrev insC (less:FuncId):IC:=(IC.seq (IC.reg (insR0 less)) (IC.block 0 (IC.loop (insB1 less))))
abbrev insN:Nat:=49
abbrev sdR0 (less:FuncId):List IOp:=[mv 10 1,
 mv 8 10]
abbrev sdR1 (less:FuncId):List IOp:=[mv 11 8,
 o1 12 (.bin .mul .prim) [.c (.int .i64 2),.t 11],
 zk 13 (.bin .add .prim) 12 (.int .i64 1),
 mv 9 13]
abbrev sdR2 (less:FuncId):List IOp:=[mv 14 9,
 mv 15 2,
 z2 16 (.bin .geq .prim) 14 15]
abbrev sdR3 (less:FuncId):List IOp:=[mv 17 9,
 zk 18 (.bin .add .prim) 17 (.int .i64 1),
 mv 19 2,
 z2 20 (.bin .lss .prim) 18 19,
 mv 21 20,
 o2 22 (.mov) [.t 0] 21 true,
 o2 23 (.mov) [.t 3] 21 true,
 o2 24 (.mov) [.t 9] 21 true,
 o2 25 (.bin .add .prim) [.t 23,.t 24] 21 true,
 o2 26 (.iaddr 1) [.t 22,.t 25] 21 true,
 o2 27 (.load none) [.t 26] 21 true,
 o2 28 (.mov) [.t 0] 21 true,
 o2 29 (.mov) [.t 3] 21 true,
 o2 30 (.mov) [.t 9] 21 true,
 o2 31 (.bin .add .prim) [.t 29,.t 30] 21 true,
 o2 32 (.bin .add .prim) [.t 31,.c (.int .i64 1)] 21 true,
 o2 33 (.iaddr 1) [.t 28,.t 32] 21 true,
 o2 34 (.load none) [.t 33] 21 true,
 ⟨some 35,.call none,[.f less,.t 27,.t 34],some (21,true)⟩,
 o1 36 (.pick) [.t 21,.t 35,.c (.bool false)]]
abbrev sdR4 (less:FuncId):List IOp:=[mv 37 9,
 zk 38 (.bin .add .prim) 37 (.int .i64 1),
 mv 9 38]
abbrev sdR5 (less:FuncId):List IOp:=[mv 39 0,
 mv 40 3,
 mv 41 8,
 z2 42 (.bin .add .prim) 40 41,
 z2 43 (.iaddr 1) 39 42,
 z1 44 (.load none) 43,
 mv 45 0,
 mv 46 3,
 mv 47 9,
 z2 48 (.bin .add .prim) 46 47,
 z2 49 (.iaddr 1) 45 48,
 z1 50 (.load none) 49,
 ca 51 [.f less,.t 44,.t 50],
 z1 52 (.un .not) 51]
abbrev sdR6 (less:FuncId):List IOp:=[mv 53 0,
 mv 54 3,
 mv 55 8,
 z2 56 (.bin .add .prim) 54 55,
 mv 57 0,
 mv 58 3,
 mv 59 9,
 z2 60 (.bin .add .prim) 58 59,
 mv 61 0,
 mv 62 3,
 mv 63 9,
 z2 64 (.bin .add .prim) 62 63,
 z2 65 (.iaddr 1) 61 64,
 z1 66 (.load none) 65,
 mv 67 0,
 mv 68 3,
 mv 69 8,
 z2 70 (.bin .add .prim) 68 69,
 z2 71 (.iaddr 1) 67 70,
 z1 72 (.load none) 71,
 z2 73 (.iaddr 1) 53 56,
 sr 1 [.t 73,.t 66],
 z2 74 (.iaddr 1) 57 60,
 sr 1 [.t 74,.t 72]]
abbrev sdR7 (less:FuncId):List IOp:=[mv 75 9,
 mv 8 75]
abbrev sdB0 (less:FuncId):IC:=(IC.block 1 (IC.seq (IC.reg (sdR1 less)) (IC.seq (IC.seq (IC.reg (sdR2 less)) (IC.cond (.t 16) (IC.exit 0) IC.skip)) (IC.seq (IC.seq (IC.regD .wild (sdR3 less) (.take 0 (.take 1 (.take 2 (.take 3 (.take 4 (.take 5 (.take 6 (.take 7 (.take 8 (.take 9 (.take 10 (.take 11 (.take 12 (.take 13 (.take 14 (.take 15 (.take 16 (.take 17 (.take 18 (.take 19 (.done)))))))))))))))))))))) (IC.cond (.t 36) (IC.reg (sdR4 less)) IC.skip)) (IC.seq (IC.seq (IC.regD .wild (sdR5 less) (.take 0 (.take 1 (.take 2 (.take 3 (.take 4 (.take 5 (.take 6 (.take 7 (.take 8 (.take 9 (.take 10 (.take 11 (.take 12 (.take 13 (.done)))))))))))))))) (IC.cond (.t 52) IC.ret IC.skip)) (IC.seq (IC.regD .wild (sdR6 less) (.take 0 (.take 1 (.take 2 (.take 3 (.take 4 (.take 5 (.take 6 (.take 7 (.take 8 (.take 9 (.take 10 (.take 11 (.take 12 (.take 13 (.take 14 (.take 15 (.take 16 (.take 17 (.take 18 (.take 19 (.take 20 (.take 21 (.take 22 (.take 23 (.done)))))))))))))))))))))))))) (IC.reg (sdR7 less))))))))
abbrev sdC (less:FuncId):IC:=(IC.seq (IC.reg (sdR0 less)) (IC.block 0 (IC.loop (sdB0 less))))
abbrev sdN:Nat:=76
abbrev hsR0 (fsd:FuncId):List IOp:=[mv 11 1,
 mv 6 11]
abbrev hsR1 (fsd:FuncId):List IOp:=[o1 7 (.mov) [.c (.int .i64 0)]]
abbrev hsR2 (fsd:FuncId):List IOp:=[mv 12 2,
 mv 13 1,
 z2 14 (.bin .sub .prim) 12 13,
 mv 8 14]
abbrev hsR3 (fsd:FuncId):List IOp:=[mv 15 8,
 zk 16 (.bin .sub .prim) 15 (.int .i64 1),
 zk 17 (.bin .quo .prim) 16 (.int .i64 2),
 mv 9 17]
abbrev hsR4 (fsd:FuncId):List IOp:=[mv 18 9,
 zk 19 (.bin .geq .prim) 18 (.int .i64 0)]
abbrev hsR5 (fsd:FuncId):List IOp:=[mv 22 0,
 mv 23 9,
 mv 24 8,
 mv 25 6,
 ca 26 [.f fsd,.t 22,.t 23,.t 24,.t 25]]
abbrev hsR6 (fsd:FuncId):List IOp:=[mv 20 9,
 zk 21 (.bin .sub .prim) 20 (.int .i64 1),
 mv 9 21]
abbrev hsB0 (fsd:FuncId):IC:=(IC.seq (IC.seq (IC.reg (hsR4 fsd)) (IC.cond (.t 19) IC.skip (IC.exit 0))) (IC.seq (IC.block 1 (IC.reg (hsR5 fsd))) (IC.reg (hsR6 fsd))))
abbrev hsR7 (fsd:FuncId):List IOp:=[mv 27 8,
 zk 28 (.bin .sub .prim) 27 (.int .i64 1),
 mv 10 28]
abbrev hsR8 (fsd:FuncId):List IOp:=[mv 29 10,
 zk 30 (.bin .geq .prim) 29 (.int .i64 0)]
abbrev hsR9 (fsd:FuncId):List IOp:=[mv 33 0,
 mv 34 6,
 mv 35 0,
 mv 36 6,
 mv 37 10,
 z2 38 (.bin .add .prim) 36 37,
 mv 39 0,
 mv 40 6,
 mv 41 10,
 z2 42 (.bin .add .prim) 40 41,
 z2 43 (.iaddr 1) 39 42,
 z1 44 (.load none) 43,
 mv 45 0,
 mv 46 6,
 z2 47 (.iaddr 1) 45 46,
 z1 48 (.load none) 47,
 z2 49 (.iaddr 1) 33 34,
 sr 1 [.t 49,.t 44],
 z2 50 (.iaddr 1) 35 38,
 sr 1 [.t 50,.t 48]]
abbrev hsR10 (fsd:FuncId):List IOp:=[mv 51 0,
 mv 52 7,
 mv 53 10,
 mv 54 6,
 ca 55 [.f fsd,.t 51,.t 52,.t 53,.t 54]]
abbrev hsR11 (fsd:FuncId):List IOp:=[mv 31 10,
 zk 32 (.bin .sub .prim) 31 (.int .i64 1),
 mv 10 32]
abbrev hsB1 (fsd:FuncId):IC:=(IC.seq (IC.seq (IC.reg (hsR8 fsd)) (IC.cond (.t 30) IC.skip (IC.exit 2))) (IC.seq (IC.block 3 (IC.seq (IC.regD .wild (hsR9 fsd) (.take 0 (.take 1 (.take 2 (.take 3 (.take 4 (.take 5 (.take 6 (.take 7 (.take 8 (.take 9 (.take 10 (.take 11 (.take 12 (.take 13 (.take 14 (.take 15 (.take 16 (.take 17 (.take 18 (.take 19 (.done)))))))))))))))))))))) (IC.reg (hsR10 fsd)))) (IC.reg (hsR11 fsd))))
abbrev hsC (fsd:FuncId):IC:=(IC.seq (IC.reg (hsR0 fsd)) (IC.seq (IC.reg (hsR1 fsd)) (IC.seq (IC.reg (hsR2 fsd)) (IC.seq (IC.seq (IC.reg (hsR3 fsd)) (IC.block 0 (IC.loop (hsB0 fsd)))) (IC.seq (IC.reg (hsR7 fsd)) (IC.block 2 (IC.loop (hsB1 fsd))))))))
abbrev hsN:Nat:=56
abbrev rvR0:List IOp:=[mv 8 1,
 mv 6 8]
abbrev rvR1:List IOp:=[mv 9 2,
 zk 10 (.bin .sub .prim) 9 (.int .i64 1),
 mv 7 10]
abbrev rvR2:List IOp:=[mv 11 6,
 mv 12 7,
 z2 13 (.bin .lss .prim) 11 12]
abbrev rvR3:List IOp:=[mv 14 0,
 mv 15 6,
 mv 16 0,
 mv 17 7,
 mv 18 0,
 mv 19 7,
 z2 20 (.iaddr 1) 18 19,
 z1 21 (.load none) 20,
 mv 22 0,
 mv 23 6,
 z2 24 (.iaddr 1) 22 23,
 z1 25 (.load none) 24,
 z2 26 (.iaddr 1) 14 15,
 sr 1 [.t 26,.t 21],
 z2 27 (.iaddr 1) 16 17,
 sr 1 [.t 27,.t 25]]
abbrev rvR4:List IOp:=[mv 28 6,
 zk 29 (.bin .add .prim) 28 (.int .i64 1),
 mv 6 29]
abbrev rvR5:List IOp:=[mv 30 7,
 zk 31 (.bin .sub .prim) 30 (.int .i64 1),
 mv 7 31]
abbrev rvB0:IC:=(IC.seq (IC.seq (IC.reg rvR2) (IC.cond (.t 13) IC.skip (IC.exit 0))) (IC.block 1 (IC.seq (IC.regD .wild rvR3 (.take 0 (.take 1 (.take 2 (.take 3 (.take 4 (.take 5 (.take 6 (.take 7 (.take 8 (.take 9 (.take 10 (.take 11 (.take 12 (.take 13 (.take 14 (.take 15 (.done)))))))))))))))))) (IC.seq (IC.reg rvR4) (IC.reg rvR5)))))
abbrev rvC:IC:=(IC.seq (IC.reg rvR0) (IC.seq (IC.reg rvR1) (IC.block 0 (IC.loop rvB0))))
abbrev rvN:Nat:=32
abbrev o2R0 (less:FuncId):List IOp:=[o1 8 (.mov) [.c (.int .i64 0)],
 o1 9 (.mov) [.c (.int .i64 0)]]
abbrev o2R1 (less:FuncId):List IOp:=[mv 10 0,
 mv 11 2,
 z2 12 (.iaddr 1) 10 11,
 z1 13 (.load none) 12,
 mv 14 0,
 mv 15 1,
 z2 16 (.iaddr 1) 14 15,
 z1 17 (.load none) 16,
 ca 18 [.f less,.t 13,.t 17]]
abbrev o2R2 (less:FuncId):List IOp:=[mv 19 3,
 z1 20 (.nilchk) 19,
 z1 21 (.load none) 20,
 zk 22 (.bin .add .prim) 21 (.int .i64 1),
 z1 23 (.nilchk) 19,
 sr 1 [.t 23,.t 22]]
abbrev o2R3 (less:FuncId):List IOp:=[mv 24 2,
 mv 25 1,
 mv 8 24,
 mv 9 25]
abbrev o2R4 (less:FuncId):List IOp:=[mv 26 1,
 mv 27 2,
 mv 8 26,
 mv 9 27]
abbrev o2C (less:FuncId):IC:=(IC.seq (IC.reg (o2R0 less)) (IC.seq (IC.seq (IC.regD .wild (o2R1 less) (.take 0 (.take 1 (.take 2 (.take 3 (.take 4 (.take 5 (.take 6 (.take 7 (.take 8 (.done))))))))))) (IC.cond (.t 18) (IC.seq (IC.reg (o2R2 less)) (IC.seq (IC.reg (o2R3 less)) IC.ret)) IC.skip)) (IC.seq (IC.reg (o2R4 less)) IC.ret)))
abbrev o2N:Nat:=28
abbrev mdR0 (fo2:FuncId):List IOp:=[o1 10 (.mov) [.c (.int .i64 0)]]
abbrev mdR1 (fo2:FuncId):List IOp:=[mv 12 0,
 mv 13 1,
 mv 14 2,
 mv 15 4,
 ca 16 [.f fo2,.t 12,.t 13,.t 14,.t 15],
 mv 11 16,
 z1 17 (.extract 0) 11,
 z1 18 (.extract 1) 11,
 mv 1 17,
 mv 2 18]
abbrev mdR2 (fo2:FuncId):List IOp:=[mv 20 0,
 mv 21 2,
 mv 22 3,
 mv 23 4,
 ca 24 [.f fo2,.t 20,.t 21,.t 22,.t 23],
 mv 19 24,
 z1 25 (.extract 0) 19,
 z1 26 (.extract 1) 19,
 mv 2 25,
 mv 3 26]
abbrev mdR3 (fo2:FuncId):List IOp:=[mv 28 0,
 mv 29 1,
 mv 30 2,
 mv 31 4,
 ca 32 [.f fo2,.t 28,.t 29,.t 30,.t 31],
 mv 27 32,
 z1 33 (.extract 0) 27,
 z1 34 (.extract 1) 27,
 mv 1 33,
 mv 2 34]
abbrev mdR4 (fo2:FuncId):List IOp:=[mv 35 2,
 mv 10 35]
abbrev mdC (fo2:FuncId):IC:=(IC.seq (IC.reg (mdR0 fo2)) (IC.seq (IC.reg (mdR1 fo2)) (IC.seq (IC.reg (mdR2 fo2)) (IC.seq (IC.reg (mdR3 fo2)) (IC.seq (IC.reg (mdR4 fo2)) IC.ret)))))
abbrev mdN:Nat:=36
abbrev maR0 (fmd:FuncId):List IOp:=[o1 6 (.mov) [.c (.int .i64 0)]]
abbrev maR1 (fmd:FuncId):List IOp:=[mv 7 0,
 mv 8 1,
 zk 9 (.bin .sub .prim) 8 (.int .i64 1),
 mv 10 1,
 mv 11 1,
 zk 12 (.bin .add .prim) 11 (.int .i64 1),
 mv 13 2,
 ca 14 [.f fmd,.t 7,.t 9,.t 10,.t 12,.t 13],
 mv 6 14]
abbrev maC (fmd:FuncId):IC:=(IC.seq (IC.reg (maR0 fmd)) (IC.seq (IC.reg (maR1 fmd)) IC.ret))
abbrev maN:Nat:=15
section
variable {α:Type} [Inhabited α] (L:El1 α)
theorem El1.sz:L.E.sz=1:=by
 have:=L.E.len default
 rw[L.hv] at this
 exact this.symm
theorem arr_get {d:Array α} {i:Nat} (h:i<d.size):d.toList[i]? = some d[i]!:=by
 rw[Array.getElem?_toList,Array.getElem?_eq_getElem h,getElem!_pos d i h]
structure Srt (e:TypeId) (id:Nat) (hp0 hp:HP) (d:Array α):Prop where
 row:d.size=0∨hp[id]? = some (some (.row e (L.E.cs d.toList)))
 oth:∀ k,k≠id→k<hp0.length→hp[k]? = hp0[k]?
 len:hp0.length≤hp.length
def SlA (id:Nat) (d:Array α) (v:AV):Prop:=(∀ i:Nat,i<d.size→iaddrA 1 v (.int .i64 (i:Int))=some (.ptr id i))∧d.size≤1000000000000000000
theorem SlA.at_ {id:Nat} {d d':Array α} {v:AV} (h:SlA id d v) (hs:d'.size=d.size) {i:Nat} (hi:i<d'.size):iaddrA 1 v (.int .i64 (i:Int))=some (.ptr id i):=h.1 i (by omega)
theorem SlA.of {id:Nat} {d d':Array α} {v:AV} (h:SlA id d v) (hs:d'.size=d.size):SlA id d' v:=⟨fun i hi=>h.1 i (by omega),by rw[hs]; exact h.2⟩
variable {L} {e:TypeId} {id:Nat} {hp0 hp:HP} {d:Array α}
theorem Srt.get (s:Srt L e id hp0 hp d) {i:Nat} (hi:i<d.size):hp[id]? = some (some (.row e (L.E.cs d.toList))):=s.row.resolve_left (by omega)
theorem pick_at {i:Nat} (hi:i<d.size):pickA none (L.E.cs d.toList) i=some (L.v d[i]!):=L.E.pick1 L.sz (arr_get hi) (L.hv _) (L.one _)
theorem Srt.set (s:Srt L e id hp0 hp d) {i:Nat} (hi:i<d.size) (x:α):storeA hp 1 (.ptr id i) (L.v x)=some (hp.set id (some (.row e (L.E.cs (d.setIfInBounds i x).toList))))∧Srt L e id hp0 (hp.set id (some (.row e (L.E.cs (d.setIfInBounds i x).toList)))) (d.setIfInBounds i x):=by
 have hg:=s.get hi
 have hlt:id<hp.length:=(qf.1 hg).1
 refine⟨?_,⟨.inr ?_,fun k hk hl=>?_,?_⟩⟩
 ·have:=L.E.sl_store1 L.sz hg (i:=i) (by simpa using hi) (b:=x) (L.ce x) (L.nt x)
  rw[Array.toList_setIfInBounds]
  exact this
 ·rw[xf hlt]
 ·rw[qv (Ne.symm hk)]
  exact s.oth k hk hl
 ·rw[xU]
  exact s.len
theorem Srt.swap (s:Srt L e id hp0 hp d) {i j:Nat} (hi:i<d.size) (hj:j<d.size):∃ hp1 hp2,storeA hp 1 (.ptr id i) (L.v d[j]!)=some hp1∧storeA hp1 1 (.ptr id j) (L.v d[i]!)=some hp2∧Srt L e id hp0 hp2 (Sort.swp d i j):=by
 obtain⟨h1,s1⟩:=s.set hi d[j]!
 obtain⟨h2,s2⟩:=s1.set (i:=j) (by simpa using hj) d[i]!
 exact⟨_,_,h1,h2,s2⟩
theorem Srt.refl (h:d.size=0∨hp[id]? = some (some (.row e (L.E.cs d.toList)))):Srt L e id hp hp d:=⟨h,fun _ _ _=>rfl,qk _⟩
theorem Srt.app (s:Srt L e id hp0 hp d) (ys:HP):Srt L e id hp0 (hp++ys) d:=by
 refine⟨s.row.imp (fun h=>h) fun h=>?_,fun k hk hl=>?_,?_⟩
 ·rw[qm (qf.1 h).1]
  exact h
 ·rw[qm (by have:=s.len; omega)]
  exact s.oth k hk hl
 ·rw[List.length_append]
  have:=s.len
  omega
end
section
variable {α:Type} [Inhabited α] {L:El1 α} {lt:α→α→Bool} {P:Program} {T:Tab} {less:FuncId} {hint:Nat→Nat} {f:FuncId} {e:TypeId} {id:Nat} {hp0 hp:HP} {d:Array α} {v:AV}
def Lss (L:El1 α) (lt:α→α→Bool) (T:Tab) (less:FuncId):Prop:=∀ x y,T less [L.v x,L.v y]=some (.rd true (.bool (lt x y)))
theorem ins_calls (hm:P.follows .mixedOrders=true) (hT:TabOk P T) (hless:Lss L lt T less) (hf:compF P hint f=some ⟨insC less,insN,[]⟩) (s:Srt L e id hp0 hp d) (hv:SlA id d v) {a b:Nat} (hb:b≤d.size) (ha:a≤d.size):ACalls P f [v,.int .i64 a,.int .i64 b] hp fun r hp'=>r=.tup []∧Srt L e id hp0 hp' (Sort.insertionSort lt d a b):=by
 refine calls_e hm hT hf (by rfl) (by simp[insN]) ?_
 have hsz:=hv.2
 have hw0:qU .i64 ((a:Int)+1)=((a+1:Nat):Int):=by rw[wrap_i64 (by omega) (by omega)]; rfl
 have hfz:=L.fz
 refine vcE.step (by simp (disch:=first|assumption|omega) only[go_sem,↓reduceIte,hw0]; rfl) (vcE.block (vcE.loop (by intro l tm hp h; simp[RetE] at h) (fun k tm hp => ∃ (i:Nat) (d':Array α),k=b - i∧d'.size=d.size∧Srt L e id hp0 hp d'∧Sort.insOuter lt a b i d'=Sort.insertionSort lt d a b∧tm 0=v∧tm 1=.int .i64 a∧tm 2=.int .i64 b∧tm 6=.int .i64 i∧i≤d.size+1) (b - (a+1)) ⟨a+1,d,rfl,rfl,s,rfl,rfl,rfl,rfl,rfl,by omega⟩ ?_))
 rintro k tm hp ⟨i,d1,rfl,hd1,s1,hs,t0,t1,t2,t6,hi1⟩
 by_cases hi:i<b
 rotate_left
 ·refine vcE.ex (by simp (disch:=first|assumption|omega) only[go_sem,↓reduceIte,qa,t2,t6]; rfl) ?_
  refine⟨.tup [],rfl,rfl,?_⟩
  rw[Sort.insOuter,if_neg hi] at hs
  rw[← hs]
  exact s1
 rw[Sort.insOuter,if_pos hi] at hs
 have hw6:qU .i64 ((i:Int)+1)=((i+1:Nat):Int):=by rw[wrap_i64 (by omega) (by omega)]; rfl
 refine vcE.step (by simp (disch:=first|assumption|omega) only[go_sem,↓reduceIte,qa,t2,t6]; rfl) ?_
 refine vcE.then (fun e' tm' hp'=>e'=.normal∧Srt L e id hp0 hp' (Sort.insInner lt a i d1)∧(Sort.insInner lt a i d1).size=d.size∧tm' 0=v∧tm' 1=.int .i64 a∧tm' 2=.int .i64 b∧tm' 6=.int .i64 i) ?_ ?_
 ·refine vcE.block (vcE.step (by simp (disch:=first|assumption|omega) only[go_sem,↓reduceIte,qa,t6]; rfl) (vcE.block (vcE.loop (by intro l tm hp h; simp at h) (fun j tm hp => ∃ d':Array α,j≤i∧d'.size=d.size∧Srt L e id hp0 hp d'∧Sort.insInner lt a j d'=Sort.insInner lt a i d1∧tm 0=v∧tm 1=.int .i64 a∧tm 2=.int .i64 b∧tm 6=.int .i64 i∧tm 7=.int .i64 j) i ⟨d1,qk _,hd1,s1,rfl,by simp only[upd_app,qa,↓reduceIte,t0],by simp only[upd_app,qa,↓reduceIte,t1],by simp only[upd_app,qa,↓reduceIte,t2],by simp only[upd_app,qa,↓reduceIte,t6],rfl⟩ ?_)))
  rintro j tm hp ⟨d2,hji,hd2,s2,hs2,t0,t1,t2,t6,t7⟩
  have fin:∀ {tm':Env},Sort.insInner lt a j d2=d2→tm' 0=v→tm' 1=.int .i64 a→tm' 2=.int .i64 b→tm' 6=.int .i64 i→Srt L e id hp0 hp (Sort.insInner lt a i d1)∧(Sort.insInner lt a i d1).size=d.size∧tm' 0=v∧tm' 1=.int .i64 a∧tm' 2=.int .i64 b∧tm' 6=.int .i64 i:=by
   intro tm' h u0 u1 u2 u6
   rw[← hs2,h]
   exact⟨s2,hd2,u0,u1,u2,u6⟩
  by_cases hj:a<j
  rotate_left
  ·refine vcE.ex (by simp (disch:=first|assumption|omega) only[go_sem,exOps.eq_2,↓reduceIte,t7,qa,t1,gt_iff_lt]; rfl) ?_
   refine⟨rfl,fin ?_ ?_ ?_ ?_ ?_⟩
   ·cases j with
    | zero=>rfl
    | succ j=>rw[Sort.insInner,decide_eq_false (by omega),xR,if_neg (by simp)]
   all_goals simp only[upd_app,qa,↓reduceIte,t0,t1,t2,t6]
  obtain⟨j,rfl⟩:∃ j',j=j'+1:=⟨j - 1,by omega⟩
  have hj1:j+1<d2.size:=by omega
  have g2:=s2.get hj1
  have i1:=hv.at_ hd2 hj1
  have i2:=hv.at_ hd2 (i:=j) (by omega)
  have p1:=pick_at (L:=L) hj1
  have p2:=pick_at (L:=L) (d:=d2) (i:=j) (by omega)
  have hw7:qU .i64 (((j+1:Nat):Int) - 1)=((j:Nat):Int):=by rw[wrap_i64 (by omega) (by omega)]; omega
  have hc:=hless d2[j+1]! d2[j]!
  rw[Sort.insInner,decide_eq_true (show j+1 > a from hj),xQ] at hs2 fin
  cases hl:lt d2[j+1]! d2[j]! <;> rw[hl] at hc hs2 fin
  ·refine vcE.ex (by simp (disch:=first|assumption|omega) only[go_sem,exOps.eq_2,↓reduceIte,t7,qa,t1,gt_iff_lt,reduceCtorEq,t0,i1,g2,↓p1,hw7,i2,↓p2,frzL.eq_2,hfz,hc,nidL.eq_2]; rfl) ?_
   refine⟨rfl,fin (by simp) ?_ ?_ ?_ ?_⟩
   all_goals simp only[upd_app,qa,↓reduceIte,t0,t1,t2,t6]
  ·obtain⟨h1,h2,hst1,hst2,s3⟩:=s2.swap hj1 (j:=j) (by omega)
   refine vcE.ex (by simp (disch:=first|assumption|omega) only[go_sem,exOps.eq_2,↓reduceIte,t7,qa,t1,gt_iff_lt,reduceCtorEq,t0,i1,g2,↓p1,hw7,i2,↓p2,frzL.eq_2,hfz,hc,nidL.eq_2,↓hst1,↓hst2]; rfl) ?_
   refine⟨j,by omega,_,by omega,?_,s3,by simpa using hs2,?_,?_,?_,?_,?_⟩
   ·rw[Sort.swp_size]
    exact hd2
   all_goals simp only[upd_app,qa,↓reduceIte,t0,t1,t2,t6]
 ·rintro e' tm hp ⟨rfl,s2,hd2,t0,t1,t2,t6⟩
  refine vcE.ex (by simp (disch:=first|assumption|omega) only[go_sem,↓reduceIte,t6,hw6]; rfl) ?_
  refine⟨b - (i+1),by omega,i+1,_,rfl,hd2,s2,hs,?_,?_,?_,?_,by omega⟩
  all_goals simp only[upd_app,qa,↓reduceIte,t0,t1,t2]
theorem natW {x:Int} (n:Nat) (h:x=(n:Int)) (h2:n≤9000000000000000000):qU .i64 x=(n:Int):=by
 subst h
 exact wrap_i64 (by omega) (by omega)
theorem sd_calls (hm:P.follows .mixedOrders=true) (hT:TabOk P T) (hless:Lss L lt T less) (hf:compF P hint f=some ⟨sdC less,sdN,[]⟩) (s:Srt L e id hp0 hp d) (hv:SlA id d v) {lo hi first:Nat} (hfh:first+hi≤d.size) (hlo:lo≤d.size):ACalls P f [v,.int .i64 lo,.int .i64 hi,.int .i64 first] hp fun r hp'=>r=.tup []∧Srt L e id hp0 hp' (Sort.siftDown lt hi first lo d)∧(Sort.siftDown lt hi first lo d).size=d.size:=by
 refine calls_e hm hT hf (by rfl) (by simp[sdN]) ?_
 have hsz:=hv.2
 have hfz:=L.fz
 refine vcE.s1 (k:=vcE.block (vcE.loop (by intro l tm hp h; simp[RetE] at h) (fun k tm hp => ∃ (root:Nat) (d':Array α),k=hi - root∧root≤d.size∧d'.size=d.size∧Srt L e id hp0 hp d'∧Sort.siftDown lt hi first root d'=Sort.siftDown lt hi first lo d∧tm 0=v∧tm 2=.int .i64 hi∧tm 3=.int .i64 first∧tm 8=.int .i64 root) (hi - lo) ⟨lo,d,rfl,hlo,rfl,s,rfl,rfl,rfl,rfl,rfl⟩ ?_))
 rintro k tm hp ⟨root,d1,rfl,hroot,hd1,s1,hs,t0,t2,t3,t8⟩
 have stop:∀ {ex:Exit} {tm':Env},ex=.ret∨ex=.normal→Sort.siftDown lt hi first root d1=d1→RetE [] (fun r hp'=>r=.tup []∧Srt L e id hp0 hp' (Sort.siftDown lt hi first lo d)∧(Sort.siftDown lt hi first lo d).size=d.size) ex tm' hp:=by
  intro ex tm' hex h
  rw[← hs,h]
  rcases hex with rfl|rfl
  all_goals exact⟨.tup [],rfl,rfl,s1,hd1⟩
 have w1:=natW (x:=2*(root:Int)) (2*root) (by omega) (by omega)
 have w2:=natW (x:=((2*root:Nat):Int)+1) (2*root+1) (by omega) (by omega)
 have w3:=natW (x:=((2*root+1:Nat):Int)+1) (2*root+1+1) (by omega) (by omega)
 have w4:=natW (x:=(first:Int)+((2*root+1:Nat):Int)) (first+(2*root+1)) (by omega) (by omega)
 have w5:=natW (x:=((first+(2*root+1):Nat):Int)+1) (first+(2*root+1)+1) (by omega) (by omega)
 have w6:=natW (x:=(first:Int)+(root:Int)) (first+root) (by omega) (by omega)
 have w7:=natW (x:=(first:Int)+((2*root+1+1:Nat):Int)) (first+(2*root+1)+1) (by omega) (by omega)
 by_cases h1:hi≤2*root+1
 ·refine vcE.ex (by simp (disch:=first|assumption|omega) only[go_sem,↓reduceIte,t8,w1,w2,qa,t2,ge_iff_le,xG,h1,reduceCtorEq]; rfl) ?_
  refine stop (.inr rfl) ?_
  rw[Sort.siftDown,dif_pos h1]
 rw[Sort.siftDown,dif_neg h1] at hs stop
 have hc:first+(2*root+1)<d1.size:=by omega
 have hr:first+root<d1.size:=by omega
 have g1:=s1.get hc
 have i1:=hv.at_ hd1 hc
 have i2:=hv.at_ hd1 hr
 have p1:=pick_at (L:=L) hc
 have p2:=pick_at (L:=L) hr
 refine vcE.block (vcE.step (by simp (disch:=first|assumption|omega) only[go_sem,↓reduceIte,t8,w1,w2]; rfl) (vcE.step (by simp (disch:=first|assumption|omega) only[go_sem,↓reduceIte,qa,t2,ge_iff_le,xG,h1,decide_false]; rfl) ?_))
 -- the greater child
 refine vcE.then (fun e' tm' hp'=>e'=.normal∧hp'=hp∧tm' 0=v∧tm' 2=.int .i64 hi∧tm' 3=.int .i64 first∧tm' 8=.int .i64 root∧tm' 9=.int .i64 (if (decide (2*root+1+1<hi) && lt d1[first+(2*root+1)]! d1[first+(2*root+1)+1]!)=true then ((2*root+1+1:Nat):Int) else ((2*root+1:Nat):Int))) ?_ ?_
 ·by_cases h2:2*root+1+1<hi
  ·have hc2:first+(2*root+1)+1<d1.size:=by omega
   have i3:=hv.at_ hd1 hc2
   have p3:=pick_at (L:=L) hc2
   have hcl:=hless d1[first+(2*root+1)]! d1[first+(2*root+1)+1]!
   rw[decide_eq_true h2,xQ]
   cases hl:lt d1[first+(2*root+1)]! d1[first+(2*root+1)+1]! <;> rw[hl] at hcl
   ·refine vcE.ex (by simp (disch:=first|assumption|omega) only[go_sem,exOps.eq_2,↓reduceIte,qa,w3,t2,qT,h2,reduceCtorEq,t0,t3,w4,i1,g1,↓p1,w5,i3,↓p3,frzL.eq_2,hfz,hcl,nidL.eq_2]; rfl) ?_
    refine⟨rfl,rfl,?_,?_,?_,?_,?_⟩
    all_goals simp only[upd_app,qa,↓reduceIte,t0,t2,t3,t8,qA]
   ·refine vcE.ex (by simp (disch:=first|assumption|omega) only[go_sem,exOps.eq_2,↓reduceIte,qa,w3,t2,qT,h2,reduceCtorEq,t0,t3,w4,i1,g1,↓p1,w5,i3,↓p3,frzL.eq_2,hfz,hcl,nidL.eq_2]; rfl) ?_
    refine⟨rfl,rfl,?_,?_,?_,?_,?_⟩
    all_goals simp only[upd_app,qa,↓reduceIte,t0,t2,t3,t8]
  ·rw[decide_eq_false h2,xR]
   refine vcE.ex (by simp (disch:=first|assumption|omega) only[go_sem,exOps.eq_2,↓reduceIte,qa,w3,t2,qT,h2,decide_false]; rfl) ?_
   refine⟨rfl,rfl,?_,?_,?_,?_,?_⟩
   all_goals simp only[upd_app,qa,↓reduceIte,t0,t2,t3,t8,qA]
 clear t0 t2 t3 t8
 rintro e' tm hp' ⟨rfl,rfl,t0,t2,t3,t8,t9⟩
 by_cases hB:(decide (2*root+1+1<hi) && lt d1[first+(2*root+1)]! d1[first+(2*root+1)+1]!)=true
 ·rw[if_pos hB] at t9 hs stop
  have h2:2*root+1+1<hi:=by
   simp only[Bool.and_eq_true,decide_eq_true_eq] at hB
   exact hB.1
  have hc2:first+(2*root+1)+1<d1.size:=by omega
  have i3:=hv.at_ hd1 hc2
  have p3:=pick_at (L:=L) hc2
  have e2:first+(2*root+2)=first+(2*root+1)+1:=by omega
  rw[e2] at hs stop
  have hcl:=hless d1[first+root]! d1[first+(2*root+1)+1]!
  cases hl:lt d1[first+root]! d1[first+(2*root+1)+1]! <;> rw[hl] at hcl hs stop
  ·refine vcE.ex (by simp (disch:=first|assumption|omega) only[go_sem,exOps.eq_2,↓reduceIte,t0,qa,t3,t8,w6,i2,g1,↓p2,reduceCtorEq,t9,w7,i3,↓p3,frzL.eq_2,hfz,hcl,nidL.eq_2]; rfl) ?_
   exact stop (.inl rfl) (by simp)
  ·obtain⟨h1',h2',hst1,hst2,s3⟩:=s1.swap hr hc2
   refine vcE.ex (by simp (disch:=first|assumption|omega) only[go_sem,exOps.eq_2,↓reduceIte,t0,qa,t3,t8,w6,i2,g1,↓p2,reduceCtorEq,t9,w7,i3,↓p3,frzL.eq_2,hfz,hcl,nidL.eq_2,↓hst1,↓hst2]; rfl) ?_
   simp only[xB,qA,if_false] at hs
   rw[dif_pos (show 2*root+2<hi by omega)] at hs
   refine⟨hi - (2*root+2),by omega,2*root+2,_,rfl,by omega,?_,s3,hs,?_,?_,?_,?_⟩
   ·rw[Sort.swp_size]
    exact hd1
   all_goals simp only[upd_app,qa,↓reduceIte,t0,t2,t3]
 ·rw[if_neg hB] at t9 hs stop
  have hcl:=hless d1[first+root]! d1[first+(2*root+1)]!
  cases hl:lt d1[first+root]! d1[first+(2*root+1)]! <;> rw[hl] at hcl hs stop
  ·refine vcE.ex (by simp (disch:=first|assumption|omega) only[go_sem,exOps.eq_2,↓reduceIte,t0,qa,t3,t8,w6,i2,g1,↓p2,reduceCtorEq,t9,w4,i1,↓p1,frzL.eq_2,hfz,hcl,nidL.eq_2]; rfl) ?_
   exact stop (.inl rfl) (by simp)
  ·obtain⟨h1',h2',hst1,hst2,s3⟩:=s1.swap hr hc
   refine vcE.ex (by simp (disch:=first|assumption|omega) only[go_sem,exOps.eq_2,↓reduceIte,t0,qa,t3,t8,w6,i2,g1,↓p2,reduceCtorEq,t9,w4,i1,↓p1,frzL.eq_2,hfz,hcl,nidL.eq_2,↓hst1,↓hst2]; rfl) ?_
   simp only[xB,qA,if_false] at hs
   refine⟨hi - (2*root+1),by omega,2*root+1,_,rfl,by omega,?_,s3,hs,?_,?_,?_,?_⟩
   ·rw[Sort.swp_size]
    exact hd1
   all_goals simp only[upd_app,qa,↓reduceIte,t0,t2,t3]
theorem hs_calls (hm:P.follows .mixedOrders=true) (hT:TabOk P T) (hless:Lss L lt T less) {fsd:FuncId} {hint':Nat→Nat} (hsd:compF P hint' fsd=some ⟨sdC less,sdN,[]⟩) (hf:compF P hint f=some ⟨hsC fsd,hsN,[]⟩) (s:Srt L e id hp0 hp d) (hv:SlA id d v) {a b:Nat} (hab:a<b) (hb:b≤d.size):ACalls P f [v,.int .i64 a,.int .i64 b] hp fun r hp'=>r=.tup []∧Srt L e id hp0 hp' (Sort.heapSort lt d a b):=by
 refine calls_e hm hT hf (by rfl) (by simp[hsN]) ?_
 have hsz:=hv.2
 have w1:=natW (x:=(b:Int) - (a:Int)) (b - a) (by omega) (by omega)
 generalize hn:b - a=n at *
 have w2:qU .i64 ((n:Int) - 1)=(n:Int) - 1:=wrap_i64 (by omega) (by omega)
 have w3:((n:Int) - 1).tdiv 2=((n:Int) - 1) / 2:=Int.tdiv_eq_ediv_of_nonneg (by omega)
 have w4:qU .i64 (((n:Int) - 1) / 2)=(((n - 1) / 2+1:Nat):Int) - 1:=by rw[wrap_i64 (by omega) (by omega)]; omega
 unfold Sort.heapSort
 rw[hn]
 refine vcE.s1 (k:=vcE.s1 (k:=vcE.step (by simp (disch:=first|assumption|omega) only[go_sem,↓reduceIte,qa,w1]; rfl) ?_))
 refine vcE.then (fun e' tm hp'=>e'=.normal∧Srt L e id hp0 hp' (Sort.heapBuild lt n a ((n - 1) / 2+1) d)∧(Sort.heapBuild lt n a ((n - 1) / 2+1) d).size=d.size∧tm 0=v∧tm 6=.int .i64 a∧tm 7=.int .i64 ((0:Nat):Int)∧tm 8=.int .i64 n) ?_ ?_
 ·refine vcE.step (by simp (disch:=first|assumption|omega) only[go_sem,↓reduceIte,w2,w3,w4]; rfl) (vcE.block (vcE.loop (by intro l tm hp h; simp at h) (fun k tm hp => ∃ d':Array α,k≤(n - 1) / 2+1∧d'.size=d.size∧Srt L e id hp0 hp d'∧Sort.heapBuild lt n a k d'=Sort.heapBuild lt n a ((n - 1) / 2+1) d∧tm 0=v∧tm 6=.int .i64 a∧tm 7=.int .i64 ((0:Nat):Int)∧tm 8=.int .i64 n∧tm 9=.int .i64 ((k:Int) - 1)) ((n - 1) / 2+1) ⟨d,qk _,rfl,s,rfl,rfl,rfl,rfl,rfl,rfl⟩ ?_))
  rintro k tm hp ⟨d1,hk,hd1,s1,hs,t0,t6,t7,t8,t9⟩
  cases k with
  | zero =>
   have hge:¬ (0:Int)≤((0:Nat):Int) - 1:=by omega
   refine vcE.ex (by simp (disch:=first|assumption|omega) only[go_sem,↓reduceIte,t9,ge_iff_le,hge,decide_false]; rfl) ?_
   rw[Sort.heapBuild] at hs
   rw[← hs]
   refine⟨rfl,s1,hd1,?_,?_,?_,?_⟩
   all_goals simp only[upd_app,qa,↓reduceIte,t0,t6,t7,t8]
  | succ k =>
   have ek:((k+1:Nat):Int) - 1=(k:Int):=by omega
   rw[ek] at t9
   have hge:(0:Int)≤(k:Int):=by omega
   have w5:qU .i64 ((k:Int) - 1)=(k:Int) - 1:=wrap_i64 (by omega) (by omega)
   refine vcE.step (by simp (disch:=first|assumption|omega) only[go_sem,↓reduceIte,t9,ge_iff_le,hge,decide_true]; rfl) ?_
   refine vcE.then (fun e' tm' hp'=>e'=.normal∧Srt L e id hp0 hp' (Sort.siftDown lt n a k d1)∧(Sort.siftDown lt n a k d1).size=d1.size∧tm' 0=v∧tm' 6=.int .i64 a∧tm' 7=.int .i64 ((0:Nat):Int)∧tm' 8=.int .i64 n∧tm' 9=.int .i64 k) ?_ ?_
   ·rw[show hsR5 fsd=(hsR5 fsd).take 4++(hsR5 fsd).drop 4 from rfl]
    refine vcE.block (vcE.app (vcE.ex (by simp (disch:=first|assumption|omega) only[go_sem,↓reduceIte,qa,reduceCtorEq,t0,t6,t8,t9]; rfl) ⟨rfl,vcE.call (f:=fsd) (caps:=[]) (ys:=[v,.int .i64 k,.int .i64 n,.int .i64 a]) rfl ?_ (sd_calls hm hT hless hsd s1 (hv.of hd1) (lo:=k) (hi:=n) (first:=a) (by omega) (by omega)) ?_⟩))
    ·simp only[evsE,evE,upd_app,qa,↓reduceIte]
    ·rintro r hp' ⟨rfl,s2,hd2⟩
     refine⟨rfl,s2,hd2,?_,?_,?_,?_,?_⟩
     all_goals simp only[putE,upd_app,qa,↓reduceIte,t0,t6,t7,t8,t9]
   ·rintro e' tm' hp' ⟨rfl,s2,hd2,u0,u6,u7,u8,u9⟩
    refine vcE.ex (by simp (disch:=first|assumption|omega) only[go_sem,↓reduceIte,u9,w5]; rfl) ?_
    refine⟨k,by omega,_,by omega,by omega,s2,by rw[← hs,Sort.heapBuild],?_,?_,?_,?_,?_⟩
    all_goals simp only[upd_app,qa,↓reduceIte,u0,u6,u7,u8]
 ·rintro e' tm hp ⟨rfl,s1,hd1,t0,t6,t7,t8⟩
  generalize Sort.heapBuild lt n a ((n - 1) / 2+1) d=d1 at *
  refine vcE.step (by simp (disch:=first|assumption|omega) only[go_sem,↓reduceIte,t8,w2]; rfl) (vcE.block (vcE.loop (by intro l tm hp h; simp[RetE] at h) (fun k tm hp => ∃ d':Array α,k≤n∧d'.size=d.size∧Srt L e id hp0 hp d'∧Sort.heapPop lt a k d'=Sort.heapPop lt a n d1∧tm 0=v∧tm 6=.int .i64 a∧tm 7=.int .i64 ((0:Nat):Int)∧tm 10=.int .i64 ((k:Int) - 1)) n ⟨d1,qk _,hd1,s1,rfl,?_,?_,?_,rfl⟩ ?_))
  ·simp only[upd_app,qa,↓reduceIte,t0]
  ·simp only[upd_app,qa,↓reduceIte,t6]
  ·simp only[upd_app,qa,↓reduceIte,t7]
  clear t0 t6 t7 t8
  rintro k tm hp ⟨d2,hk,hd2,s2,hs,t0,t6,t7,t10⟩
  cases k with
  | zero =>
   have hge:¬ (0:Int)≤((0:Nat):Int) - 1:=by omega
   refine vcE.ex (by simp (disch:=first|assumption|omega) only[go_sem,↓reduceIte,t10,ge_iff_le,hge,decide_false]; rfl) ?_
   rw[Sort.heapPop] at hs
   rw[← hs]
   exact⟨.tup [],rfl,rfl,s2⟩
  | succ k =>
   have ek:((k+1:Nat):Int) - 1=(k:Int):=by omega
   rw[ek] at t10
   have hge:(0:Int)≤(k:Int):=by omega
   have w5:qU .i64 ((k:Int) - 1)=(k:Int) - 1:=wrap_i64 (by omega) (by omega)
   have w6:=natW (x:=(a:Int)+(k:Int)) (a+k) (by omega) (by omega)
   have ha:a<d2.size:=by omega
   have hak:a+k<d2.size:=by omega
   have g1:=s2.get ha
   have i1:=hv.at_ hd2 ha
   have i2:=hv.at_ hd2 hak
   have p1:=pick_at (L:=L) ha
   have p2:=pick_at (L:=L) hak
   obtain⟨x1,x2,hst1,hst2,s3⟩:=s2.swap ha hak
   refine vcE.step (by simp (disch:=first|assumption|omega) only[go_sem,↓reduceIte,t10,ge_iff_le,hge,decide_true]; rfl) ?_
   refine vcE.then (fun e' tm' hp'=>e'=.normal∧Srt L e id hp0 hp' (Sort.siftDown lt k a 0 (Sort.swp d2 a (a+k)))∧(Sort.siftDown lt k a 0 (Sort.swp d2 a (a+k))).size=(Sort.swp d2 a (a+k)).size∧tm' 0=v∧tm' 6=.int .i64 a∧tm' 7=.int .i64 ((0:Nat):Int)∧tm' 10=.int .i64 k) ?_ ?_
   ·refine vcE.block (vcE.step (by simp (disch:=first|assumption|omega) only[go_sem,exOps.eq_2,↓reduceIte,reduceCtorEq,t0,qa,t6,t10,w6,i2,g1,↓p2,i1,↓p1,↓hst1,↓hst2]; rfl) ?_)
    rw[show hsR10 fsd=(hsR10 fsd).take 4++(hsR10 fsd).drop 4 from rfl]
    refine vcE.app (vcE.ex (by simp (disch:=first|assumption|omega) only[go_sem,↓reduceIte,qa,reduceCtorEq,t0,t6,t7,t10]; rfl) ⟨rfl,vcE.call (f:=fsd) (caps:=[]) (ys:=[v,.int .i64 ((0:Nat):Int),.int .i64 k,.int .i64 a]) rfl ?_ (sd_calls hm hT hless hsd s3 (hv.of (by rw[Sort.swp_size]; exact hd2)) (lo:=0) (hi:=k) (first:=a) (by rw[Sort.swp_size]; omega) (by omega)) ?_⟩)
    ·simp only[evsE,evE,upd_app,qa,↓reduceIte]
    ·rintro r hp' ⟨rfl,s4,hd4⟩
     refine⟨rfl,s4,hd4,?_,?_,?_,?_⟩
     all_goals simp only[putE,upd_app,qa,↓reduceIte,t0,t6,t7,t10]
   ·rintro e' tm' hp' ⟨rfl,s4,hd4,u0,u6,u7,u10⟩
    refine vcE.ex (by simp (disch:=first|assumption|omega) only[go_sem,↓reduceIte,u10,w5]; rfl) ?_
    refine⟨k,by omega,_,by omega,by rw[hd4,Sort.swp_size]; exact hd2,s4,by rw[← hs,Sort.heapPop],?_,?_,?_,?_⟩
    all_goals simp only[upd_app,qa,↓reduceIte,u0,u6,u7]
theorem rv_calls (hm:P.follows .mixedOrders=true) (hT:TabOk P T) (hf:compF P hint f=some ⟨rvC,rvN,[]⟩) (s:Srt L e id hp0 hp d) (hv:SlA id d v) {a b:Nat} (hab:a<b) (hb:b≤d.size):ACalls P f [v,.int .i64 a,.int .i64 b] hp fun r hp'=>r=.tup []∧Srt L e id hp0 hp' (Sort.reverseRange d a b)∧(Sort.reverseRange d a b).size=d.size:=by
 refine calls_e hm hT hf (by rfl) (by simp[rvN]) ?_
 have hsz:=hv.2
 have w1:=natW (x:=(b:Int) - 1) (b - 1) (by omega) (by omega)
 unfold Sort.reverseRange
 refine vcE.s1 (k:=vcE.step (by simp (disch:=first|assumption|omega) only[go_sem,↓reduceIte,qa,w1]; rfl) (vcE.block (vcE.loop (by intro l tm hp h; simp[RetE] at h) (fun k tm hp => ∃ (i j:Nat) (d':Array α),k=j - i∧i≤d.size∧j<d.size∧d'.size=d.size∧Srt L e id hp0 hp d'∧Sort.reverseLoop i j d'=Sort.reverseLoop a (b - 1) d∧tm 0=v∧tm 6=.int .i64 i∧tm 7=.int .i64 j) (b - 1 - a) ⟨a,b - 1,d,rfl,by omega,by omega,rfl,s,rfl,rfl,rfl,rfl⟩ ?_)))
 rintro k tm hp ⟨i,j,d1,rfl,hi,hj,hd1,s1,hs,t0,t6,t7⟩
 rw[Sort.reverseLoop] at hs
 by_cases h:i<j
 rotate_left
 ·rw[if_neg h] at hs
  refine vcE.ex (by simp (disch:=first|assumption|omega) only[go_sem,↓reduceIte,t6,qa,t7,qT,h,decide_false]; rfl) ?_
  rw[← hs]
  exact⟨.tup [],rfl,rfl,s1,hd1⟩
 rw[if_pos h] at hs
 have h1:i<d1.size:=by omega
 have h2:j<d1.size:=by omega
 have g1:=s1.get h1
 have i1:=hv.at_ hd1 h1
 have i2:=hv.at_ hd1 h2
 have p1:=pick_at (L:=L) h1
 have p2:=pick_at (L:=L) h2
 obtain⟨x1,x2,hst1,hst2,s3⟩:=s1.swap h1 h2
 have w2:=natW (x:=(i:Int)+1) (i+1) (by omega) (by omega)
 have w3:=natW (x:=(j:Int) - 1) (j - 1) (by omega) (by omega)
 refine vcE.ex (by simp (disch:=first|assumption|omega) only[go_sem,↓reduceIte,t6,qa,t7,qT,h,exOps.eq_2,reduceCtorEq,t0,i2,g1,↓p2,i1,↓p1,↓hst1,↓hst2,w2,w3]; rfl) ?_
 refine⟨j - 1 - (i+1),by omega,i+1,j - 1,_,rfl,by omega,by omega,by rw[Sort.swp_size]; exact hd1,s3,hs,?_,?_,?_⟩
 all_goals simp only[upd_app,qa,↓reduceIte,t0]
theorem Srt.other (s:Srt L e id hp0 hp d) {k:Nat} (hk:hp0.length≤k) (hne:k≠id) (x:Option Blk):Srt L e id hp0 (hp.set k x) d:=by
 refine⟨s.row.imp (fun h=>h) fun h=>?_,fun i hi hl=>?_,?_⟩
 ·rw[qv hne]
  exact h
 ·rw[qv (by omega)]
  exact s.oth i hi hl
 ·rw[xU]
  exact s.len
abbrev SwA (ti:TypeId) (hp:HP) (k n:Nat):Prop:=hp[k]? = some (some (.row ti [.int .i64 (n:Int)]))
theorem o2_calls (hm:P.follows .mixedOrders=true) (hT:TabOk P T) (hless:Lss L lt T less) (hf:compF P hint f=some ⟨o2C less,o2N,[.t 8,.t 9]⟩) (s:Srt L e id hp0 hp d) (hv:SlA id d v) {a b k n:Nat} {ti:TypeId} (hw:SwA ti hp k n) (hk:hp0.length≤k) (hne:k≠id) (hn:n≤1000) (ha:a<d.size) (hb:b<d.size) :
  ACalls P f [v,.int .i64 a,.int .i64 b,.ptr k 0] hp fun r hp'=>r=.tup [.int .i64 ((Sort.order2 lt d a b n).1:Nat),.int .i64 ((Sort.order2 lt d a b n).2.1:Nat)]∧Srt L e id hp0 hp' d∧SwA ti hp' k (Sort.order2 lt d a b n).2.2:=by
 refine calls_e hm hT hf (by rfl) (by simp[o2N]) ?_
 have hfz:=L.fz
 have g1:=s.get ha
 have i1:=hv.1 a ha
 have i2:=hv.1 b hb
 have p1:=pick_at (L:=L) ha
 have p2:=pick_at (L:=L) hb
 have hcl:=hless d[b]! d[a]!
 unfold Sort.order2
 unfold SwA at hw
 have hlt:k<hp.length:=(qf.1 hw).1
 have w1:=natW (x:=(n:Int)+1) (n+1) (by omega) (by omega)
 cases hl:lt d[b]! d[a]! <;> rw[hl] at hcl
 ·refine vcE.ex (by simp (disch:=first|assumption|omega) only[go_sem,↓reduceIte,exOps.eq_2,reduceCtorEq,qa,i2,g1,↓p2,i1,↓p1,frzL.eq_2,hfz,hcl,nidL.eq_2]; rfl) ?_
  exact⟨_,rfl,rfl,s,hw⟩
 ·refine vcE.ex (by simp (disch:=first|assumption|omega) only[go_sem,↓reduceIte,exOps.eq_2,reduceCtorEq,qa,i2,g1,↓p2,i1,↓p1,frzL.eq_2,hfz,hcl,nidL.eq_2,nilchkA,hw,w1,Nat.reduceLeDiff]; rfl) ?_
  refine⟨_,rfl,rfl,s.other hk hne _,?_⟩
  rw[SwA,xf hlt]
  rfl
theorem order2_lt {a b n:Nat} (ha:a<d.size) (hb:b<d.size):(Sort.order2 lt d a b n).1<d.size∧(Sort.order2 lt d a b n).2.1<d.size∧(Sort.order2 lt d a b n).2.2≤n+1:=by
 unfold Sort.order2
 split
 ·exact⟨hb,ha,qk _⟩
 ·exact⟨ha,hb,Nat.le_succ _⟩
theorem median_eq (a b c n:Nat):Sort.median lt d a b c n=((Sort.order2 lt d (Sort.order2 lt d a b n).1 (Sort.order2 lt d (Sort.order2 lt d a b n).2.1 c (Sort.order2 lt d a b n).2.2).1 (Sort.order2 lt d (Sort.order2 lt d a b n).2.1 c (Sort.order2 lt d a b n).2.2).2.2).2.1,(Sort.order2 lt d (Sort.order2 lt d a b n).1 (Sort.order2 lt d (Sort.order2 lt d a b n).2.1 c (Sort.order2 lt d a b n).2.2).1 (Sort.order2 lt d (Sort.order2 lt d a b n).2.1 c (Sort.order2 lt d a b n).2.2).2.2).2.2):=rfl
theorem md_calls (hm:P.follows .mixedOrders=true) (hT:TabOk P T) (hless:Lss L lt T less) {fo:FuncId} {hint':Nat→Nat} (ho:compF P hint' fo=some ⟨o2C less,o2N,[.t 8,.t 9]⟩) (hf:compF P hint f=some ⟨mdC fo,mdN,[.t 10]⟩) (s:Srt L e id hp0 hp d) (hv:SlA id d v) {a b c k n:Nat} {ti:TypeId} (hw:SwA ti hp k n) (hk:hp0.length≤k) (hne:k≠id) (hn:n≤900) (ha:a<d.size) (hb:b<d.size) (hc:c<d.size) :
  ACalls P f [v,.int .i64 a,.int .i64 b,.int .i64 c,.ptr k 0] hp fun r hp'=>r=.int .i64 ((Sort.median lt d a b c n).1:Nat)∧Srt L e id hp0 hp' d∧SwA ti hp' k (Sort.median lt d a b c n).2:=by
 refine calls_e hm hT hf (by rfl) (by simp[mdN]) ?_
 rw[median_eq]
 obtain⟨l1,l2,l3⟩:=order2_lt (lt:=lt) (n:=n) ha hb
 generalize h1:Sort.order2 lt d a b n=r1 at *
 obtain⟨a1,b1,n1⟩:=r1
 obtain⟨m1,m2,m3⟩:=order2_lt (lt:=lt) (n:=n1) (a:=b1) (b:=c) l2 hc
 generalize h2:Sort.order2 lt d b1 c n1=r2 at *
 obtain⟨b2,c2,n2⟩:=r2
 obtain⟨q1,q2,q3⟩:=order2_lt (lt:=lt) (n:=n2) (a:=a1) (b:=b2) l1 m1
 simp only at *
 refine vcE.s1 (k:=vcE.then (fun e' tm' hp'=>e'=.normal∧Srt L e id hp0 hp' d∧SwA ti hp' k n1∧tm' 0=v∧tm' 1=.int .i64 (a1:Nat)∧tm' 2=.int .i64 (b1:Nat)∧tm' 3=.int .i64 (c:Nat)∧tm' 4=.ptr k 0) ?_ ?_)
 ·rw[show mdR1 fo=(mdR1 fo).take 4++((mdR1 fo).drop 4).take 1++(mdR1 fo).drop 5 from rfl]
  refine vcE.app (vcE.app (vcE.e1 (k:=⟨rfl,vcE.call (f:=fo) (caps:=[]) (ys:=[v,.int .i64 a,.int .i64 b,.ptr k 0]) rfl rfl (o2_calls hm hT hless ho s hv hw hk hne (by omega) ha hb) ?_⟩)))
  rintro r hp' ⟨rfl,s1,hw1⟩
  rw[h1] at hw1 ⊢
  refine⟨rfl,vcE.e0 ?_⟩
  exact⟨rfl,s1,hw1,rfl,rfl,rfl,rfl,rfl⟩
 rintro e' tm hp' ⟨rfl,s1,hw1,t0,t1,t2,t3,t4⟩
 refine vcE.then (fun e' tm' hp'=>e'=.normal∧Srt L e id hp0 hp' d∧SwA ti hp' k n2∧tm' 0=v∧tm' 1=.int .i64 (a1:Nat)∧tm' 2=.int .i64 (b2:Nat)∧tm' 4=.ptr k 0) ?_ ?_
 ·rw[show mdR2 fo=(mdR2 fo).take 4++((mdR2 fo).drop 4).take 1++(mdR2 fo).drop 5 from rfl]
  refine vcE.app (vcE.app (vcE.e1 (k:=⟨rfl,vcE.call (f:=fo) (caps:=[]) (ys:=[v,.int .i64 b1,.int .i64 c,.ptr k 0]) rfl ?_ (o2_calls hm hT hless ho s1 hv hw1 hk hne (by omega) l2 hc) ?_⟩)))
  ·simp only[evsE,evE,upd_app,qa,↓reduceIte,t0,t2,t3,t4]
  rintro r hp' ⟨rfl,s2,hw2⟩
  rw[h2] at hw2 ⊢
  refine⟨rfl,vcE.e0 ?_⟩
  refine⟨rfl,s2,hw2,?_,?_,?_,?_⟩
  all_goals simp only[upd_app,qa,↓reduceIte,t0,t1,t4]
 clear t0 t1 t2 t3 t4
 rintro e' tm hp' ⟨rfl,s2,hw2,t0,t1,t2,t4⟩
 refine vcE.then (fun e' tm' hp'=>e'=.normal∧Srt L e id hp0 hp' d∧SwA ti hp' k (Sort.order2 lt d a1 b2 n2).2.2∧tm' 2=.int .i64 ((Sort.order2 lt d a1 b2 n2).2.1:Nat)) ?_ ?_
 ·rw[show mdR3 fo=(mdR3 fo).take 4++((mdR3 fo).drop 4).take 1++(mdR3 fo).drop 5 from rfl]
  refine vcE.app (vcE.app (vcE.e1 (k:=⟨rfl,vcE.call (f:=fo) (caps:=[]) (ys:=[v,.int .i64 a1,.int .i64 b2,.ptr k 0]) rfl ?_ (o2_calls hm hT hless ho s2 hv hw2 hk hne (by omega) l1 m1) ?_⟩)))
  ·simp only[evsE,evE,upd_app,qa,↓reduceIte,t0,t1,t2,t4]
  rintro r hp' ⟨rfl,s3,hw3⟩
  refine⟨rfl,vcE.e0 ?_⟩
  refine⟨rfl,s3,hw3,?_⟩
  simp only[upd_app,↓reduceIte]
 rintro e' tm hp' ⟨rfl,s3,hw3,t2⟩
 refine vcE.ex (by simp (disch:=first|assumption|omega) only[go_sem,↓reduceIte,t2]; rfl) ?_
 exact⟨_,rfl,rfl,s3,hw3⟩
theorem median_lt {a b c n:Nat} (ha:a<d.size) (hb:b<d.size) (hc:c<d.size):(Sort.median lt d a b c n).1<d.size∧(Sort.median lt d a b c n).2≤n+3:=by
 rw[median_eq]
 obtain⟨l1,l2,l3⟩:=order2_lt (lt:=lt) (n:=n) ha hb
 obtain⟨m1,m2,m3⟩:=order2_lt (lt:=lt) (n:=(Sort.order2 lt d a b n).2.2) l2 hc
 obtain⟨q1,q2,q3⟩:=order2_lt (lt:=lt) (n:=(Sort.order2 lt d (Sort.order2 lt d a b n).2.1 c (Sort.order2 lt d a b n).2.2).2.2) l1 m1
 exact⟨q2,Nat.le_trans q3 (by omega)⟩
theorem ma_calls (hm:P.follows .mixedOrders=true) (hT:TabOk P T) (hless:Lss L lt T less) {fo fmd:FuncId} {hint' hint2:Nat→Nat} (ho:compF P hint' fo=some ⟨o2C less,o2N,[.t 8,.t 9]⟩) (hmd:compF P hint2 fmd=some ⟨mdC fo,mdN,[.t 10]⟩) (hf:compF P hint f=some ⟨maC fmd,maN,[.t 6]⟩) (s:Srt L e id hp0 hp d) (hv:SlA id d v) {a k n:Nat} {ti:TypeId} (hw:SwA ti hp k n) (hk:hp0.length≤k) (hne:k≠id) (hn:n≤900) (ha:1≤a) (hb:a+1<d.size) :
  ACalls P f [v,.int .i64 a,.ptr k 0] hp fun r hp'=>r=.int .i64 ((Sort.medianAdjacent lt d a n).1:Nat)∧Srt L e id hp0 hp' d∧SwA ti hp' k (Sort.medianAdjacent lt d a n).2:=by
 refine calls_e hm hT hf (by rfl) (by simp[maN]) ?_
 have hsz:=hv.2
 have w1:=natW (x:=(a:Int) - 1) (a - 1) (by omega) (by omega)
 have w2:=natW (x:=(a:Int)+1) (a+1) (by omega) (by omega)
 unfold Sort.medianAdjacent
 refine vcE.s0 ?_
 rw[show maR1 fmd=(maR1 fmd).take 7++((maR1 fmd).drop 7).take 1++(maR1 fmd).drop 8 from rfl]
 refine vcE.seq (vcE.app (vcE.app (vcE.ex (by simp (disch:=first|assumption|omega) only[go_sem,↓reduceIte,qa,reduceCtorEq,w1,w2]; rfl) ⟨rfl,vcE.call (f:=fmd) (caps:=[]) (ys:=[v,.int .i64 ((a - 1:Nat):Int),.int .i64 a,.int .i64 ((a+1:Nat):Int),.ptr k 0]) rfl ?_ (md_calls hm hT hless ho hmd s hv hw hk hne hn (by omega) (by omega) hb) ?_⟩)))
 ·simp only[evsE,evE,upd_app,qa,↓reduceIte]
 rintro r hp' ⟨rfl,s1,hw1⟩
 refine⟨rfl,vcE.e0 ?_⟩
 refine vcE.e0 ?_
 exact⟨_,rfl,rfl,s1,hw1⟩
end
end Go.Gi
