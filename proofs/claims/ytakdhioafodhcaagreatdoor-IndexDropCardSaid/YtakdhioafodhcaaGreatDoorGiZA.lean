/- copy; a []byte taken for a []byte. -/
/- Maps by strings and by numbers. -/
import Derived.Test.YtakdhioafodhcaaGreatDoorGiV
import Derived.MapKept
import Derived.Maps.RangeRun
set_option linter.unusedVariables false
set_option linter.unusedSimpArgs false
namespace Go.Gi
section
set_option linter.unusedSectionVars false
variable [Mx]
open Go
theorem HP.set_same {hp:HP} {id:Nat} {x:Option Blk} (hx:hp[id]? = some x):hp.set id x=hp:=by
 apply List.ext_getElem?
 intro j
 rw[List.getElem?_set]
 split
 ·rename_i hj
  subst hj
  rw[if_pos (List.getElem?_eq_some_iff.1 hx).1,hx]
 ·rfl
def shortA (sz n:Nat):AV→Option AV
 | .sl id off len sz' lo ex=>if n≤len then some (.sl id off n sz' lo ex) else none
 | .fsl cs len=>if n≤len then some (.fsl (cs.take (n*sz)) n) else none
 | .str s=>if n=s.length then some (.str s) else none
 | .nils=>if n=0 then some .nils else none
 | .esl=>if n=0 then some .esl else none
 | .enn=>if n=0 then some .enn else none
 | _=>none
theorem short_rel {Γ:Cx} {sz n:Nat} {x x':AV} {v:Value} (hv:VRel Γ x v) (h:shortA sz n x=some x'):∃ v',VRel Γ x' v'∧Builtin.firstCells sz n v'=Builtin.firstCells sz n v:=by
 cases x<;>simp only[shortA,reduceCtorEq] at h
 case str =>
  split at h
  ·cases h; exact⟨v,hv,rfl⟩
  ·cases h
 case nils =>
  split at h
  ·cases h; exact⟨v,hv,rfl⟩
  ·cases h
 case esl =>
  split at h
  ·cases h; exact⟨v,hv,rfl⟩
  ·cases h
 case enn =>
  split at h
  ·cases h; exact⟨v,hv,rfl⟩
  ·cases h
 case sl id off len sz' lo ex =>
  split at h
  ·rename_i hn
   cases h
   simp only[VRel] at hv
   obtain⟨hi,o,c,e,m,rfl,ho,k1,k2,k3,k4,k5⟩:=hv
   refine⟨.slice (some ⟨(Γ.β id).1,o,none⟩) n c,?_,rfl⟩
   simp only[VRel]
   exact⟨hi,o,c,e,m,rfl,ho,by omega,k2,k3,k4,k5⟩
  ·cases h
 case fsl cs len =>
  split at h
  ·rename_i hn
   cases h
   simp only[VRel] at hv
   rcases hv with ⟨rfl|⟨a0,rfl⟩,rfl,rfl⟩|⟨b,o,c,rfl,k1,k2,k3⟩
   ·refine⟨.slice none 0 0,?_,rfl⟩
    have:n=0:=by omega
    subst this
    simp[VRel,NilS]
   ·refine⟨.slice (some a0) 0 0,?_,?_⟩
    ·have:n=0:=by omega
     subst this
     simp[VRel,NilS]
    ·have:n=0:=by omega
     subst this
     rfl
   ·refine⟨.slice (some ⟨b,o,none⟩) n c,?_,rfl⟩
    simp only[VRel]
    refine .inr ⟨b,o,c,rfl,by omega,?_,k3.take _⟩
    rcases k2 with rfl|k2
    ·exact .inl (by simp)
    ·exact .inr k2
  ·cases h
def copyA (hp:HP) (sz:Nat) (d x:AV):Option (AV × HP):=
 match srcA hp sz x with
 | some (_,m)=>match d with
  | .nils | .esl | .enn=>some (.int .i64 0,hp)
  | .sl id off len sz' lo ex=>match shortA sz (min m len) x with
   | some x'=>match srcA hp sz x' with
    | some (new,k)=>match hp[id]? with
     | some (some (.row e cs))=>if (sz'=sz∧off+len*sz≤cs.length)∧k=min m len then some (.int .i64 (min m len:Nat),hp.set id (some (.row e (over cs off new)))) else none
     | _=>none
    | none=>none
   | none=>none
  | _=>none
 | none=>none
theorem nat_min (a b:Nat):Nat.min a b=min a b:=rfl
theorem copy_ok {P:Program} {Γ:Cx} {hp hp':HP} (h:HSim Γ hp) {t tx ty e:TypeId} {sz bytes:Nat} (ht:elemP P t=some (e,sz,bytes)) (hk:seqP P tx=true) {d x r:AV} {v u:Value} (hv:VRel Γ d v) (hu:VRel Γ x u)
  (hr:copyA hp sz d x=some (r,hp')):OpOk P Γ hp (Builtin.copy_ #[t,tx] ty #[v,u]) r hp':=by
 obtain⟨hut,i,z,hi,hz,hzs,rfl,rfl⟩:=elemP_some ht
 unfold copyA at hr
 split at hr
 ·rename_i _ as m hsrc
  obtain⟨news,hS,hN,hO⟩:=srcA_src h (seqP_some hk) hu hsrc
  have zero:∀ (base:Option Addr) (c:Nat),v=.slice base 0 c→(Builtin.firstCells i.size 0 u).run P Γ.w=.ok #[] Γ.w→OpOk P Γ hp (Builtin.copy_ #[t,tx] ty #[v,u]) (.int .i64 0) hp:=by
   intro base c hb hf
   subst hb
   refine OpOk.same h (v:=.int .i64 0) ?_ (by simp[VRel])
   cases base<;>simp[Builtin.copy_,run_underlying hut,sizeOf,typeInfo,hi,hS.len,hf,storeCells,goInt]
  have f0:(Builtin.firstCells i.size 0 u).run P Γ.w=.ok #[] Γ.w:=by
   rcases hS.kind with _|_
   all_goals
    cases u<;>try (have:=hS.cells; simp[Builtin.firstCells,stuck] at this; done)
    case slice base len c =>
     cases base with
     | none=>rfl
     | some a=>simp[Builtin.firstCells,loadCells,loadCellsFrom]
    case string s=>simp[Builtin.firstCells]
  split at hr
  ·cases hr
   simp only[VRel] at hv
   exact zero none 0 hv f0
  ·cases hr
   simp only[VRel] at hv
   rcases hv with hv|⟨b,hv⟩
   ·exact zero none 0 hv f0
   ·exact zero _ 0 hv f0
  ·cases hr
   simp only[VRel] at hv
   obtain⟨a0,c,hv,_⟩:=hv
   exact zero _ c hv f0
  ·rename_i id off len sz' lo ex
   split at hr
   ·rename_i x' hx'
    split at hr
    ·rename_i new k hsrc'
     split at hr
     ·rename_i e' cs hx
      split at hr
      ·rename_i hc
       obtain⟨⟨rfl,hl⟩,rfl⟩:=hc
       cases hr
       obtain⟨u',hu',hfc⟩:=short_rel hu hx'
       obtain⟨news',hS',hN',hO'⟩:=srcA_src h (seqP_some hk) hu' hsrc'
       simp only[VRel] at hv
       obtain⟨hi0,o,c,e2,mm,rfl,ho,k1,k2,k3,k4,k5⟩:=hv
       have hnl:new.length=min m len*i.size:=by rw[hN'.length,hS'.newsLen]
       have hcells:=hS'.cells
       rw[hfc] at hcells
       by_cases h0:min m len=0
       ·have hnew:new=[]:=List.eq_nil_of_length_eq_zero (by rw[hnl,h0,Nat.zero_mul])
        have hnews:news'=[]:=List.eq_nil_of_length_eq_zero (by rw[← hN'.length,hnew]; rfl)
        subst hnew hnews
        rw[over_nil]
        have hset:hp.set id (some (.row e' cs))=hp:=HP.set_same hx
        rw[hset]
        refine OpOk.same h (v:=.int .i64 (min m len:Nat)) ?_ (by simp[VRel])
        rw[h0] at hcells
        simp[Builtin.copy_,run_underlying hut,sizeOf,typeInfo,hi,hS.len,nat_min,h0,hcells,storeCells,goInt]
       ·have hlen0:len≠0:=by omega
        have ho':o=(Γ.β id).2+off:=by
         rcases ho with ho|ho
         ·omega
         ·exact ho
        have hle:min m len*i.size≤len*i.size:=Nat.mul_le_mul_right _ (Nat.min_le_right _ _)
        obtain⟨Δ,r1,r2,r3,r4,r5,r6⟩:=write_row (P:=P) (off:=off) h hx hN' hO' (by omega) (.inl (by omega))
        refine⟨.int .i64 (min m len:Nat),Δ,?_,by simp[VRel],r2,r3⟩
        rw[← ho'] at r1
        simp[Builtin.copy_,run_underlying hut,sizeOf,typeInfo,hi,hS.len,nat_min,hcells,r1,goInt]
      ·cases hr
     ·cases hr
    ·cases hr
   ·cases hr
  ·cases hr
 ·cases hr
def convA (hp:HP) (x:AV):Option AV:=
 match x with
 | .sl id _ _ _ _ _=>match hp[id]? with
  | some (some (.row _ _))=>some x
  | _=>none
 | _=>none
theorem conv_ok {P:Program} {Γ:Cx} {hp:HP} (h:HSim Γ hp) {t e:TypeId} (ht:P.underlying t=some (.slice e)) (he:P.underlying e=some (.int .u8)) {x r:AV} {v:Value} (hv:VRel Γ x v) (hr:convA hp x=some r):OpOk P Γ hp (convert t t v) r hp:=by
 unfold convA at hr
 split at hr
 ·rename_i id off len sz lo ex
  split at hr
  ·rename_i e1 cs hx
   cases hr
   have hv':=hv
   simp only[VRel] at hv
   obtain⟨hi0,o,c,e2,mm,rfl,ho,k1,k2,k3,k4,k5⟩:=hv
   obtain⟨hb,hf,hlt⟩:=h.blk id _ hx
   simp only[BRel] at hb
   obtain⟨⟨cc,fr,hc,hfr0,hfr⟩,hcs⟩:=hb
   obtain⟨flo,fhi⟩:=fr
   simp only at hfr0 hfr
   let fr':Nat × Nat:=if flo == fhi then (cc.size,cc.size+1) else (min flo cc.size,max fhi (cc.size+1))
   have hw:(Γ.w.freeze ⟨(Γ.β id).1,cc.size,none⟩ 1)=setB Γ.w (Γ.β id).1 (.cells cc e1 fr'):=by
    have he1:∀ e',Γ.w.heap[(Γ.β id).1]? = some (.cells cc e' (flo,fhi))→True:=fun _ _=>trivial
    simp only[World.freeze,setB,Nat.one_ne_zero,if_false]
    congr 1
    apply Array.ext_getElem?
    intro j
    rw[Array.getElem?_modify,Array.getElem?_setIfInBounds]
    split
    ·rename_i hj
     subst hj
     rw[hc]
     simp only[Option.map_some]
     rfl
    ·rfl
   have hsh:∀ s,Γ.w.shape? (Γ.β id).1=some s→(setB Γ.w (Γ.β id).1 (.cells cc e1 fr')).shape? (Γ.β id).1=some s:=by
    intro s hs
    simp only[World.shape?,hc] at hs
    simp only[World.shape?,setB_eq _ _ hlt]
    exact hs
   have le:Le Γ (Γ.setB (Γ.β id).1 (.cells cc e1 fr')):=Le.setB hf hsh
   have hwr:=h.write hx (.cells cc e1 fr') (.row e1 cs) hsh (by
    simp only[BRel]
    refine⟨⟨cc,fr',setB_eq _ _ hlt,?_,?_⟩,CellsAt.of fun i a ha=>?_⟩
    ·simp only[fr']
     split
     ·exact Nat.le_succ _
     ·simp only; omega
    ·intro j hj
     simp only[fr']
     split
     ·simp only; omega
     ·rename_i hne
      have hne':flo≠fhi:=by simpa using hne
      have:cc.size≤flo:=by
       rcases Nat.lt_or_ge flo cc.size with hlt' | hge
       ·exact absurd ⟨Nat.le_refl _,by omega⟩ (hfr flo hlt')
       ·exact hge
      simp only
      omega
    ·obtain⟨u,q1,q2,q3⟩:=hcs.get i a ha
     refine⟨u,?_,q2,q3.le le⟩
     simp only[World.cell?,hc] at q1
     simp only[World.cell?,Cx.setB,setB_eq _ _ hlt]
     exact q1)
   have hset:hp.set id (some (.row e1 cs))=hp:=HP.set_same hx
   rw[hset] at hwr
   refine⟨.slice (some ⟨(Γ.β id).1,o,none⟩) len c,_,?_,hv'.le le,hwr.1,hwr.2⟩
   have hshape:Γ.w.shape? (Γ.β id).1=some (e1,cc.size):=by simp[World.shape?,hc]
   simp only[convert,Sem.run_bind,run_underlying ht,Result.andThen_ok,beq_self_eq_true,run_underlying he]
   show ((markStringish ⟨(Γ.β id).1,o,none⟩).run P Γ.w).andThen _=_
   have hm:(markStringish ⟨(Γ.β id).1,o,none⟩).run P Γ.w=.ok () (Γ.w.freeze ⟨(Γ.β id).1,cc.size,none⟩ 1):=by
    simp[markStringish,shape,Sem.run,hshape,freeze,bind,Sem.bind,pure]
   rw[hm]
   simp only[Result.andThen_ok,Sem.run_pure,hw]
   rfl
  ·cases hr
 ·cases hr
end
section
set_option linter.unusedSectionVars false
variable [Mx]
open Go
def kEq:IntKind→IntKind→Bool
 | .i64,.i64=>true
 | .u8,.u8=>true
 | a,b=>decide (a=b)
theorem kEq_eq {a b:IntKind} (h:kEq a b=true):a=b:=by
 unfold kEq at h
 split at h
 ·rfl
 ·rfl
 ·exact of_decide_eq_true h
def bEqb:List UInt8→List UInt8→Bool
 | [],[]=>true
 | a :: as,b :: bs=>cond (Nat.beq a.toNat b.toNat) (bEqb as bs) false
 | _,_=>false
theorem bEqb_eq:∀ (a b:List UInt8),bEqb a b=decide (a=b)
 | [],[]=>by simp[bEqb]
 | [],_ :: _=>by simp[bEqb]
 | _ :: _,[]=>by simp[bEqb]
 | a :: as,b :: bs=>by
  simp only[bEqb]
  cases hb:Nat.beq a.toNat b.toNat
  ·have:a≠b:=fun h=>by subst h; rw[Nat.beq_refl] at hb; cases hb
   simp[this]
  ·have:a=b:=UInt8.toNat_inj.1 (Nat.eq_of_beq_eq_true hb)
   subst this
   rw[cond_true,bEqb_eq as bs]
   simp
inductive KK where
 | str | int
def KK.of (P:Program) (t:TypeId):Option KK:=
 match P.underlying t with
 | some .string=>some .str
 | some (.int _)=>some .int
 | _=>none
def mapP (P:Program) (t:TypeId):Option (KK × TypeId × TypeId):=
 match P.underlying t with
 | some (.map k e)=>match KK.of P k with
  | some kk=>some (kk,k,e)
  | none=>none
 | _=>none
theorem mapP_some {P:Program} {t k e:TypeId} {kk:KK} (h:mapP P t=some (kk,k,e)):P.underlying t=some (.map k e)∧KK.of P k=some kk:=by
 unfold mapP at h
 split at h
 ·rename_i k' e' hu
  split at h
  ·rename_i kk' hk
   simp only[Option.some.injEq,Prod.mk.injEq] at h
   obtain⟨rfl,rfl,rfl⟩:=h
   exact⟨hu,hk⟩
  ·cases h
 ·cases h
def keyA:KK→AV→Bool
 | .str,.str _=>true
 | .int,.int _ _=>true
 | _,_=>false
def keyEqA:AV→AV→Option Bool
 | .str a,.str b=>some (bEqb a b)
 | .int k a,.int k' b=>cond (kEq k k') (some (decide (a=b))) none
 | _,_=>none
def findA (k:AV):List (AV × AV)→Nat→Option (Option (Nat × AV))
 | [],_=>some none
 | (k',v) :: es,i=>match keyEqA k k' with
  | some true=>some (some (i,v))
  | some false=>findA k es (i+1)
  | none=>none
theorem keyEqA_rel {P:Program} {Γ:Cx} {kk:KK} {t:TypeId} (ht:KK.of P t=some kk) {a b:AV} (ha:keyA kk a=true) {u v:Value} (hu:VRel Γ a u) (hv:VRel Γ b v) {r:Bool} (h:keyEqA a b=some r) :
  ∃ d,P.underlying t=some d∧Instr.sameNow d u v=some r∧(r=true→v=u∧Instr.sameBits 10000 v u=true):=by
 unfold KK.of at ht
 split at ht
 ·rename_i hd
  cases ht
  cases a<;>cases b<;>simp only[keyA,keyEqA,reduceCtorEq,Option.some.injEq,Bool.false_eq_true] at ha h
  simp only[VRel] at hu hv
  subst hu; subst hv
  rw[bEqb_eq] at h
  refine⟨_,hd,?_,fun hr=>?_⟩
  ·simp only[Instr.sameNow,Option.some.injEq]
   rw[← h]
   rename_i s s'
   by_cases e:s=s'
   ·subst e; simp[MapKept.bytes_beq]
   ·simp only[e,decide_false]
    refine Bool.eq_false_iff.2 fun hb=>e ?_
    have:=(MapKept.bytes_beq _ _).1 hb
    simpa using this
  ·subst hr
   have:=of_decide_eq_true h
   subst this
   exact⟨rfl,by simp[Instr.sameBits,MapKept.bytes_beq]⟩
 ·rename_i k0 hd
  cases ht
  cases a<;>cases b<;>simp only[keyA,keyEqA,reduceCtorEq,Bool.false_eq_true] at ha h
  rename_i k n k' n'
  simp only[VRel] at hu hv
  subst hu; subst hv
  cases hk:kEq k k'<;>rw[hk] at h
  ·cases h
  ·have:=kEq_eq hk
   subst this
   simp only[cond_true,Option.some.injEq] at h
   refine⟨_,hd,?_,fun hr=>?_⟩
   ·simp only[Instr.sameNow,if_true,Option.some.injEq]
    rw[← h]
    by_cases e:n=n'
    ·subst e; simp
    ·simp[e]
   ·subst hr
    have:=of_decide_eq_true h
    subst this
    exact⟨rfl,by simp[Instr.sameBits]⟩
 ·cases ht
theorem findA_rel {P:Program} {Γ:Cx} {kk:KK} {t:TypeId} {d:TypeDesc} (ht:KK.of P t=some kk) (hd:P.underlying t=some d) {a:AV} (ha:keyA kk a=true) {u:Value} (hu:VRel Γ a u):∀ {es:List (AV × AV)} {ms:List MapEntry} {i:Nat} {r:Option (Nat × AV)},VRels Γ (es.map (·.1)) (ms.map (·.key))→VRels Γ (es.map (·.2)) (ms.map (·.val))→findA a es i=some r →
  (r=none∧Instr.findNow d u ms i=some none)∨∃ j x m,r=some (i+j,x)∧ms[j]? = some m∧Instr.findNow d u ms i=some (some (i+j,m.val))∧VRel Γ x m.val∧m.key=u∧Instr.sameBits 10000 m.key u=true∧j<es.length
 | [],ms,i,r,h1,h2,h=>by
  simp only[findA,Option.some.injEq] at h
  subst h
  have:ms=[]:=by
   have:=h1.length
   simp at this
   exact List.eq_nil_of_length_eq_zero this.symm
  subst this
  exact .inl ⟨rfl,rfl⟩
 | (k',v) :: es,ms,i,r,h1,h2,h=>by
  cases ms with
  | nil=>have:=h1.length; simp at this
  | cons m ms =>
   simp only[List.map_cons,VRels,List.cons.injEq] at h1 h2
   obtain⟨_,_,⟨rfl,rfl⟩,k1,k2⟩:=h1
   obtain⟨_,_,⟨rfl,rfl⟩,k3,k4⟩:=h2
   simp only[findA] at h
   split at h
   ·rename_i hk
    simp only[Option.some.injEq] at h
    subst h
    obtain⟨d',hd',hs,hr⟩:=keyEqA_rel ht ha hu k1 hk
    rw[hd] at hd'
    cases hd'
    refine .inr ⟨0,v,m,rfl,rfl,?_,k3,(hr rfl).1,(hr rfl).2,by simp⟩
    simp[Instr.findNow,hs]
   ·rename_i hk
    obtain⟨d',hd',hs,-⟩:=keyEqA_rel ht ha hu k1 hk
    rw[hd] at hd'
    cases hd'
    rcases findA_rel ht hd ha hu k2 k4 h with ⟨rfl,q⟩|⟨j,x,m',rfl,q1,q2,q3,q4,q5,q6⟩
    ·exact .inl ⟨rfl,by simp[Instr.findNow,hs,q]⟩
    ·refine .inr ⟨j+1,x,m',by rw[show i+1+j=i+(j+1) by omega],by simpa using q1,?_,q3,q4,q5,by simp; omega⟩
     simp only[Instr.findNow,hs,q2]
     rw[show i+1+j=i+(j+1) by omega]
   ·cases h
def zvP (P:Program) (e:TypeId):Option AV:=
 match P.info? e with
 | some i=>match i.zero with
  | some z=>constA z
  | none=>none
 | none=>none
theorem zvP_run {P:Program} {e:TypeId} {z:AV} (h:zvP P e=some z) (Γ:Cx):∃ v,(zeroValue e).run P Γ.w=.ok v Γ.w∧VRel Γ z v:=by
 unfold zvP at h
 split at h
 ·rename_i i hi
  split at h
  ·rename_i v hv
   exact⟨v,by simp[zeroValue,typeInfo,hi,hv],constA_rel h⟩
  ·cases h
 ·cases h
def mkmapA (hp:HP):AV × HP:=(.map hp.length,hp++[some (.map [] [] 0)])
theorem mkmap_ok {P:Program} {Γ:Cx} {hp:HP} (h:HSim Γ hp) {t:TypeId}:OpOk P Γ hp (Instr.makeMap t none) (mkmapA hp).1 (mkmapA hp).2:=by
 have hs:=h.new (.map #[] 0) (.map [] [] 0) (by
  simp only[BRel]
  exact⟨#[],0,alloc_new _ _,by simp,by simp,by simp[VRels],by simp[VRels],rfl,rfl⟩)
 refine⟨.map (some Γ.w.heap.size),_,?_,?_,hs.1,hs.2⟩
 ·simp only[Instr.makeMap,Sem.run_bind,run_newObj,Result.andThen_ok,Sem.run_pure]
  rfl
 ·simp only[mkmapA,VRel]
  simp[Cx.know,Cx.alloc,h.len]
theorem mkmapR_ok {P:Program} {Γ:Cx} {hp:HP} (h:HSim Γ hp) {t a b:TypeId} (ht:P.underlying t=some (.map a b)) {k:IntKind} {n:Int}:OpOk P Γ hp (Instr.makeMap t (some (.int k n))) (mkmapA hp).1 (mkmapA hp).2:=by
 obtain⟨v,Δ,h1,h2⟩:=mkmap_ok (P:=P) (t:=t) h
 refine⟨v,Δ,?_,h2⟩
 rw[← h1]
 simp[Instr.makeMap,run_underlying ht,asInt,asIntOf]
def rowsA (hp:HP):AV→Option (List (AV × AV))
 | .nilm=>some []
 | .map id=>match hp[id]? with
  | some (some (.map es _ _))=>some es
  | _=>none
 | _=>none
def lookA (hp:HP) (kk:KK) (z:AV) (ok:Bool) (m k:AV):Option AV:=
 cond (keyA kk k) (match rowsA hp m with
  | some es=>match findA k es 0 with
   | some (some (_,v))=>some (cond ok (.tup [v,.bool true]) v)
   | some none=>some (cond ok (.tup [z,.bool false]) z)
   | none=>none
  | none=>none) none
theorem checkKey_run {P:Program} {kk:KK} {t:TypeId} (ht:KK.of P t=some kk) (b:Bool) (u:Value) (w:World):(Instr.checkKey b 10000 t u).run P w=.ok () w:=by
 unfold KK.of at ht
 split at ht<;>first|cases ht|skip
 all_goals
  rename_i hd
  unfold Instr.checkKey
  simp[run_underlying hd]
theorem look_ok {P:Program} {Γ:Cx} {hp:HP} (h:HSim Γ hp) {t kt e:TypeId} {kk:KK} (ht:mapP P t=some (kk,kt,e)) {z:AV} (hz:zvP P e=some z) {ok:Bool} {m k r:AV} {mv kv:Value} (hm:VRel Γ m mv) (hk:VRel Γ k kv) (hr:lookA hp kk z ok m k=some r) :
  OpOk P Γ hp (Instr.lookup t mv kv ok) r hp:=by
 obtain⟨hu,hkk⟩:=mapP_some ht
 unfold lookA at hr
 cases hka:keyA kk k<;>rw[hka] at hr
 ·cases hr
 simp only[cond_true] at hr
 obtain⟨d,hd⟩:∃ d,P.underlying kt=some d:=by
  unfold KK.of at hkk
  split at hkk
  ·exact⟨_,by assumption⟩
  ·exact⟨_,by assumption⟩
  ·cases hkk
 split at hr
 ·rename_i es hes
  obtain⟨ms,hmv,h1,h2⟩:∃ ms:Array MapEntry,((mv=.map none∧ms = #[])∨∃ b c,mv=.map (some b)∧Γ.w.heap[b]? = some (.map ms c))∧VRels Γ (es.map (·.1)) (ms.toList.map (·.key))∧VRels Γ (es.map (·.2)) (ms.toList.map (·.val)):=by
   cases m<;>simp only[rowsA,reduceCtorEq,Option.some.injEq] at hes
   case nilm =>
    subst hes
    simp only[VRel] at hm
    exact⟨#[],.inl ⟨hm,rfl⟩,by simp[VRels],by simp[VRels]⟩
   case map id =>
    split at hes
    ·rename_i es' _ _ hx
     cases hes
     simp only[VRel] at hm
     obtain⟨⟨ms,clock,q1,_,_,q2,q3,_⟩,_,_⟩:=h.blk _ _ hx
     exact⟨ms,.inr ⟨_,_,hm.2,q1⟩,q2,q3⟩
    ·cases hes
  obtain⟨zv,hz1,hz2⟩:=zvP_run hz Γ
  split at hr
  ·rename_i j v hf
   cases hr
   rcases findA_rel hkk hd hka hk h1 h2 hf with ⟨q,_⟩|⟨j',x,m',q1,q2,q3,q4,q5,q6,q7⟩
   ·cases q
   ·cases q1
    refine OpOk.same h (v:=if ok then .tuple #[m'.val,.bool true] else m'.val) ?_ ?_
    ·simp only[Nat.zero_add] at q3
     rcases hmv with ⟨rfl,rfl⟩|⟨b,c,rfl,hb⟩
     ·simp at q2
     ·cases ok<;>simp[Instr.lookup,run_underlying hu,MapKept.run_getObj_map hb,checkKey_run hkk,Instr.findKey,run_underlying hd,q3]
    ·cases ok
     ·exact q4
     ·simp only[cond_true,if_true,VRel,VRels]
      exact⟨_,rfl,_,_,rfl,q4,_,_,rfl,rfl,rfl⟩
  ·rename_i hf
   cases hr
   rcases findA_rel hkk hd hka hk h1 h2 hf with ⟨_,q⟩|⟨j',x,m',q1,_⟩
   ·refine OpOk.same h (v:=if ok then .tuple #[zv,.bool false] else zv) ?_ ?_
    ·rcases hmv with ⟨rfl,rfl⟩|⟨b,c,rfl,hb⟩
     ·cases ok<;>simp[Instr.lookup,run_underlying hu,checkKey_run hkk,Instr.findKey,run_underlying hd,Instr.findNow,hz1]
     ·cases ok<;>simp[Instr.lookup,run_underlying hu,MapKept.run_getObj_map hb,checkKey_run hkk,Instr.findKey,run_underlying hd,q,hz1]
    ·cases ok
     ·exact hz2
     ·simp only[cond_true,if_true,VRel,VRels]
      exact⟨_,rfl,_,_,rfl,hz2,_,_,rfl,rfl,rfl⟩
   ·cases q1
  ·cases hr
 ·cases hr
def mapupA (hp:HP) (kk:KK) (m k v:AV):Option HP:=
 cond (keyA kk k) (match m with
  | .map id=>match hp[id]? with
   | some (some (.map es bs c))=>match findA k es 0 with
    | some (some (j,_))=>some (hp.set id (some (.map (es.set j (k,v)) bs c)))
    | some none=>some (hp.set id (some (.map (es++[(k,v)]) (bs++[c]) (c+1))))
    | none=>none
   | _=>none
  | _=>none) none
theorem modify_map {α β:Type} (f:α→β) (g:α→α) (b:β) (j:Nat):∀ (l:List α) (a:α),l[j]? = some a→f (g a)=b→(l.modify j g).map f=(l.map f).set j b:=by
 intro l a ha hb
 apply List.ext_getElem?
 intro i
 rw[List.getElem?_map,List.getElem?_modify,List.getElem?_set,List.getElem?_map]
 by_cases e:j=i
 ·subst e
  have hlt:=(List.getElem?_eq_some_iff.1 ha).1
  rw[ha]
  simp[hb,hlt]
 ·simp[e]
theorem mapup_ok {P:Program} {Γ:Cx} {hp hp':HP} (h:HSim Γ hp) {t kt e:TypeId} {kk:KK} (ht:mapP P t=some (kk,kt,e)) {m k v:AV} {mv kv vv:Value} (hm:VRel Γ m mv) (hk:VRel Γ k kv) (hv:VRel Γ v vv) (hr:mapupA hp kk m k v=some hp') :
  OpDone P Γ hp (Instr.mapUpdate t mv kv vv) hp':=by
 obtain⟨hu,hkk⟩:=mapP_some ht
 unfold mapupA at hr
 cases hka:keyA kk k<;>rw[hka] at hr
 ·cases hr
 simp only[cond_true] at hr
 obtain⟨d,hd⟩:∃ d,P.underlying kt=some d:=by
  unfold KK.of at hkk
  split at hkk
  ·exact⟨_,by assumption⟩
  ·exact⟨_,by assumption⟩
  ·cases hkk
 split at hr
 ·rename_i id
  simp only[VRel] at hm
  obtain⟨hid,rfl⟩:=hm
  split at hr
  ·rename_i es bs c hx
   obtain⟨⟨ms,clock,q1,q2,q3,q4,q5,q6,rfl⟩,hnf,hlt⟩:=h.blk _ _ hx
   have wr:∀ (o:Obj) (x':Blk),(∃ a b,o=.map a b)→BRel (Γ.setB (Γ.β id).1 o) (Γ.β id) x'→OpDone P Γ hp (setObj (Γ.β id).1 o) (hp.set id (some x')):=by
    rintro o x' ⟨a,b,rfl⟩ hb
    obtain⟨r1,r2⟩:=h.write hx (.map a b) x' (by
     intro s hs
     simp[World.shape?,q1] at hs) hb
    exact⟨_,MapKept.run_setObj_map _ q1,r1,r2⟩
   have le:∀ (o:Obj),Le Γ (Γ.setB (Γ.β id).1 o):=fun o=>Le.setB hnf (by intro s hs; simp[World.shape?,q1] at hs)
   split at hr
   ·rename_i j x hf
    cases hr
    rcases findA_rel hkk hd hka hk q4 q5 hf with ⟨q,_⟩|⟨j',x',m',p1,p2,p3,p4,p5,p6,p7⟩
    ·cases q
    ·simp only[Nat.zero_add,Option.some.injEq,Prod.mk.injEq] at p1
     obtain⟨rfl,rfl⟩:=p1
     rw[Nat.zero_add] at p3
     have hborn:((ms.modify j fun e=>{ e with key:=kv,val:=vv }).toList.map (·.born))=ms.toList.map (·.born):=by
      rw[Array.toList_modify,modify_map (·.born) _ m'.born j _ m' p2 rfl]
      apply List.ext_getElem?
      intro i
      rw[List.getElem?_set]
      split
      ·rename_i e'
       subst e'
       have:=(List.getElem?_eq_some_iff.1 p2).1
       rw[List.getElem?_map,p2]
       simp only[List.length_map,this,if_true,Option.map_some]
      ·rfl
     obtain⟨Δ,w1,w2⟩:=wr (.map (ms.modify j fun e=>{ e with key:=kv,val:=vv }) clock) (.map (es.set j (k,v)) bs clock) ⟨_,_,rfl⟩ (by
      simp only[BRel]
      refine⟨_,clock,setB_eq _ _ hlt,?_,?_,?_,?_,hborn.trans q6,rfl⟩
      ·rw[hborn]; exact q2
      ·intro m hm
       rw[Array.toList_modify] at hm
       obtain⟨i,hi⟩:=List.getElem?_of_mem hm
       rw[List.getElem?_modify] at hi
       cases hmi:ms.toList[i]? with
       | none=>rw[hmi] at hi; cases hi
       | some m0 =>
        rw[hmi] at hi
        simp only[Option.map_eq_map,Option.map_some,Option.some.injEq] at hi
        have:=q3 m0 (List.mem_of_getElem? hmi)
        subst hi
        split<;>exact this
      ·rw[Array.toList_modify,modify_map (·.key) _ kv j _ m' p2 rfl,List.map_set]
       exact (q4.le (le _)).set (hk.le (le _)) j
      ·rw[Array.toList_modify,modify_map (·.val) _ vv j _ m' p2 rfl,List.map_set]
       exact (q5.le (le _)).set (hv.le (le _)) j)
     refine⟨Δ,?_,w2⟩
     rw[← w1]
     have hget:ms[j]? = some m':=by simpa using p2
     simp[Instr.mapUpdate,run_underlying hu,MapKept.run_getObj_map q1,checkKey_run hkk,Instr.findKey,run_underlying hd,p3,Instr.keyThatStays,hget,p6]
   ·rename_i hf
    cases hr
    rcases findA_rel hkk hd hka hk q4 q5 hf with ⟨_,q⟩|⟨j',x,m',p1,_⟩
    ·obtain⟨Δ,w1,w2⟩:=wr (.map (ms.push { key:=kv,val:=vv,born:=clock }) (clock+1)) (.map (es++[(k,v)]) (bs++[clock]) (clock+1)) ⟨_,_,rfl⟩ (by
      simp only[BRel]
      refine⟨_,clock+1,setB_eq _ _ hlt,?_,?_,?_,?_,by rw[Array.toList_push,List.map_append,q6]; rfl,rfl⟩
      ·rw[Array.toList_push,List.map_append,List.nodup_append]
       refine⟨q2,by simp,?_⟩
       intro a ha b hb
       simp at hb
       subst hb
       obtain⟨m,hm,rfl⟩:=List.mem_map.1 ha
       have:=q3 m hm
       omega
      ·intro m hm
       rw[Array.toList_push,List.mem_append] at hm
       rcases hm with hm|hm
       ·have:=q3 m hm; omega
       ·simp at hm; subst hm; simp
      ·rw[Array.toList_push,List.map_append,List.map_append]
       exact (q4.le (le _)).append (by simp only[List.map_cons,List.map_nil,VRels]; exact⟨_,_,rfl,hk.le (le _),rfl⟩)
      ·rw[Array.toList_push,List.map_append,List.map_append]
       exact (q5.le (le _)).append (by simp only[List.map_cons,List.map_nil,VRels]; exact⟨_,_,rfl,hv.le (le _),rfl⟩))
     refine⟨Δ,?_,w2⟩
     rw[← w1]
     simp[Instr.mapUpdate,run_underlying hu,MapKept.run_getObj_map q1,checkKey_run hkk,Instr.findKey,run_underlying hd,q]
    ·cases p1
   ·cases hr
  ·cases hr
 ·cases hr
def delA (hp:HP) (kk:KK) (m k:AV):Option HP:=
 cond (keyA kk k) (match m with
  | .nilm=>some hp
  | .map id=>match hp[id]? with
   | some (some (.map es bs c))=>match findA k es 0 with
    | some (some (j,_))=>some (hp.set id (some (.map (es.eraseIdx j) (bs.eraseIdx j) c)))
    | some none=>some hp
    | none=>none
   | _=>none
  | _=>none) none
theorem HSim.rewrite {Γ:Cx} {hp:HP} (h:HSim Γ hp) {i:Nat} {x:Blk} (hi:hp[i]? = some (some x)) {o:Obj} (ho:Γ.w.heap[(Γ.β i).1]? = some o):∃ Δ,Δ.w={ Γ.w with heap:=Γ.w.heap.setIfInBounds (Γ.β i).1 o }∧HSim Δ hp∧Ev Γ hp Δ hp:=by
 refine⟨Γ,?_,h,Ev.refl _ _⟩
 have:Γ.w.heap.setIfInBounds (Γ.β i).1 o=Γ.w.heap:=by
  apply Array.ext_getElem?
  intro j
  rw[Array.getElem?_setIfInBounds]
  split
  ·rename_i e
   subst e
   rw[ho]
   split
   ·rfl
   ·rename_i h1; exact absurd (Array.getElem?_eq_some_iff.1 ho).1 h1
  ·rfl
 rw[this]
theorem del_ok {P:Program} {Γ:Cx} {hp hp':HP} (h:HSim Γ hp) {t kt e ty t2:TypeId} {kk:KK} (ht:mapP P t=some (kk,kt,e)) {m k:AV} {mv kv:Value} (hm:VRel Γ m mv) (hk:VRel Γ k kv) (hr:delA hp kk m k=some hp') :
  OpOk P Γ hp (Builtin.delete_ #[t,t2] ty #[mv,kv]) (.tup []) hp':=by
 obtain⟨hu,hkk⟩:=mapP_some ht
 unfold delA at hr
 cases hka:keyA kk k<;>rw[hka] at hr
 ·cases hr
 simp only[cond_true] at hr
 obtain⟨d,hd⟩:∃ d,P.underlying kt=some d:=by
  unfold KK.of at hkk
  split at hkk
  ·exact⟨_,by assumption⟩
  ·exact⟨_,by assumption⟩
  ·cases hkk
 have hnil:VRel Γ (.tup []) (.tuple #[]):=by simp[VRel,VRels]
 split at hr
 ·cases hr
  simp only[VRel] at hm
  subst hm
  refine OpOk.same h (v:=.tuple #[]) ?_ hnil
  simp[Builtin.delete_,run_underlying hu,checkKey_run hkk]
 ·rename_i id
  simp only[VRel] at hm
  obtain⟨hid,rfl⟩:=hm
  split at hr
  ·rename_i es bs c hx
   obtain⟨⟨ms,clock,q1,q2,q3,q4,q5,q6,rfl⟩,hnf,hlt⟩:=h.blk _ _ hx
   split at hr
   ·rename_i j x hf
    cases hr
    rcases findA_rel hkk hd hka hk q4 q5 hf with ⟨q,_⟩|⟨j',x',m',p1,p2,p3,p4,p5,p6,p7⟩
    ·cases q
    ·simp only[Nat.zero_add,Option.some.injEq,Prod.mk.injEq] at p1
     obtain⟨rfl,rfl⟩:=p1
     rw[Nat.zero_add] at p3
     have hse:(ms.eraseIdxIfInBounds j).toList=ms.toList.eraseIdx j:=by simp
     have le:Le Γ (Γ.setB (Γ.β id).1 (.map (ms.eraseIdxIfInBounds j) clock)):=Le.setB hnf (by intro s hs; simp[World.shape?,q1] at hs)
     obtain⟨r1,r2⟩:=h.write hx (.map (ms.eraseIdxIfInBounds j) clock) (.map (es.eraseIdx j) (bs.eraseIdx j) clock) (by intro s hs; simp[World.shape?,q1] at hs) (by
      simp only[BRel]
      refine⟨_,clock,setB_eq _ _ hlt,?_,?_,?_,?_,?_,rfl⟩
      ·rw[hse,ChangeMaps.map_eraseIdx]
       exact q2.sublist (List.eraseIdx_sublist _ _)
      ·intro m hm
       rw[hse] at hm
       exact q3 m ((List.eraseIdx_sublist _ _).subset hm)
      ·rw[hse,ChangeMaps.map_eraseIdx,ChangeMaps.map_eraseIdx]
       exact (q4.le le).erase j
      ·rw[hse,ChangeMaps.map_eraseIdx,ChangeMaps.map_eraseIdx]
       exact (q5.le le).erase j
      ·rw[hse,ChangeMaps.map_eraseIdx,q6])
     refine⟨.tuple #[],_,?_,by simp[VRel,VRels],r1,r2⟩
     simp[Builtin.delete_,run_underlying hu,MapKept.run_getObj_map q1,checkKey_run hkk,Instr.findKey,run_underlying hd,p3,MapKept.run_setObj_map _ q1]
     rfl
   ·rename_i hf
    cases hr
    rcases findA_rel hkk hd hka hk q4 q5 hf with ⟨_,q⟩|⟨j',x,m',p1,_⟩
    ·obtain⟨Δ,w1,w2,w3⟩:=h.rewrite hx q1
     refine⟨.tuple #[],Δ,?_,by simp[VRel,VRels],w2,w3⟩
     simp[Builtin.delete_,run_underlying hu,MapKept.run_getObj_map q1,checkKey_run hkk,Instr.findKey,run_underlying hd,q,MapKept.run_setObj_map _ q1,w1]
    ·cases p1
   ·cases hr
  ·cases hr
 ·cases hr
def rangeA (hp:HP) (m:AV):Option (AV × HP):=
 match m with
 | .nilm=>some (.ptr hp.length 0,hp++[some (.iter [.nilm] 0 [] 0)])
 | .map id=>match hp[id]? with
  | some (some (.map _ _ c))=>some (.ptr hp.length 0,hp++[some (.iter [.map id] c [] c)])
  | _=>none
 | _=>none
theorem range_ok {P:Program} {Γ:Cx} {hp:HP} (h:HSim Γ hp) {t a b:TypeId} (hu:P.underlying t=some (.map a b)) {m r:AV} {hp':HP} {mv:Value} (hm:VRel Γ m mv) (hr:rangeA hp m=some (r,hp')):OpOk P Γ hp (Instr.range t mv) r hp':=by
 have gen:∀ (mo:Option Nat) (c:Nat),mv=.map mo→(Instr.range t mv).run P Γ.w=.ok (.pointer (some ⟨Γ.w.heap.size,0,none⟩)) (Γ.w.alloc (.mapIter mo c #[] c))→OpOk P Γ hp (Instr.range t mv) (.ptr hp.length 0) (hp++[some (.iter [m] c [] c)]):=by
  intro mo c hmv hrun
  have le:Le Γ ((Γ.alloc (.mapIter mo c #[] c)).know (Γ.w.heap.size,0)):=(Le.alloc h.fz _).trans (Le.know _ _)
  have hs:=h.new (.mapIter mo c #[] c) (.iter [m] c [] c) (by
   simp only[BRel]
   exact⟨.map mo,⟨.inl ⟨mo,rfl,alloc_new _ _⟩,trivial⟩,by simp only[VRels]; exact⟨_,_,rfl,(hmv ▸ hm).le le,rfl⟩⟩)
  refine⟨_,_,hrun,?_,hs.1,hs.2⟩
  simp only[VRel]
  simp[Cx.know,Cx.alloc,h.len]
 unfold rangeA at hr
 split at hr
 ·cases hr
  simp only[VRel] at hm
  exact gen none 0 hm (by simp[Instr.range,run_underlying hu,hm])
 ·rename_i id
  split at hr
  ·rename_i es bs c hx
   cases hr
   simp only[VRel] at hm
   obtain⟨hid,hm⟩:=hm
   obtain⟨⟨ms,clock,q1,_,_,_,_,_,rfl⟩,_,_⟩:=h.blk _ _ hx
   exact gen _ clock hm (by simp[Instr.range,run_underlying hu,hm,MapKept.run_getObj_map q1])
  ·cases hr
 ·cases hr
def seenN:List Nat→Nat→Bool
 | [],_=>false
 | a :: l,b=>cond (Nat.beq a b) true (seenN l b)
theorem seenN_eq:∀ (l:List Nat) (b:Nat),seenN l b=l.contains b
 | [],b=>by simp[seenN]
 | a :: l,b=>by
  simp only[seenN,List.contains_cons]
  cases hb:Nat.beq a b
  ·have:(b == a)=false:=beq_eq_false_iff_ne.2 fun h=>by subst h; rw[Nat.beq_refl] at hb; cases hb
   rw[this,cond_false,Bool.false_or,seenN_eq l b]
  ·rw[Nat.eq_of_beq_eq_true hb]; simp
def candA:List (AV × AV)→List Nat→List Nat→List (AV × AV × Nat)
 | (k,v) :: es,b :: bs,seen=>cond (seenN seen b) (candA es bs seen) ((k,v,b) :: candA es bs seen)
 | _,_,_=>[]
theorem candA_rel {Γ:Cx} {seen:List Nat}:∀ {es:List (AV × AV)} {ms:List MapEntry},VRels Γ (es.map (·.1)) (ms.map (·.key))→VRels Γ (es.map (·.2)) (ms.map (·.val)) →
  (candA es (ms.map (·.born)) seen).length=(ms.filter fun m => !seen.contains m.born).length∧∀ (i:Nat) k v b,(candA es (ms.map (·.born)) seen)[i]? = some (k,v,b)→∃ m,(ms.filter fun m => !seen.contains m.born)[i]? = some m∧VRel Γ k m.key∧VRel Γ v m.val∧m.born=b
 | [],ms,h1,h2=>by
  have:ms=[]:=by
   have:=h1.length
   simp at this
   exact List.eq_nil_of_length_eq_zero this.symm
  subst this
  simp[candA]
 | (k',v') :: es,[],h1,h2=>by have:=h1.length; simp at this
 | (k',v') :: es,m :: ms,h1,h2=>by
  simp only[List.map_cons,VRels,List.cons.injEq] at h1 h2
  obtain⟨_,_,⟨rfl,rfl⟩,k1,k2⟩:=h1
  obtain⟨_,_,⟨rfl,rfl⟩,k3,k4⟩:=h2
  obtain⟨i1,i2⟩:=candA_rel (seen:=seen) k2 k4
  simp only[List.map_cons,candA,seenN_eq,List.filter_cons]
  cases hb:seen.contains m.born
  ·simp only[cond_false,Bool.not_false,if_true,List.length_cons,i1,true_and]
   intro i k v b hi
   cases i with
   | zero=>simp at hi; obtain⟨rfl,rfl,rfl⟩:=hi; exact⟨m,rfl,k1,k3,rfl⟩
   | succ i=>simpa using i2 i k v b (by simpa using hi)
  ·simp only[cond_true,Bool.not_true,Bool.false_eq_true,if_false]
   exact⟨i1,i2⟩
def nextA (hp:HP) (it:AV):Option (AV × HP):=
 match it with
 | .ptr id 0=>match hp[id]? with
  | some (some (.iter is since seen last))=>match is with
   | [.nilm]=>some (.tup [.bool false],hp)
   | [.map k]=>match hp[k]? with
    | some (some (.map es bs clock))=>cond (bs.all (fun b=>Nat.blt b since) && Nat.ble since last) (match candA es bs seen with
     | []=>some (.tup [.bool false],hp)
     | [(kk,vv,b)]=>some (.tup [.bool true,kk,vv],hp.set id (some (.iter [.map k] since (seen++[b]) clock)))
     | _=>none) none
    | _=>none
   | _=>none
  | _=>none
 | _=>none
theorem next_ok {P:Program} {Γ:Cx} {hp:HP} (h:HSim Γ hp) {ty:TypeId} {it r:AV} {hp':HP} {iv:Value} (hi:VRel Γ it iv) (hr:nextA hp it=some (r,hp')):OpOk P Γ hp (Instr.next iv false ty) r hp':=by
 unfold nextA at hr
 split at hr
 ·rename_i id
  split at hr
  ·rename_i is since seen last hx
   obtain⟨⟨v0,⟨q0,hz⟩,q2⟩,hnf,hlt⟩:=h.blk _ _ hx
   obtain⟨mo,rfl,q1⟩|⟨s0,rfl,q1⟩:=q0
   case inr=>split at hr<;>first|(exfalso; simp[VRels,VRel] at q2; done)|(cases hr; done)
   simp only[VRel] at hi
   obtain⟨hid,rfl⟩:=hi
   rw[hz]
   split at hr
   ·cases hr
    simp only[VRels,List.cons.injEq,VRel] at q2
    obtain⟨_,_,⟨rfl,_⟩,e1,_⟩:=q2
    cases e1
    refine OpOk.same h (v:=.tuple #[.bool false]) ?_ (by simp only[VRel,VRels]; exact⟨_,rfl,_,_,rfl,rfl,rfl⟩)
    simp[Instr.next,getObj,Sem.run,q1]
   ·rename_i k
    split at hr
    ·rename_i es bs clock hk
     obtain⟨⟨ms,clock',p1,p2,p3,p4,p5,p6,rfl⟩,_,_⟩:=h.blk _ _ hk
     simp only[VRels,List.cons.injEq,VRel] at q2
     obtain⟨_,_,⟨rfl,_⟩,⟨hkn,e1⟩,_⟩:=q2
     cases e1
     cases hc:(bs.all (fun b=>Nat.blt b since) && Nat.ble since last)<;>rw[hc] at hr
     ·cases hr
     simp only[cond_true] at hr
     simp only[Bool.and_eq_true] at hc
     have hold:∀ x ∈ ms.toList,x.born<since:=fun x hx'=>by
      have:x.born ∈ bs:=by rw[← p6]; exact List.mem_map_of_mem hx'
      have:=List.all_eq_true.1 hc.1 _ this
      exact Nat.le_of_ble_eq_true this
     have hrun:=run_next_at (P:=P) Γ.w ty (Γ.β id).1 (Γ.β k).1 since last ⟨seen⟩ ms clock' q1 p1 hold (Nat.le_of_ble_eq_true hc.2)
     obtain⟨c1,c2⟩:=candA_rel (Γ:=Γ) (seen:=seen) p4 p5
     rw[p6] at c1 c2
     have hleft:(leftOf ms ⟨seen⟩).toList=ms.toList.filter (fun m => !seen.contains m.born):=by
      simp[leftOf]
     have hsize:(leftOf ms ⟨seen⟩).size=(candA es bs seen).length:=by
      rw[c1,← hleft]; rfl
     split at hr
     ·rename_i hcand
      cases hr
      rw[hcand] at hsize
      rcases hrun with ⟨_,hrun⟩|⟨e,he,_⟩
      ·exact OpOk.same h hrun (by simp only[VRel,VRels]; exact⟨_,rfl,_,_,rfl,rfl,rfl⟩)
      ·have:(leftOf ms ⟨seen⟩).toList=[]:=List.eq_nil_of_length_eq_zero hsize
       rw[this] at he
       cases he
     ·rename_i kk vv b hcand
      cases hr
      rw[hcand] at hsize c2
      obtain⟨m,m1,m2,m3,m4⟩:=c2 0 kk vv b rfl
      rcases hrun with ⟨h0,_⟩|⟨e,he,w1,hw1,hrun⟩
      ·rw[h0] at hsize; cases hsize
      ·have hem:e=m:=by
        rw[← hleft] at m1
        have hl:(leftOf ms ⟨seen⟩).toList.length=1:=hsize
        match hq:(leftOf ms ⟨seen⟩).toList,hl with
        | [z],_ =>
         rw[hq] at he m1
         simp at he m1
         rw[he,m1]
       subst hem
       have main:∀ n,w1=(Γ.drewN n).w→OpOk P Γ hp (Instr.next (.pointer (some ⟨(Γ.β id).1,0,none⟩)) false ty) (.tup [.bool true,kk,vv]) (hp.set id (some (.iter [.map k] since (seen++[b]) clock'))):=by
        intro n hn
        have h1:=h.drewN n
        obtain⟨r1,r2⟩:=h1.write hx (.mapIter (some (Γ.β k).1) since ((⟨seen⟩:Array Nat).push e.born) clock') (.iter [.map k] since (seen++[b]) clock') (by
         intro s hs
         have q1':(Γ.drewN n).w.heap[((Γ.drewN n).β id).1]? = some (.mapIter (some (Γ.β k).1) since ⟨seen⟩ last):=q1
         simp[World.shape?,q1'] at hs) (by
         simp only[BRel]
         refine⟨.map (some (Γ.β k).1),⟨.inl ⟨_,rfl,?_⟩,hz⟩,by simp only[VRels]; exact⟨_,_,rfl,by simp only[VRel]; exact⟨hkn,rfl⟩,rfl⟩⟩
         rw[m4]
         simp only[Cx.setB]
         rw[setB_eq _ _ (by exact hlt)]
         simp)
        have le1:Le Γ ((Γ.drewN n).setB ((Γ.drewN n).β id).1 (.mapIter (some (Γ.β k).1) since ((⟨seen⟩:Array Nat).push e.born) clock')):=(Le.drewN Γ n).trans r2.le
        refine⟨.tuple #[.bool true,e.key,e.val],_,?_,?_,r1,(Ev.drewN Γ hp n).trans r2⟩
        ·rw[hrun,hn]; rfl
        ·simp only[VRel,VRels]
         exact⟨_,rfl,_,_,rfl,rfl,_,_,rfl,m2.le le1,_,_,rfl,m3.le le1,rfl⟩
       rcases hw1 with rfl|rfl
       ·exact main 0 rfl
       ·exact main 1 rfl
     ·cases hr
    ·cases hr
   ·cases hr
  ·cases hr
 ·cases hr
def nextDs (hp:HP) (it:AV):Option (List (AV × HP)):=
 match it with
 | .ptr id 0=>match hp[id]? with
  | some (some (.iter is since seen last))=>match is with
   | [.map k]=>match hp[k]? with
    | some (some (.map es bs clock))=>cond (bs.all (fun b=>Nat.blt b since) && Nat.ble since last) (match candA es bs seen with
     | []=>some [(.tup [.bool false],hp)]
     | c :: cs=>some ((c :: cs).map fun x=>(.tup [.bool true,x.1,x.2.1],hp.set id (some (.iter [.map k] since (seen++[x.2.2]) clock))))) none
    | _=>none
   | _=>none
  | _=>none
 | _=>none
theorem nextA_draws {hp:HP} {it:AV} {l:List (AV × HP)} (h:nextDs hp it=some l):∀ x,nextA hp it=some x→x ∈ l:=by
 intro x hx
 unfold nextDs at h
 unfold nextA at hx
 repeat' split at h
 all_goals first|(cases h; done)|skip
 ·rename_i h1 _ _ _ _ h2 _ h3
  simp only[h1,h2,h3] at hx
  revert h hx
  cases (List.all _ _ && Nat.ble _ _)
  ·intro h; cases h
  ·intro h hx
   cases h
   cases hx
   exact List.mem_singleton.2 rfl
 ·rename_i h1 _ _ _ _ h2 _ _ _ h3
  simp only[h1,h2,h3] at hx
  revert h hx
  cases (List.all _ _ && Nat.ble _ _)
  ·intro h; cases h
  ·intro h hx
   cases h
   simp only[cond_true] at hx
   split at hx
   ·rename_i hc; cases hc
   ·rename_i hc
    cases hc
    cases hx
    exact List.mem_cons_self
   ·cases hx
theorem nextD_ok {P:Program} {Γ:Cx} {hp:HP} (h:HSim Γ hp) {ty:TypeId} {it:AV} {l:List (AV × HP)} {iv:Value} (hi:VRel Γ it iv) (hr:nextDs hp it=some l):∃ x ∈ l,OpOk P Γ hp (Instr.next iv false ty) x.1 x.2:=by
 unfold nextDs at hr
 split at hr
 ·rename_i id
  split at hr
  ·rename_i is since seen last hx
   obtain⟨⟨v0,⟨q0,hz⟩,q2⟩,hnf,hlt⟩:=h.blk _ _ hx
   obtain⟨mo,rfl,q1⟩|⟨s0,rfl,q1⟩:=q0
   case inr=>split at hr<;>first|(exfalso; simp[VRels,VRel] at q2; done)|(cases hr; done)
   simp only[VRel] at hi
   obtain⟨hid,rfl⟩:=hi
   rw[hz]
   split at hr
   ·rename_i k
    split at hr
    ·rename_i es bs clock hk
     obtain⟨⟨ms,clock',p1,p2,p3,p4,p5,p6,rfl⟩,_,_⟩:=h.blk _ _ hk
     simp only[VRels,List.cons.injEq,VRel] at q2
     obtain⟨_,_,⟨rfl,_⟩,⟨hkn,e1⟩,_⟩:=q2
     cases e1
     cases hc:(bs.all (fun b=>Nat.blt b since) && Nat.ble since last)<;>rw[hc] at hr
     ·cases hr
     simp only[cond_true] at hr
     simp only[Bool.and_eq_true] at hc
     have hold:∀ x ∈ ms.toList,x.born<since:=fun x hx'=>by
      have:x.born ∈ bs:=by rw[← p6]; exact List.mem_map_of_mem hx'
      have:=List.all_eq_true.1 hc.1 _ this
      exact Nat.le_of_ble_eq_true this
     have hrun:=run_next_at (P:=P) Γ.w ty (Γ.β id).1 (Γ.β k).1 since last ⟨seen⟩ ms clock' q1 p1 hold (Nat.le_of_ble_eq_true hc.2)
     obtain⟨c1,c2⟩:=candA_rel (Γ:=Γ) (seen:=seen) p4 p5
     rw[p6] at c1 c2
     have hleft:(leftOf ms ⟨seen⟩).toList=ms.toList.filter (fun m => !seen.contains m.born):=by
      simp[leftOf]
     have hsize:(leftOf ms ⟨seen⟩).size=(candA es bs seen).length:=by
      rw[c1,← hleft]; rfl
     split at hr
     ·rename_i hcand
      cases hr
      rw[hcand] at hsize
      rcases hrun with ⟨_,hrun⟩|⟨e,he,_⟩
      ·exact⟨_,List.mem_singleton.2 rfl,OpOk.same h hrun (by simp only[VRel,VRels]; exact⟨_,rfl,_,_,rfl,rfl,rfl⟩)⟩
      ·have:(leftOf ms ⟨seen⟩).toList=[]:=List.eq_nil_of_length_eq_zero hsize
       rw[this] at he
       cases he
     ·rename_i c0 cs0 hcand
      rw[← hcand] at hr
      cases hr
      rcases hrun with ⟨h0,_⟩|⟨e,he,w1,hw1,hrun⟩
      ·rw[h0,hcand] at hsize; cases hsize
      ·obtain⟨i,hi'⟩:=List.getElem?_of_mem he
       have hil:i<(candA es bs seen).length:=by
        have:=(List.getElem?_eq_some_iff.1 hi').1
        rw[← hsize]
        exact this
       obtain⟨⟨kk,vv,b⟩,hci⟩:∃ x,(candA es bs seen)[i]? = some x:=⟨_,List.getElem?_eq_getElem hil⟩
       obtain⟨m,m1,m2,m3,m4⟩:=c2 i kk vv b hci
       have hem:e=m:=by
        rw[← hleft,hi'] at m1
        exact Option.some.inj m1
       subst hem
       refine⟨_,List.mem_map_of_mem (List.mem_of_getElem? hci),?_⟩
       have main:∀ n,w1=(Γ.drewN n).w→OpOk P Γ hp (Instr.next (.pointer (some ⟨(Γ.β id).1,0,none⟩)) false ty) (.tup [.bool true,kk,vv]) (hp.set id (some (.iter [.map k] since (seen++[b]) clock'))):=by
        intro n hn
        have h1:=h.drewN n
        obtain⟨r1,r2⟩:=h1.write hx (.mapIter (some (Γ.β k).1) since ((⟨seen⟩:Array Nat).push e.born) clock') (.iter [.map k] since (seen++[b]) clock') (by
         intro s hs
         have q1':(Γ.drewN n).w.heap[((Γ.drewN n).β id).1]? = some (.mapIter (some (Γ.β k).1) since ⟨seen⟩ last):=q1
         simp[World.shape?,q1'] at hs) (by
         simp only[BRel]
         refine⟨.map (some (Γ.β k).1),⟨.inl ⟨_,rfl,?_⟩,hz⟩,by simp only[VRels]; exact⟨_,_,rfl,by simp only[VRel]; exact⟨hkn,rfl⟩,rfl⟩⟩
         rw[m4]
         simp only[Cx.setB]
         rw[setB_eq _ _ (by exact hlt)]
         simp)
        have le1:Le Γ ((Γ.drewN n).setB ((Γ.drewN n).β id).1 (.mapIter (some (Γ.β k).1) since ((⟨seen⟩:Array Nat).push e.born) clock')):=(Le.drewN Γ n).trans r2.le
        refine⟨.tuple #[.bool true,e.key,e.val],_,?_,?_,r1,(Ev.drewN Γ hp n).trans r2⟩
        ·rw[hrun,hn]; rfl
        ·simp only[VRel,VRels]
         exact⟨_,rfl,_,_,rfl,rfl,_,_,rfl,m2.le le1,_,_,rfl,m3.le le1,rfl⟩
       rcases hw1 with rfl|rfl
       ·exact main 0 rfl
       ·exact main 1 rfl
    ·cases hr
   ·cases hr
  ·cases hr
 ·cases hr
def rangeSA (hp:HP) (m:AV):Option (AV × HP):=
 match m with
 | .str s=>some (.ptr hp.length 0,hp++[some (.iter [.str s] 0 [] 0)])
 | _=>none
theorem rangeS_ok {P:Program} {Γ:Cx} {hp:HP} (h:HSim Γ hp) {t:TypeId} (hu:P.underlying t=some .string) {m r:AV} {hp':HP} {mv:Value} (hm:VRel Γ m mv) (hr:rangeSA hp m=some (r,hp')):OpOk P Γ hp (Instr.range t mv) r hp':=by
 unfold rangeSA at hr
 split at hr
 ·rename_i s
  cases hr
  simp only[VRel] at hm
  subst hm
  have hs:=h.new (.stringIter ⟨s.toArray⟩ 0) (.iter [.str s] 0 [] 0) (by
   simp only[BRel]
   exact⟨_,⟨.inr ⟨_,rfl,alloc_new _ _⟩,trivial⟩,by simp only[VRels,VRel]; exact⟨_,_,rfl,rfl,rfl⟩⟩)
  refine⟨.pointer (some ⟨Γ.w.heap.size,0,none⟩),_,?_,?_,hs.1,hs.2⟩
  ·simp[Instr.range,run_underlying hu,newObj,Sem.run_bind,Cx.know,Cx.alloc]
   rfl
  ·simp only[VRel]
   simp[Cx.know,Cx.alloc,h.len]
 ·cases hr
def nextSA (hp:HP) (it:AV):Option (AV × HP):=
 match it with
 | .ptr id 0=>match hp[id]? with
  | some (some (.iter is pos seen last))=>match is with
   | [.str s]=>cond (Nat.blt pos s.length) (some (.tup [.bool true,.int .i64 pos,.int .i32 (Utf8.decode ⟨s.toArray⟩ pos).1],hp.set id (some (.iter [.str s] (pos+(Utf8.decode ⟨s.toArray⟩ pos).2) seen last)))) (some (.tup [.bool false],hp))
   | _=>none
  | _=>none
 | _=>none
theorem nextS_ok {P:Program} {Γ:Cx} {hp:HP} (h:HSim Γ hp) {ty:TypeId} {it r:AV} {hp':HP} {iv:Value} (hi:VRel Γ it iv) (hr:nextSA hp it=some (r,hp')):OpOk P Γ hp (Instr.next iv true ty) r hp':=by
 unfold nextSA at hr
 split at hr
 ·rename_i id
  split at hr
  ·rename_i is pos seen last hx
   obtain⟨⟨v0,⟨q0,hz⟩,q2⟩,hnf,hlt⟩:=h.blk _ _ hx
   simp only[VRel] at hi
   obtain⟨hid,rfl⟩:=hi
   rw[hz]
   split at hr
   ·rename_i s
    simp only[VRels,List.cons.injEq,VRel] at q2
    obtain⟨_,_,⟨rfl,_⟩,rfl,_⟩:=q2
    obtain⟨mo,e,_⟩|⟨s0,e,q1⟩:=q0
    ·cases e
    cases e
    cases hb:Nat.blt pos s.length<;>rw[hb] at hr
    ·cases hr
     have hn:¬ pos<s.length:=fun h=>by rw[← Nat.blt_eq,hb] at h; cases h
     refine OpOk.same h (v:=.tuple #[.bool false]) ?_ (by simp only[VRel,VRels]; exact⟨_,rfl,_,_,rfl,rfl,rfl⟩)
     have hsz:(⟨s.toArray⟩:ByteArray).size=s.length:=by simp[ByteArray.size]
     simp[Instr.next,getObj,Sem.run,q1,hn,hsz]
    ·cases hr
     have hn:pos<s.length:=by rw[← Nat.blt_eq]; exact hb
     obtain⟨r1,r2⟩:=h.write hx (.stringIter ⟨s.toArray⟩ (pos+(Utf8.decode ⟨s.toArray⟩ pos).2)) (.iter [.str s] (pos+(Utf8.decode ⟨s.toArray⟩ pos).2) seen last) (by
      intro sh hs
      simp[World.shape?,q1] at hs) (by
      simp only[BRel]
      refine⟨_,⟨.inr ⟨_,rfl,?_⟩,hz⟩,by simp only[VRels,VRel]; exact⟨_,_,rfl,rfl,rfl⟩⟩
      simp only[Cx.setB]
      rw[setB_eq _ _ hlt])
     refine⟨.tuple #[.bool true,.int .i64 pos,.int .i32 (Utf8.decode ⟨s.toArray⟩ pos).1],_,?_,?_,r1,r2⟩
     ·have hr1:(getObj (Γ.β id).1).run P Γ.w=.ok (.stringIter ⟨s.toArray⟩ pos) Γ.w:=by simp[getObj,Sem.run,q1]
      simp only[Instr.next,Sem.run_bind,Nat.zero_add,hr1,Result.andThen_ok]
      have hsz:(⟨s.toArray⟩:ByteArray).size=s.length:=by simp[ByteArray.size]
      simp[hn,hsz,setObj,Sem.run,goInt,Cx.setB,setB,q1]
     ·simp only[VRel,VRels]
      exact⟨_,rfl,_,_,rfl,rfl,_,_,rfl,rfl,_,_,rfl,rfl,rfl⟩
   ·cases hr
  ·cases hr
 ·cases hr
def stampA:List (AV × AV)→List Nat→Nat→Option (AV × AV)
 | (k,v) :: es,b :: bs,n=>cond (Nat.beq b n) (some (k,v)) (stampA es bs n)
 | _,_,_=>none
theorem stampA_rel {Γ:Cx} {n:Nat}:∀ {es:List (AV × AV)} {ms:List MapEntry} {k v:AV},VRels Γ (es.map (·.1)) (ms.map (·.key))→VRels Γ (es.map (·.2)) (ms.map (·.val))→stampA es (ms.map (·.born)) n=some (k,v)→∃ m ∈ ms,VRel Γ k m.key∧VRel Γ v m.val∧m.born=n
 | [],ms,k,v,h1,h2,h=>by simp[stampA] at h
 | (k',v') :: es,[],k,v,h1,h2,h=>by simp[stampA] at h
 | (k',v') :: es,m :: ms,k,v,h1,h2,h=>by
  simp only[List.map_cons,VRels,List.cons.injEq] at h1 h2
  obtain⟨_,_,⟨rfl,rfl⟩,k1,k2⟩:=h1
  obtain⟨_,_,⟨rfl,rfl⟩,k3,k4⟩:=h2
  simp only[List.map_cons,stampA] at h
  cases hb:Nat.beq m.born n<;>rw[hb] at h
  ·obtain⟨m',h5,h6⟩:=stampA_rel k2 k4 h
   exact⟨m',List.mem_cons_of_mem _ h5,h6⟩
  ·cases h
   exact⟨m,List.mem_cons_self,k1,k3,Nat.eq_of_beq_eq_true hb⟩
def entA (hp:HP) (it:AV):Option AV:=
 match it with
 | .ptr id 0=>match hp[id]? with
  | some (some (.iter is since seen last))=>match is,seen.reverse with
   | [.map k],b :: pre=>match hp[k]? with
    | some (some (.map es bs clock))=>cond (Nat.beq clock last) (match stampA es bs b with
     | some (k,v)=>some (.tup [k,v])
     | none=>none) none
    | _=>none
   | _,_=>none
  | _=>none
 | _=>none
theorem ent_ok {P:Program} {Γ:Cx} {hp:HP} (h:HSim Γ hp) {it r:AV} {iv:Value} (hi:VRel Γ it iv) (hr:entA hp it=some r):OpOk P Γ hp (Instr.entry iv) r hp:=by
 unfold entA at hr
 split at hr
 ·rename_i id
  split at hr
  ·rename_i is since seen last hx
   obtain⟨⟨v0,⟨q0,hz⟩,q2⟩,hnf,hlt⟩:=h.blk _ _ hx
   obtain⟨mo,rfl,q1⟩|⟨s0,rfl,q1⟩:=q0
   case inr=>split at hr<;>first|(exfalso; simp[VRels,VRel] at q2; done)|(cases hr; done)
   simp only[VRel] at hi
   obtain⟨hid,rfl⟩:=hi
   rw[hz]
   split at hr
   ·rename_i k b pre hseen
    split at hr
    ·rename_i es bs clock hk
     obtain⟨⟨ms,clock',p1,p2,p3,p4,p5,p6,rfl⟩,_,_⟩:=h.blk _ _ hk
     simp only[VRels,List.cons.injEq,VRel] at q2
     obtain⟨_,_,⟨rfl,_⟩,⟨hkn,e1⟩,_⟩:=q2
     cases e1
     cases hc:Nat.beq clock' last<;>rw[hc] at hr
     ·cases hr
     simp only[cond_true] at hr
     have hcl:=Nat.eq_of_beq_eq_true hc
     split at hr
     ·rename_i kk vv hst
      cases hr
      rw[← p6] at hst
      obtain⟨m,m1,m2,m3,m4⟩:=stampA_rel p4 p5 hst
      have hs:(⟨seen⟩:Array Nat)=(⟨pre.reverse⟩:Array Nat).push m.born:=by
       apply Array.ext'
       rw[m4]
       simp only[Array.toList_push]
       have:=congrArg List.reverse hseen
       simpa using this
      rw[hs,← hcl] at q1
      refine OpOk.same h (run_entry_at Γ.w (Γ.β id).1 (Γ.β k).1 since ⟨pre.reverse⟩ ms clock' m q1 p1 m1 p2) ?_
      simp only[VRel,VRels]
      exact⟨_,rfl,_,_,rfl,m2,_,_,rfl,m3,rfl⟩
     ·cases hr
    ·cases hr
   ·cases hr
  ·cases hr
 ·cases hr
end
end Go.Gi
