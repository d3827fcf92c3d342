/- Maps by strings and by numbers. -/
import Derived.Test.YtakdhioafodhcaaGreatDoorGiZ
import Derived.MapKept
import Derived.Maps.RangeRun
set_option linter.unusedVariables false
set_option linter.unusedSimpArgs false
namespace Go.Gi
open _root_.Bool renaming false_eq_true → qA, and_eq_true → qp
open _root_.List renaming eq_nil_of_length_eq_zero → qq, getElem?_eq_some_iff → qf, mem_of_getElem? → xa, mem_map_of_mem → xx, mem_cons_self → qD, mem_singleton → qQ, getElem?_set → xH, all_eq_true → xr, map_append → qC, map_cons → qB, map_nil → xW
open _root_.List.cons renaming injEq → xc
open _root_.Nat renaming eq_of_beq_eq_true → xo, zero_add → qY
open _root_.Go.Gi.OpOk renaming same → qE
open _root_.Option renaming map_some → qh
open _root_.Option.some renaming injEq → qd
open _root_.Prod.mk renaming injEq → qj
open _root_.Go.Result renaming andThen_ok → qy
open _root_.Go.Sem renaming run_bind → qN
set_option linter.unusedSectionVars false
variable [Mx]
open Go
def kEq:IntKind→IntKind→Bool
 | .i64,.i64=>true
 | .u8,.u8=>true
 | a,b=>decide (a=b)
theorem kEq_eq {a b:IntKind} (h:kEq a b=true):a=b:=by
 unfold kEq at h
 split at h
 ·rfl
 ·rfl
 ·exact of_decide_eq_true h
def bEqb:List UInt8→List UInt8→Bool
 | [],[]=>true
 | a :: as,b :: bs=>cond (Nat.beq a.toNat b.toNat) (bEqb as bs) false
 | _,_=>false
theorem bEqb_eq:∀ (a b:List UInt8),bEqb a b=decide (a=b)
 | [],[]=>by simp[bEqb]
 | [],_ :: _=>by simp[bEqb]
 | _ :: _,[]=>by simp[bEqb]
 | a :: as,b :: bs=>by
  simp only[bEqb]
  cases hb:Nat.beq a.toNat b.toNat
  ·have:a≠b:=fun h=>by subst h; rw[Nat.beq_refl] at hb; cases hb
   simp[this]
  ·have:a=b:=UInt8.toNat_inj.1 (xo hb)
   subst this
   rw[cond_true,bEqb_eq as bs]
   simp
inductive KK where
 | str | int
def KK.of (P:Program) (t:TypeId):Option KK:=
 match P.underlying t with
 | some .string=>some .str
 | some (.int _)=>some .int
 | _=>none
def mapP (P:Program) (t:TypeId):Option (KK × TypeId × TypeId):=
 match P.underlying t with
 | some (.map k e)=>match KK.of P k with
  | some kk=>some (kk,k,e)
  | none=>none
 | _=>none
theorem mapP_some {P:Program} {t k e:TypeId} {kk:KK} (h:mapP P t=some (kk,k,e)):P.underlying t=some (.map k e)∧KK.of P k=some kk:=by
 unfold mapP at h
 split at h
 ·rename_i k' e' hu
  split at h
  ·rename_i kk' hk
   simp only[qd,qj] at h
   obtain⟨rfl,rfl,rfl⟩:=h
   exact⟨hu,hk⟩
  ·cases h
 ·cases h
def keyA:KK→AV→Bool
 | .str,.str _=>true
 | .int,.int _ _=>true
 | _,_=>false
def keyEqA:AV→AV→Option Bool
 | .str a,.str b=>some (bEqb a b)
 | .int k a,.int k' b=>cond (kEq k k') (some (decide (a=b))) none
 | _,_=>none
def findA (k:AV):List (AV × AV)→Nat→Option (Option (Nat × AV))
 | [],_=>some none
 | (k',v) :: es,i=>match keyEqA k k' with
  | some true=>some (some (i,v))
  | some false=>findA k es (i+1)
  | none=>none
theorem keyEqA_rel {P:Program} {Γ:Cx} {kk:KK} {t:TypeId} (ht:KK.of P t=some kk) {a b:AV} (ha:keyA kk a=true) {u v:Value} (hu:VRel Γ a u) (hv:VRel Γ b v) {r:Bool} (h:keyEqA a b=some r) :
  ∃ d,P.underlying t=some d∧Instr.sameNow d u v=some r∧(r=true→v=u∧Instr.sameBits 10000 v u=true):=by
 unfold KK.of at ht
 split at ht
 ·rename_i hd
  cases ht
  cases a<;>cases b<;>simp only[keyA,keyEqA,reduceCtorEq,qd,qA] at ha h
  simp only[VRel] at hu hv
  subst hu; subst hv
  rw[bEqb_eq] at h
  refine⟨_,hd,?_,fun hr=>?_⟩
  ·simp only[Instr.sameNow,qd]
   rw[← h]
   rename_i s s'
   by_cases e:s=s'
   ·subst e; simp[MapKept.bytes_beq]
   ·simp only[e,decide_false]
    refine Bool.eq_false_iff.2 fun hb=>e ?_
    have:=(MapKept.bytes_beq _ _).1 hb
    simpa using this
  ·subst hr
   have:=of_decide_eq_true h
   subst this
   exact⟨rfl,by simp[Instr.sameBits,MapKept.bytes_beq]⟩
 ·rename_i k0 hd
  cases ht
  cases a<;>cases b<;>simp only[keyA,keyEqA,reduceCtorEq,qA] at ha h
  rename_i k n k' n'
  simp only[VRel] at hu hv
  subst hu; subst hv
  cases hk:kEq k k'<;>rw[hk] at h
  ·cases h
  ·have:=kEq_eq hk
   subst this
   simp only[cond_true,qd] at h
   refine⟨_,hd,?_,fun hr=>?_⟩
   ·simp only[Instr.sameNow,if_true,qd]
    rw[← h]
    by_cases e:n=n'
    ·subst e; simp
    ·simp[e]
   ·subst hr
    have:=of_decide_eq_true h
    subst this
    exact⟨rfl,by simp[Instr.sameBits]⟩
 ·cases ht
theorem findA_rel {P:Program} {Γ:Cx} {kk:KK} {t:TypeId} {d:TypeDesc} (ht:KK.of P t=some kk) (hd:P.underlying t=some d) {a:AV} (ha:keyA kk a=true) {u:Value} (hu:VRel Γ a u):∀ {es:List (AV × AV)} {ms:List MapEntry} {i:Nat} {r:Option (Nat × AV)},VRels Γ (es.map (·.1)) (ms.map (·.key))→VRels Γ (es.map (·.2)) (ms.map (·.val))→findA a es i=some r →
  (r=none∧Instr.findNow d u ms i=some none)∨∃ j x m,r=some (i+j,x)∧ms[j]? = some m∧Instr.findNow d u ms i=some (some (i+j,m.val))∧VRel Γ x m.val∧m.key=u∧Instr.sameBits 10000 m.key u=true∧j<es.length
 | [],ms,i,r,h1,h2,h=>by
  simp only[findA,qd] at h
  subst h
  have:ms=[]:=by
   have:=h1.length
   simp at this
   exact qq this.symm
  subst this
  exact .inl ⟨rfl,rfl⟩
 | (k',v) :: es,ms,i,r,h1,h2,h=>by
  cases ms with
  | nil=>have:=h1.length; simp at this
  | cons m ms =>
   simp only[qB,VRels,xc] at h1 h2
   obtain⟨_,_,⟨rfl,rfl⟩,k1,k2⟩:=h1
   obtain⟨_,_,⟨rfl,rfl⟩,k3,k4⟩:=h2
   simp only[findA] at h
   split at h
   ·rename_i hk
    simp only[qd] at h
    subst h
    obtain⟨d',hd',hs,hr⟩:=keyEqA_rel ht ha hu k1 hk
    rw[hd] at hd'
    cases hd'
    refine .inr ⟨0,v,m,rfl,rfl,?_,k3,(hr rfl).1,(hr rfl).2,by simp⟩
    simp[Instr.findNow,hs]
   ·rename_i hk
    obtain⟨d',hd',hs,-⟩:=keyEqA_rel ht ha hu k1 hk
    rw[hd] at hd'
    cases hd'
    rcases findA_rel ht hd ha hu k2 k4 h with ⟨rfl,q⟩|⟨j,x,m',rfl,q1,q2,q3,q4,q5,q6⟩
    ·exact .inl ⟨rfl,by simp[Instr.findNow,hs,q]⟩
    ·refine .inr ⟨j+1,x,m',by rw[show i+1+j=i+(j+1) by omega],by simpa using q1,?_,q3,q4,q5,by simp; omega⟩
     simp only[Instr.findNow,hs,q2]
     rw[show i+1+j=i+(j+1) by omega]
   ·cases h
def zvP (P:Program) (e:TypeId):Option AV:=
 match P.info? e with
 | some i=>match i.zero with
  | some z=>constA z
  | none=>none
 | none=>none
theorem zvP_run {P:Program} {e:TypeId} {z:AV} (h:zvP P e=some z) (Γ:Cx):∃ v,(zeroValue e).run P Γ.w=.ok v Γ.w∧VRel Γ z v:=by
 unfold zvP at h
 split at h
 ·rename_i i hi
  split at h
  ·rename_i v hv
   exact⟨v,by simp[zeroValue,typeInfo,hi,hv],constA_rel h⟩
  ·cases h
 ·cases h
def mkmapA (hp:HP):AV × HP:=(.map hp.length,hp++[some (.map [] [] 0)])
theorem mkmap_ok {P:Program} {Γ:Cx} {hp:HP} (h:HSim Γ hp) {t:TypeId}:OpOk P Γ hp (Instr.makeMap t none) (mkmapA hp).1 (mkmapA hp).2:=by
 have hs:=h.new (.map #[] 0) (.map [] [] 0) (by
  simp only[BRel]
  exact⟨#[],0,alloc_new _ _,by simp,by simp,by simp[VRels],by simp[VRels],rfl,rfl⟩)
 refine⟨.map (some Γ.w.heap.size),_,?_,?_,hs.1,hs.2⟩
 ·simp only[Instr.makeMap,qN,run_newObj,qy,Sem.run_pure]
  rfl
 ·simp only[mkmapA,VRel]
  simp[Cx.know,Cx.alloc,h.len]
theorem mkmapR_ok {P:Program} {Γ:Cx} {hp:HP} (h:HSim Γ hp) {t a b:TypeId} (ht:P.underlying t=some (.map a b)) {k:IntKind} {n:Int}:OpOk P Γ hp (Instr.makeMap t (some (.int k n))) (mkmapA hp).1 (mkmapA hp).2:=by
 obtain⟨v,Δ,h1,h2⟩:=mkmap_ok (P:=P) (t:=t) h
 refine⟨v,Δ,?_,h2⟩
 rw[← h1]
 simp[Instr.makeMap,run_underlying ht,asInt,asIntOf]
def rowsA (hp:HP):AV→Option (List (AV × AV))
 | .nilm=>some []
 | .map id=>match hp[id]? with
  | some (some (.map es _ _))=>some es
  | _=>none
 | _=>none
def lookA (hp:HP) (kk:KK) (z:AV) (ok:Bool) (m k:AV):Option AV:=
 cond (keyA kk k) (match rowsA hp m with
  | some es=>match findA k es 0 with
   | some (some (_,v))=>some (cond ok (.tup [v,.bool true]) v)
   | some none=>some (cond ok (.tup [z,.bool false]) z)
   | none=>none
  | none=>none) none
theorem checkKey_run {P:Program} {kk:KK} {t:TypeId} (ht:KK.of P t=some kk) (b:Bool) (u:Value) (w:World):(Instr.checkKey b 10000 t u).run P w=.ok () w:=by
 unfold KK.of at ht
 split at ht<;>first|cases ht|skip
 all_goals
  rename_i hd
  unfold Instr.checkKey
  simp[run_underlying hd]
theorem look_ok {P:Program} {Γ:Cx} {hp:HP} (h:HSim Γ hp) {t kt e:TypeId} {kk:KK} (ht:mapP P t=some (kk,kt,e)) {z:AV} (hz:zvP P e=some z) {ok:Bool} {m k r:AV} {mv kv:Value} (hm:VRel Γ m mv) (hk:VRel Γ k kv) (hr:lookA hp kk z ok m k=some r) :
  OpOk P Γ hp (Instr.lookup t mv kv ok) r hp:=by
 obtain⟨hu,hkk⟩:=mapP_some ht
 unfold lookA at hr
 cases hka:keyA kk k<;>rw[hka] at hr
 ·cases hr
 simp only[cond_true] at hr
 obtain⟨d,hd⟩:∃ d,P.underlying kt=some d:=by
  unfold KK.of at hkk
  split at hkk
  ·exact⟨_,by assumption⟩
  ·exact⟨_,by assumption⟩
  ·cases hkk
 split at hr
 ·rename_i es hes
  obtain⟨ms,hmv,h1,h2⟩:∃ ms:Array MapEntry,((mv=.map none∧ms = #[])∨∃ b c,mv=.map (some b)∧Γ.w.heap[b]? = some (.map ms c))∧VRels Γ (es.map (·.1)) (ms.toList.map (·.key))∧VRels Γ (es.map (·.2)) (ms.toList.map (·.val)):=by
   cases m<;>simp only[rowsA,reduceCtorEq,qd] at hes
   case nilm =>
    subst hes
    simp only[VRel] at hm
    exact⟨#[],.inl ⟨hm,rfl⟩,by simp[VRels],by simp[VRels]⟩
   case map id =>
    split at hes
    ·rename_i es' _ _ hx
     cases hes
     simp only[VRel] at hm
     obtain⟨⟨ms,clock,q1,_,_,q2,q3,_⟩,_,_⟩:=h.blk _ _ hx
     exact⟨ms,.inr ⟨_,_,hm.2,q1⟩,q2,q3⟩
    ·cases hes
  obtain⟨zv,hz1,hz2⟩:=zvP_run hz Γ
  split at hr
  ·rename_i j v hf
   cases hr
   rcases findA_rel hkk hd hka hk h1 h2 hf with ⟨q,_⟩|⟨j',x,m',q1,q2,q3,q4,q5,q6,q7⟩
   ·cases q
   ·cases q1
    refine qE h (v:=if ok then .tuple #[m'.val,.bool true] else m'.val) ?_ ?_
    ·simp only[qY] at q3
     rcases hmv with ⟨rfl,rfl⟩|⟨b,c,rfl,hb⟩
     ·simp at q2
     ·cases ok<;>simp[Instr.lookup,run_underlying hu,MapKept.run_getObj_map hb,checkKey_run hkk,Instr.findKey,run_underlying hd,q3]
    ·cases ok
     ·exact q4
     ·simp only[cond_true,if_true,VRel,VRels]
      exact⟨_,rfl,_,_,rfl,q4,_,_,rfl,rfl,rfl⟩
  ·rename_i hf
   cases hr
   rcases findA_rel hkk hd hka hk h1 h2 hf with ⟨_,q⟩|⟨j',x,m',q1,_⟩
   ·refine qE h (v:=if ok then .tuple #[zv,.bool false] else zv) ?_ ?_
    ·rcases hmv with ⟨rfl,rfl⟩|⟨b,c,rfl,hb⟩
     ·cases ok<;>simp[Instr.lookup,run_underlying hu,checkKey_run hkk,Instr.findKey,run_underlying hd,Instr.findNow,hz1]
     ·cases ok<;>simp[Instr.lookup,run_underlying hu,MapKept.run_getObj_map hb,checkKey_run hkk,Instr.findKey,run_underlying hd,q,hz1]
    ·cases ok
     ·exact hz2
     ·simp only[cond_true,if_true,VRel,VRels]
      exact⟨_,rfl,_,_,rfl,hz2,_,_,rfl,rfl,rfl⟩
   ·cases q1
  ·cases hr
 ·cases hr
def mapupA (hp:HP) (kk:KK) (m k v:AV):Option HP:=
 cond (keyA kk k) (match m with
  | .map id=>match hp[id]? with
   | some (some (.map es bs c))=>match findA k es 0 with
    | some (some (j,_))=>some (hp.set id (some (.map (es.set j (k,v)) bs c)))
    | some none=>some (hp.set id (some (.map (es++[(k,v)]) (bs++[c]) (c+1))))
    | none=>none
   | _=>none
  | _=>none) none
theorem modify_map {α β:Type} (f:α→β) (g:α→α) (b:β) (j:Nat):∀ (l:List α) (a:α),l[j]? = some a→f (g a)=b→(l.modify j g).map f=(l.map f).set j b:=by
 intro l a ha hb
 apply List.ext_getElem?
 intro i
 rw[List.getElem?_map,List.getElem?_modify,xH,List.getElem?_map]
 by_cases e:j=i
 ·subst e
  have hlt:=(qf.1 ha).1
  rw[ha]
  simp[hb,hlt]
 ·simp[e]
theorem mapup_ok {P:Program} {Γ:Cx} {hp hp':HP} (h:HSim Γ hp) {t kt e:TypeId} {kk:KK} (ht:mapP P t=some (kk,kt,e)) {m k v:AV} {mv kv vv:Value} (hm:VRel Γ m mv) (hk:VRel Γ k kv) (hv:VRel Γ v vv) (hr:mapupA hp kk m k v=some hp') :
  OpDone P Γ hp (Instr.mapUpdate t mv kv vv) hp':=by
 obtain⟨hu,hkk⟩:=mapP_some ht
 unfold mapupA at hr
 cases hka:keyA kk k<;>rw[hka] at hr
 ·cases hr
 simp only[cond_true] at hr
 obtain⟨d,hd⟩:∃ d,P.underlying kt=some d:=by
  unfold KK.of at hkk
  split at hkk
  ·exact⟨_,by assumption⟩
  ·exact⟨_,by assumption⟩
  ·cases hkk
 split at hr
 ·rename_i id
  simp only[VRel] at hm
  obtain⟨hid,rfl⟩:=hm
  split at hr
  ·rename_i es bs c hx
   obtain⟨⟨ms,clock,q1,q2,q3,q4,q5,q6,rfl⟩,hnf,hlt⟩:=h.blk _ _ hx
   have wr:∀ (o:Obj) (x':Blk),(∃ a b,o=.map a b)→BRel (Γ.setB (Γ.β id).1 o) (Γ.β id) x'→OpDone P Γ hp (setObj (Γ.β id).1 o) (hp.set id (some x')):=by
    rintro o x' ⟨a,b,rfl⟩ hb
    obtain⟨r1,r2⟩:=h.write hx (.map a b) x' (by
     intro s hs
     simp[World.shape?,q1] at hs) hb
    exact⟨_,MapKept.run_setObj_map _ q1,r1,r2⟩
   have le:∀ (o:Obj),Le Γ (Γ.setB (Γ.β id).1 o):=fun o=>Le.setB hnf (by intro s hs; simp[World.shape?,q1] at hs)
   split at hr
   ·rename_i j x hf
    cases hr
    rcases findA_rel hkk hd hka hk q4 q5 hf with ⟨q,_⟩|⟨j',x',m',p1,p2,p3,p4,p5,p6,p7⟩
    ·cases q
    ·simp only[qY,qd,qj] at p1
     obtain⟨rfl,rfl⟩:=p1
     rw[qY] at p3
     have hborn:((ms.modify j fun e=>{ e with key:=kv,val:=vv }).toList.map (·.born))=ms.toList.map (·.born):=by
      rw[Array.toList_modify,modify_map (·.born) _ m'.born j _ m' p2 rfl]
      apply List.ext_getElem?
      intro i
      rw[xH]
      split
      ·rename_i e'
       subst e'
       have:=(qf.1 p2).1
       rw[List.getElem?_map,p2]
       simp only[List.length_map,this,if_true,qh]
      ·rfl
     obtain⟨Δ,w1,w2⟩:=wr (.map (ms.modify j fun e=>{ e with key:=kv,val:=vv }) clock) (.map (es.set j (k,v)) bs clock) ⟨_,_,rfl⟩ (by
      simp only[BRel]
      refine⟨_,clock,setB_eq _ _ hlt,?_,?_,?_,?_,hborn.trans q6,rfl⟩
      ·rw[hborn]; exact q2
      ·intro m hm
       rw[Array.toList_modify] at hm
       obtain⟨i,hi⟩:=List.getElem?_of_mem hm
       rw[List.getElem?_modify] at hi
       cases hmi:ms.toList[i]? with
       | none=>rw[hmi] at hi; cases hi
       | some m0 =>
        rw[hmi] at hi
        simp only[Option.map_eq_map,qh,qd] at hi
        have:=q3 m0 (xa hmi)
        subst hi
        split<;>exact this
      ·rw[Array.toList_modify,modify_map (·.key) _ kv j _ m' p2 rfl,List.map_set]
       exact (q4.le (le _)).set (hk.le (le _)) j
      ·rw[Array.toList_modify,modify_map (·.val) _ vv j _ m' p2 rfl,List.map_set]
       exact (q5.le (le _)).set (hv.le (le _)) j)
     refine⟨Δ,?_,w2⟩
     rw[← w1]
     have hget:ms[j]? = some m':=by simpa using p2
     simp[Instr.mapUpdate,run_underlying hu,MapKept.run_getObj_map q1,checkKey_run hkk,Instr.findKey,run_underlying hd,p3,Instr.keyThatStays,hget,p6]
   ·rename_i hf
    cases hr
    rcases findA_rel hkk hd hka hk q4 q5 hf with ⟨_,q⟩|⟨j',x,m',p1,_⟩
    ·obtain⟨Δ,w1,w2⟩:=wr (.map (ms.push { key:=kv,val:=vv,born:=clock }) (clock+1)) (.map (es++[(k,v)]) (bs++[clock]) (clock+1)) ⟨_,_,rfl⟩ (by
      simp only[BRel]
      refine⟨_,clock+1,setB_eq _ _ hlt,?_,?_,?_,?_,by rw[Array.toList_push,qC,q6]; rfl,rfl⟩
      ·rw[Array.toList_push,qC,List.nodup_append]
       refine⟨q2,by simp,?_⟩
       intro a ha b hb
       simp at hb
       subst hb
       obtain⟨m,hm,rfl⟩:=List.mem_map.1 ha
       have:=q3 m hm
       omega
      ·intro m hm
       rw[Array.toList_push,List.mem_append] at hm
       rcases hm with hm|hm
       ·have:=q3 m hm; omega
       ·simp at hm; subst hm; simp
      ·rw[Array.toList_push,qC,qC]
       exact (q4.le (le _)).append (by simp only[qB,xW,VRels]; exact⟨_,_,rfl,hk.le (le _),rfl⟩)
      ·rw[Array.toList_push,qC,qC]
       exact (q5.le (le _)).append (by simp only[qB,xW,VRels]; exact⟨_,_,rfl,hv.le (le _),rfl⟩))
     refine⟨Δ,?_,w2⟩
     rw[← w1]
     simp[Instr.mapUpdate,run_underlying hu,MapKept.run_getObj_map q1,checkKey_run hkk,Instr.findKey,run_underlying hd,q]
    ·cases p1
   ·cases hr
  ·cases hr
 ·cases hr
def delA (hp:HP) (kk:KK) (m k:AV):Option HP:=
 cond (keyA kk k) (match m with
  | .nilm=>some hp
  | .map id=>match hp[id]? with
   | some (some (.map es bs c))=>match findA k es 0 with
    | some (some (j,_))=>some (hp.set id (some (.map (es.eraseIdx j) (bs.eraseIdx j) c)))
    | some none=>some hp
    | none=>none
   | _=>none
  | _=>none) none
theorem HSim.rewrite {Γ:Cx} {hp:HP} (h:HSim Γ hp) {i:Nat} {x:Blk} (hi:hp[i]? = some (some x)) {o:Obj} (ho:Γ.w.heap[(Γ.β i).1]? = some o):∃ Δ,Δ.w={ Γ.w with heap:=Γ.w.heap.setIfInBounds (Γ.β i).1 o }∧HSim Δ hp∧Ev Γ hp Δ hp:=by
 refine⟨Γ,?_,h,Ev.refl _ _⟩
 have:Γ.w.heap.setIfInBounds (Γ.β i).1 o=Γ.w.heap:=by
  apply Array.ext_getElem?
  intro j
  rw[Array.getElem?_setIfInBounds]
  split
  ·rename_i e
   subst e
   rw[ho]
   split
   ·rfl
   ·rename_i h1; exact absurd (Array.getElem?_eq_some_iff.1 ho).1 h1
  ·rfl
 rw[this]
theorem del_ok {P:Program} {Γ:Cx} {hp hp':HP} (h:HSim Γ hp) {t kt e ty t2:TypeId} {kk:KK} (ht:mapP P t=some (kk,kt,e)) {m k:AV} {mv kv:Value} (hm:VRel Γ m mv) (hk:VRel Γ k kv) (hr:delA hp kk m k=some hp') :
  OpOk P Γ hp (Builtin.delete_ #[t,t2] ty #[mv,kv]) (.tup []) hp':=by
 obtain⟨hu,hkk⟩:=mapP_some ht
 unfold delA at hr
 cases hka:keyA kk k<;>rw[hka] at hr
 ·cases hr
 simp only[cond_true] at hr
 obtain⟨d,hd⟩:∃ d,P.underlying kt=some d:=by
  unfold KK.of at hkk
  split at hkk
  ·exact⟨_,by assumption⟩
  ·exact⟨_,by assumption⟩
  ·cases hkk
 have hnil:VRel Γ (.tup []) (.tuple #[]):=by simp[VRel,VRels]
 split at hr
 ·cases hr
  simp only[VRel] at hm
  subst hm
  refine qE h (v:=.tuple #[]) ?_ hnil
  simp[Builtin.delete_,run_underlying hu,checkKey_run hkk]
 ·rename_i id
  simp only[VRel] at hm
  obtain⟨hid,rfl⟩:=hm
  split at hr
  ·rename_i es bs c hx
   obtain⟨⟨ms,clock,q1,q2,q3,q4,q5,q6,rfl⟩,hnf,hlt⟩:=h.blk _ _ hx
   split at hr
   ·rename_i j x hf
    cases hr
    rcases findA_rel hkk hd hka hk q4 q5 hf with ⟨q,_⟩|⟨j',x',m',p1,p2,p3,p4,p5,p6,p7⟩
    ·cases q
    ·simp only[qY,qd,qj] at p1
     obtain⟨rfl,rfl⟩:=p1
     rw[qY] at p3
     have hse:(ms.eraseIdxIfInBounds j).toList=ms.toList.eraseIdx j:=by simp
     have le:Le Γ (Γ.setB (Γ.β id).1 (.map (ms.eraseIdxIfInBounds j) clock)):=Le.setB hnf (by intro s hs; simp[World.shape?,q1] at hs)
     obtain⟨r1,r2⟩:=h.write hx (.map (ms.eraseIdxIfInBounds j) clock) (.map (es.eraseIdx j) (bs.eraseIdx j) clock) (by intro s hs; simp[World.shape?,q1] at hs) (by
      simp only[BRel]
      refine⟨_,clock,setB_eq _ _ hlt,?_,?_,?_,?_,?_,rfl⟩
      ·rw[hse,ChangeMaps.map_eraseIdx]
       exact q2.sublist (List.eraseIdx_sublist _ _)
      ·intro m hm
       rw[hse] at hm
       exact q3 m ((List.eraseIdx_sublist _ _).subset hm)
      ·rw[hse,ChangeMaps.map_eraseIdx,ChangeMaps.map_eraseIdx]
       exact (q4.le le).erase j
      ·rw[hse,ChangeMaps.map_eraseIdx,ChangeMaps.map_eraseIdx]
       exact (q5.le le).erase j
      ·rw[hse,ChangeMaps.map_eraseIdx,q6])
     refine⟨.tuple #[],_,?_,by simp[VRel,VRels],r1,r2⟩
     simp[Builtin.delete_,run_underlying hu,MapKept.run_getObj_map q1,checkKey_run hkk,Instr.findKey,run_underlying hd,p3,MapKept.run_setObj_map _ q1]
     rfl
   ·rename_i hf
    cases hr
    rcases findA_rel hkk hd hka hk q4 q5 hf with ⟨_,q⟩|⟨j',x,m',p1,_⟩
    ·obtain⟨Δ,w1,w2,w3⟩:=h.rewrite hx q1
     refine⟨.tuple #[],Δ,?_,by simp[VRel,VRels],w2,w3⟩
     simp[Builtin.delete_,run_underlying hu,MapKept.run_getObj_map q1,checkKey_run hkk,Instr.findKey,run_underlying hd,q,MapKept.run_setObj_map _ q1,w1]
    ·cases p1
   ·cases hr
  ·cases hr
 ·cases hr
def rangeA (hp:HP) (m:AV):Option (AV × HP):=
 match m with
 | .nilm=>some (.ptr hp.length 0,hp++[some (.iter [.nilm] 0 [] 0)])
 | .map id=>match hp[id]? with
  | some (some (.map _ _ c))=>some (.ptr hp.length 0,hp++[some (.iter [.map id] c [] c)])
  | _=>none
 | _=>none
theorem range_ok {P:Program} {Γ:Cx} {hp:HP} (h:HSim Γ hp) {t a b:TypeId} (hu:P.underlying t=some (.map a b)) {m r:AV} {hp':HP} {mv:Value} (hm:VRel Γ m mv) (hr:rangeA hp m=some (r,hp')):OpOk P Γ hp (Instr.range t mv) r hp':=by
 have gen:∀ (mo:Option Nat) (c:Nat),mv=.map mo→(Instr.range t mv).run P Γ.w=.ok (.pointer (some ⟨Γ.w.heap.size,0,none⟩)) (Γ.w.alloc (.mapIter mo c #[] c))→OpOk P Γ hp (Instr.range t mv) (.ptr hp.length 0) (hp++[some (.iter [m] c [] c)]):=by
  intro mo c hmv hrun
  have le:Le Γ ((Γ.alloc (.mapIter mo c #[] c)).know (Γ.w.heap.size,0)):=(Le.alloc h.fz _).trans (Le.know _ _)
  have hs:=h.new (.mapIter mo c #[] c) (.iter [m] c [] c) (by
   simp only[BRel]
   exact⟨.map mo,⟨.inl ⟨mo,rfl,alloc_new _ _⟩,trivial⟩,by simp only[VRels]; exact⟨_,_,rfl,(hmv ▸ hm).le le,rfl⟩⟩)
  refine⟨_,_,hrun,?_,hs.1,hs.2⟩
  simp only[VRel]
  simp[Cx.know,Cx.alloc,h.len]
 unfold rangeA at hr
 split at hr
 ·cases hr
  simp only[VRel] at hm
  exact gen none 0 hm (by simp[Instr.range,run_underlying hu,hm])
 ·rename_i id
  split at hr
  ·rename_i es bs c hx
   cases hr
   simp only[VRel] at hm
   obtain⟨hid,hm⟩:=hm
   obtain⟨⟨ms,clock,q1,_,_,_,_,_,rfl⟩,_,_⟩:=h.blk _ _ hx
   exact gen _ clock hm (by simp[Instr.range,run_underlying hu,hm,MapKept.run_getObj_map q1])
  ·cases hr
 ·cases hr
def seenN:List Nat→Nat→Bool
 | [],_=>false
 | a :: l,b=>cond (Nat.beq a b) true (seenN l b)
theorem seenN_eq:∀ (l:List Nat) (b:Nat),seenN l b=l.contains b
 | [],b=>by simp[seenN]
 | a :: l,b=>by
  simp only[seenN,List.contains_cons]
  cases hb:Nat.beq a b
  ·have:(b == a)=false:=beq_eq_false_iff_ne.2 fun h=>by subst h; rw[Nat.beq_refl] at hb; cases hb
   rw[this,cond_false,Bool.false_or,seenN_eq l b]
  ·rw[xo hb]; simp
def candA:List (AV × AV)→List Nat→List Nat→List (AV × AV × Nat)
 | (k,v) :: es,b :: bs,seen=>cond (seenN seen b) (candA es bs seen) ((k,v,b) :: candA es bs seen)
 | _,_,_=>[]
theorem candA_rel {Γ:Cx} {seen:List Nat}:∀ {es:List (AV × AV)} {ms:List MapEntry},VRels Γ (es.map (·.1)) (ms.map (·.key))→VRels Γ (es.map (·.2)) (ms.map (·.val)) →
  (candA es (ms.map (·.born)) seen).length=(ms.filter fun m => !seen.contains m.born).length∧∀ (i:Nat) k v b,(candA es (ms.map (·.born)) seen)[i]? = some (k,v,b)→∃ m,(ms.filter fun m => !seen.contains m.born)[i]? = some m∧VRel Γ k m.key∧VRel Γ v m.val∧m.born=b
 | [],ms,h1,h2=>by
  have:ms=[]:=by
   have:=h1.length
   simp at this
   exact qq this.symm
  subst this
  simp[candA]
 | (k',v') :: es,[],h1,h2=>by have:=h1.length; simp at this
 | (k',v') :: es,m :: ms,h1,h2=>by
  simp only[qB,VRels,xc] at h1 h2
  obtain⟨_,_,⟨rfl,rfl⟩,k1,k2⟩:=h1
  obtain⟨_,_,⟨rfl,rfl⟩,k3,k4⟩:=h2
  obtain⟨i1,i2⟩:=candA_rel (seen:=seen) k2 k4
  simp only[qB,candA,seenN_eq,List.filter_cons]
  cases hb:seen.contains m.born
  ·simp only[cond_false,Bool.not_false,if_true,List.length_cons,i1,true_and]
   intro i k v b hi
   cases i with
   | zero=>simp at hi; obtain⟨rfl,rfl,rfl⟩:=hi; exact⟨m,rfl,k1,k3,rfl⟩
   | succ i=>simpa using i2 i k v b (by simpa using hi)
  ·simp only[cond_true,Bool.not_true,qA,if_false]
   exact⟨i1,i2⟩
def nextA (hp:HP) (it:AV):Option (AV × HP):=
 match it with
 | .ptr id 0=>match hp[id]? with
  | some (some (.iter is since seen last))=>match is with
   | [.nilm]=>some (.tup [.bool false],hp)
   | [.map k]=>match hp[k]? with
    | some (some (.map es bs clock))=>cond (bs.all (fun b=>Nat.blt b since) && Nat.ble since last) (match candA es bs seen with
     | []=>some (.tup [.bool false],hp)
     | [(kk,vv,b)]=>some (.tup [.bool true,kk,vv],hp.set id (some (.iter [.map k] since (seen++[b]) clock)))
     | _=>none) none
    | _=>none
   | _=>none
  | _=>none
 | _=>none
theorem next_ok {P:Program} {Γ:Cx} {hp:HP} (h:HSim Γ hp) {ty:TypeId} {it r:AV} {hp':HP} {iv:Value} (hi:VRel Γ it iv) (hr:nextA hp it=some (r,hp')):OpOk P Γ hp (Instr.next iv false ty) r hp':=by
 unfold nextA at hr
 split at hr
 ·rename_i id
  split at hr
  ·rename_i is since seen last hx
   obtain⟨⟨v0,⟨q0,hz⟩,q2⟩,hnf,hlt⟩:=h.blk _ _ hx
   obtain⟨mo,rfl,q1⟩|⟨s0,rfl,q1⟩:=q0
   case inr=>split at hr<;>first|(exfalso; simp[VRels,VRel] at q2; done)|(cases hr; done)
   simp only[VRel] at hi
   obtain⟨hid,rfl⟩:=hi
   rw[hz]
   split at hr
   ·cases hr
    simp only[VRels,xc,VRel] at q2
    obtain⟨_,_,⟨rfl,_⟩,e1,_⟩:=q2
    cases e1
    refine qE h (v:=.tuple #[.bool false]) ?_ (by simp only[VRel,VRels]; exact⟨_,rfl,_,_,rfl,rfl,rfl⟩)
    simp[Instr.next,getObj,Sem.run,q1]
   ·rename_i k
    split at hr
    ·rename_i es bs clock hk
     obtain⟨⟨ms,clock',p1,p2,p3,p4,p5,p6,rfl⟩,_,_⟩:=h.blk _ _ hk
     simp only[VRels,xc,VRel] at q2
     obtain⟨_,_,⟨rfl,_⟩,⟨hkn,e1⟩,_⟩:=q2
     cases e1
     cases hc:(bs.all (fun b=>Nat.blt b since) && Nat.ble since last)<;>rw[hc] at hr
     ·cases hr
     simp only[cond_true] at hr
     simp only[qp] at hc
     have hold:∀ x ∈ ms.toList,x.born<since:=fun x hx'=>by
      have:x.born ∈ bs:=by rw[← p6]; exact xx hx'
      have:=xr.1 hc.1 _ this
      exact Nat.le_of_ble_eq_true this
     have hrun:=run_next_at (P:=P) Γ.w ty (Γ.β id).1 (Γ.β k).1 since last ⟨seen⟩ ms clock' q1 p1 hold (Nat.le_of_ble_eq_true hc.2)
     obtain⟨c1,c2⟩:=candA_rel (Γ:=Γ) (seen:=seen) p4 p5
     rw[p6] at c1 c2
     have hleft:(leftOf ms ⟨seen⟩).toList=ms.toList.filter (fun m => !seen.contains m.born):=by
      simp[leftOf]
     have hsize:(leftOf ms ⟨seen⟩).size=(candA es bs seen).length:=by
      rw[c1,← hleft]; rfl
     split at hr
     ·rename_i hcand
      cases hr
      rw[hcand] at hsize
      rcases hrun with ⟨_,hrun⟩|⟨e,he,_⟩
      ·exact qE h hrun (by simp only[VRel,VRels]; exact⟨_,rfl,_,_,rfl,rfl,rfl⟩)
      ·have:(leftOf ms ⟨seen⟩).toList=[]:=qq hsize
       rw[this] at he
       cases he
     ·rename_i kk vv b hcand
      cases hr
      rw[hcand] at hsize c2
      obtain⟨m,m1,m2,m3,m4⟩:=c2 0 kk vv b rfl
      rcases hrun with ⟨h0,_⟩|⟨e,he,w1,hw1,hrun⟩
      ·rw[h0] at hsize; cases hsize
      ·have hem:e=m:=by
        rw[← hleft] at m1
        have hl:(leftOf ms ⟨seen⟩).toList.length=1:=hsize
        match hq:(leftOf ms ⟨seen⟩).toList,hl with
        | [z],_ =>
         rw[hq] at he m1
         simp at he m1
         rw[he,m1]
       subst hem
       have main:∀ n,w1=(Γ.drewN n).w→OpOk P Γ hp (Instr.next (.pointer (some ⟨(Γ.β id).1,0,none⟩)) false ty) (.tup [.bool true,kk,vv]) (hp.set id (some (.iter [.map k] since (seen++[b]) clock'))):=by
        intro n hn
        have h1:=h.drewN n
        obtain⟨r1,r2⟩:=h1.write hx (.mapIter (some (Γ.β k).1) since ((⟨seen⟩:Array Nat).push e.born) clock') (.iter [.map k] since (seen++[b]) clock') (by
         intro s hs
         have q1':(Γ.drewN n).w.heap[((Γ.drewN n).β id).1]? = some (.mapIter (some (Γ.β k).1) since ⟨seen⟩ last):=q1
         simp[World.shape?,q1'] at hs) (by
         simp only[BRel]
         refine⟨.map (some (Γ.β k).1),⟨.inl ⟨_,rfl,?_⟩,hz⟩,by simp only[VRels]; exact⟨_,_,rfl,by simp only[VRel]; exact⟨hkn,rfl⟩,rfl⟩⟩
         rw[m4]
         simp only[Cx.setB]
         rw[setB_eq _ _ (by exact hlt)]
         simp)
        have le1:Le Γ ((Γ.drewN n).setB ((Γ.drewN n).β id).1 (.mapIter (some (Γ.β k).1) since ((⟨seen⟩:Array Nat).push e.born) clock')):=(Le.drewN Γ n).trans r2.le
        refine⟨.tuple #[.bool true,e.key,e.val],_,?_,?_,r1,(Ev.drewN Γ hp n).trans r2⟩
        ·rw[hrun,hn]; rfl
        ·simp only[VRel,VRels]
         exact⟨_,rfl,_,_,rfl,rfl,_,_,rfl,m2.le le1,_,_,rfl,m3.le le1,rfl⟩
       rcases hw1 with rfl|rfl
       ·exact main 0 rfl
       ·exact main 1 rfl
     ·cases hr
    ·cases hr
   ·cases hr
  ·cases hr
 ·cases hr
def nextDs (hp:HP) (it:AV):Option (List (AV × HP)):=
 match it with
 | .ptr id 0=>match hp[id]? with
  | some (some (.iter is since seen last))=>match is with
   | [.map k]=>match hp[k]? with
    | some (some (.map es bs clock))=>cond (bs.all (fun b=>Nat.blt b since) && Nat.ble since last) (match candA es bs seen with
     | []=>some [(.tup [.bool false],hp)]
     | c :: cs=>some ((c :: cs).map fun x=>(.tup [.bool true,x.1,x.2.1],hp.set id (some (.iter [.map k] since (seen++[x.2.2]) clock))))) none
    | _=>none
   | _=>none
  | _=>none
 | _=>none
theorem nextA_draws {hp:HP} {it:AV} {l:List (AV × HP)} (h:nextDs hp it=some l):∀ x,nextA hp it=some x→x ∈ l:=by
 intro x hx
 unfold nextDs at h
 unfold nextA at hx
 repeat' split at h
 all_goals first|(cases h; done)|skip
 ·rename_i h1 _ _ _ _ h2 _ h3
  simp only[h1,h2,h3] at hx
  revert h hx
  cases (List.all _ _ && Nat.ble _ _)
  ·intro h; cases h
  ·intro h hx
   cases h
   cases hx
   exact qQ.2 rfl
 ·rename_i h1 _ _ _ _ h2 _ _ _ h3
  simp only[h1,h2,h3] at hx
  revert h hx
  cases (List.all _ _ && Nat.ble _ _)
  ·intro h; cases h
  ·intro h hx
   cases h
   simp only[cond_true] at hx
   split at hx
   ·rename_i hc; cases hc
   ·rename_i hc
    cases hc
    cases hx
    exact qD
   ·cases hx
theorem nextD_ok {P:Program} {Γ:Cx} {hp:HP} (h:HSim Γ hp) {ty:TypeId} {it:AV} {l:List (AV × HP)} {iv:Value} (hi:VRel Γ it iv) (hr:nextDs hp it=some l):∃ x ∈ l,OpOk P Γ hp (Instr.next iv false ty) x.1 x.2:=by
 unfold nextDs at hr
 split at hr
 ·rename_i id
  split at hr
  ·rename_i is since seen last hx
   obtain⟨⟨v0,⟨q0,hz⟩,q2⟩,hnf,hlt⟩:=h.blk _ _ hx
   obtain⟨mo,rfl,q1⟩|⟨s0,rfl,q1⟩:=q0
   case inr=>split at hr<;>first|(exfalso; simp[VRels,VRel] at q2; done)|(cases hr; done)
   simp only[VRel] at hi
   obtain⟨hid,rfl⟩:=hi
   rw[hz]
   split at hr
   ·rename_i k
    split at hr
    ·rename_i es bs clock hk
     obtain⟨⟨ms,clock',p1,p2,p3,p4,p5,p6,rfl⟩,_,_⟩:=h.blk _ _ hk
     simp only[VRels,xc,VRel] at q2
     obtain⟨_,_,⟨rfl,_⟩,⟨hkn,e1⟩,_⟩:=q2
     cases e1
     cases hc:(bs.all (fun b=>Nat.blt b since) && Nat.ble since last)<;>rw[hc] at hr
     ·cases hr
     simp only[cond_true] at hr
     simp only[qp] at hc
     have hold:∀ x ∈ ms.toList,x.born<since:=fun x hx'=>by
      have:x.born ∈ bs:=by rw[← p6]; exact xx hx'
      have:=xr.1 hc.1 _ this
      exact Nat.le_of_ble_eq_true this
     have hrun:=run_next_at (P:=P) Γ.w ty (Γ.β id).1 (Γ.β k).1 since last ⟨seen⟩ ms clock' q1 p1 hold (Nat.le_of_ble_eq_true hc.2)
     obtain⟨c1,c2⟩:=candA_rel (Γ:=Γ) (seen:=seen) p4 p5
     rw[p6] at c1 c2
     have hleft:(leftOf ms ⟨seen⟩).toList=ms.toList.filter (fun m => !seen.contains m.born):=by
      simp[leftOf]
     have hsize:(leftOf ms ⟨seen⟩).size=(candA es bs seen).length:=by
      rw[c1,← hleft]; rfl
     split at hr
     ·rename_i hcand
      cases hr
      rw[hcand] at hsize
      rcases hrun with ⟨_,hrun⟩|⟨e,he,_⟩
      ·exact⟨_,qQ.2 rfl,qE h hrun (by simp only[VRel,VRels]; exact⟨_,rfl,_,_,rfl,rfl,rfl⟩)⟩
      ·have:(leftOf ms ⟨seen⟩).toList=[]:=qq hsize
       rw[this] at he
       cases he
     ·rename_i c0 cs0 hcand
      rw[← hcand] at hr
      cases hr
      rcases hrun with ⟨h0,_⟩|⟨e,he,w1,hw1,hrun⟩
      ·rw[h0,hcand] at hsize; cases hsize
      ·obtain⟨i,hi'⟩:=List.getElem?_of_mem he
       have hil:i<(candA es bs seen).length:=by
        have:=(qf.1 hi').1
        rw[← hsize]
        exact this
       obtain⟨⟨kk,vv,b⟩,hci⟩:∃ x,(candA es bs seen)[i]? = some x:=⟨_,List.getElem?_eq_getElem hil⟩
       obtain⟨m,m1,m2,m3,m4⟩:=c2 i kk vv b hci
       have hem:e=m:=by
        rw[← hleft,hi'] at m1
        exact Option.some.inj m1
       subst hem
       refine⟨_,xx (xa hci),?_⟩
       have main:∀ n,w1=(Γ.drewN n).w→OpOk P Γ hp (Instr.next (.pointer (some ⟨(Γ.β id).1,0,none⟩)) false ty) (.tup [.bool true,kk,vv]) (hp.set id (some (.iter [.map k] since (seen++[b]) clock'))):=by
        intro n hn
        have h1:=h.drewN n
        obtain⟨r1,r2⟩:=h1.write hx (.mapIter (some (Γ.β k).1) since ((⟨seen⟩:Array Nat).push e.born) clock') (.iter [.map k] since (seen++[b]) clock') (by
         intro s hs
         have q1':(Γ.drewN n).w.heap[((Γ.drewN n).β id).1]? = some (.mapIter (some (Γ.β k).1) since ⟨seen⟩ last):=q1
         simp[World.shape?,q1'] at hs) (by
         simp only[BRel]
         refine⟨.map (some (Γ.β k).1),⟨.inl ⟨_,rfl,?_⟩,hz⟩,by simp only[VRels]; exact⟨_,_,rfl,by simp only[VRel]; exact⟨hkn,rfl⟩,rfl⟩⟩
         rw[m4]
         simp only[Cx.setB]
         rw[setB_eq _ _ (by exact hlt)]
         simp)
        have le1:Le Γ ((Γ.drewN n).setB ((Γ.drewN n).β id).1 (.mapIter (some (Γ.β k).1) since ((⟨seen⟩:Array Nat).push e.born) clock')):=(Le.drewN Γ n).trans r2.le
        refine⟨.tuple #[.bool true,e.key,e.val],_,?_,?_,r1,(Ev.drewN Γ hp n).trans r2⟩
        ·rw[hrun,hn]; rfl
        ·simp only[VRel,VRels]
         exact⟨_,rfl,_,_,rfl,rfl,_,_,rfl,m2.le le1,_,_,rfl,m3.le le1,rfl⟩
       rcases hw1 with rfl|rfl
       ·exact main 0 rfl
       ·exact main 1 rfl
    ·cases hr
   ·cases hr
  ·cases hr
 ·cases hr
def rangeSA (hp:HP) (m:AV):Option (AV × HP):=
 match m with
 | .str s=>some (.ptr hp.length 0,hp++[some (.iter [.str s] 0 [] 0)])
 | _=>none
theorem rangeS_ok {P:Program} {Γ:Cx} {hp:HP} (h:HSim Γ hp) {t:TypeId} (hu:P.underlying t=some .string) {m r:AV} {hp':HP} {mv:Value} (hm:VRel Γ m mv) (hr:rangeSA hp m=some (r,hp')):OpOk P Γ hp (Instr.range t mv) r hp':=by
 unfold rangeSA at hr
 split at hr
 ·rename_i s
  cases hr
  simp only[VRel] at hm
  subst hm
  have hs:=h.new (.stringIter ⟨s.toArray⟩ 0) (.iter [.str s] 0 [] 0) (by
   simp only[BRel]
   exact⟨_,⟨.inr ⟨_,rfl,alloc_new _ _⟩,trivial⟩,by simp only[VRels,VRel]; exact⟨_,_,rfl,rfl,rfl⟩⟩)
  refine⟨.pointer (some ⟨Γ.w.heap.size,0,none⟩),_,?_,?_,hs.1,hs.2⟩
  ·simp[Instr.range,run_underlying hu,newObj,qN,Cx.know,Cx.alloc]
   rfl
  ·simp only[VRel]
   simp[Cx.know,Cx.alloc,h.len]
 ·cases hr
def nextSA (hp:HP) (it:AV):Option (AV × HP):=
 match it with
 | .ptr id 0=>match hp[id]? with
  | some (some (.iter is pos seen last))=>match is with
   | [.str s]=>cond (Nat.blt pos s.length) (some (.tup [.bool true,.int .i64 pos,.int .i32 (Utf8.decode ⟨s.toArray⟩ pos).1],hp.set id (some (.iter [.str s] (pos+(Utf8.decode ⟨s.toArray⟩ pos).2) seen last)))) (some (.tup [.bool false],hp))
   | _=>none
  | _=>none
 | _=>none
theorem nextS_ok {P:Program} {Γ:Cx} {hp:HP} (h:HSim Γ hp) {ty:TypeId} {it r:AV} {hp':HP} {iv:Value} (hi:VRel Γ it iv) (hr:nextSA hp it=some (r,hp')):OpOk P Γ hp (Instr.next iv true ty) r hp':=by
 unfold nextSA at hr
 split at hr
 ·rename_i id
  split at hr
  ·rename_i is pos seen last hx
   obtain⟨⟨v0,⟨q0,hz⟩,q2⟩,hnf,hlt⟩:=h.blk _ _ hx
   simp only[VRel] at hi
   obtain⟨hid,rfl⟩:=hi
   rw[hz]
   split at hr
   ·rename_i s
    simp only[VRels,xc,VRel] at q2
    obtain⟨_,_,⟨rfl,_⟩,rfl,_⟩:=q2
    obtain⟨mo,e,_⟩|⟨s0,e,q1⟩:=q0
    ·cases e
    cases e
    cases hb:Nat.blt pos s.length<;>rw[hb] at hr
    ·cases hr
     have hn:¬ pos<s.length:=fun h=>by rw[← Nat.blt_eq,hb] at h; cases h
     refine qE h (v:=.tuple #[.bool false]) ?_ (by simp only[VRel,VRels]; exact⟨_,rfl,_,_,rfl,rfl,rfl⟩)
     have hsz:(⟨s.toArray⟩:ByteArray).size=s.length:=by simp[ByteArray.size]
     simp[Instr.next,getObj,Sem.run,q1,hn,hsz]
    ·cases hr
     have hn:pos<s.length:=by rw[← Nat.blt_eq]; exact hb
     obtain⟨r1,r2⟩:=h.write hx (.stringIter ⟨s.toArray⟩ (pos+(Utf8.decode ⟨s.toArray⟩ pos).2)) (.iter [.str s] (pos+(Utf8.decode ⟨s.toArray⟩ pos).2) seen last) (by
      intro sh hs
      simp[World.shape?,q1] at hs) (by
      simp only[BRel]
      refine⟨_,⟨.inr ⟨_,rfl,?_⟩,hz⟩,by simp only[VRels,VRel]; exact⟨_,_,rfl,rfl,rfl⟩⟩
      simp only[Cx.setB]
      rw[setB_eq _ _ hlt])
     refine⟨.tuple #[.bool true,.int .i64 pos,.int .i32 (Utf8.decode ⟨s.toArray⟩ pos).1],_,?_,?_,r1,r2⟩
     ·have hr1:(getObj (Γ.β id).1).run P Γ.w=.ok (.stringIter ⟨s.toArray⟩ pos) Γ.w:=by simp[getObj,Sem.run,q1]
      simp only[Instr.next,qN,qY,hr1,qy]
      have hsz:(⟨s.toArray⟩:ByteArray).size=s.length:=by simp[ByteArray.size]
      simp[hn,hsz,setObj,Sem.run,goInt,Cx.setB,setB,q1]
     ·simp only[VRel,VRels]
      exact⟨_,rfl,_,_,rfl,rfl,_,_,rfl,rfl,_,_,rfl,rfl,rfl⟩
   ·cases hr
  ·cases hr
 ·cases hr
def stampA:List (AV × AV)→List Nat→Nat→Option (AV × AV)
 | (k,v) :: es,b :: bs,n=>cond (Nat.beq b n) (some (k,v)) (stampA es bs n)
 | _,_,_=>none
theorem stampA_rel {Γ:Cx} {n:Nat}:∀ {es:List (AV × AV)} {ms:List MapEntry} {k v:AV},VRels Γ (es.map (·.1)) (ms.map (·.key))→VRels Γ (es.map (·.2)) (ms.map (·.val))→stampA es (ms.map (·.born)) n=some (k,v)→∃ m ∈ ms,VRel Γ k m.key∧VRel Γ v m.val∧m.born=n
 | [],ms,k,v,h1,h2,h=>by simp[stampA] at h
 | (k',v') :: es,[],k,v,h1,h2,h=>by simp[stampA] at h
 | (k',v') :: es,m :: ms,k,v,h1,h2,h=>by
  simp only[qB,VRels,xc] at h1 h2
  obtain⟨_,_,⟨rfl,rfl⟩,k1,k2⟩:=h1
  obtain⟨_,_,⟨rfl,rfl⟩,k3,k4⟩:=h2
  simp only[qB,stampA] at h
  cases hb:Nat.beq m.born n<;>rw[hb] at h
  ·obtain⟨m',h5,h6⟩:=stampA_rel k2 k4 h
   exact⟨m',List.mem_cons_of_mem _ h5,h6⟩
  ·cases h
   exact⟨m,qD,k1,k3,xo hb⟩
def entA (hp:HP) (it:AV):Option AV:=
 match it with
 | .ptr id 0=>match hp[id]? with
  | some (some (.iter is since seen last))=>match is,seen.reverse with
   | [.map k],b :: pre=>match hp[k]? with
    | some (some (.map es bs clock))=>cond (Nat.beq clock last) (match stampA es bs b with
     | some (k,v)=>some (.tup [k,v])
     | none=>none) none
    | _=>none
   | _,_=>none
  | _=>none
 | _=>none
theorem ent_ok {P:Program} {Γ:Cx} {hp:HP} (h:HSim Γ hp) {it r:AV} {iv:Value} (hi:VRel Γ it iv) (hr:entA hp it=some r):OpOk P Γ hp (Instr.entry iv) r hp:=by
 unfold entA at hr
 split at hr
 ·rename_i id
  split at hr
  ·rename_i is since seen last hx
   obtain⟨⟨v0,⟨q0,hz⟩,q2⟩,hnf,hlt⟩:=h.blk _ _ hx
   obtain⟨mo,rfl,q1⟩|⟨s0,rfl,q1⟩:=q0
   case inr=>split at hr<;>first|(exfalso; simp[VRels,VRel] at q2; done)|(cases hr; done)
   simp only[VRel] at hi
   obtain⟨hid,rfl⟩:=hi
   rw[hz]
   split at hr
   ·rename_i k b pre hseen
    split at hr
    ·rename_i es bs clock hk
     obtain⟨⟨ms,clock',p1,p2,p3,p4,p5,p6,rfl⟩,_,_⟩:=h.blk _ _ hk
     simp only[VRels,xc,VRel] at q2
     obtain⟨_,_,⟨rfl,_⟩,⟨hkn,e1⟩,_⟩:=q2
     cases e1
     cases hc:Nat.beq clock' last<;>rw[hc] at hr
     ·cases hr
     simp only[cond_true] at hr
     have hcl:=xo hc
     split at hr
     ·rename_i kk vv hst
      cases hr
      rw[← p6] at hst
      obtain⟨m,m1,m2,m3,m4⟩:=stampA_rel p4 p5 hst
      have hs:(⟨seen⟩:Array Nat)=(⟨pre.reverse⟩:Array Nat).push m.born:=by
       apply Array.ext'
       rw[m4]
       simp only[Array.toList_push]
       have:=congrArg List.reverse hseen
       simpa using this
      rw[hs,← hcl] at q1
      refine qE h (run_entry_at Γ.w (Γ.β id).1 (Γ.β k).1 since ⟨pre.reverse⟩ ms clock' m q1 p1 m1 p2) ?_
      simp only[VRel,VRels]
      exact⟨_,rfl,_,_,rfl,m2,_,_,rfl,m3,rfl⟩
     ·cases hr
    ·cases hr
   ·cases hr
  ·cases hr
 ·cases hr
end Go.Gi
