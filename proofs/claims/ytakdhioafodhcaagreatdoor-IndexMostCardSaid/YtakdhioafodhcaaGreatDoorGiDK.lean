/- A map's keys, one by one, in whatever order (maps.Keys). -/
/- A map's keys collected and sorted: maps.Keys, slices.Collect, slices.Sorted. -/
/- An index in memory. -/
/- Functions of package slices that write, as compiled, for elements of any one kind: Delete, IndexFunc and DeleteFunc with a function that may write, Grow and Concat. -/
/- slices.IndexFunc and slices.DeleteFunc of one-cell elements, with a function that only reads. -/
import Derived.Test.YtakdhioafodhcaaGreatDoorGiDR
import Derived.Test.YtakdhioafodhcaaGreatDoorGiYR
import Derived.Test.YtakdhioafodhcaaGreatDoorGiDfE
import Derived.Test.YtakdhioafodhcaaGreatDoorGiSL
set_option linter.unusedVariables false
set_option linter.unusedSimpArgs false
set_option linter.unusedSectionVars false
namespace Go.Gi
open _root_.Bool renaming false_eq_true → qA, not_eq_true' → zg, and_self → xb, or_false → zl
open _root_.List renaming getElem?_append_left → qm, getElem?_eq_getElem → qg, take_append_drop → xE, getElem?_set_ne → qv, mem_cons_of_mem → qI, mem_map_of_mem → xx, filter_eq_self → zq, length_append → qo, mem_cons_self → qD, find?_eq_none → zt, append_assoc → qV, getElem?_set → xH, length_cons → qr, cons_append → qZ, length_take → xd, length_drop → xq, all_eq_true → xr, append_nil → qt, length_nil → qx, nil_append → qz, length_map → qL, nodup_cons → zy, map_cons → qB, mem_cons → xm, mem_map → xw
open _root_.Nat renaming eq_of_beq_eq_true → xo, reduceEqDiff → qa, add_assoc → xy, zero_add → qY, add_zero → xN, le_refl → qk
open _root_.Option renaming isSome_none → zC
open _root_.Go.Gi.TabOk renaming none → qJ
section
set_option linter.unusedSectionVars false
variable [Mx]
open Go
theorem seenN_app (l:List Nat) (a b:Nat):seenN (l++[a]) b=(seenN l b || Nat.beq a b):=by
 rw[seenN_eq,seenN_eq,List.contains_append]
 simp only[List.contains_cons,List.contains_nil,zl]
 congr 1
 rw[Bool.eq_iff_iff,beq_iff_eq,Nat.beq_eq]
 exact eq_comm
theorem candA_irrel {b:Nat} {seen:List Nat}:∀ {es:List (AV × AV)} {bs:List Nat},b ∉ bs→candA es bs (seen++[b])=candA es bs seen
 | [],bs,_=>by simp only[candA]
 | (k,v) :: es,[],_=>by simp only[candA]
 | (k,v) :: es,b' :: bs,h=>by
  simp only[xm,not_or] at h
  have hb:Nat.beq b b'=false:=by
   cases hb:Nat.beq b b'
   ·rfl
   ·exact absurd (xo hb) h.1
  simp only[candA,seenN_app,hb,zl,candA_irrel h.2]
theorem candA_mem {seen:List Nat} {x:AV × AV × Nat}:∀ {es:List (AV × AV)} {bs:List Nat},x ∈ candA es bs seen→x.2.2 ∈ bs∧x.1 ∈ es.map (·.1)
 | [],bs,h=>by simp[candA] at h
 | (k,v) :: es,[],h=>by simp[candA] at h
 | (k,v) :: es,b :: bs,h=>by
  simp only[candA] at h
  have tail:x ∈ candA es bs seen→x.2.2 ∈ b :: bs∧x.1 ∈ ((k,v) :: es).map (·.1):=fun h=>by
   obtain⟨h1,h2⟩:=candA_mem h
   exact⟨qI _ h1,qI _ h2⟩
  cases hs:seenN seen b<;>rw[hs] at h
  ·rcases xm.1 h with rfl|h
   ·exact⟨qD,qD⟩
   ·exact tail h
  ·exact tail h
theorem cand_pick {seen:List Nat} {x:AV × AV × Nat}:∀ {es:List (AV × AV)} {bs:List Nat},bs.Nodup→x ∈ candA es bs seen→(candA es bs seen).Perm (x :: candA es bs (seen++[x.2.2]))∧stampA es bs x.2.2=some (x.1,x.2.1)
 | [],bs,_,h=>by simp[candA] at h
 | (k,v) :: es,[],_,h=>by simp[candA] at h
 | (k,v) :: es,b :: bs,hn,h=>by
  rw[zy] at hn
  simp only[candA] at h
  have tail:x ∈ candA es bs seen→(candA ((k,v) :: es) (b :: bs) seen).Perm (x :: candA ((k,v) :: es) (b :: bs) (seen++[x.2.2]))∧stampA ((k,v) :: es) (b :: bs) x.2.2=some (x.1,x.2.1):=fun h=>by
   obtain⟨h1,h2⟩:=cand_pick hn.2 h
   have hne:b≠x.2.2:=fun e=>hn.1 (by rw[e]; exact (candA_mem h).1)
   have hb1:Nat.beq b x.2.2=false:=by
    cases hb:Nat.beq b x.2.2
    ·rfl
    ·exact absurd (xo hb) hne
   have hb2:Nat.beq x.2.2 b=false:=by
    cases hb:Nat.beq x.2.2 b
    ·rfl
    ·exact absurd (xo hb).symm hne
   refine⟨?_,by simp only[stampA,hb1,cond_false,h2]⟩
   simp only[candA,seenN_app,hb2,zl]
   cases seenN seen b
   ·exact (h1.cons _).trans (List.Perm.swap _ _ _)
   ·exact h1
  cases hs:seenN seen b<;>rw[hs] at h
  ·rcases xm.1 h with rfl|h
   ·refine⟨?_,by simp only[stampA,Nat.beq_refl,cond_true]⟩
    simp only[candA,seenN_app,hs,Nat.beq_refl,Bool.or_true,cond_true,cond_false,candA_irrel hn.1]
    exact List.Perm.refl _
   ·exact tail h
  ·exact tail h
theorem candA_all:∀ {es:List (AV × AV)} {bs:List Nat},bs.length=es.length→(candA es bs []).map (·.1)=es.map (·.1)
 | [],[],_=>rfl
 | (k,v) :: es,b :: bs,h=>by
  simp only[candA,seenN,cond_false,qB,candA_all (Nat.succ.inj h)]
 | [],_ :: _,h=>by cases h
 | _ :: _,[],h=>by cases h
abbrev mkyR0:List IOp:=[⟨some 4,.op (.load none),[.t 1],none⟩,
 ⟨some 5,.op (.rangem),[.t 4],none⟩]
abbrev mkyR1:List IOp:=[⟨some 6,.op (.nextm),[.t 5],none⟩,
 ⟨some 7,.op (.extract 0),[.t 6],none⟩]
abbrev mkyR2:List IOp:=[⟨some 8,.op (.entm),[.t 5],none⟩,
 ⟨some 9,.op (.extract 0),[.t 8],none⟩,
 ⟨some 3,.op (.mov),[.t 9],none⟩]
abbrev mkyR3:List IOp:=[⟨some 10,.op (.mov),[.t 0],none⟩,
 ⟨some 11,.op (.mov),[.t 3],none⟩,
 ⟨some 12,.call none,[.t 10,.t 11],none⟩,
 ⟨some 13,.op (.un .not),[.t 12],none⟩]
abbrev mkyB:IC:=(IC.seq (IC.reg mkyR1) (IC.seq (IC.cond (.t 7) IC.skip (IC.exit 0)) (IC.block 1 (IC.seq (IC.reg mkyR2) (IC.seq (IC.reg mkyR3) (IC.cond (.t 13) IC.ret IC.skip))))))
abbrev mkyC:IC:=(IC.seq (IC.reg mkyR0) (IC.block 0 (IC.loop mkyB)))
structure MapOk (es:List (AV × AV)) (bs:List Nat) (c:Nat):Prop where
 nd:bs.Nodup
 lt:∀ b ∈ bs,b<c
 len:bs.length=es.length
section
variable {P:Program} {hp hp0:HP} {id bx k it c:Nat} {t:TypeId} {es:List (AV × AV)} {bs seen:List Nat}
theorem nextDs_nil (hk:hp[k]? = some (some (.map es bs c))) (hi:hp[it]? = some (some (.iter [.map k] c seen c))) (ho:MapOk es bs c) (h:candA es bs seen=[]):nextDs hp (.ptr it 0)=some [(.tup [.bool false],hp)]:=by
 have hb:bs.all (fun b=>Nat.blt b c)=true:=xr.2 fun b hb=>Nat.ble_eq_true_of_le (ho.lt b hb)
 have hc:Nat.ble c c=true:=Nat.ble_eq_true_of_le (qk _)
 simp only[nextDs,hi,hk,hb,hc,xb,cond_true,h]
theorem nextDs_cons (hk:hp[k]? = some (some (.map es bs c))) (hi:hp[it]? = some (some (.iter [.map k] c seen c))) (ho:MapOk es bs c) (h:candA es bs seen≠[]):nextDs hp (.ptr it 0)=some ((candA es bs seen).map fun x=>(.tup [.bool true,x.1,x.2.1],hp.set it (some (.iter [.map k] c (seen++[x.2.2]) c)))):=by
 have hb:bs.all (fun b=>Nat.blt b c)=true:=xr.2 fun b hb=>Nat.ble_eq_true_of_le (ho.lt b hb)
 have hc:Nat.ble c c=true:=Nat.ble_eq_true_of_le (qk _)
 simp only[nextDs,hi,hk,hb,hc,xb,cond_true]
 split
 ·rename_i h1; exact absurd h1 h
 ·rename_i h1; rw[h1]
theorem entA_last {b:Nat} {kv:AV × AV} (hk:hp[k]? = some (some (.map es bs c))) (hi:hp[it]? = some (some (.iter [.map k] c (seen++[b]) c))) (h:stampA es bs b=some kv):entA hp (.ptr it 0)=some (.tup [kv.1,kv.2]):=by
 simp only[entA,hi,List.reverse_append,List.reverse_cons,List.reverse_nil,qz,qZ,hk,Nat.beq_refl,h,cond_true]
theorem keysY (hm:P.follows .mixedOrders=true) {hint:Nat→Nat} {f:FuncId} (hf:compF P hint f=some ⟨mkyC,14,[]⟩) (hbx:hp0[bx]? = some (some (.row t [.map k]))) (hk:hp0[k]? = some (some (.map es bs c))) (ho:MapOk es bs c)
  {J:List AV→HP→Prop} (h0:J [] (hp0++[some (.iter [.map k] c [] c)])) (hset:∀ vis hp x,J vis hp→J vis (hp.set hp0.length x)) (hmap:∀ vis hp,J vis hp→hp[k]? = some (some (.map es bs c)))
  (hround:∀ vis key hp y,J vis hp→hp[hp0.length]? = some y→key ∈ es.map (·.1)→vis.length<es.length→ARound P id [key] hp fun r hp'=>r=.bool true∧J (vis++[key]) hp'∧hp'[hp0.length]? = some y) :
  ACalls P f [.yld id,.ptr bx 0] hp0 fun _ hp' => ∃ vis,vis.Perm (es.map (·.1))∧J vis hp':=by
 refine calls_e hm (qJ _) hf (by decide) (by simp) ?_
 have hr:rangeA hp0 (.map k)=some (.ptr hp0.length 0,hp0++[some (.iter [.map k] c [] c)]):=by simp only[rangeA,hk]
 have hld:loadA hp0 none (.ptr bx 0)=some (.map k):=by
  simp only[loadA,rowA,hbx,pickA]
  rfl
 refine vcE.step (by simp (disch:=first|assumption|omega) only[go_sem,↓reduceIte,↓hld,hr]; rfl) (vcE.block (vcE.loop (by intro l tm hp h; simp[RetE] at h) (fun m tm hp => ∃ vis seen,m=(candA es bs seen).length∧(es.map (·.1)).Perm (vis++(candA es bs seen).map (·.1))∧J vis hp∧hp[hp0.length]? = some (some (.iter [.map k] c seen c))∧tm 0=.yld id∧tm 5=.ptr hp0.length 0) _ ⟨[],[],rfl,?_,h0,by simp,rfl,rfl⟩ ?_))
 ·rw[candA_all ho.len]
  exact List.Perm.refl _
 rintro m tm hp ⟨vis,seen,rfl,hp1,hJ,hit,t0,t5⟩
 have hkk:=hmap vis hp hJ
 by_cases hc:candA es bs seen=[]
 ·refine vcE.seq ?_
  rw[show mkyR1=mkyR1.take 1++mkyR1.drop 1 from rfl]
  refine vcE.app (vcE.next (it:=.ptr hp0.length 0) rfl (by simp only[evsE,evE,t5]) (nextDs_nil hkk hit ho hc) ?_)
  intro x hx
  rw[List.mem_singleton] at hx
  subst hx
  refine⟨rfl,vcE.e0 ?_⟩
  refine vcE.e0 ?_
  rw[hc,List.map_nil,qt] at hp1
  exact⟨_,rfl,vis,hp1.symm,hJ⟩
 ·refine vcE.seq ?_
  rw[show mkyR1=mkyR1.take 1++mkyR1.drop 1 from rfl]
  refine vcE.app (vcE.next (it:=.ptr hp0.length 0) rfl (by simp only[evsE,evE,t5]) (nextDs_cons hkk hit ho hc) ?_)
  intro x hx
  obtain⟨y,hy,rfl⟩:=xw.1 hx
  obtain⟨e1,e2⟩:=cand_pick ho.nd hy
  have hJ2:=hset vis hp (some (.iter [.map k] c (seen++[y.2.2]) c)) hJ
  have hk2:=hmap vis _ hJ2
  have hi2:(hp.set hp0.length (some (.iter [.map k] c (seen++[y.2.2]) c)))[hp0.length]? = some (some (.iter [.map k] c (seen++[y.2.2]) c)):=set_get hit
  have hent:=entA_last hk2 hi2 e2
  generalize hp.set hp0.length (some (.iter [.map k] c (seen++[y.2.2]) c))=hp2 at hJ2 hk2 hi2 hent
  have hlen:vis.length<es.length:=by
   have h1:=hp1.length_eq
   have h2:=e1.length_eq
   simp only[qL,qo,qr] at h1 h2
   omega
  refine⟨rfl,vcE.e0 ?_⟩
  refine vcE.s0 ?_
  refine vcE.block (vcE.step (by simp (disch:=first|assumption|omega) only[go_sem,↓reduceIte,qa,t5,hent]; rfl) (vcE.seq ?_))
  rw[show mkyR3=mkyR3.take 2++((mkyR3.drop 2).take 1++mkyR3.drop 3) from rfl]
  refine vcE.app (vcE.ex (by simp (disch:=first|assumption|omega) only[go_sem,↓reduceIte,qa,reduceCtorEq,t0]; rfl) ⟨rfl,vcE.app (vcE.callY (id:=id) (ys:=[y.1]) rfl ?_ (hround vis y.1 hp2 _ hJ2 hi2 (candA_mem hy).2 hlen) ?_)⟩)
  ·simp only[evsE,evE,upd_app,qa,↓reduceIte]
  ·rintro r hp' ⟨rfl,hJ',hi'⟩
   refine⟨rfl,vcE.e0 ?_⟩
   refine vcE.e0 ?_
   refine⟨(candA es bs (seen++[y.2.2])).length,?_,vis++[y.1],seen++[y.2.2],rfl,?_,hJ',hi',?_,?_⟩
   ·have h2:=e1.length_eq
    simp only[qr] at h2
    omega
   ·refine hp1.trans ?_
    rw[qV]
    exact ((e1.map _).append_left vis)
   all_goals simp only[upd_app,qa,↓reduceIte,t0,t5]
end
end
section
set_option linter.unusedSectionVars false
variable [Mx]
open Go
abbrev aseR0 (tb:TypeId):List IOp:=[⟨some 2,.op (.box tb),[.t 0],none⟩,
 ⟨some 4,.op (.mov),[.c (.nils)],none⟩]
abbrev aseR1:List IOp:=[⟨some 6,.op (.mov),[.t 1],none⟩]
abbrev aseR2:List IOp:=[⟨some 12,.op (.load none),[.t 2],none⟩,
 ⟨some 4,.op (.mov),[.t 12],none⟩]
abbrev aseR3:List IOp:=[⟨some 5,.op (.mov),[.t 7],none⟩]
abbrev aseR4 (e:TypeId) (bytes:Nat):List IOp:=[⟨some 8,.op (.load none),[.t 2],none⟩,
 ⟨some 9,.op (.mov),[.t 5],none⟩,
 ⟨some 10,.op (.bsl e 1 false),[.t 9],none⟩,
 ⟨some 11,.op (.app e 1 bytes),[.t 8,.t 10],none⟩,
 ⟨none,.op (.store 1),[.t 2,.t 11],none⟩]
abbrev aseC (tb:TypeId) (lk:Nat):IC:=(IC.seq (IC.reg (aseR0 tb)) (IC.seq (IC.seq (IC.reg aseR1) (IC.block 0 (IC.rangeF lk 13 (.t 6)))) (IC.seq (IC.reg aseR2) IC.ret)))
abbrev aseL (e:TypeId) (bytes:Nat):LI:=⟨13,[7],(IC.reg aseR3),(IC.block 1 (IC.reg (aseR4 e bytes)))⟩
abbrev colR1 (fa:FuncId):List IOp:=[⟨some 3,.op (.mov),[.t 0],none⟩,
 ⟨some 4,.call none,[.f fa,.c (.nils),.t 3],none⟩,
 ⟨some 2,.op (.mov),[.t 4],none⟩]
abbrev colC (fa:FuncId):IC:=(IC.seq (IC.reg [⟨some 2,.op (.mov),[.c (.nils)],none⟩]) (IC.seq (IC.reg (colR1 fa)) IC.ret))
abbrev srdR1 (fc:FuncId):List IOp:=[⟨some 4,.op (.mov),[.t 0],none⟩,
 ⟨some 5,.call none,[.f fc,.t 4],none⟩,
 ⟨some 3,.op (.mov),[.t 5],none⟩]
abbrev srdR2 (fs:FuncId):List IOp:=[⟨some 6,.op (.mov),[.t 3],none⟩,
 ⟨some 7,.call none,[.f fs,.t 6],none⟩]
abbrev srdR3:List IOp:=[⟨some 8,.op (.mov),[.t 3],none⟩,
 ⟨some 2,.op (.mov),[.t 8],none⟩]
abbrev srdC (fc fs:FuncId):IC:=(IC.seq (IC.reg [⟨some 2,.op (.mov),[.c (.nils)],none⟩]) (IC.seq (IC.reg (srdR1 fc)) (IC.seq (IC.reg (srdR2 fs)) (IC.seq (IC.reg srdR3) IC.ret))))
abbrev kysC (tb:TypeId) (fk:FuncId):IC:=(IC.seq (IC.reg [⟨some 1,.op (.box tb),[.t 0],none⟩,
 ⟨some 2,.op (.mov),[.c (.nilf)],none⟩]) (IC.seq (IC.reg [⟨some 3,.op (.mkfn fk),[.t 1],none⟩,
 ⟨some 2,.op (.mov),[.t 3],none⟩]) IC.ret))
variable {α:Type}
def srtL (lt:α→α→Bool) (l:List α):List α:=l.mergeSort fun x y => !lt y x
theorem srtL_perm (lt:α→α→Bool) (l:List α):(srtL lt l).Perm l:=List.mergeSort_perm _ _
theorem srtL_len (lt:α→α→Bool) (l:List α):(srtL lt l).length=l.length:=(srtL_perm lt l).length_eq
theorem srtL_pair {lt:α→α→Bool} (hS:Sort.SWO lt) (l:List α):(srtL lt l).Pairwise fun x y=>(!lt y x)=true:=by
 refine List.pairwise_mergeSort ?_ ?_ _
 ·intro a b c h1 h2
  simp only[zg] at h1 h2 ⊢
  exact hS.ntrans c b a h2 h1
 ·intro a b
  cases h:lt b a with
  | false=>simp
  | true =>
   have:lt a b=false:=by
    cases h2:lt a b
    ·rfl
    ·have:=hS.trans a b a h2 h
     rw[hS.irrefl] at this
     cases this
   simp[this]
theorem srtL_eq {lt:α→α→Bool} (hS:Sort.SWO lt) (ht:∀ x y,lt x y=false→lt y x=false→x=y) {l m:List α} (hp:l.Perm m) (h:m.Pairwise fun x y=>(!lt y x)=true):srtL lt l=m:=by
 refine List.Perm.eq_of_pairwise (le:=fun x y=>(!lt y x)=true) ?_ (srtL_pair hS l) h ((srtL_perm lt l).trans hp)
 intro a b _ _ h1 h2
 simp only[zg] at h1 h2
 exact ht a b h2 h1
theorem srtL_congr {lt:α→α→Bool} (hS:Sort.SWO lt) (ht:∀ x y,lt x y=false→lt y x=false→x=y) {l m:List α} (hp:l.Perm m):srtL lt l=srtL lt m:=
 srtL_eq hS ht (hp.trans (srtL_perm lt m).symm) (srtL_pair hS m)
structure SdF (P:Program) (L:El1 α) (lt:α→α→Bool) where
 fy:FuncId
 fa:FuncId
 fc:FuncId
 fs:FuncId
 fd:FuncId
 less:FuncId
 T:Tab
 e:TypeId
 tb:TypeId
 bytes:Nat
 lk:Nat
 hy:Nat→Nat
 ha:Nat→Nat
 hc:Nat→Nat
 hs:Nat→Nat
 hd:Nat→Nat
 S:SrtF P less
 hT:TabOk P T
 hless:Lss L lt T less
 swo:Sort.SWO lt
 dec:AV→α
 hdec:∀ a,dec (L.v a)=a
 tot:∀ x y,lt x y=false→lt y x=false→x=y
 small:bytes≤1000
 cy:compF P hy fy=some ⟨mkyC,14,[]⟩
 ca:compF P ha fa=some ⟨aseC tb lk,13,[.t 4]⟩
 ka:KeysF P ha fa
 la:LOk P lk (aseL e bytes)
 cc:compF P hc fc=some ⟨colC fa,5,[.t 2]⟩
 cs:compF P hs fs=some ⟨srtC S.fbl S.fpdq,srtN,[]⟩
 cd:compF P hd fd=some ⟨srdC fc fs,9,[.t 2]⟩
section
variable {P:Program} {L:El1 α} {lt:α→α→Bool} {hp:HP} {bx k c:Nat} {t:TypeId} {es:List (AV × AV)} {bs:List Nat} {ks:List α}
def AJ (L:El1 α) (e tb:TypeId) (lk:Nat) (hp:HP) (N:Nat) (lst vis:List AV) (H:HP):Prop:=
 ∃ l sl,vis=l.map L.v∧(∀ j,j<hp.length→H[j]? = hp[j]?)∧H[hp.length]? = some (some (.row tb [bld sl l.length 1]))∧H[hp.length+1]? = some (some (.loop lst lk .ready none))∧BldAt L.E H sl e l∧hp.length+3≤sl∧l.length≤N
theorem AJ.set {e tb:TypeId} {lk N:Nat} {lst vis:List AV} {H:HP} (h:AJ L e tb lk hp N lst vis H) (x:Option Blk):AJ L e tb lk hp N lst vis (H.set (hp.length+2) x):=by
 obtain⟨l,sl,h1,h2,h3,h4,h5,h6,h7⟩:=h
 refine⟨l,sl,h1,fun j hj=>by rw[qv (by omega)]; exact h2 j hj,by rw[set_get_ne (by omega)]; exact h3,by rw[set_get_ne (by omega)]; exact h4,?_,h6,h7⟩
 rcases h5 with h|h
 ·exact .inl h
 ·exact .inr (by rw[set_get_ne (by omega)]; exact h)
theorem store_one {hp:HP} {id:Nat} {e:TypeId} {x v:AV} (h:hp[id]? = some (some (.row e [x]))) (hc:cellsA v=[v]) (hn:∀ vs,v≠.tup vs):storeA hp 1 (.ptr id 0) v=some (hp.set id (some (.row e [v]))):=by
 cases v
 case tup vs=>exact absurd rfl (hn vs)
 all_goals simp only[storeA,h,hc,List.length_singleton,qY,qk,and_self,if_true]; rfl
theorem SdF.perm_dec (F:SdF P L lt) {l ks:List α} (h:(l.map L.v).Perm (ks.map L.v)):l.Perm ks:=by
 have:=h.map F.dec
 simpa only[List.map_map,Function.comp_def,F.hdec,List.map_id'] using this
variable [Inhabited α]
theorem src_el (L:El1 α) {hp:HP} {e:TypeId} {a:α} {ex:Bool}:srcA (hp++[some (.row e [L.v a])]) 1 (.sl hp.length 0 1 1 1 ex)=some (L.E.cs [a],1):=by
 have h:L.E.cs [a]=[L.v a]:=by simp[Enc.cs,L.hv]
 have:=L.E.sl_src (hp:=hp++[some (.row e [L.v a])]) (id:=hp.length) (e:=e) (l:=[a]) (lo:=1) (ex:=ex) (by rw[h]; simp)
 rw[L.sz] at this
 exact this
theorem ase_round (hm:P.follows .mixedOrders=true) {lk:Nat} {e tb:TypeId} {bytes:Nat} (hsm:bytes≤1000) (hL:LOk P lk (aseL e bytes)) {N:Nat} (hN:N≤1000000) {lst:List AV} {tm0:Env} (hl:Is 13 tm0 lst) (h2:tm0 2=.ptr hp.length 0) {vis:List AV} {H:HP} {y:Option Blk} {a:α} (hJ:AJ L e tb lk hp N lst vis H) (hy:H[hp.length+2]? = some y) (hlt:vis.length<N) :
  ARound P (hp.length+1) [L.v a] H fun r H'=>r=.bool true∧AJ L e tb lk hp N lst (vis++[L.v a]) H'∧H'[hp.length+2]? = some y:=by
 obtain⟨l,sl,rfl,hfr,g0,g1,hb,hsl,hln⟩:=hJ
 rw[qL] at hlt
 refine round_e hm (qJ _) hL g1 rfl (tm:=upd tm0 7 (L.v a)) (hl.setP 7 _) ?_
 intro hint
 refine vcE.e0 ?_
 refine⟨rfl,lst,_,none,g1,?_⟩
 generalize hh:H.set (hp.length+1) (some (.loop lst lk .busy none))=H1
 have hlen1:H1.length=H.length:=by rw[← hh]; simp
 have g2:=get_lt hy
 have k0:H1[hp.length]? = some (some (.row tb [bld sl l.length 1])):=by rw[← hh,set_get_ne (by omega)]; exact g0
 have k1:H1[hp.length+1]? = some (some (.loop lst lk .busy none)):=by rw[← hh]; exact set_get g1
 have k2:H1[hp.length+2]? = some y:=by rw[← hh,set_get_ne (by omega)]; exact hy
 have kf:∀ j,j<hp.length→H1[j]? = hp[j]?:=fun j hj=>by rw[← hh,qv (by omega)]; exact hfr j hj
 have kb:BldAt L.E H1 sl e l:=by
  rcases hb with hb|hb
  ·exact .inl hb
  ·exact .inr (by rw[← hh,set_get_ne (by omega)]; exact hb)
 have hbig:(l.length+[a].length)*bytes≤140737488355328:=by
  have h1:(l.length+[a].length)*bytes≤1000001*1000:=Nat.mul_le_mul (by simp; omega) hsm
  omega
 have happ:=(kb.app [some (.row e [L.v a])]).more (bytes:=bytes) (m:=[a]) (by have:=src_el L (hp:=H1) (e:=e) (a:=a) (ex:=true); rw[L.sz]; exact this) (by simp) hbig (by simp; omega)
 simp only[L.sz] at happ
 have hother:∀ j y,H1[j]? = some y→(l=[]∨j≠sl)→(bldH (H1++[some (.row e [L.v a])]) sl l.length (.row e (L.E.cs (l++[a]))))[j]? = some y:=fun j y h h'=>bldH_other (app_get h) (h'.imp (fun e=>by rw[e]; rfl) fun h=>h)
 have hne:∀ j,j<hp.length+3→(l=[]∨j≠sl):=fun j hj=>.inr (by omega)
 have e0:=hother _ _ k0 (hne _ (by omega))
 have e1:=hother _ _ k1 (hne _ (by omega))
 have e2:=hother _ _ k2 (hne _ (by omega))
 have hat:=BldAt.moreAt L.E (H1++[some (.row e [L.v a])]) sl l.length e (l++[a])
 have hlen2:(H1++[some (Blk.row e [L.v a])]).length=H1.length+1:=by simp
 have hld:loadA H1 none (.ptr hp.length 0)=some (bld sl l.length 1):=by
  simp only[go_sem,k0,bld_one,if_true]
 have hnt:notTup (L.v a)=true:=by
  have:=L.nt a
  cases h:L.v a
  case tup vs=>exact absurd h (this vs)
  all_goals rfl
 have hce:cellsA (L.v a)=[L.v a]:=(L.ce a).trans (L.hv a)
 have hl1:([L.v a].length == 1)=true:=rfl
 have hst:storeA (bldH (H1++[some (.row e [L.v a])]) sl l.length (.row e (L.E.cs (l++[a])))) 1 (.ptr hp.length 0) (bld (H1++[some (Blk.row e [L.v a])]).length (l++[a]).length 1)=some ((bldH (H1++[some (.row e [L.v a])]) sl l.length (.row e (L.E.cs (l++[a])))).set hp.length (some (.row tb [bld (H1++[some (Blk.row e [L.v a])]).length (l++[a]).length 1]))):=
  store_one e0 (bld_cells _ _ _) (bld_notTup _ _ _)
 refine vcE.ex (by simp (disch:=first|assumption|omega) only[go_sem,↓reduceIte,qa,h2,↓hld,hnt,hce,↓happ,↓hst]; rfl) ?_
 refine⟨none,lst,_,.busy,none,rfl,by rw[set_get_ne (by omega)]; exact e1,rfl,⟨l++[a],(H1++[some (Blk.row e [L.v a])]).length,by simp,?_,?_,?_,?_,by omega,by simp; omega⟩,?_⟩
 ·intro j hj
  have hjH:j<H1.length:=by omega
  rw[qv (by omega),qv (by omega),hother j _ (qg hjH) (hne j (by omega)),← kf j hj,qg hjH]
 ·rw[set_get_ne (by omega),set_get e0,qo]
 ·rw[set_get (y:=some (.loop lst lk .busy none)) (by rw[set_get_ne (by omega)]; exact e1)]
  rfl
 ·rcases hat with h|h
  ·simp at h
  ·exact .inr (by rw[set_get_ne (by omega),set_get_ne (by omega)]; exact h)
 ·rw[set_get_ne (by omega),set_get_ne (by omega)]
  exact e2
theorem SdF.ase (hm:P.follows .mixedOrders=true) (F:SdF P L lt) (hbx:hp[bx]? = some (some (.row t [.map k]))) (hk:hp[k]? = some (some (.map es bs c))) (ho:MapOk es bs c) (hks:es.map (·.1)=ks.map L.v) (hN:ks.length≤1000000) :
  ACalls P F.fa [.nils,.func F.fy [.ptr bx 0]] hp fun r H => ∃ l sl,l.Perm ks∧r=bld sl l.length 1∧BldAt L.E H sl F.e l∧hp.length≤sl∧(∀ j,j<hp.length→H[j]? = hp[j]?)∧hp.length≤H.length:=by
 have hel:es.length=ks.length:=by
  have:=congrArg List.length hks
  simpa using this
 refine calls_k hm (qJ _) F.ca F.ka (by rfl) (by simp) ?_
 refine vcE.s1 (k:=vcE.then (fun e tm H=>e=.normal∧tm 2=.ptr hp.length 0∧∃ l sl,l.Perm ks∧H[hp.length]? = some (some (.row F.tb [bld sl l.length 1]))∧BldAt L.E H sl F.e l∧hp.length≤sl∧(∀ j,j<hp.length→H[j]? = hp[j]?)) ?_ ?_)
 ·refine vcE.s1 (k:=vcE.block (vcE.rangeF (g:=F.fy) (caps:=[.ptr bx 0]) ?_ ?_))
  ·simp only[evE,upd_app,↓reduceIte]
  ·intro lst hl
   have hln:(hp++[some (Blk.row F.tb [.nils])]).length=hp.length+1:=by simp
   have hln2:((hp++[some (Blk.row F.tb [.nils])])++[some (Blk.loop lst F.lk .ready none)]).length=hp.length+2:=by simp
   have hk2:=get_lt hk
   simp only[hln]
   refine (keysY (hp0:=(hp++[some (Blk.row F.tb [.nils])])++[some (.loop lst F.lk .ready none)]) hm F.cy (app_get (app_get hbx)) (app_get (app_get hk)) ho (J:=AJ L F.e F.tb F.lk hp ks.length lst) ⟨[],hp.length+3,rfl,?_,?_,?_,.inl rfl,qk _,Nat.zero_le _⟩ ?_ ?_ ?_).mono ?_
   ·intro j hj
    rw[qm (by simp; omega),qm (by simp; omega),qm hj]
   ·rw[qm (by simp),qm (by simp)]
    simp[bld]
   ·rw[qm (by simp)]
    simp
   ·intro vis H x hJ
    rw[hln2]
    exact hJ.set x
   ·rintro vis H ⟨l,sl,h1,h2,_⟩
    rw[h2 k hk2]
    exact hk
   ·intro vis key H y hJ hy hkey hlt
    rw[hln2] at hy ⊢
    rw[hks] at hkey
    obtain⟨a,_,rfl⟩:=xw.1 hkey
    exact ase_round hm F.small F.la hN hl (by simp only[upd_app,qa,↓reduceIte]) hJ hy (by omega)
   ·rintro r H ⟨vis,hp1,l,sl,rfl,h2,h3,h4,h5,h6,h7⟩
    rw[hks] at hp1
    refine⟨lst,_,.ready,none,h4,by simp,rfl,by simp only[upd_app,qa,↓reduceIte],l,sl,F.perm_dec hp1,?_,?_,by omega,?_⟩
    ·rw[set_get_ne (by omega)]
     exact h3
    ·rcases h5 with h|h
     ·exact .inl h
     ·exact .inr (by rw[set_get_ne (by omega)]; exact h)
    ·intro j hj
     rw[qv (by omega)]
     exact h2 j hj
 ·rintro e tm H ⟨rfl,t2,l,sl,h1,h2,h3,h4,h5⟩
  have hld:loadA H none (.ptr hp.length 0)=some (bld sl l.length 1):=by
   simp only[go_sem,h2,bld_one,if_true]
  refine vcE.ex (by simp (disch:=first|assumption|omega) only[go_sem,↓reduceIte,t2,↓hld]; rfl) ?_
  exact⟨_,rfl,l,sl,h1,rfl,h3,h4,h5,by have:=get_lt h2; omega⟩
theorem SdF.col (hm:P.follows .mixedOrders=true) (F:SdF P L lt) (hbx:hp[bx]? = some (some (.row t [.map k]))) (hk:hp[k]? = some (some (.map es bs c))) (ho:MapOk es bs c) (hks:es.map (·.1)=ks.map L.v) (hN:ks.length≤1000000) :
  ACalls P F.fc [.func F.fy [.ptr bx 0]] hp fun r H => ∃ l sl,l.Perm ks∧r=bld sl l.length 1∧BldAt L.E H sl F.e l∧hp.length≤sl∧(∀ j,j<hp.length→H[j]? = hp[j]?)∧hp.length≤H.length:=by
 refine calls_e hm (qJ _) F.cc (by rfl) (by simp) ?_
 refine vcE.s1 (k:=vcE.seq ?_)
 rw[show colR1 F.fa=(colR1 F.fa).take 1++(((colR1 F.fa).drop 1).take 1++(colR1 F.fa).drop 2) from rfl]
 refine vcE.app (vcE.e1 (k:=⟨rfl,vcE.app (vcE.call (f:=F.fa) (caps:=[]) (ys:=[.nils,.func F.fy [.ptr bx 0]]) rfl ?_ (F.ase hm hbx hk ho hks hN) ?_)⟩))
 ·simp only[evsE,evE,upd_app,↓reduceIte]
 ·rintro r H ⟨l,sl,h1,rfl,h3⟩
  refine⟨rfl,vcE.e0 ?_⟩
  refine vcE.e0 ?_
  exact⟨_,rfl,l,sl,h1,rfl,h3⟩
theorem SdF.sorted (hm:P.follows .mixedOrders=true) (F:SdF P L lt) (hbx:hp[bx]? = some (some (.row t [.map k]))) (hk:hp[k]? = some (some (.map es bs c))) (ho:MapOk es bs c) (hks:es.map (·.1)=ks.map L.v) (hN:ks.length≤1000000) :
  ACalls P F.fd [.func F.fy [.ptr bx 0]] hp fun r H => ∃ sl,r=bld sl ks.length 1∧BldAt L.E H sl F.e (srtL lt ks)∧hp.length≤sl∧(∀ j,j<hp.length→H[j]? = hp[j]?)∧hp.length≤H.length:=by
 refine calls_e hm (qJ _) F.cd (by rfl) (by simp) ?_
 refine vcE.s1 (k:=vcE.seq ?_)
 rw[show srdR1 F.fc=(srdR1 F.fc).take 1++(((srdR1 F.fc).drop 1).take 1++(srdR1 F.fc).drop 2) from rfl]
 refine vcE.app (vcE.e1 (k:=⟨rfl,vcE.app (vcE.call (f:=F.fc) (caps:=[]) (ys:=[.func F.fy [.ptr bx 0]]) rfl ?_ (F.col hm hbx hk ho hks hN) ?_)⟩))
 ·simp only[evsE,evE,upd_app,↓reduceIte]
 ·rintro r H ⟨l,sl,h1,rfl,h3,h4,h5,h6⟩
  have hll:=h1.length_eq
  refine⟨rfl,vcE.e0 ?_⟩
  refine vcE.seq ?_
  rw[show srdR2 F.fs=(srdR2 F.fs).take 1++(srdR2 F.fs).drop 1 from rfl]
  have hs0:Srt L F.e sl H H l.toArray:=⟨h3.imp (fun h=>by rw[h]; rfl) fun h=>h,fun _ _ _=>rfl,qk _⟩
  have hsla:SlA sl l.toArray (bld sl l.length 1):=by
   refine⟨fun i hi=>?_,by rw[List.size_toArray]; omega⟩
   rw[List.size_toArray] at hi
   rw[bld_pos (by omega)]
   exact iaddr_sl1 hi
  refine vcE.app (vcE.e1 (k:=⟨rfl,vcE.call (f:=F.fs) (caps:=[]) (ys:=[bld sl l.length 1]) rfl ?_ (srt_calls hm F.hT F.hless F.swo F.S F.cs hs0 hsla (fun hp=>by rw[bld_len,List.size_toArray]) (bld_fits _ _ _)) ?_⟩))
  ·simp only[evsE,evE,upd_app,↓reduceIte]
  ·rintro r H2 hd
   obtain⟨rfl,hs⟩:=Done.eq F.swo F.tot hd
   have he:(l.mergeSort fun x y => !lt y x)=srtL lt ks:=srtL_congr F.swo F.tot h1
   refine vcE.e0 ?_
   refine⟨_,rfl,sl,by simp only[upd_app,↓reduceIte,hll],?_,h4,?_,?_⟩
   ·have:=hs.row
    rw[he] at this
    exact this.imp (fun h=>List.eq_nil_of_length_eq_zero h) fun h=>h
   ·intro j hj
    rw[hs.oth j (by omega) (by omega)]
    exact h5 j hj
   ·have:=hs.len
    omega
theorem kys_calls (hm:P.follows .mixedOrders=true) {hint:Nat→Nat} {f fy:FuncId} {tb:TypeId} (hf:compF P hint f=some ⟨kysC tb fy,4,[.t 2]⟩):ACalls P f [.map k] hp fun r H=>r=.func fy [.ptr hp.length 0]∧H=hp++[some (.row tb [.map k])]:=by
 refine calls_e hm (qJ _) hf (by rfl) (by simp) ?_
 refine vcE.e0 ?_
 exact⟨_,rfl,rfl,rfl⟩
end
end
section
set_option linter.unusedSectionVars false
variable [Mx]
open Go Go.Proofs
structure PL where
 key:List UInt8
 ids:List Int
 sl:Nat
 rest:List Int
def PL.v (z:PL):AV:=.sl z.sl 0 z.ids.length 1 (z.ids.length+z.rest.length) false
def PL.ent (z:PL):AV × AV:=(.str z.key,z.v)
def PL.row (z:PL):Blk:=.row 3 (encI.cs (z.ids++z.rest))
abbrev ixC (most:Int) (a p q w:Nat):List AV:=[.int .i64 most,.map a,.map p,.map q,.map w]
def entS (y:Gl × Nat):AV × AV:=(.int .i64 y.1.id,.ptr y.2 0)
def Gl.auto (most:Int) (g:Gl):AV:=if g.lit then .nilp else (g.au most).v
def Gl.cells (most:Int) (g:Gl):List AV:=[.int .i64 g.id,.str g.pat,.bool g.fold,g.auto most]
def wildS (S:List (Gl × Nat)):List (Gl × Nat):=S.filter fun y => !y.1.lit
structure PMap (hp:HP) (k:Nat) (L:List PL):Prop where
 m:∃ bs c,hp[k]? = some (some (.map (L.map PL.ent) bs c))
 r:∀ z ∈ L,hp[z.sl]? = some (some z.row)
 ne:∀ z ∈ L,z.ids≠[]
 nd:(L.map PL.key).Nodup
def idsL (L:List PL) (k:List UInt8):List Int:=match L.find? fun z=>decide (z.key=k) with
 | some z=>z.ids
 | none=>[]
structure Ixs (b:Nat) (most:Int) (S:List (Gl × Nat)) (L:Bool→List PL) (hp:HP):Prop where
 hx:hp[b+4]? = some (some (.row 57 (ixC most b (b+1) (b+2) (b+3))))
 ha:∃ bs c,hp[b]? = some (some (.map (S.map entS) bs c))∧MapOk (S.map entS) bs c
 hw:∃ bs c,hp[b+3]? = some (some (.map ((wildS S).map entS) bs c))∧MapOk ((wildS S).map entS) bs c
 p:∀ f:Bool,PMap hp (b+1+f.toNat) (L f)
 en:∀ y ∈ S,hp[y.2]? = some (some (.row 62 (y.1.cells most)))
 nd:∀ f,((L f).map PL.sl).Nodup
 dj:∀ y ∈ L false,∀ z ∈ L true,y.sl≠z.sl
 r:∀ f k,idsL (L f) k=idsG f k (S.map (·.1))
 ok:GOk2 (S.map (·.1))
def Foot (b:Nat) (S:List (Gl × Nat)) (L:Bool→List PL) (k:Nat):Prop:=(b≤k∧k<b+5)∨(∃ y ∈ S,y.2=k)∨∃ f,∃ z ∈ L f,z.sl=k
theorem PMap.frame {hp H:HP} {m:Nat} {L:List PL} (h:PMap hp m L) (hm:H[m]? = hp[m]?) (hs:∀ z ∈ L,H[z.sl]? = hp[z.sl]?):PMap H m L:=by
 obtain⟨⟨bs,c,h1⟩,h2,h3,h4⟩:=h
 exact⟨⟨bs,c,by rw[hm]; exact h1⟩,fun z hz=>by rw[hs z hz]; exact h2 z hz,h3,h4⟩
theorem Ixs.frame {b:Nat} {most:Int} {S:List (Gl × Nat)} {L:Bool→List PL} {hp H:HP} (h:Ixs b most S L hp) (hf:∀ k,Foot b S L k→H[k]? = hp[k]?):Ixs b most S L H:=by
 have hb:∀ i,i<5→H[b+i]? = hp[b+i]?:=fun i hi=>hf _ (.inl ⟨by omega,by omega⟩)
 obtain⟨hx,⟨bs,c,ha,ho⟩,⟨bw,cw,hw,how⟩,p,en,nd,dj,r,ok⟩:=h
 exact⟨by rw[hb 4 (by omega)]; exact hx,⟨bs,c,by rw[hf b (.inl ⟨by omega,by omega⟩)]; exact ha,ho⟩,⟨bw,cw,by rw[hb 3 (by omega)]; exact hw,how⟩,fun f=>(p f).frame (hf _ (.inl (by cases f<;>simp only[Bool.toNat_false,Bool.toNat_true]<;>omega))) fun z hz=>hf _ (.inr (.inr ⟨f,z,hz,rfl⟩)),fun y hy=>by rw[hf _ (.inr (.inl ⟨y,hy,rfl⟩))]; exact en y hy,nd,dj,r,ok⟩
theorem Ixs.lt {b:Nat} {most:Int} {S:List (Gl × Nat)} {L:Bool→List PL} {hp:HP} (h:Ixs b most S L hp) {k:Nat} (hk:Foot b S L k):k<hp.length:=by
 rcases hk with ⟨h1,h2⟩|⟨y,hy,rfl⟩|⟨f,z,hz,rfl⟩
 ·have:=get_lt h.hx
  omega
 ·exact get_lt (h.en y hy)
 ·exact get_lt ((h.p f).r z hz)
def IxF (b:Nat) (most:Int) (G:List Gl) (F:Nat→Prop) (hp:HP):Prop:=∃ S L,Ixs b most S L hp∧S.map (·.1)=G∧∀ k,Foot b S L k→F k
structure Chg (F:Nat→Prop) (hp H:HP):Prop where
 fr:∀ k,k<hp.length→¬ F k→H[k]? = hp[k]?
 le:hp.length≤H.length
theorem Chg.refl (F:Nat→Prop) (hp:HP):Chg F hp hp:=⟨fun _ _ _=>rfl,qk _⟩
theorem IxF.frame {b:Nat} {most:Int} {G:List Gl} {F F':Nat→Prop} {hp H:HP} (h:IxF b most G F hp) (hc:Chg F' hp H) (hd:∀ k,F k→¬ F' k):IxF b most G F H:=by
 obtain⟨S,L,h1,h2,h3⟩:=h
 exact⟨S,L,h1.frame fun k hk=>hc.fr k (h1.lt hk) (hd k (h3 k hk)),h2,h3⟩
theorem IxF.mono {b:Nat} {most:Int} {G:List Gl} {F F':Nat→Prop} {hp:HP} (h:IxF b most G F hp) (hd:∀ k,F k→F' k):IxF b most G F' hp:=by
 obtain⟨S,L,h1,h2,h3⟩:=h
 exact⟨S,L,h1,h2,fun k hk=>hd k (h3 k hk)⟩
theorem keyEq_str (a b:List UInt8):keyEqA (.str a) (.str b)=some (decide (a=b)):=by
 simp only[keyEqA,bEqb_eq]
theorem find_none {k:List UInt8}:∀ {L:List PL} {i:Nat},(∀ z ∈ L,z.key≠k)→findA (.str k) (L.map PL.ent) i=some none
 | [],_,_=>rfl
 | z :: L,i,h=>by
  have h1:¬ k=z.key:=fun e=>h z qD e.symm
  simp only[qB,PL.ent,findA,keyEq_str,h1,decide_false]
  exact find_none fun y hy=>h y (qI _ hy)
theorem find_at {k:List UInt8} {z:PL} {B:List PL} (hz:z.key=k):∀ {A:List PL} {i:Nat},(∀ y ∈ A,y.key≠k)→findA (.str k) ((A++z :: B).map PL.ent) i=some (some (i+A.length,z.v))
 | [],i,_=>by
  simp only[qz,qB,PL.ent,findA,keyEq_str,hz,decide_true,qx,xN]
 | y :: A,i,h=>by
  have h1:¬ k=y.key:=fun e=>h y qD e.symm
  simp only[qZ,qB,PL.ent,findA,keyEq_str,h1,decide_false]
  rw[show i+(y :: A).length=(i+1)+A.length by simp; omega]
  exact find_at hz fun x hx=>h x (qI _ hx)
theorem findS_none {id:Int}:∀ {S:List (Gl × Nat)} {i:Nat},(∀ y ∈ S,y.1.id≠id)→findA (.int .i64 id) (S.map entS) i=some none
 | [],_,_=>rfl
 | y :: S,i,h=>by
  have h1:¬ id=y.1.id:=fun e=>h y qD e.symm
  have hk:keyEqA (.int .i64 id) (.int .i64 y.1.id)=some false:=by
   simp only[keyEqA,h1,decide_false]
   rfl
  simp only[qB,entS,findA,hk]
  exact findS_none fun x hx=>h x (qI _ hx)
theorem findS_at {id:Int} {y:Gl × Nat} {B:List (Gl × Nat)} (hy:y.1.id=id):∀ {A:List (Gl × Nat)} {i:Nat},(∀ x ∈ A,x.1.id≠id)→findA (.int .i64 id) ((A++y :: B).map entS) i=some (some (i+A.length,.ptr y.2 0))
 | [],i,_=>by
  have hk:keyEqA (.int .i64 id) (.int .i64 y.1.id)=some true:=by
   simp only[keyEqA,hy,decide_true]
   rfl
  simp only[qz,qB,entS,findA,hk,qx,xN]
 | x :: A,i,h=>by
  have h1:¬ id=x.1.id:=fun e=>h x qD e.symm
  have hk:keyEqA (.int .i64 id) (.int .i64 x.1.id)=some false:=by
   simp only[keyEqA,h1,decide_false]
   rfl
  simp only[qZ,qB,entS,findA,hk]
  rw[show i+(x :: A).length=(i+1)+A.length by simp; omega]
  exact findS_at hy fun z hz=>h z (qI _ hz)
theorem PMap.split {hp:HP} {m:Nat} {L:List PL} (h:PMap hp m L) (k:List UInt8):((∀ z ∈ L,z.key≠k)∧idsL L k=[])∨∃ A z B,L=A++z :: B∧z.key=k∧(∀ y ∈ A++B,y.key≠k)∧idsL L k=z.ids:=by
 by_cases hk:∃ z ∈ L,z.key=k
 ·obtain⟨z,hz,rfl⟩:=hk
  obtain⟨A,B,rfl⟩:=List.append_of_mem hz
  have hn:=h.nd
  rw[List.map_append,qB,List.nodup_append] at hn
  obtain⟨n1,n2,n3⟩:=hn
  rw[zy] at n2
  have hA:∀ y ∈ A,y.key≠z.key:=fun y hy=>n3 _ (xx hy) _ qD
  refine .inr ⟨A,z,B,rfl,rfl,fun y hy=>?_,?_⟩
  ·rcases List.mem_append.1 hy with hy|hy
   ·exact hA y hy
   ·exact fun e=>n2.1 (by rw[← e]; exact xx hy)
  ·unfold idsL
   rw[List.find?_append,zt.2 (by simpa using hA),Option.none_or,List.find?_cons_of_pos (by simp)]
 ·have h1:∀ z ∈ L,z.key≠k:=fun z hz e=>hk ⟨z,hz,e⟩
  refine .inl ⟨h1,?_⟩
  unfold idsL
  rw[zt.2 (by simpa using h1)]
end
section
set_option linter.unusedSectionVars false
variable [Mx]
open Go
variable {α:Type}
theorem slice_hi {sz id off len cap h:Nat} {ex:Bool} {k:IntKind} (hh:h≤cap):sliceA sz (.sl id off len sz cap ex) none (some (.int k (h:Int))) none=some (.sl id off h sz cap ex):=by
 simp only[sliceA,bndA,zC,cutA,qA,Option.getD_none,Option.getD_some,Option.isNone_some,if_true]
 rw[if_pos ⟨fun h=>h.elim,by omega,by omega,.inr (by omega),by omega,by omega⟩]
 simp
theorem slice_lo {sz id off len cap l:Nat} {ex:Bool} {k:IntKind} (hh:l≤len) (hc:len≤cap):sliceA sz (.sl id off len sz cap ex) (some (.int k (l:Int))) none none=some (.sl id (off+l*sz) (len - l) sz (cap - l) ex):=by
 simp only[sliceA,bndA,zC,cutA,qA,Option.getD_none,Option.isNone_none,Option.getD_some,if_true]
 rw[if_pos ⟨fun h=>h.elim,by omega,by omega,.inl trivial,by omega,by omega⟩]
 simp
section
variable (E:Enc α)
theorem Enc.over_mid {l m:List α} {i:Nat} (h:i+m.length≤l.length):over (E.cs l) (i*E.sz) (E.cs m)=E.cs (l.take i++m++l.drop (i+m.length)):=by
 simp only[over,E.cs_app,E.cs_len]
 rw[E.cs_take,← Nat.add_mul,E.cs_drop]
theorem Enc.zeros {z:α} {n:Nat}:zerosA (E.c z) n=E.cs (List.replicate n z):=by
 rw[zerosA_eq]
 induction n with
 | zero=>rfl
 | succ n ih=>simp only[List.replicate_succ,List.flatten_cons,ih,Enc.cs]
theorem Enc.part {l:List α} {i n:Nat}:((E.cs l).drop (i*E.sz)).take (n*E.sz)=E.cs ((l.drop i).take n):=by
 rw[E.cs_drop,E.cs_take]
variable {hp:HP} {id:Nat} {e:TypeId} {l:List α} {k lo:Nat} {ex:Bool}
theorem Enc.sl_clear {z:α} {i n m:Nat} (h:hp[id]? = some (some (.row e (E.cs l)))) (hn:i+n≤l.length):clearA hp (E.c z) (.sl id (i*E.sz) n E.sz m ex)=some (hp.set id (some (.row e (E.cs (l.take i++List.replicate n z++l.drop (i+n)))))):=by
 by_cases h0:n=0
 ·subst h0
  have hlt:=get_lt h
  simp only[clearA,if_true,List.replicate_zero,qt,xN,xE,Option.some.injEq]
  apply List.ext_getElem?
  intro j
  rw[xH]
  split
  ·rename_i hj; subst hj; first|rw[if_pos hlt,h]|exact h
  ·rfl
 ·have hm:(i+n)*E.sz≤l.length*E.sz:=Nat.mul_le_mul_right _ hn
  rw[Nat.add_mul] at hm
  simp only[clearA,h]
  rw[if_neg h0,if_pos ⟨(E.len z).symm,by rw[E.cs_len]; exact hm⟩,E.zeros,E.over_mid (by simpa using hn)]
  simp
theorem set_same {hp:HP} {id:Nat} {x:Option Blk} (h:hp[id]? = some x):hp.set id x=hp:=by
 apply List.ext_getElem?
 intro j
 rw[xH]
 split
 ·rename_i hj; subst hj; first|rw[if_pos (get_lt h),h]|exact h
 ·rfl
end
def kept (p:α→Bool) (l:List α) (j:Nat):List α:=(l.take j).filter fun a => !p a
theorem kept_le (p:α→Bool) (l:List α) (j:Nat):(kept p l j).length≤j∧(kept p l j).length≤l.length:=by
 have h1:(kept p l j).length≤(l.take j).length:=List.length_filter_le _ _
 rw[xd] at h1
 omega
theorem kept_step {p:α→Bool} {l:List α} {j:Nat} {a:α} (h:l[j]? = some a):kept p l (j+1)=kept p l j++if p a then [] else [a]:=by
 simp only[kept,List.take_add_one,h,Option.toList_some,List.filter_append,List.filter_cons,List.filter_nil]
 cases p a<;>rfl
theorem kept_all (p:α→Bool) (l:List α):kept p l l.length=l.filter fun a => !p a:=by
 simp[kept]
def rowed (p:α→Bool) (l:List α) (j:Nat):List α:=kept p l j++l.drop (kept p l j).length
theorem rowed_len (p:α→Bool) (l:List α) (j:Nat):(rowed p l j).length=l.length:=by
 have:=kept_le p l j
 simp only[rowed,qo,xq]
 omega
theorem rowed_get {p:α→Bool} {l:List α} {j:Nat} {a:α} (h:l[j]? = some a):(rowed p l j)[j]? = some a:=by
 have:=kept_le p l j
 rw[rowed,List.getElem?_append_right (by omega),List.getElem?_drop,← h]
 congr 1
 omega
theorem rowed_keep {p:α→Bool} {l:List α} {j:Nat} {a:α} (h:l[j]? = some a) (hp:p a=false):(rowed p l j).set (kept p l j).length a=rowed p l (j+1):=by
 have hk:=kept_le p l j
 have hj:=(List.getElem?_eq_some_iff.1 h).1
 rw[rowed,rowed,kept_step h,hp,List.set_append_right _ _ (qk _),Nat.sub_self]
 simp only[go_sem,qA,if_false,qo,qV]
 congr 1
 rw[List.drop_eq_getElem_cons (by omega)]
 rfl
theorem rowed_drop {p:α→Bool} {l:List α} {j:Nat} {a:α} (h:l[j]? = some a) (hp:p a=true):rowed p l (j+1)=rowed p l j:=by
 rw[rowed,rowed,kept_step h,hp]
 simp
theorem rowed_first {p:α→Bool} {l:List α} {i:Nat} (h:idx p l=i):i<l.length∧rowed p l (i+1)=l∧(kept p l (i+1)).length=i:=by
 unfold idx at h
 split at h
 ·rename_i k hk
  obtain rfl:k=i:=by omega
  rw[List.findIdx?_eq_some_iff_getElem] at hk
  obtain⟨h1,h2,h3⟩:=hk
  have e:kept p l (k+1)=l.take k:=by
   rw[kept_step (qg h1),h2,if_pos rfl,qt,kept]
   refine zq.2 fun a ha=>?_
   obtain⟨j,hj,rfl⟩:=List.mem_iff_getElem.1 ha
   rw[xd] at hj
   have:=h3 j (by omega)
   rw[List.getElem_take]
   simpa using this
  have e2:(l.take k).length=k:=by rw[xd]; omega
  refine⟨h1,?_,by rw[e,e2]⟩
  rw[rowed,e,e2,xE]
 ·omega
theorem idx_neg {p:α→Bool} {l:List α} (h:idx p l<0):l.filter (fun a => !p a)=l:=by
 unfold idx at h
 split at h
 ·omega
 ·rename_i hk
  rw[List.findIdx?_eq_none_iff] at hk
  exact zq.2 fun a ha=>by simp[hk a ha]
end
section
set_option linter.unusedSectionVars false
variable [Mx]
open Go
abbrev ixfR0:List IOp:=[⟨some 4,.op (.mov),[.c (.int .i64 0)],none⟩]
abbrev ixfR1:List IOp:=[⟨some 6,.op (.mov),[.t 0],none⟩,
 ⟨some 7,.op (.len .slice),[.t 6],none⟩,
 ⟨some 8,.op (.mov),[.c (.int .i64 0)],none⟩]
abbrev ixfR2:List IOp:=[⟨some 9,.op (.bin .lss .prim),[.t 8,.t 7],none⟩]
abbrev ixfR3:List IOp:=[⟨some 10,.op (.mov),[.t 8],none⟩,
 ⟨some 5,.op (.mov),[.t 10],none⟩]
abbrev ixfR4:List IOp:=[⟨some 11,.op (.mov),[.t 1],none⟩,
 ⟨some 12,.op (.mov),[.t 0],none⟩,
 ⟨some 13,.op (.mov),[.t 5],none⟩,
 ⟨some 14,.op (.iaddr 1),[.t 12,.t 13],none⟩,
 ⟨some 15,.op (.load none),[.t 14],none⟩,
 ⟨some 16,.call none,[.t 11,.t 15],none⟩]
abbrev ixfR5:List IOp:=[⟨some 17,.op (.mov),[.t 5],none⟩,
 ⟨some 4,.op (.mov),[.t 17],none⟩]
abbrev ixfR6:List IOp:=[⟨some 18,.op (.bin .add .prim),[.t 8,.c (.int .i64 1)],none⟩,
 ⟨some 8,.op (.mov),[.t 18],none⟩]
abbrev ixfB:IC:=(IC.seq (IC.reg ixfR2) (IC.seq (IC.cond (.t 9) IC.skip (IC.exit 0)) (IC.seq (IC.block 1 (IC.seq (IC.reg ixfR3) (IC.seq (IC.reg ixfR4) (IC.cond (.t 16) (IC.seq (IC.reg ixfR5) IC.ret) IC.skip)))) (IC.reg ixfR6))))
abbrev ixfR7:List IOp:=[⟨some 4,.op (.mov),[.c (.int .i64 (-1))],none⟩]
abbrev ixfC:IC:=(IC.seq (IC.reg ixfR0) (IC.seq (IC.seq (IC.reg ixfR1) (IC.block 0 (IC.loop ixfB))) (IC.seq (IC.reg ixfR7) IC.ret)))
abbrev dkfR0:List IOp:=[⟨some 4,.op (.mov),[.c (.nils)],none⟩]
abbrev dkfR1 (gi:FuncId):List IOp:=[⟨some 8,.op (.mov),[.t 0],none⟩,
 ⟨some 9,.op (.mov),[.t 1],none⟩,
 ⟨some 10,.call none,[.f gi,.t 8,.t 9],none⟩,
 ⟨some 5,.op (.mov),[.t 10],none⟩]
abbrev dkfR2:List IOp:=[⟨some 11,.op (.mov),[.t 5],none⟩,
 ⟨some 12,.op (.bin .eql .prim),[.t 11,.c (.int .i64 (-1))],none⟩]
abbrev dkfR3:List IOp:=[⟨some 13,.op (.mov),[.t 0],none⟩,
 ⟨some 4,.op (.mov),[.t 13],none⟩]
abbrev dkfR4:List IOp:=[⟨some 14,.op (.mov),[.t 5],none⟩,
 ⟨some 15,.op (.bin .add .prim),[.t 14,.c (.int .i64 1)],none⟩,
 ⟨some 6,.op (.mov),[.t 15],none⟩]
abbrev dkfR5:List IOp:=[⟨some 16,.op (.mov),[.t 6],none⟩,
 ⟨some 17,.op (.mov),[.t 0],none⟩,
 ⟨some 18,.op (.len .slice),[.t 17],none⟩,
 ⟨some 19,.op (.bin .lss .prim),[.t 16,.t 18],none⟩]
abbrev dkfR6:List IOp:=[⟨some 22,.op (.mov),[.t 0],none⟩,
 ⟨some 23,.op (.mov),[.t 6],none⟩,
 ⟨some 24,.op (.iaddr 1),[.t 22,.t 23],none⟩,
 ⟨some 25,.op (.load none),[.t 24],none⟩,
 ⟨some 7,.op (.mov),[.t 25],none⟩]
abbrev dkfR7:List IOp:=[⟨some 26,.op (.mov),[.t 1],none⟩,
 ⟨some 27,.op (.mov),[.t 7],none⟩,
 ⟨some 28,.call none,[.t 26,.t 27],none⟩,
 ⟨some 29,.op (.un .not),[.t 28],none⟩]
abbrev dkfR8:List IOp:=[⟨some 30,.op (.mov),[.t 0],none⟩,
 ⟨some 31,.op (.mov),[.t 5],none⟩,
 ⟨some 32,.op (.mov),[.t 7],none⟩,
 ⟨some 33,.op (.iaddr 1),[.t 30,.t 31],none⟩,
 ⟨none,.op (.store 1),[.t 33,.t 32],none⟩]
abbrev dkfR9:List IOp:=[⟨some 34,.op (.mov),[.t 5],none⟩,
 ⟨some 35,.op (.bin .add .prim),[.t 34,.c (.int .i64 1)],none⟩,
 ⟨some 5,.op (.mov),[.t 35],none⟩]
abbrev dkfR10:List IOp:=[⟨some 20,.op (.mov),[.t 6],none⟩,
 ⟨some 21,.op (.bin .add .prim),[.t 20,.c (.int .i64 1)],none⟩,
 ⟨some 6,.op (.mov),[.t 21],none⟩]
abbrev dkfB:IC:=(IC.seq (IC.seq (IC.reg dkfR5) (IC.cond (.t 19) IC.skip (IC.exit 0))) (IC.seq (IC.block 1 (IC.seq (IC.reg dkfR6) (IC.seq (IC.reg dkfR7) (IC.cond (.t 29) (IC.seq (IC.reg dkfR8) (IC.reg dkfR9)) IC.skip)))) (IC.reg dkfR10)))
abbrev dkfR11 (Z:List AV):List IOp:=[⟨some 36,.op (.mov),[.t 0],none⟩,
 ⟨some 37,.op (.mov),[.t 5],none⟩,
 ⟨some 38,.op (.slice 1 true false false),[.t 36,.t 37],none⟩,
 ⟨none,.op (.clear Z),[.t 38],none⟩]
abbrev dkfR12:List IOp:=[⟨some 39,.op (.mov),[.t 0],none⟩,
 ⟨some 40,.op (.mov),[.t 5],none⟩,
 ⟨some 41,.op (.slice 1 false true false),[.t 39,.t 40],none⟩,
 ⟨some 4,.op (.mov),[.t 41],none⟩]
abbrev dkfC (gi:FuncId) (Z:List AV):IC:=(IC.seq (IC.reg dkfR0) (IC.seq (IC.reg (dkfR1 gi)) (IC.seq (IC.seq (IC.reg dkfR2) (IC.cond (.t 12) (IC.seq (IC.reg dkfR3) IC.ret) IC.skip)) (IC.seq (IC.seq (IC.reg dkfR4) (IC.block 0 (IC.loop dkfB))) (IC.seq (IC.reg (dkfR11 Z)) (IC.seq (IC.reg dkfR12) IC.ret))))))
section
variable {α:Type} [Inhabited α] {P:Program} {L:El1 α} {hp:HP} {id cap:Nat} {e:TypeId} {ex:Bool} {l rest:List α} {p:α→Bool} {g:FuncId} {caps:List AV}
theorem indexF1 (hm:P.follows .mixedOrders=true) {hint:Nat→Nat} {f:FuncId} (hf:compF P hint f=some ⟨ixfC,19,[.t 4]⟩) (h:hp[id]? = some (some (.row e (L.E.cs (l++rest))))) (hl:l.length≤4611686018427387904)
  (hask:∀ a,ACalls P g (L.v a :: caps) hp fun r H=>r=.bool (p a)∧H=hp):ACalls P f [.sl id 0 l.length 1 cap ex,.func g caps] hp fun r H=>r=.int .i64 (idx p l)∧H=hp:=by
 refine calls_e hm (qJ _) hf (by rfl) (by simp) ?_
 refine vcE.s1 (k:=vcE.then (fun e' tm H=>H=hp∧((e'=.normal∧idx p l = -1)∨(e'=.ret∧tm 4=.int .i64 (idx p l)))) ?_ ?_)
 ·refine vcE.s1 (k:=vcE.block (vcE.count (by intro l tm hp h; simp at h)
   (fun i tm H=>H=hp∧tm 0=.sl id 0 l.length 1 cap ex∧tm 1=.func g caps∧tm 7=.int .i64 l.length∧tm 8=.int .i64 i∧∀ j,j<i→∀ b,l[j]? = some b→p b=false) l.length ⟨rfl,rfl,rfl,rfl,rfl,by omega⟩ ?_ ?_))
  ·rintro i tm H hi ⟨rfl,e0,e1,e7,e8,hb⟩
   obtain⟨a,ha⟩:∃ a,l[i]? = some a:=⟨_,qg hi⟩
   have ha2:(l++rest)[i]? = some a:=by rw[qm hi]; exact ha
   have hia:iaddrA 1 (.sl id 0 l.length 1 cap ex) (.int .i64 i)=some (.ptr id i):=iaddr_sl1 hi
   have hld:=L.E.sl_load1 L.sz h ha2 (L.hv a) (L.one a)
   refine vcE.step (by simp (disch:=first|assumption|omega) only[go_sem,↓reduceIte,e7,e8]; rfl) (vcE.s1 (k:=vcE.seq (vcE.block (vcE.step (by simp (disch:=first|assumption|omega) only[go_sem,↓reduceIte,qa,e8]; rfl) ?_))))
   rw[show ixfR4=ixfR4.take 5++ixfR4.drop 5 from rfl]
   refine vcE.seq (vcE.app (vcE.ex (by simp (disch:=first|assumption|omega) only[go_sem,↓reduceIte,qa,reduceCtorEq,e0,e1,hia,↓hld]; rfl) ⟨rfl,vcE.call (f:=g) (caps:=caps) (ys:=[L.v a]) rfl (by simp only[evsE,evE,upd_app,qa,↓reduceIte]) (hask a) ?_⟩))
   rintro r H ⟨rfl,rfl⟩
   cases hpa:p a
   ·refine vcE.condFalse (by simp only[evE,putE,upd_app,↓reduceIte]) (vcE.ex (by simp only[exC]; rfl) ?_)
    refine vcE.ex (by simp (disch:=first|assumption|omega) only[go_sem,↓reduceIte,qa,e8]; rfl) ?_
    refine⟨rfl,?_,?_,?_,?_,fun j hj b hb'=>?_⟩
    ·simp only[upd_app,qa,↓reduceIte,e0]
    ·simp only[upd_app,qa,↓reduceIte,e1]
    ·simp only[upd_app,qa,↓reduceIte,e7]
    ·simp only[upd_app,↓reduceIte]; rfl
    ·by_cases hji':j=i
     ·subst hji'
      rw[ha] at hb'
      cases hb'
      exact hpa
     ·exact hb j (by omega) b hb'
   ·have hidx:idx p l=i:=idx_some ha hpa hb
    refine vcE.condTrue (by simp only[evE,putE,upd_app,↓reduceIte]) (vcE.ex (by simp (disch:=first|assumption|omega) only[go_sem,↓reduceIte,qa,putE]; rfl) ?_)
    exact⟨rfl,.inr ⟨rfl,by simp only[upd_app,↓reduceIte,hidx]⟩⟩
  ·rintro tm H ⟨rfl,e0,e1,e7,e8,hb⟩
   refine vcE.ex (by simp (disch:=first|assumption|omega) only[go_sem,↓reduceIte,e7,e8]; rfl) ?_
   exact⟨rfl,.inl ⟨rfl,idx_none hb⟩⟩
 ·rintro e' tm H ⟨rfl,⟨rfl,h1⟩|⟨rfl,h1⟩⟩
  ·refine vcE.e0 ?_
   exact⟨_,rfl,by simp only[upd_app,↓reduceIte,h1],rfl⟩
  ·exact⟨_,rfl,h1,rfl⟩
def DJ (L:El1 α) (e:TypeId) (id:Nat) (hp:HP) (R:List α) (H:HP):Prop:=(∀ j,j≠id→H[j]? = hp[j]?)∧H[id]? = some (some (.row e (L.E.cs R)))
theorem deleteF1 (hm:P.follows .mixedOrders=true) {hint hint':Nat→Nat} {f gi:FuncId} (z:α) (hf:compF P hint f=some ⟨dkfC gi (L.E.c z),42,[.t 4]⟩) (hfi:compF P hint' gi=some ⟨ixfC,19,[.t 4]⟩) (h:hp[id]? = some (some (.row e (L.E.cs (l++rest))))) (hl:l.length≤4611686018427387904) (hcap:l.length≤cap)
  (hask:∀ a H,(∀ j,j≠id→H[j]? = hp[j]?)→ACalls P g (L.v a :: caps) H fun r H'=>r=.bool (p a)∧H'=H):ACalls P f [.sl id 0 l.length 1 cap ex,.func g caps] hp fun r H=>r=.sl id 0 (l.filter fun a => !p a).length 1 cap ex∧∃ rest',(l.filter fun a => !p a).length+rest'.length=l.length+rest.length∧DJ L e id hp ((l.filter fun a => !p a)++rest') H:=by
 refine calls_e hm (qJ _) hf (by rfl) (by simp) ?_
 refine vcE.s0 ?_
 rw[show dkfR1 gi=(dkfR1 gi).take 2++(((dkfR1 gi).drop 2).take 1++(dkfR1 gi).drop 3) from rfl]
 refine vcE.seq (vcE.app (vcE.e1 (k:=⟨rfl,vcE.app (vcE.call (f:=gi) (caps:=[]) (ys:=[.sl id 0 l.length 1 cap ex,.func g caps]) rfl (by simp only[evsE,evE,upd_app,qa,↓reduceIte]) (indexF1 hm hfi h hl fun a=>hask a hp fun _ _=>rfl) ?_)⟩)))
 rintro r hp ⟨rfl,rfl⟩
 refine⟨rfl,vcE.e0 ?_⟩
 by_cases hneg:idx p l<0
 ·have hm1:idx p l = -1:=by unfold idx at hneg ⊢; split at hneg<;>omega
  have hfl:=idx_neg hneg
  refine vcE.ex (by simp (disch:=first|assumption|omega) only[go_sem,↓reduceIte,reduceCtorEq,hm1]; rfl) ?_
  refine⟨_,rfl,?_,rest,by rw[hfl],fun _ _=>rfl,by rw[hfl]; exact h⟩
  simp only[upd_app,↓reduceIte,hfl]
 ·obtain⟨i,hi⟩:∃ i:Nat,idx p l=i:=⟨(idx p l).toNat,by omega⟩
  rw[hi]
  obtain⟨hil,hr1,hk1⟩:=rowed_first hi
  refine vcE.s1 (k:=vcE.then (fun e' tm H=>e'=.normal∧DJ L e id hp (rowed p l l.length++rest) H∧tm 0=.sl id 0 l.length 1 cap ex∧tm 5=.int .i64 (kept p l l.length).length) ?_ ?_)
  ·refine vcE.s1 (k:=vcE.block (vcE.count (by intro l tm hp h; simp at h)
    (fun k tm H=>DJ L e id hp (rowed p l (i+1+k)++rest) H∧tm 0=.sl id 0 l.length 1 cap ex∧tm 1=.func g caps∧tm 5=.int .i64 (kept p l (i+1+k)).length∧tm 6=.int .i64 ((i+1+k:Nat):Int)) (l.length - (i+1)) ⟨⟨fun _ _=>rfl,?_⟩,rfl,rfl,?_,?_⟩ ?_ ?_))
   ·rw[xN,hr1]; exact h
   ·simp only[upd_app,qa,↓reduceIte,xN,hk1]
   ·simp only[upd_app,↓reduceIte,xN]; rfl
   ·rintro k tm H hk ⟨⟨hfr,hrk⟩,t0,t1,t5,t6⟩
    obtain⟨a,ha⟩:∃ a,l[i+1+k]? = some a:=⟨_,qg (by omega)⟩
    have hrl:=rowed_len p l (i+1+k)
    have ha2:(rowed p l (i+1+k)++rest)[i+1+k]? = some a:=by rw[qm (by omega)]; exact rowed_get ha
    have hia:iaddrA 1 (.sl id 0 l.length 1 cap ex) (.int .i64 ((i+1+k:Nat):Int))=some (.ptr id (i+1+k)):=iaddr_sl1 (by omega)
    have hld:=L.E.sl_load1 L.sz hrk ha2 (L.hv a) (L.one a)
    have hkl:=kept_le p l (i+1+k)
    refine vcE.step (by simp (disch:=first|assumption|omega) only[go_sem,↓reduceIte,qa,reduceCtorEq,t0,t6]; rfl) (vcE.seq (vcE.block (vcE.step (by simp (disch:=first|assumption|omega) only[go_sem,↓reduceIte,qa,reduceCtorEq,t0,t6,hia,↓hld]; rfl) ?_)))
    rw[show dkfR7=dkfR7.take 2++((dkfR7.drop 2).take 1++dkfR7.drop 3) from rfl]
    refine vcE.seq (vcE.app (vcE.ex (by simp (disch:=first|assumption|omega) only[go_sem,↓reduceIte,qa,t1]; rfl) ⟨rfl,vcE.app (vcE.call (f:=g) (caps:=caps) (ys:=[L.v a]) rfl (by simp only[evsE,evE,upd_app,qa,↓reduceIte]) (hask a H hfr) ?_)⟩))
    rintro r H ⟨rfl,rfl⟩
    refine⟨rfl,vcE.e0 ?_⟩
    cases hpa:p a
    ·refine vcE.condTrue (by simp only[evE,upd_app,↓reduceIte,Bool.not_false]) ?_
     have hia2:iaddrA 1 (.sl id 0 l.length 1 cap ex) (.int .i64 ((kept p l (i+1+k)).length:Int))=some (.ptr id (kept p l (i+1+k)).length):=iaddr_sl1 (by omega)
     have hst2:=L.E.sl_store1 L.sz hrk (i:=(kept p l (i+1+k)).length) (by rw[qo,hrl]; omega) (b:=a) (v:=L.v a) (L.ce a) (L.nt a)
     rw[List.set_append_left _ _ (by omega),rowed_keep ha hpa] at hst2
     refine vcE.ex (by simp (disch:=first|assumption|omega) only[go_sem,↓reduceIte,qa,reduceCtorEq,putE,t0,t5,↓hia2,↓hst2]; rfl) ?_
     refine vcE.ex (by simp (disch:=first|assumption|omega) only[go_sem,↓reduceIte,qa,t6]; rfl) ?_
     refine⟨⟨fun j hj=>?_,?_⟩,?_,?_,?_,?_⟩
     ·rw[qv (Ne.symm hj)]
      exact hfr j hj
     ·exact set_get hrk
     ·simp only[upd_app,qa,↓reduceIte,t0]
     ·simp only[upd_app,qa,↓reduceIte,t1]
     ·simp only[upd_app,qa,↓reduceIte,← xy,kept_step ha,hpa,qA,qo,qr,qx]
      rfl
     ·simp only[upd_app,↓reduceIte]; rfl
    ·refine vcE.condFalse (by simp only[evE,upd_app,↓reduceIte,Bool.not_true]) (vcE.ex (by simp only[exC]; rfl) ?_)
     refine vcE.ex (by simp (disch:=first|assumption|omega) only[go_sem,↓reduceIte,qa,putE,t6]; rfl) ?_
     refine⟨⟨hfr,?_⟩,?_,?_,?_,?_⟩
     ·rw[← xy,rowed_drop ha hpa]; exact hrk
     ·simp only[upd_app,qa,↓reduceIte,t0]
     ·simp only[upd_app,qa,↓reduceIte,t1]
     ·simp only[upd_app,qa,↓reduceIte,← xy,kept_step ha,hpa,qt,t5]
     ·simp only[upd_app,↓reduceIte]; rfl
   ·rintro tm H ⟨hj,t0,t1,t5,t6⟩
    rw[show i+1+(l.length - (i+1))=l.length by omega] at hj t5 t6
    refine vcE.ex (by simp (disch:=first|assumption|omega) only[go_sem,↓reduceIte,qa,reduceCtorEq,t0,t6]; rfl) ?_
    refine⟨rfl,hj,?_,?_⟩
    ·simp only[upd_app,qa,↓reduceIte,t0]
    ·simp only[upd_app,qa,↓reduceIte,t5]
  ·rintro e' tm H ⟨rfl,⟨hfr,hrl⟩,t0,t5⟩
   have hkl:=kept_le p l l.length
   have hrow2:=rowed_len p l l.length
   have s1:sliceA 1 (.sl id 0 l.length 1 cap ex) (some (.int .i64 ((kept p l l.length).length:Int))) none none=_:=slice_lo (by omega) hcap
   rw[qY,Nat.mul_one] at s1
   have s2:=L.E.sl_clear (z:=z) (ex:=ex) (m:=cap - (kept p l l.length).length) (i:=(kept p l l.length).length) (n:=l.length - (kept p l l.length).length) hrl (by rw[qo]; omega)
   rw[L.sz,Nat.mul_one] at s2
   have s3:sliceA 1 (.sl id 0 l.length 1 cap ex) none (some (.int .i64 ((kept p l l.length).length:Int))) none=_:=slice_hi (by omega)
   refine vcE.ex (by simp (disch:=first|assumption|omega) only[go_sem,↓reduceIte,qa,reduceCtorEq,t0,t5,↓s1,↓s2,↓s3]; rfl) ?_
   have hke:=kept_all p l
   refine⟨_,rfl,?_,(rowed p l l.length++rest).drop (l.filter fun a => !p a).length |>.drop (l.length - (l.filter fun a => !p a).length) |> (List.replicate (l.length - (l.filter fun a => !p a).length) z ++ ·),?_,fun j hj=>?_,?_⟩
   ·simp only[upd_app,↓reduceIte,hke]
   ·simp only[qo,List.length_replicate,xq,hrow2]
    rw[← hke]
    omega
   ·rw[qv (Ne.symm hj)]
    exact hfr j hj
   ·rw[set_get hrl,← hke,qV,List.drop_drop]
    congr 5
    rw[rowed,qV,List.take_left]
end
end
end Go.Gi
