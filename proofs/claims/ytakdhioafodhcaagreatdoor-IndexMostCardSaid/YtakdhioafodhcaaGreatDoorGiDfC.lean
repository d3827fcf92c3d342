/- Tables built: what the memory holds meanwhile. -/
/- Tables built: dfa.Build: the plain law, the table. -/
/- Tables built: dfa.Build: what it gives. -/
/- Tables built: dfa.Build: what it gives. -/
/- Tables built: dfa.Build: what it gives. -/
/- Tables in memory: dfa.through, Run, lightDfa: what they give. -/
import Derived.Test.YtakdhioafodhcaaGreatDoorGiFN
import Derived.Test.YtakdhioafodhcaaGreatDoorGiRM
set_option linter.unusedVariables false
set_option linter.unusedSimpArgs false
namespace Go.Gi
open _root_.Go.Proofs.Tryz renaming prog → qi
open _root_.Int renaming ofNat_lt → qT
open _root_.List renaming eq_nil_of_length_eq_zero → qq, getElem?_eq_some_iff → qf, getElem?_append_left → qm, getElem?_eq_getElem → qg, getElem?_cons_zero → ql, getElem?_cons_succ → qw, getElem?_set_self → xf, length_singleton → qP, length_replicate → xD, getElem?_set_ne → qv, mem_cons_of_mem → qI, mem_of_getElem? → xa, length_append → qo, mem_cons_self → qD, mem_singleton → qQ, take_add_one → xn, take_length → xl, length_map → qL, length_set → xU, mem_cons → xm
open _root_.Nat renaming reduceEqDiff → qa, reduceLeDiff → qu, reduceAdd → qs, le_trans → xM, le_refl → qk, mul_one → xC
open _root_.Go.Gi.Tab renaming addO_self → xe, addO_ne → qS
open _root_.Go.Gi.TabOk renaming none → qJ, addO → xp
section
set_option linter.unusedSectionVars false
variable [Mx]
open Go Go.Proofs
structure Pcs (hp:HP) (L:List (Nat × TypeId × List AV)):Prop where
 at_:∀ q ∈ L,q.2.2=[]∨(6≤q.1∧hp[q.1]? = some (some (.row q.2.1 q.2.2)))
 ne:L.Pairwise fun q r=>q.2.2=[]∨r.2.2=[]∨q.1≠r.1
theorem Pcs.perm {hp:HP} {L L':List (Nat × TypeId × List AV)} (h:Pcs hp L) (hl:L.Perm L'):Pcs hp L':=
 ⟨fun q hq=>h.at_ q (hl.mem_iff.2 hq),(hl.pairwise_iff (fun {a b} h=>h.elim (fun h=>.inr (.inl h)) fun h=>h.elim .inl fun h=>.inr (.inr (Ne.symm h)))).1 h.ne⟩
theorem Pcs.step {hp hp':HP} {q q':Nat × TypeId × List AV} {L:List (Nat × TypeId × List AV)} (h:Pcs hp (q :: L)) (hk:∀ k,6≤k→k<hp.length→(q.2.2=[]∨k≠q.1)→hp'[k]? = hp[k]?) (h6:6≤q'.1) (hq:hp'[q'.1]? = some (some (.row q'.2.1 q'.2.2))) (hn:hp.length≤q'.1∨q'.1=q.1∧q.2.2≠[]):Pcs hp' (q' :: L):=by
 have hne:=List.pairwise_cons.1 h.ne
 have hlt:∀ r ∈ L,r.2.2=[]∨(6≤r.1∧r.1<hp.length∧hp[r.1]? = some (some (.row r.2.1 r.2.2))∧(q.2.2=[]∨r.1≠q.1)):=by
  intro r hr
  rcases h.at_ r (qI _ hr) with h1|⟨h1,h2⟩
  ·exact .inl h1
  rcases hne.1 r hr with h3|h3|h3
  ·exact .inr ⟨h1,(qf.1 h2).1,h2,.inl h3⟩
  ·exact .inl h3
  ·exact .inr ⟨h1,(qf.1 h2).1,h2,.inr (Ne.symm h3)⟩
 refine⟨fun r hr=>?_,List.pairwise_cons.2 ⟨fun r hr=>?_,hne.2⟩⟩
 ·rcases xm.1 hr with rfl|hr
  ·exact .inr ⟨h6,hq⟩
  ·rcases hlt r hr with h1|⟨h1,h2,h3,h4⟩
   ·exact .inl h1
   ·exact .inr ⟨h1,by rw[hk r.1 h1 h2 h4]; exact h3⟩
 ·rcases hlt r hr with h1|⟨h1,h2,h3,h4⟩
  ·exact .inr (.inl h1)
  ·refine .inr (.inr ?_)
   rcases hn with hn|⟨hn,hn'⟩
   ·omega
   ·rw[hn]
    exact Ne.symm (h4.resolve_left hn')
theorem Pcs.keep {hp hp':HP} {L:List (Nat × TypeId × List AV)} (h:Pcs hp L) (hk:∀ k,6≤k→k<hp.length→hp'[k]? = hp[k]?):Pcs hp' L:=
 ⟨fun q hq=>(h.at_ q hq).imp (fun h=>h) fun ⟨h1,h2⟩=>⟨h1,by rw[hk q.1 h1 (qf.1 h2).1]; exact h2⟩,h.ne⟩
theorem Pcs.nil {hp:HP} {L:List (Nat × TypeId × List AV)} (h:Pcs hp L) (i:Nat) (e:TypeId):Pcs hp ((i,e,[]) :: L):=
 ⟨fun q hq=>by
  rcases xm.1 hq with rfl|hq
  ·exact .inl rfl
  ·exact h.at_ q hq,List.pairwise_cons.2 ⟨fun _ _=>.inl rfl,h.ne⟩⟩
theorem Met.keep {hp hp':HP} {a b mid rid:Nat} {rows:List (List Int)} (h:Met hp a b mid rid rows) (ka:hp'[a]? = hp[a]?) (kb:hp'[b]? = hp[b]?) (km:hp'[mid]? = hp[mid]?) (kr:rows=[]∨hp'[rid]? = hp[rid]?):Met hp' a b mid rid rows:=by
 obtain⟨ha,⟨bs,c,hm⟩,hb,hr,n1,n2,n3,n4,n5,n6⟩:=h
 refine⟨by rw[ka]; exact ha,⟨bs,c,by rw[km]; exact hm⟩,by rw[kb]; exact hb,?_,n1,n2,n3,n4,n5,n6⟩
 rcases kr with kr|kr
 ·exact .inl kr
 ·exact hr.imp (fun h=>h) fun h=>by rw[kr]; exact h
def finC (fin:List (Nat × List Int)):List AV:=fin.map fun q=>bld q.1 q.2.length 1
def finP (fin:List (Nat × List Int)):List (Nat × TypeId × List AV):=fin.map fun q=>(q.1,3,encI.cs q.2)
structure Bs (hp:HP) (rid:Nat) (rows:List (List Int)) (nxid acid nid:Nat) (fin:List (Nat × List Int)) (accs:List Bool) (next cls:List Int) (lo:Nat) (ex:Bool):Prop where
 met:Met hp 4 5 3 rid rows
 r0:hp[0]? = some (some (.row 90 [.nils,.nils,.nils]))
 r1:hp[1]? = some (some (.row 110 (encI.cs cls)))
 r2:hp[2]? = some (some (.row 90 [.sl 1 0 256 1 lo ex,bld nxid fin.length 1,bld acid accs.length 1]))
 pcs:Pcs hp ((nid,3,encI.cs next) :: (rid,28,encR.cs rows) :: (nxid,28,finC fin) :: (acid,4,encT.cs accs) :: finP fin)
 len:6≤hp.length
section
variable {hp:HP} {rid nxid acid nid lo:Nat} {rows:List (List Int)} {fin:List (Nat × List Int)} {accs:List Bool} {next cls:List Int} {ex:Bool}
theorem encI_nil {l:List Int} (h:encI.cs l=[]):l=[]:=by
 rw[encI_cs,List.map_eq_nil_iff] at h
 exact h
theorem encI_len (l:List Int):(encI.cs l).length=l.length:=by rw[encI_cs,qL]
theorem encR_len (l:List (List Int)):(encR.cs l).length=l.length:=by
 have:=encR.cs_len l
 rw[this]
 exact xC _
theorem encT_len (l:List Bool):(encT.cs l).length=l.length:=by
 have:=encT.cs_len l
 rw[this]
 exact xC _
theorem Bs.app (h:Bs hp rid rows nxid acid nid fin accs next cls lo ex) (v:Int) (hl:next.length≤1000000):∃ hp',appA 3 1 8 (hp++[some (.row 3 [.int .i64 v])]) (bld nid next.length 1) (.sl hp.length 0 1 1 1 true)=some (bld (hp.length+1) (next++[v]).length 1,hp')∧Bs hp' rid rows nxid acid (hp.length+1) fin accs (next++[v]) cls lo ex:=by
 obtain⟨met,r0,r1,r2,pcs,len⟩:=h
 have h1:=pcs.at_ _ (qD ..)
 simp only at h1
 have hk1:∀ k,k<hp.length→(hp++[some (Blk.row 3 [.int .i64 v])])[k]? = hp[k]?:=fun k hk=>qm hk
 obtain⟨hp',ha,hn,ho,hl'⟩:=app_raw (hp:=hp++[some (Blk.row 3 [.int .i64 v])]) (id:=nid) (e:=3) (cs:=encI.cs next) (ms:=[.int .i64 v]) (bytes:=8) (x:=.sl hp.length 0 1 1 1 true) (h1.imp (fun h=>h) fun h=>by rw[hk1 _ (qf.1 h.2).1]; exact h.2) src_cell (by simp) (by rw[encI_len]; simp; omega) (by rw[encI_len]; simp; omega)
 rw[show encI.cs next++[.int .i64 v]=encI.cs (next++[v]) by rw[encI_cs,encI_cs,List.map_append]; rfl] at ha hn
 rw[encI_len,encI_len,qo,qP] at ha
 rw[qo,qP] at hn hl' ho
 have hkp:∀ k,k<hp.length→(encI.cs next=[]∨k≠nid)→hp'[k]? = hp[k]?:=fun k hk hne=>by rw[ho k (by omega) hne,hk1 k hk]
 have low:∀ k,k<6→hp'[k]? = hp[k]?:=by
  intro k hk
  refine hkp k (by omega) ?_
  rcases h1 with h1|h1
  ·exact .inl h1
  ·exact .inr (by omega)
 refine⟨hp',by rw[ha],⟨met.keep (low 4 (by omega)) (low 5 (by omega)) (low 3 (by omega)) ?_,by rw[low 0 (by omega)]; exact r0,by rw[low 1 (by omega)]; exact r1,by rw[low 2 (by omega)]; exact r2,?_,by omega⟩⟩
 ·by_cases hz:rows=[]
  ·exact .inl hz
  ·have hr:=met.hr.resolve_left hz
   right
   refine hkp rid (qf.1 hr).1 ?_
   rcases (List.pairwise_cons.1 pcs.ne).1 _ (qD ..) with h|h|h
   ·exact .inl h
   ·exact absurd (qq (by rw[← encR_len]; simp only at h; rw[h]; rfl)) hz
   ·exact .inr (Ne.symm h)
 ·refine pcs.step (fun k h6 hk hne=>hkp k hk hne) (by simp; omega) (by simp only; exact hn) (.inl (by simp))
theorem Bs.rows_at (h:Bs hp rid rows nxid acid nid fin accs next cls lo ex) (hz:rows≠[]):6≤rid∧hp[rid]? = some (some (.row 28 (encR.cs rows))):=by
 refine (h.pcs.at_ _ (qI _ (qD ..))).resolve_left ?_
 intro e
 exact hz (qq (by rw[← encR_len]; simp only at e; rw[e]; rfl))
theorem Bs.num (h:Bs hp rid rows nxid acid nid fin accs next cls lo ex) {hp':HP} {rid':Nat} {rows':List (List Int)} (hz:rows'≠[]) (hm:Met hp' 4 5 3 rid' rows') (hr:rid'=rid∧rows≠[]∨hp.length≤rid') (ho:∀ k,k<hp.length→k≠4→k≠5→k≠3→k≠rid→hp'[k]? = hp[k]?) (hl:hp.length≤hp'.length) (h6:rows=[]→rid=6∧hp.length=6):Bs hp' rid' rows' nxid acid nid fin accs next cls lo ex:=by
 have hrr:=fun hz=>h.rows_at hz
 obtain⟨met,r0,r1,r2,pcs,len⟩:=h
 have hrid:6≤rid:=by
  by_cases e:rows=[]
  ·have:=(h6 e).1
   omega
  ·exact (hrr e).1
 have h2:Pcs hp ((rid,28,encR.cs rows) :: (nid,3,encI.cs next) :: (nxid,28,finC fin) :: (acid,4,encT.cs accs) :: finP fin):=pcs.perm (List.Perm.swap _ _ _)
 have h3:Pcs hp' ((rid',28,encR.cs rows') :: (nid,3,encI.cs next) :: (nxid,28,finC fin) :: (acid,4,encT.cs accs) :: finP fin):=by
  refine h2.step ?_ ?_ ?_ ?_
  ·intro k k6 hk hne
   by_cases e:rows=[]
   ·have:=(h6 e).2
    omega
   ·refine ho k hk (by omega) (by omega) (by omega) ?_
    refine hne.resolve_left ?_
    intro e2
    exact e (qq (by rw[← encR_len]; simp only at e2; rw[e2]; rfl))
  ·simp only
   rcases hr with hr|hr<;>omega
  ·exact hm.hr.resolve_left hz
  ·rcases hr with ⟨hr,hr2⟩|hr
   ·refine .inr ⟨hr,?_⟩
    intro e2
    exact hr2 (qq (by rw[← encR_len]; simp only at e2; rw[e2]; rfl))
   ·exact .inl hr
 exact⟨hm,by rw[ho 0 (by omega) (by omega) (by omega) (by omega) (by omega)]; exact r0,by rw[ho 1 (by omega) (by omega) (by omega) (by omega) (by omega)]; exact r1,by rw[ho 2 (by omega) (by omega) (by omega) (by omega) (by omega)]; exact r2,h3.perm (List.Perm.swap _ _ _),by omega⟩
theorem bld_store {hp:HP} {k off:Nat} {e:TypeId} {cs:List AV} {id n:Nat} (h:hp[k]? = some (some (.row e cs))) (ho:off<cs.length):storeA hp 1 (.ptr k off) (bld id n 1)=some (hp.set k (some (.row e (cs.set off (bld id n 1))))):=by
 have hc:=bld_cells id n 1
 have hnt:=bld_notTup id n 1
 have hov:over cs off [bld id n 1]=cs.set off (bld id n 1):=by
  rw[over,qP,List.set_eq_take_append_cons_drop,if_pos ho,List.append_assoc]
  rfl
 generalize bld id n 1=w at *
 cases w<;>first|exact absurd rfl (hnt _)|(simp only[storeA,h,hc,qP]; rw[if_pos ⟨trivial,by omega⟩,hov])
theorem finC_len (fin:List (Nat × List Int)):(finC fin).length=fin.length:=by simp[finC]
theorem Bs.more (h:Bs hp rid rows nxid acid nid fin accs next cls lo ex) (hz:rows≠[]) (hl:fin.length≤1000000):∃ hp' hp'',appA 28 1 24 (hp++[some (.row 28 [bld nid next.length 1])]) (bld nxid fin.length 1) (.sl hp.length 0 1 1 1 true)=some (bld (hp.length+1) (fin.length+1) 1,hp')∧hp'[2]? = hp[2]?∧storeA hp' 1 (.ptr 2 1) (bld (hp.length+1) (fin.length+1) 1)=some hp''∧Bs hp'' rid rows (hp.length+1) acid 0 (fin++[(nid,next)]) accs [] cls lo ex:=by
 have hra:=h.rows_at hz
 obtain⟨met,r0,r1,r2,pcs,len⟩:=h
 have p2:Pcs hp ((nxid,28,finC fin) :: (nid,3,encI.cs next) :: (rid,28,encR.cs rows) :: (acid,4,encT.cs accs) :: finP fin):=pcs.perm ((List.Perm.cons _ (List.Perm.swap _ _ _)).trans (List.Perm.swap _ _ _))
 have h1:=p2.at_ _ (qD ..)
 simp only at h1
 have hk1:∀ k,k<hp.length→(hp++[some (Blk.row 28 [bld nid next.length 1])])[k]? = hp[k]?:=fun k hk=>qm hk
 obtain⟨hp',ha,hn,ho,hl'⟩:=app_raw (hp:=hp++[some (Blk.row 28 [bld nid next.length 1])]) (id:=nxid) (e:=28) (cs:=finC fin) (ms:=[bld nid next.length 1]) (bytes:=24) (x:=.sl hp.length 0 1 1 1 true) (h1.imp (fun h=>h) fun h=>by rw[hk1 _ (qf.1 h.2).1]; exact h.2) src_cell (by simp) (by rw[finC_len]; simp; omega) (by rw[finC_len]; simp; omega)
 rw[show finC fin++[bld nid next.length 1]=finC (fin++[(nid,next)]) by simp[finC]] at ha hn
 rw[finC_len,finC_len,qo,qP] at ha
 rw[qo,qP] at hn hl' ho
 have hkp:∀ k,k<hp.length→(finC fin=[]∨k≠nxid)→hp'[k]? = hp[k]?:=fun k hk hne=>by rw[ho k (by omega) hne,hk1 k hk]
 have low:∀ k,k<6→hp'[k]? = hp[k]?:=by
  intro k hk
  refine hkp k (by omega) ?_
  rcases h1 with h1|h1
  ·exact .inl h1
  ·exact .inr (by omega)
 have hp2:=low 2 (by omega)
 have hst:=bld_store (id:=hp.length+1) (n:=fin.length+1) (off:=1) (hp2.trans r2) (by simp)
 have p3:Pcs hp' ((hp.length+1,28,finC (fin++[(nid,next)])) :: (nid,3,encI.cs next) :: (rid,28,encR.cs rows) :: (acid,4,encT.cs accs) :: finP fin):=p2.step (fun k h6 hk hne=>hkp k hk hne) (by simp only; omega) (by simp only; exact hn) (.inl (by simp only; omega))
 have hrp:hp'[rid]? = hp[rid]?:=by
  refine hkp rid (qf.1 hra.2).1 ?_
  rcases (List.pairwise_cons.1 p2.ne).1 _ (qI _ (qD ..)) with h|h|h
  ·exact .inl h
  ·exact absurd (qq (by rw[← encR_len]; simp only at h; rw[h]; rfl)) hz
  ·exact .inr (Ne.symm h)
 refine⟨hp',_,by rw[ha]; simp only[qo,qP],hp2,hst,?_⟩
 have ks:∀ k,k≠2→(hp'.set 2 (some (Blk.row 90 (([AV.sl 1 0 256 1 lo ex,bld nxid fin.length 1,bld acid accs.length 1]:List AV).set 1 (bld (hp.length+1) (fin.length+1) 1)))))[k]? = hp'[k]?:=fun k hk=>qv (Ne.symm hk)
 refine⟨met.keep ?_ ?_ ?_ (.inr ?_),?_,?_,?_,?_,?_⟩
 ·rw[ks 4 (by omega),low 4 (by omega)]
 ·rw[ks 5 (by omega),low 5 (by omega)]
 ·rw[ks 3 (by omega),low 3 (by omega)]
 ·rw[ks rid (by omega),hrp]
 ·rw[ks 0 (by omega),low 0 (by omega)]
  exact r0
 ·rw[ks 1 (by omega),low 1 (by omega)]
  exact r1
 ·rw[xf (by omega)]
  simp only[qo,qP]
  rfl
 ·have p4:Pcs _ _:=p3.keep (hp':=hp'.set 2 (some (Blk.row 90 (([AV.sl 1 0 256 1 lo ex,bld nxid fin.length 1,bld acid accs.length 1]:List AV).set 1 (bld (hp.length+1) (fin.length+1) 1))))) (fun k h6 hk=>ks k (by omega))
  refine Pcs.nil ?_ 0 3
  refine p4.perm ?_
  rw[show finP (fin++[(nid,next)])=finP fin++[(nid,3,encI.cs next)] by simp[finP]]
  refine (List.Perm.cons _ (List.Perm.trans (List.Perm.swap _ _ _) (List.Perm.cons _ ((List.Perm.swap _ _ _).trans (List.Perm.cons _ (List.perm_append_singleton _ _).symm))))).trans (List.Perm.swap _ _ _)
 ·rw[xU]
  omega
theorem Bs.acc (h:Bs hp rid rows nxid acid nid fin accs next cls lo ex) (hz:rows≠[]) (hl:accs.length≤1000000) (b:Bool):∃ hp' hp'',appA 4 1 1 (hp++[some (.row 4 [.bool b])]) (bld acid accs.length 1) (.sl hp.length 0 1 1 1 true)=some (bld (hp.length+1) (accs.length+1) 1,hp')∧hp'[2]? = hp[2]?∧storeA hp' 1 (.ptr 2 2) (bld (hp.length+1) (accs.length+1) 1)=some hp''∧Bs hp'' rid rows nxid (hp.length+1) nid fin (accs++[b]) next cls lo ex:=by
 have hra:=h.rows_at hz
 obtain⟨met,r0,r1,r2,pcs,len⟩:=h
 have pp:((nid,3,encI.cs next) :: (rid,28,encR.cs rows) :: (nxid,28,finC fin) :: (acid,4,encT.cs accs) :: finP fin:List (Nat × TypeId × List AV)).Perm ((acid,4,encT.cs accs) :: (nid,3,encI.cs next) :: (rid,28,encR.cs rows) :: (nxid,28,finC fin) :: finP fin):=((List.Perm.cons _ (List.Perm.cons _ (List.Perm.swap _ _ _))).trans (List.Perm.cons _ (List.Perm.swap _ _ _))).trans (List.Perm.swap _ _ _)
 have p2:=pcs.perm pp
 have h1:=p2.at_ _ (qD ..)
 simp only at h1
 have hk1:∀ k,k<hp.length→(hp++[some (Blk.row 4 [.bool b])])[k]? = hp[k]?:=fun k hk=>qm hk
 obtain⟨hp',ha,hn,ho,hl'⟩:=app_raw (hp:=hp++[some (Blk.row 4 [.bool b])]) (id:=acid) (e:=4) (cs:=encT.cs accs) (ms:=[.bool b]) (bytes:=1) (x:=.sl hp.length 0 1 1 1 true) (h1.imp (fun h=>h) fun h=>by rw[hk1 _ (qf.1 h.2).1]; exact h.2) src_cell (by simp) (by rw[encT_len]; simp; omega) (by rw[encT_len]; simp; omega)
 rw[show encT.cs accs++[.bool b]=encT.cs (accs++[b]) by rw[encT.cs_app]; rfl] at ha hn
 rw[encT_len,encT_len,qo,qP] at ha
 rw[qo,qP] at hn hl' ho
 have hkp:∀ k,k<hp.length→(encT.cs accs=[]∨k≠acid)→hp'[k]? = hp[k]?:=fun k hk hne=>by rw[ho k (by omega) hne,hk1 k hk]
 have low:∀ k,k<6→hp'[k]? = hp[k]?:=by
  intro k hk
  refine hkp k (by omega) ?_
  rcases h1 with h1|h1
  ·exact .inl h1
  ·exact .inr (by omega)
 have hp2:=low 2 (by omega)
 have hst:=bld_store (id:=hp.length+1) (n:=accs.length+1) (off:=2) (hp2.trans r2) (by simp)
 have p3:Pcs hp' ((hp.length+1,4,encT.cs (accs++[b])) :: (nid,3,encI.cs next) :: (rid,28,encR.cs rows) :: (nxid,28,finC fin) :: finP fin):=p2.step (fun k h6 hk hne=>hkp k hk hne) (by simp only; omega) (by simp only; exact hn) (.inl (by simp only; omega))
 have hrp:hp'[rid]? = hp[rid]?:=by
  refine hkp rid (qf.1 hra.2).1 ?_
  rcases (List.pairwise_cons.1 p2.ne).1 _ (qI _ (qD ..)) with h|h|h
  ·exact .inl h
  ·exact absurd (qq (by rw[← encR_len]; simp only at h; rw[h]; rfl)) hz
  ·exact .inr (Ne.symm h)
 refine⟨hp',_,by rw[ha]; simp only[qo,qP],hp2,hst,?_⟩
 have ks:∀ k,k≠2→(hp'.set 2 (some (Blk.row 90 (([AV.sl 1 0 256 1 lo ex,bld nxid fin.length 1,bld acid accs.length 1]:List AV).set 2 (bld (hp.length+1) (accs.length+1) 1)))))[k]? = hp'[k]?:=fun k hk=>qv (Ne.symm hk)
 refine⟨met.keep ?_ ?_ ?_ (.inr ?_),?_,?_,?_,?_,?_⟩
 ·rw[ks 4 (by omega),low 4 (by omega)]
 ·rw[ks 5 (by omega),low 5 (by omega)]
 ·rw[ks 3 (by omega),low 3 (by omega)]
 ·rw[ks rid (by omega),hrp]
 ·rw[ks 0 (by omega),low 0 (by omega)]
  exact r0
 ·rw[ks 1 (by omega),low 1 (by omega)]
  exact r1
 ·rw[xf (by omega)]
  simp only[qo,qP]
  rfl
 ·have p4:Pcs _ _:=p3.keep (hp':=hp'.set 2 (some (Blk.row 90 (([AV.sl 1 0 256 1 lo ex,bld nxid fin.length 1,bld acid accs.length 1]:List AV).set 2 (bld (hp.length+1) (accs.length+1) 1))))) (fun k h6 hk=>ks k (by omega))
  exact p4.perm ((List.Perm.swap _ _ _).trans ((List.Perm.cons _ (List.Perm.swap _ _ _)).trans (List.Perm.cons _ (List.Perm.cons _ (List.Perm.swap _ _ _)))))
 ·rw[xU]
  omega
theorem finC_frz {hp':HP}:∀ (fin:List (Nat × List Int)),(∀ q ∈ fin,q.2=[]∨hp'[q.1]? = some (some (.row 3 (encI.cs q.2))))→FrzNs hp' (finC fin) (encR.cs (fin.map (·.2)))
 | [],_=>FrzNs.nil
 | q :: fin,hat=>by
  have hb:BldAt encI hp' q.1 3 q.2:=hat q (qD ..)
  exact FrzNs.cons (fresh_ok hb.fresh) (finC_frz fin fun q hq=>hat q (qI _ hq))
theorem Bs.frz (h:Bs hp rid rows nxid acid nid fin accs next cls lo ex) (hc:cls.length=256) {hp':HP} (hk:∀ k,1≤k→hp'[k]? = hp[k]?):FrzN hp' (.tup [.agg [.sl 1 0 256 1 lo ex,bld nxid fin.length 1,bld acid accs.length 1],.bool true]) (.tup [.agg (Dfa.c ⟨cls,fin.map (·.2),accs⟩),.bool true]):=by
 obtain⟨met,r0,r1,r2,pcs,len⟩:=h
 refine FrzN.tup (FrzNL.cons (FrzN.agg (FrzNL.cons ?_ (FrzNL.cons ?_ (FrzNL.cons ?_ (FrzNL.nil _))))) (FrzNL.cons (FrzN.bool _ _) (FrzNL.nil _)))
 ·refine fresh_ok ?_
  have:=encI.sl_fresh (lo:=lo) (ex:=ex) (hp:=hp') (id:=1) (e:=110) (l:=cls) (by rw[hk 1 (qk _)]; exact r1)
  rw[hc] at this
  exact this
 ·have h1:=pcs.at_ (nxid,28,finC fin) (by simp)
  simp only at h1
  rw[bld]
  split
  ·rename_i h0
   have:fin=[]:=qq h0
   subst this
   exact fresh_ok rfl
  ·rename_i h0
   have h1:=h1.resolve_left (fun e=>h0 (by rw[← finC_len,e]; rfl))
   have hfs:FrzNs hp' (finC fin) (encR.cs (fin.map (·.2))):=by
    have hat:∀ q ∈ fin,q.2=[]∨hp'[q.1]? = some (some (.row 3 (encI.cs q.2))):=by
     intro q hq
     rcases pcs.at_ (q.1,3,encI.cs q.2) (by simp only[xm]; exact .inr (.inr (.inr (.inr (List.mem_map.2 ⟨q,hq,rfl⟩))))) with h|⟨h,h'⟩
     ·exact .inl (encI_nil h)
     ·exact .inr (by rw[hk q.1 (by simp only at h; omega)]; exact h')
    exact finC_frz fin hat
   have:=FrzN.sl (lo:=fin.length) (ex:=false) (len:=fin.length) (hk nxid (by omega) ▸ h1.2) (finC_len fin) hfs
   simpa only[Enc.S,qL] using this
 ·have h1:=pcs.at_ (acid,4,encT.cs accs) (by simp)
  simp only at h1
  have hb:BldAt encT hp' acid 4 accs:=by
   rcases h1 with h1|⟨h1,h2⟩
   ·exact .inl (qq (by rw[← encT_len,h1]; rfl))
   ·exact .inr (by rw[hk acid (by omega)]; exact h2)
  exact fresh_ok hb.fresh
end
end
section
set_option linter.unusedSectionVars false
variable [Mx]
open Go Go.Proofs
def stepI (x:Option (List UInt8 × Bool)) (row:List Int) (c:Int):List Int:=lst (nN x) (stepV x (ofS row) (UInt8.ofNat (c % 256).toNat))
def startI (x:Option (List UInt8 × Bool)):List Int:=lst (nN x) (startV x)
def accI (x:Option (List UInt8 × Bool)) (row:List Int):Bool:=accV x (ofS row)
theorem lstLen (N:Nat) (b:Nat→Bool):(lst N b).length≤N:=by
 have:=listTo_len (rowB N b) (rowB N b).length
 rw[rowB_len] at this
 rw[lst,listB,rowB_len]
 exact this
def nxF (st:List Int→Int→List Int) (row:List Int) (s:List Int × List (List Int)) (c:Int):List Int × List (List Int):=
 if c<0 then (s.1++[0],s.2) else (s.1++[((numF s.2 (st row c)).1:Int)],(numF s.2 (st row c)).2)
def nextF (st:List Int→Int→List Int) (some_:List Int) (rows:List (List Int)) (row:List Int):List Int × List (List Int):=some_.foldl (nxF st row) ([],rows)
def bldF (st:List Int→Int→List Int) (ac:List Int→Bool) (some_:List Int) (most:Nat):Nat→Nat→List (List Int)→List (List Int)→List Bool→Option (List (List Int) × List Bool)
 | 0,_,_,_,_=>none
 | k+1,i,rows,nx,acs =>
  match rows[i]? with
  | none=>some (nx,acs)
  | some row=>if rows.length > most then none else bldF st ac some_ most k (i+1) (nextF st some_ rows row).2 (nx++[(nextF st some_ rows row).1]) (acs++[ac row])
def buildR (p:List UInt8) (f:Bool) (most:Nat):Option (List (List Int) × List Bool):=bldF (stepI (newV p f)) (accI (newV p f)) (someL (patP (newV p f)) f) most (most+1) 0 [startI (newV p f)] [] []
def noDfa:Dfa:=⟨[],[],[]⟩
def buildF (p:List UInt8) (f:Bool) (most:Int):Dfa × Bool:=
 if checkG p≠0∨most<1∨256<most then (noDfa,false) else
 match buildR p f most.toNat with
 | some (nx,ac)=>(⟨clsL (patP (newV p f)) f,nx,ac⟩,true)
 | none=>(noDfa,false)
theorem numF_len (rows:List (List Int)) (l:List Int):(numF rows l).2.length≤rows.length+1∧rows.length≤(numF rows l).2.length:=by
 unfold numF
 split
 ·exact⟨Nat.le_succ _,qk _⟩
 ·rw[qo,qP]
  omega
theorem numF_ne (rows:List (List Int)) (l:List Int):(numF rows l).2≠[]:=by
 unfold numF
 split
 ·rename_i j h
  intro e
  simp only at e
  rw[e] at h
  cases h
 ·simp
theorem numF_all {rows:List (List Int)} {l:List Int} {B:Nat} (h:∀ r ∈ rows,r.length≤B) (hl:l.length≤B):∀ r ∈ (numF rows l).2,r.length≤B:=by
 unfold numF
 split
 ·exact h
 ·intro r hr
  rcases List.mem_append.1 hr with h1|h1
  ·exact h r h1
  ·rw[qQ] at h1
   rw[h1]
   exact hl
def M0:Tab:=(((((Tab.none.addO 47 (.cons .str (.cons .bool .nil)) fun p=>if p.1.length≤300 then some (.rd true (.tup [nV (newV p.1 p.2.1),.int .i64 (checkG p.1)])) else none).addR 58 (.cons .nfa .nil) fun p=>.rd true (.tup [.str (patP p.1),.bool (patF p.1)])).addO 59 (.cons .str (.cons .bool .nil)) fun p=>if p.1.length≤1000 then some (.rd true (.tup [.agg (encI.cs (clsL p.1 p.2.1)),encI.S (someL p.1 p.2.1)])) else none).addO 62 (.cons .nfa .nil) fun p=>if okW p.1 then some (.rd true (encI.S (startI p.1))) else none).addO 63 (.cons .nfa (.cons (.S encI) (.cons .byte .nil))) fun p=>if okW p.1∧p.2.1.length≤1000000 then some (.rd true (encI.S (lst (nN p.1) (stepV p.1 (ofS p.2.1) p.2.2.1)))) else none).addO 64 (.cons .nfa (.cons (.S encI) .nil)) fun p=>if okW p.1∧p.2.1.length≤1000000 then some (.rd true (.bool (accI p.1 p.2.1))) else none
theorem M0_ok:TabOk qi M0:=by
 refine xp (xp (xp (xp (TabOk.addR (xp (qJ _) ?_) ?_) ?_) ?_) ?_) ?_
 ·intro p r h
  split at h
  ·rename_i hv; cases h; exact pNew p.1 p.2.1 hv
  ·cases h
 ·exact fun p=>pPatternV p.1
 ·intro p r h
  split at h
  ·rename_i hv; cases h; exact pClasses p.1 p.2.1 hv
  ·cases h
 ·intro p r h
  split at h
  ·rename_i hv; cases h; exact pStartM p.1 hv
  ·cases h
 ·intro p r h
  split at h
  ·rename_i hv; cases h; exact pStepM p.1 hv.1 p.2.1 hv.2 p.2.2.1
  ·cases h
 ·intro p r h
  split at h
  ·rename_i hv; cases h; exact pAccepts p.1 hv.1 p.2.1 hv.2
  ·cases h
theorem M0_acc {x:Option (List UInt8 × Bool)} (h:okW x) {l:List Int} (hl:l.length≤1000000):M0 64 [nV x,encI.S l]=some (.rd true (.bool (accI x l))):=
 (xe _ _ (.cons .nfa (.cons (.S encI) .nil)) _ (x,l,())).trans (if_pos ⟨h,hl⟩)
theorem M0_step {x:Option (List UInt8 × Bool)} (h:okW x) {l:List Int} (hl:l.length≤1000000) (c:UInt8):M0 63 [nV x,encI.S l,.int .u8 c.toNat]=some (.rd true (encI.S (lst (nN x) (stepV x (ofS l) c)))):=
 (qS _ _ _ _ rfl _).trans ((xe _ _ (.cons .nfa (.cons (.S encI) (.cons .byte .nil))) _ (x,l,c,())).trans (if_pos ⟨h,hl⟩))
theorem M0_start {x:Option (List UInt8 × Bool)} (h:okW x):M0 62 [nV x]=some (.rd true (encI.S (startI x))):=
 (qS _ _ _ _ rfl _).trans ((qS _ _ _ _ rfl _).trans ((xe _ _ (.cons .nfa .nil) _ (x,())).trans (if_pos h)))
theorem M0_cls {p:List UInt8} (f:Bool) (h:p.length≤1000):M0 59 [.str p,.bool f]=some (.rd true (.tup [.agg (encI.cs (clsL p f)),encI.S (someL p f)])):=
 (qS _ _ _ _ rfl _).trans ((qS _ _ _ _ rfl _).trans ((qS _ _ _ _ rfl _).trans ((xe _ _ (.cons .str (.cons .bool .nil)) _ (p,f,())).trans (if_pos h))))
theorem M0_pat (x:Option (List UInt8 × Bool)):M0 58 [nV x]=some (.rd true (.tup [.str (patP x),.bool (patF x)])):=
 (qS _ _ _ _ rfl _).trans ((qS _ _ _ _ rfl _).trans ((qS _ _ _ _ rfl _).trans ((qS _ _ _ _ rfl _).trans (Tab.addR_self _ _ (.cons .nfa .nil) _ (x,())))))
theorem M0_new (p:List UInt8) (f:Bool) (h:p.length≤300):M0 47 [.str p,.bool f]=some (.rd true (.tup [nV (newV p f),.int .i64 (checkG p)])):=
 (qS _ _ _ _ rfl _).trans ((qS _ _ _ _ rfl _).trans ((qS _ _ _ _ rfl _).trans ((qS _ _ _ _ rfl _).trans ((Tab.addR_ne _ _ _ _ rfl _).trans ((xe _ _ (.cons .str (.cons .bool .nil)) _ (p,f,())).trans (if_pos h))))))
end
section
set_option linter.unusedSectionVars false
variable [Mx]
open Go Go.Proofs
theorem someL_len (p:List UInt8) (f:Bool):(someL p f).length≤p.length+1:=by
 rw[someL,List.length_cons,qL]
 have:=keysB_len p f
 omega
theorem numF_get {rows:List (List Int)} {l r:List Int} {i:Nat} (h:rows[i]? = some r):(numF rows l).2[i]? = some r:=by
 unfold numF
 split
 ·exact h
 ·rw[qm (qf.1 h).1]
  exact h
section
variable {x:Option (List UInt8 × Bool)} {rid nxid acid nid lo:Nat} {rows:List (List Int)} {fin:List (Nat × List Int)} {accs:List Bool} {next cls sm:List Int} {ex:Bool} {most:Int}
structure Rv (x:Option (List UInt8 × Bool)) (most:Int) (sm:List Int) (i:Nat) (tm:Env):Prop where
 t2:tm 2=.int .i64 most
 t6:tm 6=.ptr 0 0
 t8:tm 8=nV x
 t13:tm 13=encI.S sm
 t14:tm 14=.ptr 2 0
 t16:tm 16=.ptr 5 0
 t17:tm 17=.func 60 [.ptr 4 0,.ptr 5 0]
 t18:tm 18=.int .i64 (i:Int)
theorem row_addr {i:Nat} (hi:i<rows.length):iaddrA 1 (bld rid rows.length 1) (.int .i64 (i:Int))=some (.ptr rid i):=by
 rw[bld_pos (by omega)]
 exact iaddr_sl1 hi
theorem bld_inner (hx:okW x) {hp:HP} {tm:Env} {i:Nat} {row:List Int} (hrow:rows[i]? = some row) (hrl:∀ r ∈ rows,r.length≤1000000) (hn:rows.length+sm.length≤10000) (hb:Bs hp rid rows nxid acid 0 fin accs [] cls lo ex) (hv:Rv x most sm i tm) (t19:tm 19=.nils) :
  vcE qi (hintL [(25,7)]) M0 112 (IC.seq (IC.reg r48_16) (IC.block 2 (IC.loop b48_0))) tm hp fun e' tm' hp'=>e'=.normal∧∃ rid' nid',Bs hp' rid' (nextF (stepI x) sm rows row).2 nxid acid nid' fin accs (nextF (stepI x) sm rows row).1 cls lo ex∧Rv x most sm i tm'∧tm' 19=bld nid' (nextF (stepI x) sm rows row).1.length 1∧(nextF (stepI x) sm rows row).2[i]? = some row∧(∀ r ∈ (nextF (stepI x) sm rows row).2,r.length≤1000000)∧rows.length≤(nextF (stepI x) sm rows row).2.length∧(nextF (stepI x) sm rows row).2.length≤rows.length+sm.length:=by
 obtain⟨t2,t6,t8,t13,t14,t16,t17,t18⟩:=hv
 have hz:rows≠[]:=by
  intro e
  rw[e] at hrow
  simp at hrow
 refine vcE.step (by simp (disch:=first|assumption|omega) only[go_sem,↓reduceIte,t13]; rfl) (vcE.block (vcE.loop (by intro l tm hp h; simp at h) (fun k tm' hp' => ∃ (j rid' nid':Nat) (s:List Int × List (List Int)),k=sm.length - j∧j≤sm.length∧s=(sm.take j).foldl (nxF (stepI x) row) ([],rows)∧Bs hp' rid' s.2 nxid acid nid' fin accs s.1 cls lo ex∧s.2[i]? = some row∧(∀ r ∈ s.2,r.length≤1000000)∧rows.length≤s.2.length∧s.2.length≤rows.length+j∧s.1.length≤j∧Rv x most sm i tm'∧tm' 19=bld nid' s.1.length 1∧tm' 69=encI.S sm∧tm' 70=.int .i64 (sm.length:Int)∧tm' 71=.int .i64 (j:Int)) sm.length ⟨0,rid,0,([],rows),rfl,Nat.zero_le _,rfl,hb,hrow,hrl,qk _,qk _,qk _,⟨?_,?_,?_,?_,?_,?_,?_,?_⟩,?_,?_,?_,?_⟩ ?_))
 ·first|(simp only[upd_app,qa,↓reduceIte,t2]; done)|(simp only[upd_app,qa,↓reduceIte,t2,t6,t8,t13,t14,t16,t17,t18,t19]; rfl)
 ·first|(simp only[upd_app,qa,↓reduceIte,t6]; done)|(simp only[upd_app,qa,↓reduceIte,t2,t6,t8,t13,t14,t16,t17,t18,t19]; rfl)
 ·first|(simp only[upd_app,qa,↓reduceIte,t8]; done)|(simp only[upd_app,qa,↓reduceIte,t2,t6,t8,t13,t14,t16,t17,t18,t19]; rfl)
 ·first|(simp only[upd_app,qa,↓reduceIte,t13]; done)|(simp only[upd_app,qa,↓reduceIte,t2,t6,t8,t13,t14,t16,t17,t18,t19]; rfl)
 ·first|(simp only[upd_app,qa,↓reduceIte,t14]; done)|(simp only[upd_app,qa,↓reduceIte,t2,t6,t8,t13,t14,t16,t17,t18,t19]; rfl)
 ·first|(simp only[upd_app,qa,↓reduceIte,t16]; done)|(simp only[upd_app,qa,↓reduceIte,t2,t6,t8,t13,t14,t16,t17,t18,t19]; rfl)
 ·first|(simp only[upd_app,qa,↓reduceIte,t17]; done)|(simp only[upd_app,qa,↓reduceIte,t2,t6,t8,t13,t14,t16,t17,t18,t19]; rfl)
 ·first|(simp only[upd_app,qa,↓reduceIte,t18]; done)|(simp only[upd_app,qa,↓reduceIte,t2,t6,t8,t13,t14,t16,t17,t18,t19]; rfl)
 ·first|(simp only[upd_app,qa,↓reduceIte,t19]; done)|(simp only[upd_app,qa,↓reduceIte,t19]; rfl)
 ·first|(simp only[upd_app,qa,↓reduceIte]; done)|(simp only[upd_app,qa,↓reduceIte,t2,t6,t8,t13,t14,t16,t17,t18,t19]; rfl)
 ·first|(simp only[upd_app,qa,↓reduceIte]; done)|(simp only[upd_app,qa,↓reduceIte,t2,t6,t8,t13,t14,t16,t17,t18,t19]; rfl)
 ·first|(simp only[upd_app,↓reduceIte]; done)|(simp only[upd_app,↓reduceIte]; rfl)
 clear t2 t6 t8 t13 t14 t16 t17 t18 t19 hb hrow hrl
 rintro k tm hp ⟨j,rid',nid',s,rfl,hj,hs,hb,hri,hrl,hn1,hn2,hn3,⟨t2,t6,t8,t13,t14,t16,t17,t18⟩,t19,t69,t70,t71⟩
 by_cases hlt:j<sm.length
 rotate_left
 ·have hjj:j=sm.length:=by omega
  have he:nextF (stepI x) sm rows row=s:=by
   rw[hs,hjj,xl]
   rfl
  rw[he]
  refine vcE.ex (by simp (disch:=first|assumption|omega) only[go_sem,↓reduceIte,t71,t70,qT,hlt,decide_false]; rfl) ?_
  refine⟨rfl,rid',nid',hb,⟨?_,?_,?_,?_,?_,?_,?_,?_⟩,?_,hri,hrl,hn1,by omega⟩
  all_goals simp only[upd_app,qa,↓reduceIte,t2,t6,t8,t13,t14,t16,t17,t18,t19]
 have hg:=qg hlt
 generalize sm[j]=c at hg
 have y1:iaddrA 1 (encI.S sm) (.int .i64 (j:Int))=some (.fptr (encI.cs sm) j):=encI_iaddr hlt
 have p1:=encI_at hg
 have w1:=natW (x:=(j:Int)+1) (j+1) (by omega) (by omega)
 have hst:(sm.take (j+1)).foldl (nxF (stepI x) row) ([],rows)=nxF (stepI x) row s c:=by
  rw[xn,hg,List.foldl_append,← hs]
  rfl
 by_cases hc:c<0
 ·obtain⟨hp',ha,hb'⟩:=hb.app 0 (by omega)
  have hnx:nxF (stepI x) row s c=(s.1++[0],s.2):=by rw[nxF,if_pos hc]
  refine vcE.ex (by simp (disch:=first|assumption|omega) only[go_sem,↓reduceIte,t71,t70,qT,hlt,qa,t69,↓y1,↓p1,hc,t19,↓ha,w1]; rfl) ?_
  refine⟨sm.length - (j+1),by omega,j+1,rid',hp.length+1,(s.1++[0],s.2),rfl,by omega,by rw[hst,hnx],hb',hri,hrl,hn1,by simp only; omega,by simp only[qo,qP]; omega,⟨?_,?_,?_,?_,?_,?_,?_,?_⟩,?_,?_,?_,?_⟩
  all_goals simp only[upd_app,qa,↓reduceIte,t2,t6,t8,t13,t14,t16,t17,t18,t69,t70]
 have hnx:nxF (stepI x) row s c=(s.1++[((numF s.2 (stepI x row c)).1:Int)],(numF s.2 (stepI x row c)).2):=by rw[nxF,if_neg hc]
 have hzs:s.2≠[]:=by
  intro e
  rw[e] at hri
  simp at hri
 have hil:i<s.2.length:=(qf.1 hri).1
 have hrowl:row.length≤1000000:=hrl row (xa hri)
 have h5:=hb.met.hb
 have hone:=bld_one rid' s.2.length 1
 have y2:=row_addr (rid:=rid') hil
 have hrr:=(hb.rows_at hzs).2
 have p2:=encR_at hri
 have w8:=wrap8 c
 have hstep:=M0_step hx hrowl (UInt8.ofNat (c % 256).toNat)
 have hnf:=fun hp=>nV_frz x hp
 have hsl:(stepI x row c).length≤1000000:=xM (lstLen _ _) hx.2
 refine vcE.step (by simp (disch:=first|assumption|omega) only[go_sem,↓reduceIte,t71,t70,qT,hlt]; rfl) (vcE.s1 (k:=vcE.then (fun e' tm' hp'=>e'=.normal∧∃ rid2 nid2,Bs hp' rid2 (numF s.2 (stepI x row c)).2 nxid acid nid2 fin accs (s.1++[((numF s.2 (stepI x row c)).1:Int)]) cls lo ex∧Rv x most sm i tm'∧tm' 19=bld nid2 (s.1++[((numF s.2 (stepI x row c)).1:Int)]).length 1∧tm' 69=encI.S sm∧tm' 70=.int .i64 (sm.length:Int)∧tm' 71=.int .i64 (j:Int)) (vcE.block (vcE.step (by simp (disch:=first|assumption|omega) only[go_sem,↓reduceIte,qa,t69,t71,↓y1,↓p1]; rfl) (vcE.step (by simp (disch:=first|assumption|omega) only[go_sem,↓reduceIte,hc,decide_false]; rfl) ?_))) ?_))
 ·rw[show r48_21=r48_21.take 10++(r48_21.drop 10).take 1++r48_21.drop 11 from rfl]
  refine vcE.app (vcE.app (vcE.ex (by simp (disch:=first|assumption|omega) only[go_sem,exOps.eq_2,↓reduceIte,qa,t19,t17,t8,t16,h5,hone,t18,↓y2,hrr,↓p2,w8,frzL.eq_2,hnf,hstep,nidL.eq_2]; rfl) ⟨rfl,vcE.call (f:=60) (caps:=[.ptr 4 0,.ptr 5 0]) (ys:=[encI.S (stepI x row c)]) rfl ?_ (num_calls hb.met hsl (by omega)) ?_⟩))
  ·simp only[evsE,evE,upd_app,qa,↓reduceIte]
   rfl
  rintro r hp' ⟨rfl,rid2,hm2,hr2,ho2,hl2⟩
  have hb2:=hb.num (numF_ne _ _) hm2 hr2 ho2 hl2 (fun e=>absurd e hzs)
  obtain⟨hp3,ha,hb3⟩:=hb2.app ((numF s.2 (stepI x row c)).1:Int) (by omega)
  refine⟨rfl,vcE.ex (by simp (disch:=first|assumption|omega) only[go_sem,↓reduceIte,qa,putE,↓ha]; rfl) ?_⟩
  refine⟨rfl,rid2,_,hb3,⟨?_,?_,?_,?_,?_,?_,?_,?_⟩,?_,?_,?_,?_⟩
  all_goals simp only[upd_app,qa,↓reduceIte,t2,t6,t8,t13,t14,t16,t17,t18,t69,t70,t71]
 ·rintro e' tm' hp' ⟨rfl,rid2,nid2,hb2,⟨u2,u6,u8,u13,u14,u16,u17,u18⟩,u19,u69,u70,u71⟩
  have hnl:=numF_len s.2 (stepI x row c)
  refine vcE.ex (by simp (disch:=first|assumption|omega) only[go_sem,↓reduceIte,u71,w1]; rfl) ?_
  refine⟨sm.length - (j+1),by omega,j+1,rid2,nid2,_,rfl,by omega,by rw[hst,hnx],hb2,numF_get hri,numF_all hrl hsl,by simp only; omega,by simp only; omega,by simp only[qo,qP]; omega,⟨?_,?_,?_,?_,?_,?_,?_,?_⟩,?_,?_,?_,?_⟩
  all_goals simp only[upd_app,qa,↓reduceIte,u2,u6,u8,u13,u14,u16,u17,u18,u19,u69,u70]
end
end
section
set_option linter.unusedSectionVars false
variable [Mx]
open Go Go.Proofs
theorem clsL_len (p:List UInt8) (f:Bool):(clsL p f).length=256:=clsTo_len _ _ _
theorem bld_bad {tm:Env} {hp:HP} (h0:hp[0]? = some (some (.row 90 [.nils,.nils,.nils]))) (t6:tm 6=.ptr 0 0):vcE qi (hintL [(25,7)]) M0 112 (IC.seq (IC.reg r48_3) IC.ret) tm hp fun e' tm' hp'=>e'=.ret∧RetE [.cell 6 (some 3),.t 7] (fun r' hp'=>FrzN hp' r' (.tup [.agg noDfa.c,.bool false])) .ret tm' hp':=by
 have h0l:=(qf.1 h0).1
 have hbst:fillA [(0,1),(1,1),(2,1)] [.nils,.nils,.nils] (([]:List Nat).zip ([]:List AV))=some [.nils,.nils,.nils]:=rfl
 have hst:storeA hp 3 (.ptr 0 0) (.agg [.nils,.nils,.nils])=some (hp.set 0 (some (.row 90 [.nils,.nils,.nils]))):=by
  simp only[storeA,h0,cellsA]
  rfl
 refine vcE.ex (by simp (disch:=first|assumption|omega) only[go_sem,↓reduceIte,qa,t6,↓hbst,↓hst]; rfl) ?_
 refine⟨rfl,.tup [.agg [.nils,.nils,.nils],.bool false],?_,fresh_ok rfl⟩
 simp only[resE,resEL,resE1,upd_app,qa,↓reduceIte,t6,loadA,rowA,xf h0l]
 rfl
theorem bld_much {tm:Env} {hp:HP} (h0:hp[0]? = some (some (.row 90 [.nils,.nils,.nils]))) (t6:tm 6=.ptr 0 0):vcE qi (hintL [(25,7)]) M0 112 (IC.seq (IC.reg r48_14) IC.ret) tm hp fun e' tm' hp'=>e'=.ret∧RetE [.cell 6 (some 3),.t 7] (fun r' hp'=>FrzN hp' r' (.tup [.agg noDfa.c,.bool false])) .ret tm' hp':=by
 have h0l:=(qf.1 h0).1
 have hbst:fillA [(0,1),(1,1),(2,1)] [.nils,.nils,.nils] (([]:List Nat).zip ([]:List AV))=some [.nils,.nils,.nils]:=rfl
 have hst:storeA hp 3 (.ptr 0 0) (.agg [.nils,.nils,.nils])=some (hp.set 0 (some (.row 90 [.nils,.nils,.nils]))):=by
  simp only[storeA,h0,cellsA]
  rfl
 refine vcE.ex (by simp (disch:=first|assumption|omega) only[go_sem,↓reduceIte,qa,t6,↓hbst,↓hst]; rfl) ?_
 refine⟨rfl,.tup [.agg [.nils,.nils,.nils],.bool false],?_,fresh_ok rfl⟩
 simp only[resE,resEL,resE1,upd_app,qa,↓reduceIte,t6,loadA,rowA,xf h0l]
 rfl
theorem bldF_row {st:List Int→Int→List Int} {ac:List Int→Bool} {sm:List Int} {most k i:Nat} {rows nx:List (List Int)} {acs:List Bool} {row:List Int} (h:rows[i]? = some row):bldF st ac sm most (k+1) i rows nx acs=if rows.length > most then none else bldF st ac sm most k (i+1) (nextF st sm rows row).2 (nx++[(nextF st sm rows row).1]) (acs++[ac row]):=by
 rw[bldF,h]
theorem bldF_end {st:List Int→Int→List Int} {ac:List Int→Bool} {sm:List Int} {most k i:Nat} {rows nx:List (List Int)} {acs:List Bool} (h:rows[i]? = none):bldF st ac sm most (k+1) i rows nx acs=some (nx,acs):=by
 rw[bldF,h]
theorem bld_outer {x:Option (List UInt8 × Bool)} {sm cls:List Int} {lo mN rid:Nat} {ex:Bool} {rows:List (List Int)} (hx:okW x) (hsm:sm.length≤2000) (hm1:1≤mN) (hm2:mN≤256) {hp:HP} {tm:Env} (hz:rows.length=1) (hrl:∀ r ∈ rows,r.length≤1000000) (hb:Bs hp rid rows 6 6 0 [] [] [] cls lo ex) (hv:Rv x mN sm 0 tm) (t7:tm 7=.bool false) :
  vcE qi (hintL [(25,7)]) M0 112 (IC.block 0 (IC.loop b48_1)) tm hp fun e' tm' hp'=>(e'=.ret∧bldF (stepI x) (accI x) sm mN (mN+1) 0 rows [] []=none∧RetE [.cell 6 (some 3),.t 7] (fun r' hp'=>FrzN hp' r' (.tup [.agg noDfa.c,.bool false])) .ret tm' hp')∨(e'=.normal∧∃ rid' rows' nxid acid fin accs,bldF (stepI x) (accI x) sm mN (mN+1) 0 rows [] []=some (fin.map (·.2),accs)∧Bs hp' rid' rows' nxid acid 0 fin accs [] cls lo ex∧tm' 6=.ptr 0 0∧tm' 14=.ptr 2 0):=by
 refine vcE.block (vcE.loop (by intro l tm hp h; simp at h) (fun k tm' hp' => ∃ (i rid':Nat) (rows':List (List Int)) (nxid acid:Nat) (fin:List (Nat × List Int)) (accs:List Bool),k=mN+1 - i∧i≤mN∧i≤rows'.length∧rows'≠[]∧rows'.length≤3000∧(∀ r ∈ rows',r.length≤1000000)∧fin.length=i∧accs.length=i∧bldF (stepI x) (accI x) sm mN (mN+1 - i) i rows' (fin.map (·.2)) accs=bldF (stepI x) (accI x) sm mN (mN+1) 0 rows [] []∧Bs hp' rid' rows' nxid acid 0 fin accs [] cls lo ex∧Rv x mN sm i tm') (mN+1) ⟨0,rid,rows,6,6,[],[],rfl,by omega,by omega,(fun e=>by rw[e] at hz; simp at hz),by omega,hrl,rfl,rfl,rfl,hb,hv⟩ ?_)
 clear hb hv t7 hrl
 rintro k tm hp ⟨i,rid',rows',nxid,acid,fin,accs,rfl,him,hir,hne,hrn,hrl,hfl,hal,hR,hb,hv⟩
 obtain⟨t2,t6,t8,t13,t14,t16,t17,t18⟩:=hv
 have h5:=hb.met.hb
 have hone:=bld_one rid' rows'.length 1
 have hlb:=fun hp:HP=>bld_len hp rid' rows'.length 1
 have hlf:=bld_fits rid' rows'.length 1
 rw[show mN+1 - i=(mN - i)+1 by omega] at hR
 by_cases hlt:i<rows'.length
 rotate_left
 ·have hnone:rows'[i]? = none:=List.getElem?_eq_none (by omega)
  rw[bldF_end hnone] at hR
  refine vcE.ex (by simp (disch:=first|assumption|omega) only[go_sem,↓reduceIte,t18,qa,t16,h5,↓hone,hlf,hlb,qT,hlt,decide_false]; rfl) ?_
  refine .inr ⟨rfl,rid',rows',nxid,acid,fin,accs,hR.symm,hb,?_,?_⟩
  all_goals simp only[upd_app,qa,↓reduceIte,t6,t14]
 have hg:=qg hlt
 generalize rows'[i]=row at hg
 rw[bldF_row hg] at hR
 refine vcE.step (by simp (disch:=first|assumption|omega) only[go_sem,↓reduceIte,t18,qa,t16,h5,↓hone,hlf,hlb,qT,hlt]; rfl) ?_
 refine vcE.then (fun e' tm' hp'=>(e'=.ret∧bldF (stepI x) (accI x) sm mN (mN+1) 0 rows [] []=none∧RetE [.cell 6 (some 3),.t 7] (fun r' hp'=>FrzN hp' r' (.tup [.agg noDfa.c,.bool false])) .ret tm' hp')∨(e'=.normal∧i<mN∧∃ (rid2:Nat) (nxid2 acid2:Nat) (fin2:List (Nat × List Int)) (accs2:List Bool),fin2.length=i+1∧accs2.length=i+1∧fin2.map (·.2)=fin.map (·.2)++[(nextF (stepI x) sm rows' row).1]∧accs2=accs++[accI x row]∧rows'.length≤mN∧Bs hp' rid2 (nextF (stepI x) sm rows' row).2 nxid2 acid2 0 fin2 accs2 [] cls lo ex∧(∀ r ∈ (nextF (stepI x) sm rows' row).2,r.length≤1000000)∧rows'.length≤(nextF (stepI x) sm rows' row).2.length∧(nextF (stepI x) sm rows' row).2.length≤rows'.length+sm.length∧Rv x mN sm i tm')) ?_ ?_
 rotate_left
 ·rintro e' tm' hp' (⟨rfl,h1,h2⟩|⟨rfl,him2,rid2,nxid2,acid2,fin2,accs2,hf2,ha2,hfm,hac,hle,hb2,hrl2,hge,hub,⟨u2,u6,u8,u13,u14,u16,u17,u18⟩⟩)
  ·exact .inl ⟨rfl,h1,h2⟩
  ·have w1:=natW (x:=(i:Int)+1) (i+1) (by omega) (by omega)
   rw[if_neg (by omega)] at hR
   refine vcE.ex (by simp (disch:=first|assumption|omega) only[go_sem,↓reduceIte,u18,w1]; rfl) ?_
   refine⟨mN - i,by omega,i+1,rid2,_,nxid2,acid2,fin2,accs2,by omega,by omega,by omega,?_,by omega,hrl2,hf2,ha2,?_,hb2,⟨?_,?_,?_,?_,?_,?_,?_,?_⟩⟩
   ·intro e
    rw[e] at hge
    simp only[List.length_nil] at hge
    omega
   ·rw[hfm,hac,show mN+1 - (i+1)=mN - i by omega]
    exact hR
   all_goals simp only[upd_app,qa,↓reduceIte,u2,u6,u8,u13,u14,u16,u17]
 by_cases hmu:rows'.length > mN
 ·rw[if_pos hmu] at hR
  have hmu':(mN:Int)<((rows'.length:Nat):Int):=by omega
  refine vcE.block (vcE.seq (vcE.step (by simp (disch:=first|assumption|omega) only[go_sem,↓reduceIte,qa,t16,h5,↓hone,hlf,hlb,t2,hmu']; rfl) (vcE.condTrue (by simp only[evE,upd_app,↓reduceIte]) (vcE.mono (bld_much hb.r0 (by simp only[upd_app,qa,↓reduceIte,t6])) ?_))))
  rintro e tm hp ⟨rfl,h⟩
  exact .inl ⟨rfl,hR.symm,h⟩
 ·have hmu':¬ (mN:Int)<((rows'.length:Nat):Int):=by omega
  refine vcE.block (vcE.step (by simp (disch:=first|assumption|omega) only[go_sem,↓reduceIte,qa,t16,h5,↓hone,hlf,hlb,t2,hmu',decide_false]; rfl) (vcE.s1 (k:=vcE.then _ (bld_inner (sm:=sm) (most:=(mN:Int)) hx hg hrl (by omega) hb ⟨?_,?_,?_,?_,?_,?_,?_,?_⟩ ?_) ?_)))
  ·simp only[upd_app,qa,↓reduceIte,t2]
  ·simp only[upd_app,qa,↓reduceIte,t6]
  ·simp only[upd_app,qa,↓reduceIte,t8]
  ·simp only[upd_app,qa,↓reduceIte,t13]
  ·simp only[upd_app,qa,↓reduceIte,t14]
  ·simp only[upd_app,qa,↓reduceIte,t16]
  ·simp only[upd_app,qa,↓reduceIte,t17]
  ·simp only[upd_app,qa,↓reduceIte,t18]
  ·simp only[upd_app,↓reduceIte]
  clear t2 t6 t8 t13 t14 t16 t17 t18 h5 hone hlb hlf hb
  rintro e' tm hp2 ⟨rfl,rid2,nid2,hb,⟨t2,t6,t8,t13,t14,t16,t17,t18⟩,t19,hg2,hrl2,hge,hub⟩
  generalize hq:nextF (stepI x) sm rows' row=q at *
  have hq0:q.2≠[]:=by
   intro e
   rw[e] at hg2
   simp at hg2
  obtain⟨hpA,hpB,a1,a2,a3,hb2⟩:=hb.more hq0 (by omega)
  have r2:=hb.r2
  have hob:=bld_one nxid fin.length 1
  have pk1:pickA none [AV.sl 1 0 256 1 lo ex,bld nxid fin.length 1,bld acid accs.length 1] 1=some (bld nxid fin.length 1):=by
   simp only[pickA,qw,ql]
   rw[if_pos hob]
  have hcel:=bld_cells nid2 q.1.length 1
  have hntb:∀ a b c,notTup (bld a b c)=true:=fun a b c=>by unfold bld; split<;>rfl
  refine vcE.step (by simp (disch:=first|assumption|omega) only[go_sem,↓reduceIte,t14,r2,↓pk1,qa,t19,hntb,hcel,↓a1,↓a3]; rfl) ?_
  obtain⟨hpC,hpD,b1,b2,b3,hb3⟩:=hb2.acc hq0 (by omega) (accI x row)
  have hrowl:row.length≤1000000:=hrl2 row (xa hg2)
  have hacc:=M0_acc hx hrowl
  have r22:=hb2.r2
  have h5:=hb2.met.hb
  have hone:=bld_one rid2 q.2.length 1
  have y2:=row_addr (rid:=rid2) (qf.1 hg2).1
  have hrr:=(hb2.rows_at hq0).2
  have p2:=encR_at hg2
  have hnf:=fun hp=>nV_frz x hp
  have hoc:=bld_one acid accs.length 1
  have pk2:pickA none [AV.sl 1 0 256 1 lo ex,bld (hp2.length+1) (fin++[(nid2,q.1)]).length 1,bld acid accs.length 1] 2=some (bld acid accs.length 1):=by
   simp only[pickA,qw,ql]
   rw[if_pos hoc]
  refine vcE.ex (by simp (disch:=first|assumption|omega) only[go_sem,exOps.eq_2,↓reduceIte,qa,t14,r22,↓pk2,t8,t16,h5,↓hone,t18,↓y2,hrr,↓p2,frzL.eq_2,hnf,hacc,nidL.eq_2,↓b1,↓b3]; rfl) ?_
  refine .inr ⟨rfl,by omega,rid2,_,_,fin++[(nid2,q.1)],accs++[accI x row],by simp[hfl],by simp[hal],by simp,rfl,by omega,hb3,hrl2,hge,hub,⟨?_,?_,?_,?_,?_,?_,?_,?_⟩⟩
  all_goals simp only[upd_app,qa,↓reduceIte,t2,t6,t8,t13,t14,t16,t17,t18]
end
section
set_option linter.unusedSectionVars false
variable [Mx]
open Go Go.Proofs
theorem pBuild (p:List UInt8) (f:Bool) (most:Int) (hl:p.length≤300) (hpat:(patP (newV p f)).length≤1000):PCF qi 48 [.str p,.bool f,.int .i64 most] (.tup [.agg (buildF p f most).1.c,.bool (buildF p f most).2]):=by
 refine pcf_of (nidL_ok rfl) (calls_e hmG M0_ok comp48 (by rfl) (by simp) ?_)
 have hnew:=M0_new p f hl
 have hx:okW (newV p f):=newV_ok hl
 unfold c48
 rw[show r48_5=[⟨some 45,.op (.mov),[.t 10],none⟩,⟨some 46,.op (.mov),[.t 1],none⟩,⟨some 47,.call none,[.f 59,.t 45,.t 46],none⟩,⟨some 44,.op (.mov),[.t 47],none⟩,⟨some 48,.op (.extract 0),[.t 44],none⟩,⟨some 49,.op (.extract 1),[.t 44],none⟩,⟨some 12,.op (.alloc 110 (List.replicate 256 (.int .i64 0))),[],none⟩,⟨none,.op (.store 256),[.t 12,.t 48],none⟩,⟨some 13,.op (.mov),[.t 49],none⟩] from by kernel_rfl]
 refine vcE.step (by simp (disch:=first|assumption|omega) only[go_sem,↓reduceIte,allocA]; rfl) ?_
 by_cases hbad:checkG p≠0∨most<1∨256<most
 ·have hF:buildF p f most=(noDfa,false):=by rw[buildF,if_pos hbad]
  rw[hF]
  refine vcE.step (by simp (disch:=first|assumption|omega) only[go_sem,↓reduceIte,qa,reduceCtorEq,hnew]; rfl) ?_
  have hm:∀ (e':Exit) (tm':Env) (hp':HP),(e'=.ret∧RetE [.cell 6 (some 3),.t 7] (fun r' hp'=>FrzN hp' r' (.tup [.agg noDfa.c,.bool false])) .ret tm' hp')→(match e' with
    | .normal=>False
    | e=>RetE [.cell 6 (some 3),.t 7] (fun r' hp'=>FrzN hp' r' (.tup [.agg noDfa.c,.bool false])) e tm' hp'):=by
   rintro e' tm' hp' ⟨rfl,h⟩
   exact h
  by_cases h1:checkG p=0
  rotate_left
  ·refine vcE.seq (vcE.step (by simp (disch:=first|assumption|omega) only[go_sem,↓reduceIte,qa,h1,decide_false]; rfl) (vcE.condTrue (by simp only[evE,upd_app,↓reduceIte]) (vcE.mono (bld_bad rfl ?_) ?_)))
   ·simp only[upd_app,qa,↓reduceIte]
   ·rintro e' tm' hp' ⟨rfl,h⟩
    exact h
  ·have h2:most<1∨256<most:=hbad.resolve_left (fun h=>h h1)
   by_cases h3:most<1
   ·refine vcE.seq (vcE.step (by simp (disch:=first|assumption|omega) only[go_sem,↓reduceIte,qa,h1,h3,decide_true]; rfl) (vcE.condTrue (by simp only[evE,upd_app,↓reduceIte]) (vcE.mono (bld_bad rfl ?_) ?_)))
    ·simp only[upd_app,qa,↓reduceIte]
    ·rintro e' tm' hp' ⟨rfl,h⟩
     exact h
   ·have h4:256<most:=h2.resolve_left h3
    refine vcE.seq (vcE.step (by simp (disch:=first|assumption|omega) only[go_sem,↓reduceIte,h1,qa,h3,decide_false,h4]; rfl) (vcE.condTrue (by simp only[evE,upd_app,↓reduceIte]) (vcE.mono (bld_bad rfl ?_) ?_)))
    ·simp only[upd_app,qa,↓reduceIte]
    ·rintro e' tm' hp' ⟨rfl,h⟩
     exact h
 have h1:checkG p=0:=Decidable.byContradiction fun h=>hbad (.inl h)
 have h3:¬ most<1:=fun h=>hbad (.inr (.inl h))
 have h4:¬ 256<most:=fun h=>hbad (.inr (.inr h))
 obtain⟨mN,rfl⟩:∃ mN:Nat,most=(mN:Int):=⟨most.toNat,by omega⟩
 have hF:buildF p f mN=match buildR p f mN with
   | some (nx,ac)=>(⟨clsL (patP (newV p f)) f,nx,ac⟩,true)
   | none=>(noDfa,false):=by
  rw[buildF,if_neg hbad,Int.toNat_natCast]
  try rfl
 have hpt:=M0_pat (newV p f)
 have hcl:=M0_cls f hpat
 have hnf:=fun hp=>nV_frz (newV p f) hp
 have hcc:(encI.cs (clsL (patP (newV p f)) f)).length=256:=by rw[encI_len,clsL_len]
 have hsm:=someL_len (patP (newV p f)) f
 have hstart:=M0_start hx
 rw[h1] at hnew
 unfold buildR at hF
 generalize newV p f=x at *
 generalize clsL (patP x) f=cls at *
 generalize someL (patP x) f=sm at *
 have hst1:storeA [some (.row 90 [.nils,.nils,.nils]),some (.row 110 (List.replicate 256 (.int .i64 0)))] 256 (.ptr 1 0) (.agg (encI.cs cls))=some [some (.row 90 [.nils,.nils,.nils]),some (.row 110 (encI.cs cls))]:=by
  have ho:over (List.replicate 256 (AV.int .i64 0)) 0 (encI.cs cls)=encI.cs cls:=by
   rw[over,List.take_zero,List.nil_append,List.drop_eq_nil_of_le (by rw[xD]; omega),List.append_nil]
  have hlr:(List.replicate 256 (AV.int .i64 0)).length=256:=xD
  generalize List.replicate 256 (AV.int .i64 0)=Z at *
  simp only[storeA,qw,ql,cellsA,hcc,Nat.zero_add,hlr,qk,and_self,ho,if_true]
  rfl
 have hasl:∀ (r:Option Blk) (l:HP),asliceA (r :: some (.row 110 (encI.cs cls)) :: l) 256 1 (.ptr 1 0) none none none=some (.sl 1 0 256 1 256 true):=by
  intro r l
  simp only[asliceA,bndA,qw,ql,hcc]
  rfl
 have hfil:fillA [(0,1),(1,1),(2,1)] [.nils,.nils,.nils] ([0].zip [.sl 1 0 256 1 256 true])=some [.sl 1 0 256 1 256 true,.nils,.nils]:=rfl
 generalize hZ:List.replicate 256 (AV.int .i64 0)=Z at *
 refine vcE.step (by simp (disch:=first|assumption|omega) only[go_sem,↓reduceIte,qa,reduceCtorEq,hnew]; rfl) (vcE.step (by simp (disch:=first|assumption|omega) only[go_sem,↓reduceIte,qa,h3,h4,decide_false]; rfl) (vcE.step (by simp (disch:=first|assumption|omega) only[go_sem,↓reduceIte,qa,hnf,hpt]; rfl) (vcE.step (by simp (disch:=first|assumption|omega) only[go_sem,↓reduceIte,qa,hcl,allocA,↓hst1]; rfl) ?_)))
 refine vcE.step (by simp (disch:=first|assumption|omega) only[go_sem,↓reduceIte,qa,qs,qu,↓hasl,↓hfil,allocA]; rfl) ?_
 refine vcE.step (by simp (disch:=first|assumption|omega) only[go_sem,↓reduceIte,qa,qs,qu,mkmapA,allocA]; rfl) (vcE.step (by simp (disch:=first|assumption|omega) only[go_sem,↓reduceIte,qs,allocA]; rfl) (vcE.s0 ?_))
 have hcs:∀ cs:List AV,cellsA (.agg cs)=cs:=fun _=>rfl
 refine vcE.then (fun e' tm' hp'=>e'=.normal∧∃ rid,Bs hp' rid [startI x] 6 6 0 [] [] [] cls 256 true∧tm' 2=.int .i64 (mN:Int)∧tm' 6=.ptr 0 0∧tm' 7=.bool false∧tm' 8=nV x∧tm' 13=encI.S sm∧tm' 14=.ptr 2 0∧tm' 16=.ptr 5 0∧tm' 17=.func 60 [.ptr 4 0,.ptr 5 0]) ?_ ?_
 ·rw[show r48_10=r48_10.take 3++r48_10.drop 3 from rfl]
  have hm0:Met [some (.row 90 [.nils,.nils,.nils]),some (.row 110 (encI.cs cls)),some (.row 90 [.sl 1 0 256 1 256 true,.nils,.nils]),some (.map [] [] 0),some (.row 113 [.map 3]),some (.row 87 [.nils])] 4 5 3 6 []:=⟨rfl,⟨_,_,rfl⟩,rfl,.inl rfl,by omega,by omega,by omega,by omega,by omega,by omega⟩
  have hb0:Bs [some (.row 90 [.nils,.nils,.nils]),some (.row 110 (encI.cs cls)),some (.row 90 [.sl 1 0 256 1 256 true,.nils,.nils]),some (.map [] [] 0),some (.row 113 [.map 3]),some (.row 87 [.nils])] 6 [] 6 6 0 [] [] [] cls 256 true:=by
   refine⟨hm0,rfl,rfl,rfl,?_,qk _⟩
   exact Pcs.nil (Pcs.nil (Pcs.nil (Pcs.nil ⟨fun q hq=>absurd hq (List.not_mem_nil),List.Pairwise.nil⟩ _ _) _ _) _ _) _ _
  have hsl:(startI x).length≤1000000:=xM (lstLen _ _) hx.2
  refine vcE.app (vcE.ex (by simp (disch:=first|assumption|omega) only[go_sem,↓reduceIte,qa,hnf,hstart]; rfl) ⟨rfl,vcE.call (f:=60) (caps:=[.ptr 4 0,.ptr 5 0]) (ys:=[encI.S (startI x)]) rfl ?_ (num_calls hm0 hsl (by simp)) ?_⟩)
  ·simp only[evsE,evE,upd_app,qa,↓reduceIte]
  rintro r hp' ⟨rfl,rid2,hm2,hr2,ho2,hl2⟩
  have hb2:=hb0.num (numF_ne _ _) hm2 hr2 ho2 hl2 (fun _=>⟨rfl,rfl⟩)
  refine⟨rfl,rid2,hb2,?_,?_,?_,?_,?_,?_,?_,?_⟩
  all_goals first|(simp only[putE,upd_app,qa,↓reduceIte]; done)|(simp only[putE,upd_app,qa,↓reduceIte]; rfl)
 clear hnew hpt hcl hst1 hasl hfil
 rintro e' tm hp ⟨rfl,rid,hb,t2,t6,t7,t8,t13,t14,t16,t17⟩
 refine vcE.then _ (vcE.s1 (k:=bld_outer (sm:=sm) (cls:=cls) (mN:=mN) hx (by omega) (by omega) (by omega) rfl (fun r hr=>by rw[qQ] at hr; rw[hr]; exact xM (lstLen _ _) hx.2) hb ⟨?_,?_,?_,?_,?_,?_,?_,?_⟩ ?_)) ?_
 ·simp only[upd_app,qa,↓reduceIte,t2]
 ·simp only[upd_app,qa,↓reduceIte,t6]
 ·simp only[upd_app,qa,↓reduceIte,t8]
 ·simp only[upd_app,qa,↓reduceIte,t13]
 ·simp only[upd_app,qa,↓reduceIte,t14]
 ·simp only[upd_app,qa,↓reduceIte,t16]
 ·simp only[upd_app,qa,↓reduceIte,t17]
 ·simp only[upd_app,↓reduceIte]
  rfl
 ·simp only[upd_app,qa,↓reduceIte,t7]
 clear t2 t6 t7 t8 t13 t14 t16 t17 hb
 rintro e' tm hp (⟨rfl,hR,h⟩|⟨rfl,rid',rows',nxid,acid,fin,accs,hR,hb,t6,t14⟩)
 ·rw[hR] at hF
  rw[hF]
  exact h
 ·rw[hR] at hF
  rw[hF]
  have r0:=hb.r0
  have r2:=hb.r2
  have h0l:=(qf.1 r0).1
  have hpk:pickA (some 3) [AV.sl 1 0 256 1 256 true,bld nxid fin.length 1,bld acid accs.length 1] 0=some (.agg [AV.sl 1 0 256 1 256 true,bld nxid fin.length 1,bld acid accs.length 1]):=rfl
  have hst:storeA hp 3 (.ptr 0 0) (.agg [AV.sl 1 0 256 1 256 true,bld nxid fin.length 1,bld acid accs.length 1])=some (hp.set 0 (some (.row 90 [AV.sl 1 0 256 1 256 true,bld nxid fin.length 1,bld acid accs.length 1]))):=by
   simp only[storeA,r0,cellsA]
   rfl
  refine vcE.ex (by simp (disch:=first|assumption|omega) only[go_sem,↓reduceIte,qa,t6,t14,r2,↓hpk,↓hst]; rfl) ?_
  refine⟨.tup [.agg [AV.sl 1 0 256 1 256 true,bld nxid fin.length 1,bld acid accs.length 1],.bool true],?_,hb.frz (by rw[← encI_len]; exact hcc) (fun k hk=>qv (by omega))⟩
  simp only[resE,resEL,resE1,upd_app,qa,↓reduceIte,t6,loadA,rowA,xf h0l]
  rfl
end
section
set_option linter.unusedSectionVars false
variable [Mx]
open Go Go.Proofs
abbrev roomy:Nat:=4611686018427387904
theorem getD_some {α:Type} {l:List α} {i:Nat} {z:α} (h:i<l.length):l[i]? = some (l.getD i z):=by
 rw[List.getD_eq_getElem?_getD,qg h]
 rfl
theorem Dfa.Ok.step {d:Dfa} (h:d.Ok) {s:Nat} (hs:s<d.nxt.length) (c:UInt8):∃ r j,d.nxt[s]? = some r∧d.cls[c.toNat]? = some ((j:Nat):Int)∧j<r.length∧r[j]? = some ((d.go s c:Nat):Int):=by
 have h1:=h.cls_lt c
 have h2:=h.go_at hs c
 have h3:=h.row (d.nxt.getD s []) (getD_mem hs)
 have hj:(d.cls.getD c.toNat 0).toNat<(d.nxt.getD s []).length:=by omega
 refine⟨d.nxt.getD s [],(d.cls.getD c.toNat 0).toNat,getD_some hs,?_,hj,?_⟩
 ·rw[Int.toNat_of_nonneg h1.1]
  exact getD_some (by rw[h.c]; exact c.toNat_lt)
 ·rw[Dfa.go,Int.toNat_of_nonneg h2.1]
  exact getD_some hj
theorem Dfa.fin_take (d:Dfa) {t:List UInt8} {i:Nat} {c:UInt8} (h:t[i]? = some c):d.fin (t.take (i+1))=d.go (d.fin (t.take i)) c:=by
 rw[Dfa.fin,xn,h,List.foldl_append]
 rfl
theorem pThrough (d:Dfa) (h:d.Ok) (t:List UInt8) (ht:t.length≤roomy):PCF qi 159 [.agg d.c,.str t] (.bool (d.takes t)):=by
 refine pcf_e hmM (qJ _) comp159 (by decide) (by simp) (nidL_ok (by simp only[nidL,nid,d.c_nid,Bool.and_self])) ?_
 have q0:pickA none d.c 0=some (encI.S d.cls):=rfl
 have q1:pickA none d.c (0+1)=some (encR.S d.nxt):=rfl
 have q2:pickA none d.c (0+2)=some (encT.S d.acc):=rfl
 have qc:cellsA (.agg d.c)=d.c:=rfl
 simp only[roomy] at ht
 refine vcE.step (by simp (disch:=first|assumption|omega) only[go_sem,↓reduceIte,boxA_eq,qc]; rfl) (vcE.s1 (k:=vcE.then (fun e tm hp=>e=.normal∧hp=[some (.row 90 d.c)]∧tm 2=.ptr 0 0∧tm 5=.int .i64 (d.fin t)) ?_ ?_))
 ·refine vcE.s1 (k:=vcE.block (vcE.count (by intro l tm hp h; simp at h)
   (fun i tm hp=>hp=[some (.row 90 d.c)]∧tm 1=.str t∧tm 2=.ptr 0 0∧tm 5=.int .i64 (d.fin (t.take i))∧tm 8=.int .i64 t.length∧tm 9=.int .i64 i) t.length ⟨rfl,rfl,rfl,rfl,rfl,rfl⟩ ?_ ?_))
  ·rintro i tm hp hi ⟨rfl,t1,t2,t5,t8,t9⟩
   obtain⟨c,hc⟩:∃ c,t[i]? = some c:=⟨_,qg hi⟩
   have hs:=h.fin_lt (t.take i)
   rw[d.fin_take hc]
   generalize d.fin (t.take i)=s at *
   obtain⟨r,j,g1,g2,g3,g4⟩:=h.step hs c
   have i1:iaddrA 1 (encR.S d.nxt) (.int .i64 s)=some (.fptr (encR.cs d.nxt) (s*1)):=encR.S_iaddr hs
   have i2:iaddrA 1 (encI.S d.cls) (.int .u8 c.toNat)=some (.fptr (encI.cs d.cls) (c.toNat*1)):=encI.S_iaddr (by rw[h.c]; exact c.toNat_lt)
   have i3:iaddrA 1 (encI.S r) (.int .i64 j)=some (.fptr (encI.cs r) (j*1)):=encI.S_iaddr g3
   rw[xC] at i1 i2 i3
   have p1:=encR_at g1
   have p2:=encI_at g2
   have p3:=encI_at g4
   have hwr:IntKind.wrap .i64 ((i:Int)+1)=(i:Int)+1:=wrap_i64 (by omega) (by omega)
   refine vcE.ex (by simp (disch:=first|assumption|omega) only[go_sem,↓reduceIte,t9,t8,qa,exOps.eq_2,t2,↓q1,t5,i1,↓p1,↓q0,t1,hc,i2,↓p2,i3,↓p3,hwr]; rfl) ?_
   refine⟨rfl,?_,?_,?_,?_,?_⟩
   all_goals simp only[upd_app,qa,↓reduceIte,t1,t2,t8]
   all_goals rfl
  ·rintro tm hp ⟨rfl,t1,t2,t5,t8,t9⟩
   rw[xl] at t5
   refine vcE.ex (by simp (disch:=first|assumption|omega) only[go_sem,↓reduceIte,t8,t9]; rfl) ?_
   refine⟨rfl,rfl,?_,?_⟩
   all_goals simp only[upd_app,qa,↓reduceIte,t2,t5]
 ·rintro e tm hp ⟨rfl,rfl,t2,t5⟩
  have hs:=h.fin_lt t
  have ha:d.fin t<d.acc.length:=by rw[h.a]; exact hs
  have i1:iaddrA 1 (encT.S d.acc) (.int .i64 (d.fin t))=some (.fptr (encT.cs d.acc) (d.fin t*1)):=encT.S_iaddr ha
  rw[xC] at i1
  have p1:=encT_at (getD_some (z:=false) ha)
  refine vcE.ex (by simp (disch:=first|assumption|omega) only[go_sem,↓reduceIte,qa,t2,t5,↓q2,i1,↓p1]; rfl) ?_
  exact⟨_,rfl,rfl⟩
end
end Go.Gi
