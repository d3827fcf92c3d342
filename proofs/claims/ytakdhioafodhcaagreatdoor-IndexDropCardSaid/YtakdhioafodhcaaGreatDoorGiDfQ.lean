/- Rows of states and their numbers: dfa.key, the closure of dfa.Build. -/
/- Results in memory of their own, also with slices in slices; raw appending. -/
/- Tables built: what the memory holds meanwhile. -/
/- Tables built: dfa.Build: the plain law, the table. -/
/- Tables built: dfa.Build: what it gives. -/
/- Tables built: dfa.Build: what it gives. -/
import Derived.Test.YtakdhioafodhcaaGreatDoorGiFK
import Derived.Test.YtakdhioafodhcaaGreatDoorGiSL
set_option linter.unusedVariables false
set_option linter.unusedSimpArgs false
namespace Go.Gi
section
set_option linter.unusedSectionVars false
variable [Mx]
open Go Go.Proofs
def keyI (l:List Int):List UInt8:=l.map fun n=>UInt8.ofNat (n % 256).toNat
theorem wrap8 (n:Int):IntKind.wrap .u8 n=((UInt8.ofNat (n % 256).toNat).toNat:Int):=by
 have h:IntKind.wrap .u8 n=n % 256:=by simp[IntKind.wrap,IntKind.bits,IntKind.signed]
 rw[h,UInt8.toNat_ofNat']
 omega
theorem pKey (l:List Int) (hl:l.length≤1000000):PCF Tryz.prog 61 [encI.S l] (.str (keyI l)):=by
 refine pcf_e hmG (TabOk.none _) comp61 (by decide) (by simp) (nidL_ok (by simp only[nidL,Enc.S_nid,Bool.and_self])) ?_
 refine vcE.s1 (k:=vcE.s1 (k:=vcE.then (fun e' tm' hp'=>e'=.normal∧∃ id,BldAt encB hp' id 5 (keyI l)∧tm' 3=bld id (keyI l).length 1) ?_ ?_))
 ·refine vcE.s1 (k:=vcE.block (vcE.loop (by intro l tm hp h; simp at h) (fun k tm' hp' => ∃ i id:Nat,k=l.length - i∧i≤l.length∧BldAt encB hp' id 5 (keyI (l.take i))∧tm' 3=bld id (keyI (l.take i)).length 1∧tm' 6=encI.S l∧tm' 7=.int .i64 l.length∧tm' 8=.int .i64 (i:Int)) l.length ⟨0,0,rfl,Nat.zero_le _,.inl rfl,?_,?_,?_,?_⟩ ?_))
  ·first|(simp only[upd_app,Nat.reduceEqDiff,↓reduceIte]; done)|(simp only[upd_app,Nat.reduceEqDiff,↓reduceIte]; rfl)
  ·first|(simp only[upd_app,Nat.reduceEqDiff,↓reduceIte]; done)|(simp only[upd_app,Nat.reduceEqDiff,↓reduceIte]; rfl)
  ·first|(simp only[upd_app,Nat.reduceEqDiff,↓reduceIte]; done)|(simp only[upd_app,Nat.reduceEqDiff,↓reduceIte]; rfl)
  ·first|(simp only[upd_app,↓reduceIte]; done)|(simp only[upd_app,↓reduceIte]; rfl)
  rintro k tm hp ⟨i,id,rfl,hi,hb,t3,t6,t7,t8⟩
  by_cases hlt:i<l.length
  rotate_left
  ·have:i=l.length:=by omega
   subst this
   rw[List.take_length] at hb t3
   refine vcE.ex (by simp (disch:=first|assumption|omega) only[go_sem,↓reduceIte,t8,t7,Int.ofNat_lt,hlt,decide_false]; rfl) ?_
   refine⟨rfl,id,hb,?_⟩
   simp only[upd_app,Nat.reduceEqDiff,↓reduceIte,t3]
  have hg:=List.getElem?_eq_getElem hlt
  generalize l[i]=n at hg
  have y1:iaddrA 1 (encI.S l) (.int .i64 (i:Int))=some (.fptr (encI.cs l) i):=encI_iaddr hlt
  have p1:=encI_at hg
  have w1:=natW (x:=(i:Int)+1) (i+1) (by omega) (by omega)
  have w8:=wrap8 n
  have hk:keyI (l.take (i+1))=keyI (l.take i)++[UInt8.ofNat (n % 256).toNat]:=by
   rw[List.take_add_one,hg,keyI,List.map_append]
   rfl
  have hlen:(keyI (l.take i)).length≤1000000:=by
   rw[keyI,List.length_map,List.length_take]
   omega
  have happ:=(hb.app [some (Blk.row 5 [.int .u8 (UInt8.ofNat (n % 256).toNat).toNat])]).more (bytes:=1) (m:=[UInt8.ofNat (n % 256).toNat]) (src_byte (ex:=true)) (by simp) (by simp; omega) (by simp; omega)
  simp only[show encB.sz=1 from rfl] at happ
  have hat:=BldAt.moreAt encB (hp++[some (Blk.row 5 [.int .u8 (UInt8.ofNat (n % 256).toNat).toNat])]) id (keyI (l.take i)).length 5 (keyI (l.take i)++[UInt8.ofNat (n % 256).toNat])
  rw[← hk] at happ hat
  refine vcE.ex (by simp (disch:=first|assumption|omega) only[go_sem,↓reduceIte,t8,t7,Int.ofNat_lt,hlt,Nat.reduceEqDiff,t6,↓y1,↓p1,t3,w8,↓happ,w1]; rfl) ?_
  refine⟨l.length - (i+1),by omega,i+1,_,rfl,by omega,hat,?_,?_,?_,?_⟩
  all_goals simp only[upd_app,Nat.reduceEqDiff,↓reduceIte,t6,t7]
 rintro e' tm hp ⟨rfl,id,hb,t3⟩
 have hs:=hb.src
 rw[show encB.sz=1 from rfl] at hs
 have hb2:b2sA hp (bld id (keyI l).length 1)=some (.str (keyI l)):=by
  simp only[b2sA,hs]
  have hu:=unbyte_encB (keyI l)
  by_cases h0:(keyI l).length=0
  ·rw[bld,if_pos h0]
   simp only[hu,Option.map_some]
  ·rw[bld,if_neg h0]
   simp only[hu,Option.map_some]
 refine vcE.ex (by simp (disch:=first|assumption|omega) only[go_sem,↓reduceIte,t3,↓hb2]; rfl) ?_
 exact⟨_,rfl,rfl⟩
def K0:Tab:=Tab.none.addO 61 (.cons (.S encI) .nil) fun p=>if p.1.length≤1000000 then some (.rd true (.str (keyI p.1))) else none
theorem K0_ok:TabOk Tryz.prog K0:=by
 refine TabOk.addO (TabOk.none _) ?_
 intro p r h
 split at h
 ·rename_i hv; cases h; exact pKey p.1 hv
 ·cases h
theorem K0_key (l:List Int) (hl:l.length≤1000000):K0 61 [encI.S l]=some (.rd true (.str (keyI l))):=
 (Tab.addO_self _ _ (.cons (.S encI) .nil) _ (l,())).trans (if_pos hl)
def entsF:Nat→List (List Int)→List (AV × AV)
 | _,[]=>[]
 | k,r :: rs=>(.str (keyI r),.agg [.int .i64 (k:Int)]) :: entsF (k+1) rs
theorem entsF_snoc (l:List Int):∀ (rows:List (List Int)) (k:Nat),entsF k (rows++[l])=entsF k rows++[(.str (keyI l),.agg [.int .i64 ((k+rows.length:Nat):Int)])]
 | [],k=>rfl
 | r :: rs,k=>by
  rw[List.cons_append,entsF,entsF_snoc l rs (k+1),entsF,List.cons_append,List.length_cons,show k+1+rs.length=k+(rs.length+1) by omega]
def findK (s:List UInt8):List (List Int)→Option Nat
 | []=>none
 | r :: rs=>if s=keyI r then some 0 else (findK s rs).map (· + 1)
theorem findA_ents (s:List UInt8):∀ (rows:List (List Int)) (k i:Nat),findA (.str s) (entsF k rows) i=some ((findK s rows).map fun j=>(i+j,.agg [.int .i64 ((k+j:Nat):Int)]))
 | [],k,i=>rfl
 | r :: rs,k,i=>by
  rw[entsF,findA,findK]
  by_cases h:s=keyI r
  ·simp only[keyEqA,bEqb_eq,h,decide_true,if_true,Option.map_some]
   rfl
  ·simp only[keyEqA,bEqb_eq,h,decide_false,if_false,findA_ents s rs,Option.map_map]
   congr 2
   funext j
   simp only[Function.comp]
   rw[show i+1+j=i+(j+1) by omega,show k+1+j=k+(j+1) by omega]
def numF (rows:List (List Int)) (l:List Int):Nat × List (List Int):=match findK (keyI l) rows with
 | some j=>(j,rows)
 | none=>(rows.length,rows++[l])
structure Met (hp:HP) (a b mid rid:Nat) (rows:List (List Int)):Prop where
 ha:hp[a]? = some (some (.row 113 [.map mid]))
 hm:∃ bs c,hp[mid]? = some (some (.map (entsF 0 rows) bs c))
 hb:hp[b]? = some (some (.row 87 [bld rid rows.length 1]))
 hr:BldAt encR hp rid 28 rows
 nab:a≠b
 nam:a≠mid
 nbm:b≠mid
 nra:rid≠a
 nrb:rid≠b
 nrm:rid≠mid
theorem src_row {hp:HP} {e:TypeId} {l:List Int} {ex:Bool}:srcA (hp++[some (.row e [encI.S l])]) 1 (.sl hp.length 0 1 1 1 ex)=some (encR.cs [l],1):=by
 have:=encR.sl_src (hp:=hp++[some (.row e [encI.S l])]) (id:=hp.length) (e:=e) (l:=[l]) (lo:=1) (ex:=ex) (by simp; rfl)
 exact this
theorem num_calls {hp:HP} {a b mid rid:Nat} {rows:List (List Int)} (h:Met hp a b mid rid rows) {l:List Int} (hl:l.length≤1000000) (hn:rows.length≤1000000) :
  ACalls Tryz.prog 60 [encI.S l,.ptr a 0,.ptr b 0] hp fun r hp'=>r=.int .i64 ((numF rows l).1:Nat)∧∃ rid',Met hp' a b mid rid' (numF rows l).2∧(rid'=rid∧rows≠[]∨hp.length≤rid')∧(∀ k,k<hp.length→k≠a→k≠b→k≠mid→k≠rid→hp'[k]? = hp[k]?)∧hp.length≤hp'.length:=by
 refine calls_e hmG K0_ok comp60 (by rfl) (by simp) ?_
 obtain⟨ha,⟨bs,c,hm⟩,hb,hr,nab,nam,nbm,nra,nrb,nrm⟩:=h
 have hk:=K0_key l hl
 have la:=(List.getElem?_eq_some_iff.1 ha).1
 have lb:=(List.getElem?_eq_some_iff.1 hb).1
 have lm:=(List.getElem?_eq_some_iff.1 hm).1
 have hf:=findA_ents (keyI l) rows 0 0
 simp only[Nat.zero_add] at hf
 have hlook:lookA hp .str (.agg [.int .i64 0]) true (.map mid) (.str (keyI l))=some (match findK (keyI l) rows with
   | some j=>.tup [.agg [.int .i64 (j:Int)],.bool true]
   | none=>.tup [.agg [.int .i64 0],.bool false]):=by
  simp only[lookA,keyA,rowsA,hm,hf,cond_true]
  cases findK (keyI l) rows<;>rfl
 have hq:∀ n:Int,(hp++[some (Blk.row 115 [.int .i64 n])])[hp.length]? = some (some (.row 115 [.int .i64 n])):=fun n=>by simp
 have ha':∀ n:Int,(hp++[some (Blk.row 115 [.int .i64 n])])[a]? = some (some (.row 113 [.map mid])):=fun n=>app_get ha
 have hb':∀ n:Int,(hp++[some (Blk.row 115 [.int .i64 n])])[b]? = some (some (.row 87 [bld rid rows.length 1])):=fun n=>app_get hb
 have hm':∀ n:Int,(hp++[some (Blk.row 115 [.int .i64 n])])[mid]? = some (some (.map (entsF 0 rows) bs c)):=fun n=>app_get hm
 have hst:∀ n m:Int,storeA (hp++[some (Blk.row 115 [.int .i64 n])]) 1 (.ptr hp.length 0) (.agg [.int .i64 m])=some (hp++[some (Blk.row 115 [.int .i64 m])]):=by
  intro n m
  simp only[storeA,hq,cellsA,List.length_singleton,Nat.zero_add,Nat.le_refl,and_self,if_true]
  simp
  rfl
 have hlook':∀ n:Int,lookA (hp++[some (Blk.row 115 [.int .i64 n])]) .str (.agg [.int .i64 0]) true (.map mid) (.str (keyI l))=some (match findK (keyI l) rows with
   | some j=>.tup [.agg [.int .i64 (j:Int)],.bool true]
   | none=>.tup [.agg [.int .i64 0],.bool false]):=by
  intro n
  simp only[lookA,keyA,rowsA,hm',hf,cond_true]
  cases findK (keyI l) rows<;>rfl
 refine vcE.s0 ?_
 cases hfk:findK (keyI l) rows with
 | some j =>
  simp only[hfk] at hlook hlook'
  have hnum:numF rows l=(j,rows):=by simp only[numF,hfk]
  rw[hnum]
  refine vcE.seq (vcE.forks (fun tm' hp'=>hp'=hp++[some (Blk.row 115 [.int .i64 (j:Int)])]∧tm' 5=.ptr hp.length 0∧tm' 6=.bool true) ?_ ?_)
  ·repeat' (first|with_reducible exact exTs_nil|with_reducible refine exT_fork ?_|(with_reducible show exT _ _ _ (Tr.take _ _) _ _ _; refine exT_take rfl (by simp (disch:=first|assumption|omega) only[go_sem,↓reduceIte,reduceCtorEq,Nat.reduceEqDiff,↓hlook,↓hst,frzL.eq_2,hk,↓hlook',ha,ha']; rfl) ?_)|(with_reducible show exTs _ _ _ (_ :: _) _ _ _; refine exTs_cons rfl (by simp (disch:=first|assumption|omega) only[go_sem,↓reduceIte,Nat.reduceEqDiff,ha,frzL.eq_2,hk,ha']; rfl) ?_ ?_))
   all_goals (with_reducible refine exT_done ?_)
   all_goals refine⟨rfl,?_,?_⟩
   all_goals simp only[upd_app,Nat.reduceEqDiff,↓reduceIte]
  rintro tm hp' ⟨rfl,t5,t6⟩
  have hq1:=hq (j:Int)
  refine vcE.ex (by simp (disch:=first|assumption|omega) only[go_sem,↓reduceIte,Nat.reduceEqDiff,t5,t6,hq1,faddrA]; rfl) ?_
  refine⟨_,rfl,?_,rid,⟨app_get ha,⟨bs,c,app_get hm⟩,app_get hb,hr.app _,nab,nam,nbm,nra,nrb,nrm⟩,.inl ⟨rfl,fun e=>by rw[e] at hfk; cases hfk⟩,?_,by simp⟩
  ·simp only[upd_app,↓reduceIte]
  ·intro k hk _ _ _ _
   rw[List.getElem?_append_left hk]
 | none =>
  simp only[hfk] at hlook hlook' hf
  have hnum:numF rows l=(rows.length,rows++[l]):=by simp only[numF,hfk]
  rw[hnum]
  refine vcE.seq (vcE.forks (fun tm' hp'=>hp'=hp++[some (Blk.row 115 [.int .i64 0])]∧tm' 0=encI.S l∧tm' 1=.ptr a 0∧tm' 2=.ptr b 0∧tm' 5=.ptr hp.length 0∧tm' 6=.bool false) ?_ ?_)
  ·repeat' (first|with_reducible exact exTs_nil|with_reducible refine exT_fork ?_|(with_reducible show exT _ _ _ (Tr.take _ _) _ _ _; refine exT_take rfl (by simp (disch:=first|assumption|omega) only[go_sem,↓reduceIte,reduceCtorEq,Nat.reduceEqDiff,↓hlook,↓hst,frzL.eq_2,hk,↓hlook',ha,ha']; rfl) ?_)|(with_reducible show exTs _ _ _ (_ :: _) _ _ _; refine exTs_cons rfl (by simp (disch:=first|assumption|omega) only[go_sem,↓reduceIte,Nat.reduceEqDiff,ha,frzL.eq_2,hk,ha']; rfl) ?_ ?_))
   all_goals (with_reducible refine exT_done ?_)
   all_goals refine⟨rfl,?_,?_,?_,?_,?_⟩
   all_goals first|(simp only[upd_app,Nat.reduceEqDiff,↓reduceIte]; done)|(simp only[upd_app,Nat.reduceEqDiff,↓reduceIte]; rfl)
  rintro tm hp' ⟨rfl,t0,t1,t2,t5,t6⟩
  have hlb:=bld_len (hp++[some (Blk.row 115 [.int .i64 0])]) rid rows.length 1
  have hlf:=bld_fits rid rows.length 1
  have hone:=bld_one rid rows.length 1
  have hfill:fillA [(0,1)] [.int .i64 0] ([0].zip [.int .i64 (rows.length:Int)])=some [.int .i64 (rows.length:Int)]:=rfl
  refine vcE.seq (vcE.step (by simp (disch:=first|assumption|omega) only[go_sem,↓reduceIte,t6]; rfl) (vcE.condTrue (by simp only[evE,upd_app,↓reduceIte]) (vcE.step (by simp (disch:=first|assumption|omega) only[go_sem,↓reduceIte,Nat.reduceEqDiff,t2,hb',↓hone,hlf,hlb,↓hfill,t5,↓hst]; rfl) ?_)))
  generalize hH:hp++[some (Blk.row 115 [.int .i64 (rows.length:Int)])]=H
  have kH:∀ k,k<hp.length→H[k]? = hp[k]?:=fun k hk=>by rw[← hH,List.getElem?_append_left hk]
  have lH:H.length=hp.length+1:=by rw[← hH]; simp
  have aH:H[a]? = some (some (.row 113 [.map mid])):=by rw[kH a la]; exact ha
  have bH:H[b]? = some (some (.row 87 [bld rid rows.length 1])):=by rw[kH b lb]; exact hb
  have mH:H[mid]? = some (some (.map (entsF 0 rows) bs c)):=by rw[kH mid lm]; exact hm
  have qH:H[hp.length]? = some (some (.row 115 [.int .i64 (rows.length:Int)])):=by rw[← hH]; exact hq _
  have rH:BldAt encR H rid 28 rows:=by rw[← hH]; exact hr.app _
  have hup:mapupA H .str (.map mid) (.str (keyI l)) (.agg [.int .i64 (rows.length:Int)])=some (H.set mid (some (.map (entsF 0 (rows++[l])) (bs++[c]) (c+1)))):=by
   simp only[mapupA,keyA,mH,hf,cond_true,Option.map_none,entsF_snoc,Nat.zero_add]
  have hpk:pickA (some 1) [.int .i64 (rows.length:Int)] 0=some (.agg [.int .i64 (rows.length:Int)]):=by simp[pickA]
  refine vcE.step (by simp (disch:=first|assumption|omega) only[go_sem,exOps.eq_2,↓reduceIte,Nat.reduceEqDiff,t1,aH,reduceCtorEq,t0,t5,qH,↓hpk,frzL.eq_2,hk,↓hup]; rfl) ?_
  generalize hG:H.set mid (some (.map (entsF 0 (rows++[l])) (bs++[c]) (c+1)))=G
  have kG:∀ k,k≠mid→G[k]? = H[k]?:=fun k hk=>by rw[← hG,List.getElem?_set_ne (Ne.symm hk)]
  have lG:G.length=hp.length+1:=by rw[← hG,List.length_set,lH]
  have aG:G[a]? = some (some (.row 113 [.map mid])):=by rw[kG a nam]; exact aH
  have bG:G[b]? = some (some (.row 87 [bld rid rows.length 1])):=by rw[kG b nbm]; exact bH
  have mG:G[mid]? = some (some (.map (entsF 0 (rows++[l])) (bs++[c]) (c+1))):=by
   rw[← hG]
   exact List.getElem?_set_self (by omega)
  have qG:G[hp.length]? = some (some (.row 115 [.int .i64 (rows.length:Int)])):=by rw[kG _ (by omega)]; exact qH
  have rG:BldAt encR G rid 28 rows:=rH.imp (fun h=>h) fun h=>by rw[kG rid nrm]; exact h
  have happ:=(rG.app [some (Blk.row 28 [encI.S l])]).more (bytes:=24) (m:=[l]) (src_row (ex:=true)) (by simp) (by simp; omega) (by simp; omega)
  simp only[show encR.sz=1 from rfl] at happ
  have hat:=BldAt.moreAt encR (G++[some (Blk.row 28 [encI.S l])]) rid rows.length 28 (rows++[l])
  generalize hJ:bldH (G++[some (Blk.row 28 [encI.S l])]) rid rows.length (Blk.row 28 (encR.cs (rows++[l])))=J at happ hat
  have lJ:J.length=hp.length+3:=by
   rw[← hJ,bldH_len,List.length_append,lG]
   rfl
  have kJ:∀ k,k<G.length→k≠rid→J[k]? = G[k]?:=by
   intro k hk hkr
   rw[← hJ,bldH]
   split
   ·rw[List.append_assoc,List.getElem?_append_left hk]
   ·rw[List.getElem?_append_left (by simp; omega),List.getElem?_set_ne (Ne.symm hkr),List.getElem?_append_left hk]
  have bJ:J[b]? = some (some (.row 87 [bld rid rows.length 1])):=by rw[kJ b (by omega) (Ne.symm nrb)]; exact bG
  have lG2:(G++[some (Blk.row 28 [encI.S l])]).length=hp.length+2:=by simp[lG]
  rw[lG2] at happ hat
  have hstb:storeA J 1 (.ptr b 0) (bld (hp.length+2) (rows++[l]).length 1)=some (J.set b (some (.row 87 [bld (hp.length+2) (rows++[l]).length 1]))):=by
   have hc:=bld_cells (hp.length+2) (rows++[l]).length 1
   have hnt:=bld_notTup (hp.length+2) (rows++[l]).length 1
   generalize bld (hp.length+2) (rows++[l]).length 1=w at *
   cases w<;>first|exact absurd rfl (hnt _)|(simp only[storeA,bJ,hc,List.length_singleton,Nat.zero_add,Nat.le_refl,and_self,if_true]; rfl)
  generalize hK:J.set b (some (.row 87 [bld (hp.length+2) (rows++[l]).length 1]))=K at hstb
  have kK:∀ k,k≠b→K[k]? = J[k]?:=fun k hk=>by rw[← hK,List.getElem?_set_ne (Ne.symm hk)]
  have qK:K[hp.length]? = some (some (.row 115 [.int .i64 (rows.length:Int)])):=by
   rw[kK _ (by omega)]
   by_cases hz:rows.length=0
   ·rw[← hJ,bldH,if_pos hz,List.append_assoc,List.getElem?_append_left (by omega)]
    exact qG
   ·have hrl:rid<hp.length:=(List.getElem?_eq_some_iff.1 (hr.resolve_left (fun e=>hz (by rw[e]; rfl)))).1
    rw[kJ _ (by omega) (by omega)]
    exact qG
  have lJb:b<J.length:=by omega
  refine vcE.ex (by simp (disch:=first|assumption|omega) only[go_sem,↓reduceIte,Nat.reduceEqDiff,t2,bG,bld_one,reduceCtorEq,t0,↓happ,↓hstb]; rfl) ?_
  refine vcE.ex (by simp (disch:=first|assumption|omega) only[go_sem,↓reduceIte,Nat.reduceEqDiff,t5,qK,faddrA]; rfl) ?_
  refine⟨_,rfl,?_,hp.length+2,⟨?_,⟨bs++[c],c+1,?_⟩,?_,?_,nab,nam,nbm,by omega,by omega,by omega⟩,.inr (by omega),?_,?_⟩
  ·simp only[upd_app,↓reduceIte]
  ·rw[kK a nab,kJ a (by omega) (Ne.symm nra)]
   exact aG
  ·rw[kK mid (Ne.symm nbm),kJ mid (by omega) (Ne.symm nrm)]
   exact mG
  ·rw[← hK]
   exact List.getElem?_set_self lJb
  ·exact hat.imp (fun h=>h) fun h=>by rw[kK _ (by omega)]; exact h
  ·intro k hk h1 h2 h3 h4
   rw[kK k h2,kJ k (by omega) h4,kG k h3,kH k hk]
  ·rw[← hK,List.length_set]
   omega
end
section
set_option linter.unusedSectionVars false
variable [Mx]
open Go
def FrzNL (hp:HP) (zs zs':List AV):Prop:=∀ (Δ Δ':Cx) (vs:List Value),HSim Δ hp→VRels Δ zs vs→Δ'.w=Δ.w→(∀ b,Live Δ hp b→Δ'.Fz b)→VRels Δ' zs' vs
theorem FrzNL.nil (hp:HP):FrzNL hp [] []:=fun Δ Δ' vs _ h2 _ _=>by simpa only[VRels] using h2
theorem FrzNL.cons {hp:HP} {a a':AV} {zs zs':List AV} (h1:FrzN hp a a') (h2:FrzNL hp zs zs'):FrzNL hp (a :: zs) (a' :: zs'):=by
 intro Δ Δ' vs k1 k2 k3 k5
 simp only[VRels] at k2 ⊢
 obtain⟨u,us,rfl,h6,h7⟩:=k2
 exact⟨u,us,rfl,h1 Δ Δ' u k1 h6 k3 k5,h2 Δ Δ' us k1 h7 k3 k5⟩
theorem FrzN.agg {hp:HP} {zs zs':List AV} (h:FrzNL hp zs zs'):FrzN hp (.agg zs) (.agg zs'):=by
 intro Δ Δ' v h1 h2 h3 h5
 simp only[VRel] at h2 ⊢
 obtain⟨us,rfl,h6,h7⟩:=h2
 exact⟨us,rfl,h Δ Δ' us h1 h6 h3 h5,h7⟩
theorem FrzN.tup {hp:HP} {zs zs':List AV} (h:FrzNL hp zs zs'):FrzN hp (.tup zs) (.tup zs'):=by
 intro Δ Δ' v h1 h2 h3 h5
 simp only[VRel] at h2 ⊢
 obtain⟨us,rfl,h6⟩:=h2
 exact⟨us,rfl,h Δ Δ' us h1 h6 h3 h5⟩
theorem FrzN.bool (hp:HP) (b:Bool):FrzN hp (.bool b) (.bool b):=fresh_ok rfl
inductive FrzNs (hp:HP):List AV→List AV→Prop where
 | nil:FrzNs hp [] []
 | cons {a a':AV} {zs zs':List AV}:FrzN hp a a'→FrzNs hp zs zs'→FrzNs hp (a :: zs) (a' :: zs')
theorem FrzNs.len {hp:HP} {zs zs':List AV} (h:FrzNs hp zs zs'):zs'.length=zs.length:=by
 induction h with
 | nil=>rfl
 | cons _ _ ih=>rw[List.length_cons,List.length_cons,ih]
theorem FrzNs.cells {hp:HP} {zs zs':List AV} (h:FrzNs hp zs zs') {Δ Δ':Cx} (h1:HSim Δ hp) (hw:Δ'.w=Δ.w) (h5:∀ b,Live Δ hp b→Δ'.Fz b):∀ {b o:Nat},CellsAt Δ zs b o→CellsAt Δ' zs' b o:=by
 induction h with
 | nil=>intro b o _; simp[CellsAt]
 | cons ha _ ih =>
  intro b o hc
  simp only[CellsAt] at hc ⊢
  obtain⟨⟨v,k1,k2,k3⟩,k4⟩:=hc
  exact⟨⟨v,by rw[hw]; exact k1,k2,ha Δ Δ' v h1 k3 hw h5⟩,ih k4⟩
theorem FrzN.sl {hp:HP} {id len lo:Nat} {ex:Bool} {e:TypeId} {cs cs':List AV} (hx:hp[id]? = some (some (.row e cs))) (hl:cs.length=len) (h:FrzNs hp cs cs'):FrzN hp (.sl id 0 len 1 lo ex) (.fsl cs' len):=by
 intro Δ Δ' v h1 h2 h3 h5
 simp only[VRel] at h2 ⊢
 obtain⟨hi,o,c,e',m,rfl,ho,k1,k2,k3,k4,k5⟩:=h2
 refine .inr ⟨_,o,c,rfl,by omega,.inr (h5 _ ⟨id,_,hx,rfl⟩),?_⟩
 have:=sl_cells h1 hx ho (by omega) (by omega:0+len*1≤cs.length)
 rw[List.drop_zero,List.take_of_length_le (by omega)] at this
 exact h.cells h1 h3 h5 this
theorem app_raw {hp:HP} {id:Nat} {e:TypeId} {cs ms:List AV} {bytes:Nat} {x:AV} (h:cs=[]∨hp[id]? = some (some (.row e cs))) (hx:srcA hp 1 x=some (ms,ms.length)) (hm:0<ms.length) (hb:(cs.length+ms.length)*bytes≤140737488355328) (hn:cs.length+ms.length≤9223372036854775807) :
  ∃ hp',appA e 1 bytes hp (bld id cs.length 1) x=some (bld hp.length (cs++ms).length 1,hp')∧hp'[hp.length]? = some (some (.row e (cs++ms)))∧(∀ k,k<hp.length→(cs=[]∨k≠id)→hp'[k]? = hp[k]?)∧hp'.length=hp.length+1:=by
 have hpos:0<(cs++ms).length:=by simp; omega
 rw[bld_pos hpos]
 by_cases h0:cs.length=0
 ·have:=List.eq_nil_of_length_eq_zero h0
  subst this
  refine⟨hp++[some (.row e ms)],?_,?_,?_,?_⟩
  ·simp only[bld,List.length_nil,if_true,appA,hx]
   rw[if_neg (by omega),if_pos ⟨by simpa using hb,by simpa using hn⟩]
   simp
  ·simp
  ·intro k hk _
   rw[List.getElem?_append_left hk]
  ·simp
 ·have hr:=h.resolve_left (fun e=>h0 (by rw[e]; rfl))
  rw[bld_pos (by omega)]
  refine⟨hp.set id none++[some (.row e (cs++ms))],?_,?_,?_,?_⟩
  ·simp only[appA,hx,hr]
   rw[if_neg (by omega),if_pos ⟨trivial,by omega⟩,if_neg (by omega),if_pos ⟨hb,hn⟩]
   simp only[Bool.false_eq_true,if_false,List.drop_zero]
   rw[if_pos ⟨by omega,trivial⟩,List.length_append]
  ·rw[List.getElem?_append_right (by simp)]
   simp
  ·intro k hk hne
   have hne:k≠id:=hne.resolve_left (fun e=>h0 (by rw[e]; rfl))
   rw[List.getElem?_append_left (by simpa using hk),List.getElem?_set_ne (Ne.symm hne)]
  ·simp
theorem src_cell {hp:HP} {e:TypeId} {a:AV} {ex:Bool}:srcA (hp++[some (.row e [a])]) 1 (.sl hp.length 0 1 1 1 ex)=some ([a],1):=by
 simp[srcA]
end
section
set_option linter.unusedSectionVars false
variable [Mx]
open Go Go.Proofs
structure Pcs (hp:HP) (L:List (Nat × TypeId × List AV)):Prop where
 at_:∀ q ∈ L,q.2.2=[]∨(6≤q.1∧hp[q.1]? = some (some (.row q.2.1 q.2.2)))
 ne:L.Pairwise fun q r=>q.2.2=[]∨r.2.2=[]∨q.1≠r.1
theorem Pcs.perm {hp:HP} {L L':List (Nat × TypeId × List AV)} (h:Pcs hp L) (hl:L.Perm L'):Pcs hp L':=
 ⟨fun q hq=>h.at_ q (hl.mem_iff.2 hq),(hl.pairwise_iff (fun {a b} h=>h.elim (fun h=>.inr (.inl h)) fun h=>h.elim .inl fun h=>.inr (.inr (Ne.symm h)))).1 h.ne⟩
theorem Pcs.step {hp hp':HP} {q q':Nat × TypeId × List AV} {L:List (Nat × TypeId × List AV)} (h:Pcs hp (q :: L)) (hk:∀ k,6≤k→k<hp.length→(q.2.2=[]∨k≠q.1)→hp'[k]? = hp[k]?) (h6:6≤q'.1) (hq:hp'[q'.1]? = some (some (.row q'.2.1 q'.2.2))) (hn:hp.length≤q'.1∨q'.1=q.1∧q.2.2≠[]):Pcs hp' (q' :: L):=by
 have hne:=List.pairwise_cons.1 h.ne
 have hlt:∀ r ∈ L,r.2.2=[]∨(6≤r.1∧r.1<hp.length∧hp[r.1]? = some (some (.row r.2.1 r.2.2))∧(q.2.2=[]∨r.1≠q.1)):=by
  intro r hr
  rcases h.at_ r (List.mem_cons_of_mem _ hr) with h1|⟨h1,h2⟩
  ·exact .inl h1
  rcases hne.1 r hr with h3|h3|h3
  ·exact .inr ⟨h1,(List.getElem?_eq_some_iff.1 h2).1,h2,.inl h3⟩
  ·exact .inl h3
  ·exact .inr ⟨h1,(List.getElem?_eq_some_iff.1 h2).1,h2,.inr (Ne.symm h3)⟩
 refine⟨fun r hr=>?_,List.pairwise_cons.2 ⟨fun r hr=>?_,hne.2⟩⟩
 ·rcases List.mem_cons.1 hr with rfl|hr
  ·exact .inr ⟨h6,hq⟩
  ·rcases hlt r hr with h1|⟨h1,h2,h3,h4⟩
   ·exact .inl h1
   ·exact .inr ⟨h1,by rw[hk r.1 h1 h2 h4]; exact h3⟩
 ·rcases hlt r hr with h1|⟨h1,h2,h3,h4⟩
  ·exact .inr (.inl h1)
  ·refine .inr (.inr ?_)
   rcases hn with hn|⟨hn,hn'⟩
   ·omega
   ·rw[hn]
    exact Ne.symm (h4.resolve_left hn')
theorem Pcs.keep {hp hp':HP} {L:List (Nat × TypeId × List AV)} (h:Pcs hp L) (hk:∀ k,6≤k→k<hp.length→hp'[k]? = hp[k]?):Pcs hp' L:=
 ⟨fun q hq=>(h.at_ q hq).imp (fun h=>h) fun ⟨h1,h2⟩=>⟨h1,by rw[hk q.1 h1 (List.getElem?_eq_some_iff.1 h2).1]; exact h2⟩,h.ne⟩
theorem Pcs.nil {hp:HP} {L:List (Nat × TypeId × List AV)} (h:Pcs hp L) (i:Nat) (e:TypeId):Pcs hp ((i,e,[]) :: L):=
 ⟨fun q hq=>by
  rcases List.mem_cons.1 hq with rfl|hq
  ·exact .inl rfl
  ·exact h.at_ q hq,List.pairwise_cons.2 ⟨fun _ _=>.inl rfl,h.ne⟩⟩
theorem Met.keep {hp hp':HP} {a b mid rid:Nat} {rows:List (List Int)} (h:Met hp a b mid rid rows) (ka:hp'[a]? = hp[a]?) (kb:hp'[b]? = hp[b]?) (km:hp'[mid]? = hp[mid]?) (kr:rows=[]∨hp'[rid]? = hp[rid]?):Met hp' a b mid rid rows:=by
 obtain⟨ha,⟨bs,c,hm⟩,hb,hr,n1,n2,n3,n4,n5,n6⟩:=h
 refine⟨by rw[ka]; exact ha,⟨bs,c,by rw[km]; exact hm⟩,by rw[kb]; exact hb,?_,n1,n2,n3,n4,n5,n6⟩
 rcases kr with kr|kr
 ·exact .inl kr
 ·exact hr.imp (fun h=>h) fun h=>by rw[kr]; exact h
def finC (fin:List (Nat × List Int)):List AV:=fin.map fun q=>bld q.1 q.2.length 1
def finP (fin:List (Nat × List Int)):List (Nat × TypeId × List AV):=fin.map fun q=>(q.1,3,encI.cs q.2)
structure Bs (hp:HP) (rid:Nat) (rows:List (List Int)) (nxid acid nid:Nat) (fin:List (Nat × List Int)) (accs:List Bool) (next cls:List Int) (lo:Nat) (ex:Bool):Prop where
 met:Met hp 4 5 3 rid rows
 r0:hp[0]? = some (some (.row 90 [.nils,.nils,.nils]))
 r1:hp[1]? = some (some (.row 110 (encI.cs cls)))
 r2:hp[2]? = some (some (.row 90 [.sl 1 0 256 1 lo ex,bld nxid fin.length 1,bld acid accs.length 1]))
 pcs:Pcs hp ((nid,3,encI.cs next) :: (rid,28,encR.cs rows) :: (nxid,28,finC fin) :: (acid,4,encT.cs accs) :: finP fin)
 len:6≤hp.length
section
variable {hp:HP} {rid nxid acid nid lo:Nat} {rows:List (List Int)} {fin:List (Nat × List Int)} {accs:List Bool} {next cls:List Int} {ex:Bool}
theorem encI_nil {l:List Int} (h:encI.cs l=[]):l=[]:=by
 rw[encI_cs,List.map_eq_nil_iff] at h
 exact h
theorem encI_len (l:List Int):(encI.cs l).length=l.length:=by rw[encI_cs,List.length_map]
theorem encR_len (l:List (List Int)):(encR.cs l).length=l.length:=by
 have:=encR.cs_len l
 rw[this]
 exact Nat.mul_one _
theorem encT_len (l:List Bool):(encT.cs l).length=l.length:=by
 have:=encT.cs_len l
 rw[this]
 exact Nat.mul_one _
theorem Bs.app (h:Bs hp rid rows nxid acid nid fin accs next cls lo ex) (v:Int) (hl:next.length≤1000000):∃ hp',appA 3 1 8 (hp++[some (.row 3 [.int .i64 v])]) (bld nid next.length 1) (.sl hp.length 0 1 1 1 true)=some (bld (hp.length+1) (next++[v]).length 1,hp')∧Bs hp' rid rows nxid acid (hp.length+1) fin accs (next++[v]) cls lo ex:=by
 obtain⟨met,r0,r1,r2,pcs,len⟩:=h
 have h1:=pcs.at_ _ (List.mem_cons_self ..)
 simp only at h1
 have hk1:∀ k,k<hp.length→(hp++[some (Blk.row 3 [.int .i64 v])])[k]? = hp[k]?:=fun k hk=>List.getElem?_append_left hk
 obtain⟨hp',ha,hn,ho,hl'⟩:=app_raw (hp:=hp++[some (Blk.row 3 [.int .i64 v])]) (id:=nid) (e:=3) (cs:=encI.cs next) (ms:=[.int .i64 v]) (bytes:=8) (x:=.sl hp.length 0 1 1 1 true) (h1.imp (fun h=>h) fun h=>by rw[hk1 _ (List.getElem?_eq_some_iff.1 h.2).1]; exact h.2) src_cell (by simp) (by rw[encI_len]; simp; omega) (by rw[encI_len]; simp; omega)
 rw[show encI.cs next++[.int .i64 v]=encI.cs (next++[v]) by rw[encI_cs,encI_cs,List.map_append]; rfl] at ha hn
 rw[encI_len,encI_len,List.length_append,List.length_singleton] at ha
 rw[List.length_append,List.length_singleton] at hn hl' ho
 have hkp:∀ k,k<hp.length→(encI.cs next=[]∨k≠nid)→hp'[k]? = hp[k]?:=fun k hk hne=>by rw[ho k (by omega) hne,hk1 k hk]
 have low:∀ k,k<6→hp'[k]? = hp[k]?:=by
  intro k hk
  refine hkp k (by omega) ?_
  rcases h1 with h1|h1
  ·exact .inl h1
  ·exact .inr (by omega)
 refine⟨hp',by rw[ha],⟨met.keep (low 4 (by omega)) (low 5 (by omega)) (low 3 (by omega)) ?_,by rw[low 0 (by omega)]; exact r0,by rw[low 1 (by omega)]; exact r1,by rw[low 2 (by omega)]; exact r2,?_,by omega⟩⟩
 ·by_cases hz:rows=[]
  ·exact .inl hz
  ·have hr:=met.hr.resolve_left hz
   right
   refine hkp rid (List.getElem?_eq_some_iff.1 hr).1 ?_
   rcases (List.pairwise_cons.1 pcs.ne).1 _ (List.mem_cons_self ..) with h|h|h
   ·exact .inl h
   ·exact absurd (List.eq_nil_of_length_eq_zero (by rw[← encR_len]; simp only at h; rw[h]; rfl)) hz
   ·exact .inr (Ne.symm h)
 ·refine pcs.step (fun k h6 hk hne=>hkp k hk hne) (by simp; omega) (by simp only; exact hn) (.inl (by simp))
theorem Bs.rows_at (h:Bs hp rid rows nxid acid nid fin accs next cls lo ex) (hz:rows≠[]):6≤rid∧hp[rid]? = some (some (.row 28 (encR.cs rows))):=by
 refine (h.pcs.at_ _ (List.mem_cons_of_mem _ (List.mem_cons_self ..))).resolve_left ?_
 intro e
 exact hz (List.eq_nil_of_length_eq_zero (by rw[← encR_len]; simp only at e; rw[e]; rfl))
theorem Bs.num (h:Bs hp rid rows nxid acid nid fin accs next cls lo ex) {hp':HP} {rid':Nat} {rows':List (List Int)} (hz:rows'≠[]) (hm:Met hp' 4 5 3 rid' rows') (hr:rid'=rid∧rows≠[]∨hp.length≤rid') (ho:∀ k,k<hp.length→k≠4→k≠5→k≠3→k≠rid→hp'[k]? = hp[k]?) (hl:hp.length≤hp'.length) (h6:rows=[]→rid=6∧hp.length=6):Bs hp' rid' rows' nxid acid nid fin accs next cls lo ex:=by
 have hrr:=fun hz=>h.rows_at hz
 obtain⟨met,r0,r1,r2,pcs,len⟩:=h
 have hrid:6≤rid:=by
  by_cases e:rows=[]
  ·have:=(h6 e).1
   omega
  ·exact (hrr e).1
 have h2:Pcs hp ((rid,28,encR.cs rows) :: (nid,3,encI.cs next) :: (nxid,28,finC fin) :: (acid,4,encT.cs accs) :: finP fin):=pcs.perm (List.Perm.swap _ _ _)
 have h3:Pcs hp' ((rid',28,encR.cs rows') :: (nid,3,encI.cs next) :: (nxid,28,finC fin) :: (acid,4,encT.cs accs) :: finP fin):=by
  refine h2.step ?_ ?_ ?_ ?_
  ·intro k k6 hk hne
   by_cases e:rows=[]
   ·have:=(h6 e).2
    omega
   ·refine ho k hk (by omega) (by omega) (by omega) ?_
    refine hne.resolve_left ?_
    intro e2
    exact e (List.eq_nil_of_length_eq_zero (by rw[← encR_len]; simp only at e2; rw[e2]; rfl))
  ·simp only
   rcases hr with hr|hr<;>omega
  ·exact hm.hr.resolve_left hz
  ·rcases hr with ⟨hr,hr2⟩|hr
   ·refine .inr ⟨hr,?_⟩
    intro e2
    exact hr2 (List.eq_nil_of_length_eq_zero (by rw[← encR_len]; simp only at e2; rw[e2]; rfl))
   ·exact .inl hr
 exact⟨hm,by rw[ho 0 (by omega) (by omega) (by omega) (by omega) (by omega)]; exact r0,by rw[ho 1 (by omega) (by omega) (by omega) (by omega) (by omega)]; exact r1,by rw[ho 2 (by omega) (by omega) (by omega) (by omega) (by omega)]; exact r2,h3.perm (List.Perm.swap _ _ _),by omega⟩
theorem bld_store {hp:HP} {k off:Nat} {e:TypeId} {cs:List AV} {id n:Nat} (h:hp[k]? = some (some (.row e cs))) (ho:off<cs.length):storeA hp 1 (.ptr k off) (bld id n 1)=some (hp.set k (some (.row e (cs.set off (bld id n 1))))):=by
 have hc:=bld_cells id n 1
 have hnt:=bld_notTup id n 1
 have hov:over cs off [bld id n 1]=cs.set off (bld id n 1):=by
  rw[over,List.length_singleton,List.set_eq_take_append_cons_drop,if_pos ho,List.append_assoc]
  rfl
 generalize bld id n 1=w at *
 cases w<;>first|exact absurd rfl (hnt _)|(simp only[storeA,h,hc,List.length_singleton]; rw[if_pos ⟨trivial,by omega⟩,hov])
theorem finC_len (fin:List (Nat × List Int)):(finC fin).length=fin.length:=by simp[finC]
theorem Bs.more (h:Bs hp rid rows nxid acid nid fin accs next cls lo ex) (hz:rows≠[]) (hl:fin.length≤1000000):∃ hp' hp'',appA 28 1 24 (hp++[some (.row 28 [bld nid next.length 1])]) (bld nxid fin.length 1) (.sl hp.length 0 1 1 1 true)=some (bld (hp.length+1) (fin.length+1) 1,hp')∧hp'[2]? = hp[2]?∧storeA hp' 1 (.ptr 2 1) (bld (hp.length+1) (fin.length+1) 1)=some hp''∧Bs hp'' rid rows (hp.length+1) acid 0 (fin++[(nid,next)]) accs [] cls lo ex:=by
 have hra:=h.rows_at hz
 obtain⟨met,r0,r1,r2,pcs,len⟩:=h
 have p2:Pcs hp ((nxid,28,finC fin) :: (nid,3,encI.cs next) :: (rid,28,encR.cs rows) :: (acid,4,encT.cs accs) :: finP fin):=pcs.perm ((List.Perm.cons _ (List.Perm.swap _ _ _)).trans (List.Perm.swap _ _ _))
 have h1:=p2.at_ _ (List.mem_cons_self ..)
 simp only at h1
 have hk1:∀ k,k<hp.length→(hp++[some (Blk.row 28 [bld nid next.length 1])])[k]? = hp[k]?:=fun k hk=>List.getElem?_append_left hk
 obtain⟨hp',ha,hn,ho,hl'⟩:=app_raw (hp:=hp++[some (Blk.row 28 [bld nid next.length 1])]) (id:=nxid) (e:=28) (cs:=finC fin) (ms:=[bld nid next.length 1]) (bytes:=24) (x:=.sl hp.length 0 1 1 1 true) (h1.imp (fun h=>h) fun h=>by rw[hk1 _ (List.getElem?_eq_some_iff.1 h.2).1]; exact h.2) src_cell (by simp) (by rw[finC_len]; simp; omega) (by rw[finC_len]; simp; omega)
 rw[show finC fin++[bld nid next.length 1]=finC (fin++[(nid,next)]) by simp[finC]] at ha hn
 rw[finC_len,finC_len,List.length_append,List.length_singleton] at ha
 rw[List.length_append,List.length_singleton] at hn hl' ho
 have hkp:∀ k,k<hp.length→(finC fin=[]∨k≠nxid)→hp'[k]? = hp[k]?:=fun k hk hne=>by rw[ho k (by omega) hne,hk1 k hk]
 have low:∀ k,k<6→hp'[k]? = hp[k]?:=by
  intro k hk
  refine hkp k (by omega) ?_
  rcases h1 with h1|h1
  ·exact .inl h1
  ·exact .inr (by omega)
 have hp2:=low 2 (by omega)
 have hst:=bld_store (id:=hp.length+1) (n:=fin.length+1) (off:=1) (hp2.trans r2) (by simp)
 have p3:Pcs hp' ((hp.length+1,28,finC (fin++[(nid,next)])) :: (nid,3,encI.cs next) :: (rid,28,encR.cs rows) :: (acid,4,encT.cs accs) :: finP fin):=p2.step (fun k h6 hk hne=>hkp k hk hne) (by simp only; omega) (by simp only; exact hn) (.inl (by simp only; omega))
 have hrp:hp'[rid]? = hp[rid]?:=by
  refine hkp rid (List.getElem?_eq_some_iff.1 hra.2).1 ?_
  rcases (List.pairwise_cons.1 p2.ne).1 _ (List.mem_cons_of_mem _ (List.mem_cons_self ..)) with h|h|h
  ·exact .inl h
  ·exact absurd (List.eq_nil_of_length_eq_zero (by rw[← encR_len]; simp only at h; rw[h]; rfl)) hz
  ·exact .inr (Ne.symm h)
 refine⟨hp',_,by rw[ha]; simp only[List.length_append,List.length_singleton],hp2,hst,?_⟩
 have ks:∀ k,k≠2→(hp'.set 2 (some (Blk.row 90 (([AV.sl 1 0 256 1 lo ex,bld nxid fin.length 1,bld acid accs.length 1]:List AV).set 1 (bld (hp.length+1) (fin.length+1) 1)))))[k]? = hp'[k]?:=fun k hk=>List.getElem?_set_ne (Ne.symm hk)
 refine⟨met.keep ?_ ?_ ?_ (.inr ?_),?_,?_,?_,?_,?_⟩
 ·rw[ks 4 (by omega),low 4 (by omega)]
 ·rw[ks 5 (by omega),low 5 (by omega)]
 ·rw[ks 3 (by omega),low 3 (by omega)]
 ·rw[ks rid (by omega),hrp]
 ·rw[ks 0 (by omega),low 0 (by omega)]
  exact r0
 ·rw[ks 1 (by omega),low 1 (by omega)]
  exact r1
 ·rw[List.getElem?_set_self (by omega)]
  simp only[List.length_append,List.length_singleton]
  rfl
 ·have p4:Pcs _ _:=p3.keep (hp':=hp'.set 2 (some (Blk.row 90 (([AV.sl 1 0 256 1 lo ex,bld nxid fin.length 1,bld acid accs.length 1]:List AV).set 1 (bld (hp.length+1) (fin.length+1) 1))))) (fun k h6 hk=>ks k (by omega))
  refine Pcs.nil ?_ 0 3
  refine p4.perm ?_
  rw[show finP (fin++[(nid,next)])=finP fin++[(nid,3,encI.cs next)] by simp[finP]]
  refine (List.Perm.cons _ (List.Perm.trans (List.Perm.swap _ _ _) (List.Perm.cons _ ((List.Perm.swap _ _ _).trans (List.Perm.cons _ (List.perm_append_singleton _ _).symm))))).trans (List.Perm.swap _ _ _)
 ·rw[List.length_set]
  omega
theorem Bs.acc (h:Bs hp rid rows nxid acid nid fin accs next cls lo ex) (hz:rows≠[]) (hl:accs.length≤1000000) (b:Bool):∃ hp' hp'',appA 4 1 1 (hp++[some (.row 4 [.bool b])]) (bld acid accs.length 1) (.sl hp.length 0 1 1 1 true)=some (bld (hp.length+1) (accs.length+1) 1,hp')∧hp'[2]? = hp[2]?∧storeA hp' 1 (.ptr 2 2) (bld (hp.length+1) (accs.length+1) 1)=some hp''∧Bs hp'' rid rows nxid (hp.length+1) nid fin (accs++[b]) next cls lo ex:=by
 have hra:=h.rows_at hz
 obtain⟨met,r0,r1,r2,pcs,len⟩:=h
 have pp:((nid,3,encI.cs next) :: (rid,28,encR.cs rows) :: (nxid,28,finC fin) :: (acid,4,encT.cs accs) :: finP fin:List (Nat × TypeId × List AV)).Perm ((acid,4,encT.cs accs) :: (nid,3,encI.cs next) :: (rid,28,encR.cs rows) :: (nxid,28,finC fin) :: finP fin):=((List.Perm.cons _ (List.Perm.cons _ (List.Perm.swap _ _ _))).trans (List.Perm.cons _ (List.Perm.swap _ _ _))).trans (List.Perm.swap _ _ _)
 have p2:=pcs.perm pp
 have h1:=p2.at_ _ (List.mem_cons_self ..)
 simp only at h1
 have hk1:∀ k,k<hp.length→(hp++[some (Blk.row 4 [.bool b])])[k]? = hp[k]?:=fun k hk=>List.getElem?_append_left hk
 obtain⟨hp',ha,hn,ho,hl'⟩:=app_raw (hp:=hp++[some (Blk.row 4 [.bool b])]) (id:=acid) (e:=4) (cs:=encT.cs accs) (ms:=[.bool b]) (bytes:=1) (x:=.sl hp.length 0 1 1 1 true) (h1.imp (fun h=>h) fun h=>by rw[hk1 _ (List.getElem?_eq_some_iff.1 h.2).1]; exact h.2) src_cell (by simp) (by rw[encT_len]; simp; omega) (by rw[encT_len]; simp; omega)
 rw[show encT.cs accs++[.bool b]=encT.cs (accs++[b]) by rw[encT.cs_app]; rfl] at ha hn
 rw[encT_len,encT_len,List.length_append,List.length_singleton] at ha
 rw[List.length_append,List.length_singleton] at hn hl' ho
 have hkp:∀ k,k<hp.length→(encT.cs accs=[]∨k≠acid)→hp'[k]? = hp[k]?:=fun k hk hne=>by rw[ho k (by omega) hne,hk1 k hk]
 have low:∀ k,k<6→hp'[k]? = hp[k]?:=by
  intro k hk
  refine hkp k (by omega) ?_
  rcases h1 with h1|h1
  ·exact .inl h1
  ·exact .inr (by omega)
 have hp2:=low 2 (by omega)
 have hst:=bld_store (id:=hp.length+1) (n:=accs.length+1) (off:=2) (hp2.trans r2) (by simp)
 have p3:Pcs hp' ((hp.length+1,4,encT.cs (accs++[b])) :: (nid,3,encI.cs next) :: (rid,28,encR.cs rows) :: (nxid,28,finC fin) :: finP fin):=p2.step (fun k h6 hk hne=>hkp k hk hne) (by simp only; omega) (by simp only; exact hn) (.inl (by simp only; omega))
 have hrp:hp'[rid]? = hp[rid]?:=by
  refine hkp rid (List.getElem?_eq_some_iff.1 hra.2).1 ?_
  rcases (List.pairwise_cons.1 p2.ne).1 _ (List.mem_cons_of_mem _ (List.mem_cons_self ..)) with h|h|h
  ·exact .inl h
  ·exact absurd (List.eq_nil_of_length_eq_zero (by rw[← encR_len]; simp only at h; rw[h]; rfl)) hz
  ·exact .inr (Ne.symm h)
 refine⟨hp',_,by rw[ha]; simp only[List.length_append,List.length_singleton],hp2,hst,?_⟩
 have ks:∀ k,k≠2→(hp'.set 2 (some (Blk.row 90 (([AV.sl 1 0 256 1 lo ex,bld nxid fin.length 1,bld acid accs.length 1]:List AV).set 2 (bld (hp.length+1) (accs.length+1) 1)))))[k]? = hp'[k]?:=fun k hk=>List.getElem?_set_ne (Ne.symm hk)
 refine⟨met.keep ?_ ?_ ?_ (.inr ?_),?_,?_,?_,?_,?_⟩
 ·rw[ks 4 (by omega),low 4 (by omega)]
 ·rw[ks 5 (by omega),low 5 (by omega)]
 ·rw[ks 3 (by omega),low 3 (by omega)]
 ·rw[ks rid (by omega),hrp]
 ·rw[ks 0 (by omega),low 0 (by omega)]
  exact r0
 ·rw[ks 1 (by omega),low 1 (by omega)]
  exact r1
 ·rw[List.getElem?_set_self (by omega)]
  simp only[List.length_append,List.length_singleton]
  rfl
 ·have p4:Pcs _ _:=p3.keep (hp':=hp'.set 2 (some (Blk.row 90 (([AV.sl 1 0 256 1 lo ex,bld nxid fin.length 1,bld acid accs.length 1]:List AV).set 2 (bld (hp.length+1) (accs.length+1) 1))))) (fun k h6 hk=>ks k (by omega))
  exact p4.perm ((List.Perm.swap _ _ _).trans ((List.Perm.cons _ (List.Perm.swap _ _ _)).trans (List.Perm.cons _ (List.Perm.cons _ (List.Perm.swap _ _ _)))))
 ·rw[List.length_set]
  omega
theorem finC_frz {hp':HP}:∀ (fin:List (Nat × List Int)),(∀ q ∈ fin,q.2=[]∨hp'[q.1]? = some (some (.row 3 (encI.cs q.2))))→FrzNs hp' (finC fin) (encR.cs (fin.map (·.2)))
 | [],_=>FrzNs.nil
 | q :: fin,hat=>by
  have hb:BldAt encI hp' q.1 3 q.2:=hat q (List.mem_cons_self ..)
  exact FrzNs.cons (fresh_ok hb.fresh) (finC_frz fin fun q hq=>hat q (List.mem_cons_of_mem _ hq))
theorem Bs.frz (h:Bs hp rid rows nxid acid nid fin accs next cls lo ex) (hc:cls.length=256) {hp':HP} (hk:∀ k,1≤k→hp'[k]? = hp[k]?):FrzN hp' (.tup [.agg [.sl 1 0 256 1 lo ex,bld nxid fin.length 1,bld acid accs.length 1],.bool true]) (.tup [.agg (Dfa.c ⟨cls,fin.map (·.2),accs⟩),.bool true]):=by
 obtain⟨met,r0,r1,r2,pcs,len⟩:=h
 refine FrzN.tup (FrzNL.cons (FrzN.agg (FrzNL.cons ?_ (FrzNL.cons ?_ (FrzNL.cons ?_ (FrzNL.nil _))))) (FrzNL.cons (FrzN.bool _ _) (FrzNL.nil _)))
 ·refine fresh_ok ?_
  have:=encI.sl_fresh (lo:=lo) (ex:=ex) (hp:=hp') (id:=1) (e:=110) (l:=cls) (by rw[hk 1 (Nat.le_refl _)]; exact r1)
  rw[hc] at this
  exact this
 ·have h1:=pcs.at_ (nxid,28,finC fin) (by simp)
  simp only at h1
  rw[bld]
  split
  ·rename_i h0
   have:fin=[]:=List.eq_nil_of_length_eq_zero h0
   subst this
   exact fresh_ok rfl
  ·rename_i h0
   have h1:=h1.resolve_left (fun e=>h0 (by rw[← finC_len,e]; rfl))
   have hfs:FrzNs hp' (finC fin) (encR.cs (fin.map (·.2))):=by
    have hat:∀ q ∈ fin,q.2=[]∨hp'[q.1]? = some (some (.row 3 (encI.cs q.2))):=by
     intro q hq
     rcases pcs.at_ (q.1,3,encI.cs q.2) (by simp only[List.mem_cons]; exact .inr (.inr (.inr (.inr (List.mem_map.2 ⟨q,hq,rfl⟩))))) with h|⟨h,h'⟩
     ·exact .inl (encI_nil h)
     ·exact .inr (by rw[hk q.1 (by simp only at h; omega)]; exact h')
    exact finC_frz fin hat
   have:=FrzN.sl (lo:=fin.length) (ex:=false) (len:=fin.length) (hk nxid (by omega) ▸ h1.2) (finC_len fin) hfs
   simpa only[Enc.S,List.length_map] using this
 ·have h1:=pcs.at_ (acid,4,encT.cs accs) (by simp)
  simp only at h1
  have hb:BldAt encT hp' acid 4 accs:=by
   rcases h1 with h1|⟨h1,h2⟩
   ·exact .inl (List.eq_nil_of_length_eq_zero (by rw[← encT_len,h1]; rfl))
   ·exact .inr (by rw[hk acid (by omega)]; exact h2)
  exact fresh_ok hb.fresh
end
end
section
set_option linter.unusedSectionVars false
variable [Mx]
open Go Go.Proofs
def stepI (x:Option (List UInt8 × Bool)) (row:List Int) (c:Int):List Int:=lst (nN x) (stepV x (ofS row) (UInt8.ofNat (c % 256).toNat))
def startI (x:Option (List UInt8 × Bool)):List Int:=lst (nN x) (startV x)
def accI (x:Option (List UInt8 × Bool)) (row:List Int):Bool:=accV x (ofS row)
theorem lstLen (N:Nat) (b:Nat→Bool):(lst N b).length≤N:=by
 have:=listTo_len (rowB N b) (rowB N b).length
 rw[rowB_len] at this
 rw[lst,listB,rowB_len]
 exact this
def nxF (st:List Int→Int→List Int) (row:List Int) (s:List Int × List (List Int)) (c:Int):List Int × List (List Int):=
 if c<0 then (s.1++[0],s.2) else (s.1++[((numF s.2 (st row c)).1:Int)],(numF s.2 (st row c)).2)
def nextF (st:List Int→Int→List Int) (some_:List Int) (rows:List (List Int)) (row:List Int):List Int × List (List Int):=some_.foldl (nxF st row) ([],rows)
def bldF (st:List Int→Int→List Int) (ac:List Int→Bool) (some_:List Int) (most:Nat):Nat→Nat→List (List Int)→List (List Int)→List Bool→Option (List (List Int) × List Bool)
 | 0,_,_,_,_=>none
 | k+1,i,rows,nx,acs =>
  match rows[i]? with
  | none=>some (nx,acs)
  | some row=>if rows.length > most then none else bldF st ac some_ most k (i+1) (nextF st some_ rows row).2 (nx++[(nextF st some_ rows row).1]) (acs++[ac row])
def buildR (p:List UInt8) (f:Bool) (most:Nat):Option (List (List Int) × List Bool):=bldF (stepI (newV p f)) (accI (newV p f)) (someL (patP (newV p f)) f) most (most+1) 0 [startI (newV p f)] [] []
def noDfa:Dfa:=⟨[],[],[]⟩
def buildF (p:List UInt8) (f:Bool) (most:Int):Dfa × Bool:=
 if checkG p≠0∨most<1∨256<most then (noDfa,false) else
 match buildR p f most.toNat with
 | some (nx,ac)=>(⟨clsL (patP (newV p f)) f,nx,ac⟩,true)
 | none=>(noDfa,false)
theorem numF_len (rows:List (List Int)) (l:List Int):(numF rows l).2.length≤rows.length+1∧rows.length≤(numF rows l).2.length:=by
 unfold numF
 split
 ·exact⟨Nat.le_succ _,Nat.le_refl _⟩
 ·rw[List.length_append,List.length_singleton]
  omega
theorem numF_ne (rows:List (List Int)) (l:List Int):(numF rows l).2≠[]:=by
 unfold numF
 split
 ·rename_i j h
  intro e
  simp only at e
  rw[e] at h
  cases h
 ·simp
theorem numF_all {rows:List (List Int)} {l:List Int} {B:Nat} (h:∀ r ∈ rows,r.length≤B) (hl:l.length≤B):∀ r ∈ (numF rows l).2,r.length≤B:=by
 unfold numF
 split
 ·exact h
 ·intro r hr
  rcases List.mem_append.1 hr with h1|h1
  ·exact h r h1
  ·rw[List.mem_singleton] at h1
   rw[h1]
   exact hl
def M0:Tab:=(((((Tab.none.addO 47 (.cons .str (.cons .bool .nil)) fun p=>if p.1.length≤300 then some (.rd true (.tup [nV (newV p.1 p.2.1),.int .i64 (checkG p.1)])) else none).addR 58 (.cons .nfa .nil) fun p=>.rd true (.tup [.str (patP p.1),.bool (patF p.1)])).addO 59 (.cons .str (.cons .bool .nil)) fun p=>if p.1.length≤1000 then some (.rd true (.tup [.agg (encI.cs (clsL p.1 p.2.1)),encI.S (someL p.1 p.2.1)])) else none).addO 62 (.cons .nfa .nil) fun p=>if okW p.1 then some (.rd true (encI.S (startI p.1))) else none).addO 63 (.cons .nfa (.cons (.S encI) (.cons .byte .nil))) fun p=>if okW p.1∧p.2.1.length≤1000000 then some (.rd true (encI.S (lst (nN p.1) (stepV p.1 (ofS p.2.1) p.2.2.1)))) else none).addO 64 (.cons .nfa (.cons (.S encI) .nil)) fun p=>if okW p.1∧p.2.1.length≤1000000 then some (.rd true (.bool (accI p.1 p.2.1))) else none
theorem M0_ok:TabOk Tryz.prog M0:=by
 refine TabOk.addO (TabOk.addO (TabOk.addO (TabOk.addO (TabOk.addR (TabOk.addO (TabOk.none _) ?_) ?_) ?_) ?_) ?_) ?_
 ·intro p r h
  split at h
  ·rename_i hv; cases h; exact pNew p.1 p.2.1 hv
  ·cases h
 ·exact fun p=>pPatternV p.1
 ·intro p r h
  split at h
  ·rename_i hv; cases h; exact pClasses p.1 p.2.1 hv
  ·cases h
 ·intro p r h
  split at h
  ·rename_i hv; cases h; exact pStartM p.1 hv
  ·cases h
 ·intro p r h
  split at h
  ·rename_i hv; cases h; exact pStepM p.1 hv.1 p.2.1 hv.2 p.2.2.1
  ·cases h
 ·intro p r h
  split at h
  ·rename_i hv; cases h; exact pAccepts p.1 hv.1 p.2.1 hv.2
  ·cases h
theorem M0_acc {x:Option (List UInt8 × Bool)} (h:okW x) {l:List Int} (hl:l.length≤1000000):M0 64 [nV x,encI.S l]=some (.rd true (.bool (accI x l))):=
 (Tab.addO_self _ _ (.cons .nfa (.cons (.S encI) .nil)) _ (x,l,())).trans (if_pos ⟨h,hl⟩)
theorem M0_step {x:Option (List UInt8 × Bool)} (h:okW x) {l:List Int} (hl:l.length≤1000000) (c:UInt8):M0 63 [nV x,encI.S l,.int .u8 c.toNat]=some (.rd true (encI.S (lst (nN x) (stepV x (ofS l) c)))):=
 (Tab.addO_ne _ _ _ _ rfl _).trans ((Tab.addO_self _ _ (.cons .nfa (.cons (.S encI) (.cons .byte .nil))) _ (x,l,c,())).trans (if_pos ⟨h,hl⟩))
theorem M0_start {x:Option (List UInt8 × Bool)} (h:okW x):M0 62 [nV x]=some (.rd true (encI.S (startI x))):=
 (Tab.addO_ne _ _ _ _ rfl _).trans ((Tab.addO_ne _ _ _ _ rfl _).trans ((Tab.addO_self _ _ (.cons .nfa .nil) _ (x,())).trans (if_pos h)))
theorem M0_cls {p:List UInt8} (f:Bool) (h:p.length≤1000):M0 59 [.str p,.bool f]=some (.rd true (.tup [.agg (encI.cs (clsL p f)),encI.S (someL p f)])):=
 (Tab.addO_ne _ _ _ _ rfl _).trans ((Tab.addO_ne _ _ _ _ rfl _).trans ((Tab.addO_ne _ _ _ _ rfl _).trans ((Tab.addO_self _ _ (.cons .str (.cons .bool .nil)) _ (p,f,())).trans (if_pos h))))
theorem M0_pat (x:Option (List UInt8 × Bool)):M0 58 [nV x]=some (.rd true (.tup [.str (patP x),.bool (patF x)])):=
 (Tab.addO_ne _ _ _ _ rfl _).trans ((Tab.addO_ne _ _ _ _ rfl _).trans ((Tab.addO_ne _ _ _ _ rfl _).trans ((Tab.addO_ne _ _ _ _ rfl _).trans (Tab.addR_self _ _ (.cons .nfa .nil) _ (x,())))))
theorem M0_new (p:List UInt8) (f:Bool) (h:p.length≤300):M0 47 [.str p,.bool f]=some (.rd true (.tup [nV (newV p f),.int .i64 (checkG p)])):=
 (Tab.addO_ne _ _ _ _ rfl _).trans ((Tab.addO_ne _ _ _ _ rfl _).trans ((Tab.addO_ne _ _ _ _ rfl _).trans ((Tab.addO_ne _ _ _ _ rfl _).trans ((Tab.addR_ne _ _ _ _ rfl _).trans ((Tab.addO_self _ _ (.cons .str (.cons .bool .nil)) _ (p,f,())).trans (if_pos h))))))
end
section
set_option linter.unusedSectionVars false
variable [Mx]
open Go Go.Proofs
theorem someL_len (p:List UInt8) (f:Bool):(someL p f).length≤p.length+1:=by
 rw[someL,List.length_cons,List.length_map]
 have:=keysB_len p f
 omega
theorem numF_get {rows:List (List Int)} {l r:List Int} {i:Nat} (h:rows[i]? = some r):(numF rows l).2[i]? = some r:=by
 unfold numF
 split
 ·exact h
 ·rw[List.getElem?_append_left (List.getElem?_eq_some_iff.1 h).1]
  exact h
section
variable {x:Option (List UInt8 × Bool)} {rid nxid acid nid lo:Nat} {rows:List (List Int)} {fin:List (Nat × List Int)} {accs:List Bool} {next cls sm:List Int} {ex:Bool} {most:Int}
structure Rv (x:Option (List UInt8 × Bool)) (most:Int) (sm:List Int) (i:Nat) (tm:Env):Prop where
 t2:tm 2=.int .i64 most
 t6:tm 6=.ptr 0 0
 t8:tm 8=nV x
 t13:tm 13=encI.S sm
 t14:tm 14=.ptr 2 0
 t16:tm 16=.ptr 5 0
 t17:tm 17=.func 60 [.ptr 4 0,.ptr 5 0]
 t18:tm 18=.int .i64 (i:Int)
theorem row_addr {i:Nat} (hi:i<rows.length):iaddrA 1 (bld rid rows.length 1) (.int .i64 (i:Int))=some (.ptr rid i):=by
 rw[bld_pos (by omega)]
 exact iaddr_sl1 hi
theorem bld_inner (hx:okW x) {hp:HP} {tm:Env} {i:Nat} {row:List Int} (hrow:rows[i]? = some row) (hrl:∀ r ∈ rows,r.length≤1000000) (hn:rows.length+sm.length≤10000) (hb:Bs hp rid rows nxid acid 0 fin accs [] cls lo ex) (hv:Rv x most sm i tm) (t19:tm 19=.nils) :
  vcE Tryz.prog (hintL [(25,7)]) M0 112 (IC.seq (IC.reg r48_16) (IC.block 2 (IC.loop b48_0))) tm hp fun e' tm' hp'=>e'=.normal∧∃ rid' nid',Bs hp' rid' (nextF (stepI x) sm rows row).2 nxid acid nid' fin accs (nextF (stepI x) sm rows row).1 cls lo ex∧Rv x most sm i tm'∧tm' 19=bld nid' (nextF (stepI x) sm rows row).1.length 1∧(nextF (stepI x) sm rows row).2[i]? = some row∧(∀ r ∈ (nextF (stepI x) sm rows row).2,r.length≤1000000)∧rows.length≤(nextF (stepI x) sm rows row).2.length∧(nextF (stepI x) sm rows row).2.length≤rows.length+sm.length:=by
 obtain⟨t2,t6,t8,t13,t14,t16,t17,t18⟩:=hv
 have hz:rows≠[]:=by
  intro e
  rw[e] at hrow
  simp at hrow
 refine vcE.step (by simp (disch:=first|assumption|omega) only[go_sem,↓reduceIte,t13]; rfl) (vcE.block (vcE.loop (by intro l tm hp h; simp at h) (fun k tm' hp' => ∃ (j rid' nid':Nat) (s:List Int × List (List Int)),k=sm.length - j∧j≤sm.length∧s=(sm.take j).foldl (nxF (stepI x) row) ([],rows)∧Bs hp' rid' s.2 nxid acid nid' fin accs s.1 cls lo ex∧s.2[i]? = some row∧(∀ r ∈ s.2,r.length≤1000000)∧rows.length≤s.2.length∧s.2.length≤rows.length+j∧s.1.length≤j∧Rv x most sm i tm'∧tm' 19=bld nid' s.1.length 1∧tm' 69=encI.S sm∧tm' 70=.int .i64 (sm.length:Int)∧tm' 71=.int .i64 (j:Int)) sm.length ⟨0,rid,0,([],rows),rfl,Nat.zero_le _,rfl,hb,hrow,hrl,Nat.le_refl _,Nat.le_refl _,Nat.le_refl _,⟨?_,?_,?_,?_,?_,?_,?_,?_⟩,?_,?_,?_,?_⟩ ?_))
 ·first|(simp only[upd_app,Nat.reduceEqDiff,↓reduceIte,t2]; done)|(simp only[upd_app,Nat.reduceEqDiff,↓reduceIte,t2,t6,t8,t13,t14,t16,t17,t18,t19]; rfl)
 ·first|(simp only[upd_app,Nat.reduceEqDiff,↓reduceIte,t6]; done)|(simp only[upd_app,Nat.reduceEqDiff,↓reduceIte,t2,t6,t8,t13,t14,t16,t17,t18,t19]; rfl)
 ·first|(simp only[upd_app,Nat.reduceEqDiff,↓reduceIte,t8]; done)|(simp only[upd_app,Nat.reduceEqDiff,↓reduceIte,t2,t6,t8,t13,t14,t16,t17,t18,t19]; rfl)
 ·first|(simp only[upd_app,Nat.reduceEqDiff,↓reduceIte,t13]; done)|(simp only[upd_app,Nat.reduceEqDiff,↓reduceIte,t2,t6,t8,t13,t14,t16,t17,t18,t19]; rfl)
 ·first|(simp only[upd_app,Nat.reduceEqDiff,↓reduceIte,t14]; done)|(simp only[upd_app,Nat.reduceEqDiff,↓reduceIte,t2,t6,t8,t13,t14,t16,t17,t18,t19]; rfl)
 ·first|(simp only[upd_app,Nat.reduceEqDiff,↓reduceIte,t16]; done)|(simp only[upd_app,Nat.reduceEqDiff,↓reduceIte,t2,t6,t8,t13,t14,t16,t17,t18,t19]; rfl)
 ·first|(simp only[upd_app,Nat.reduceEqDiff,↓reduceIte,t17]; done)|(simp only[upd_app,Nat.reduceEqDiff,↓reduceIte,t2,t6,t8,t13,t14,t16,t17,t18,t19]; rfl)
 ·first|(simp only[upd_app,Nat.reduceEqDiff,↓reduceIte,t18]; done)|(simp only[upd_app,Nat.reduceEqDiff,↓reduceIte,t2,t6,t8,t13,t14,t16,t17,t18,t19]; rfl)
 ·first|(simp only[upd_app,Nat.reduceEqDiff,↓reduceIte,t19]; done)|(simp only[upd_app,Nat.reduceEqDiff,↓reduceIte,t19]; rfl)
 ·first|(simp only[upd_app,Nat.reduceEqDiff,↓reduceIte]; done)|(simp only[upd_app,Nat.reduceEqDiff,↓reduceIte,t2,t6,t8,t13,t14,t16,t17,t18,t19]; rfl)
 ·first|(simp only[upd_app,Nat.reduceEqDiff,↓reduceIte]; done)|(simp only[upd_app,Nat.reduceEqDiff,↓reduceIte,t2,t6,t8,t13,t14,t16,t17,t18,t19]; rfl)
 ·first|(simp only[upd_app,↓reduceIte]; done)|(simp only[upd_app,↓reduceIte]; rfl)
 clear t2 t6 t8 t13 t14 t16 t17 t18 t19 hb hrow hrl
 rintro k tm hp ⟨j,rid',nid',s,rfl,hj,hs,hb,hri,hrl,hn1,hn2,hn3,⟨t2,t6,t8,t13,t14,t16,t17,t18⟩,t19,t69,t70,t71⟩
 by_cases hlt:j<sm.length
 rotate_left
 ·have hjj:j=sm.length:=by omega
  have he:nextF (stepI x) sm rows row=s:=by
   rw[hs,hjj,List.take_length]
   rfl
  rw[he]
  refine vcE.ex (by simp (disch:=first|assumption|omega) only[go_sem,↓reduceIte,t71,t70,Int.ofNat_lt,hlt,decide_false]; rfl) ?_
  refine⟨rfl,rid',nid',hb,⟨?_,?_,?_,?_,?_,?_,?_,?_⟩,?_,hri,hrl,hn1,by omega⟩
  all_goals simp only[upd_app,Nat.reduceEqDiff,↓reduceIte,t2,t6,t8,t13,t14,t16,t17,t18,t19]
 have hg:=List.getElem?_eq_getElem hlt
 generalize sm[j]=c at hg
 have y1:iaddrA 1 (encI.S sm) (.int .i64 (j:Int))=some (.fptr (encI.cs sm) j):=encI_iaddr hlt
 have p1:=encI_at hg
 have w1:=natW (x:=(j:Int)+1) (j+1) (by omega) (by omega)
 have hst:(sm.take (j+1)).foldl (nxF (stepI x) row) ([],rows)=nxF (stepI x) row s c:=by
  rw[List.take_add_one,hg,List.foldl_append,← hs]
  rfl
 by_cases hc:c<0
 ·obtain⟨hp',ha,hb'⟩:=hb.app 0 (by omega)
  have hnx:nxF (stepI x) row s c=(s.1++[0],s.2):=by rw[nxF,if_pos hc]
  refine vcE.ex (by simp (disch:=first|assumption|omega) only[go_sem,↓reduceIte,t71,t70,Int.ofNat_lt,hlt,Nat.reduceEqDiff,t69,↓y1,↓p1,hc,t19,↓ha,w1]; rfl) ?_
  refine⟨sm.length - (j+1),by omega,j+1,rid',hp.length+1,(s.1++[0],s.2),rfl,by omega,by rw[hst,hnx],hb',hri,hrl,hn1,by simp only; omega,by simp only[List.length_append,List.length_singleton]; omega,⟨?_,?_,?_,?_,?_,?_,?_,?_⟩,?_,?_,?_,?_⟩
  all_goals simp only[upd_app,Nat.reduceEqDiff,↓reduceIte,t2,t6,t8,t13,t14,t16,t17,t18,t69,t70]
 have hnx:nxF (stepI x) row s c=(s.1++[((numF s.2 (stepI x row c)).1:Int)],(numF s.2 (stepI x row c)).2):=by rw[nxF,if_neg hc]
 have hzs:s.2≠[]:=by
  intro e
  rw[e] at hri
  simp at hri
 have hil:i<s.2.length:=(List.getElem?_eq_some_iff.1 hri).1
 have hrowl:row.length≤1000000:=hrl row (List.mem_of_getElem? hri)
 have h5:=hb.met.hb
 have hone:=bld_one rid' s.2.length 1
 have y2:=row_addr (rid:=rid') hil
 have hrr:=(hb.rows_at hzs).2
 have p2:=encR_at hri
 have w8:=wrap8 c
 have hstep:=M0_step hx hrowl (UInt8.ofNat (c % 256).toNat)
 have hnf:=fun hp=>nV_frz x hp
 have hsl:(stepI x row c).length≤1000000:=Nat.le_trans (lstLen _ _) hx.2
 refine vcE.step (by simp (disch:=first|assumption|omega) only[go_sem,↓reduceIte,t71,t70,Int.ofNat_lt,hlt]; rfl) (vcE.s1 (k:=vcE.then (fun e' tm' hp'=>e'=.normal∧∃ rid2 nid2,Bs hp' rid2 (numF s.2 (stepI x row c)).2 nxid acid nid2 fin accs (s.1++[((numF s.2 (stepI x row c)).1:Int)]) cls lo ex∧Rv x most sm i tm'∧tm' 19=bld nid2 (s.1++[((numF s.2 (stepI x row c)).1:Int)]).length 1∧tm' 69=encI.S sm∧tm' 70=.int .i64 (sm.length:Int)∧tm' 71=.int .i64 (j:Int)) (vcE.block (vcE.step (by simp (disch:=first|assumption|omega) only[go_sem,↓reduceIte,Nat.reduceEqDiff,t69,t71,↓y1,↓p1]; rfl) (vcE.step (by simp (disch:=first|assumption|omega) only[go_sem,↓reduceIte,hc,decide_false]; rfl) ?_))) ?_))
 ·rw[show r48_21=r48_21.take 10++(r48_21.drop 10).take 1++r48_21.drop 11 from rfl]
  refine vcE.app (vcE.app (vcE.ex (by simp (disch:=first|assumption|omega) only[go_sem,exOps.eq_2,↓reduceIte,Nat.reduceEqDiff,t19,t17,t8,t16,h5,hone,t18,↓y2,hrr,↓p2,w8,frzL.eq_2,hnf,hstep,nidL.eq_2]; rfl) ⟨rfl,vcE.call (f:=60) (caps:=[.ptr 4 0,.ptr 5 0]) (ys:=[encI.S (stepI x row c)]) rfl ?_ (num_calls hb.met hsl (by omega)) ?_⟩))
  ·simp only[evsE,evE,upd_app,Nat.reduceEqDiff,↓reduceIte]
   rfl
  rintro r hp' ⟨rfl,rid2,hm2,hr2,ho2,hl2⟩
  have hb2:=hb.num (numF_ne _ _) hm2 hr2 ho2 hl2 (fun e=>absurd e hzs)
  obtain⟨hp3,ha,hb3⟩:=hb2.app ((numF s.2 (stepI x row c)).1:Int) (by omega)
  refine⟨rfl,vcE.ex (by simp (disch:=first|assumption|omega) only[go_sem,↓reduceIte,Nat.reduceEqDiff,putE,↓ha]; rfl) ?_⟩
  refine⟨rfl,rid2,_,hb3,⟨?_,?_,?_,?_,?_,?_,?_,?_⟩,?_,?_,?_,?_⟩
  all_goals simp only[upd_app,Nat.reduceEqDiff,↓reduceIte,t2,t6,t8,t13,t14,t16,t17,t18,t69,t70,t71]
 ·rintro e' tm' hp' ⟨rfl,rid2,nid2,hb2,⟨u2,u6,u8,u13,u14,u16,u17,u18⟩,u19,u69,u70,u71⟩
  have hnl:=numF_len s.2 (stepI x row c)
  refine vcE.ex (by simp (disch:=first|assumption|omega) only[go_sem,↓reduceIte,u71,w1]; rfl) ?_
  refine⟨sm.length - (j+1),by omega,j+1,rid2,nid2,_,rfl,by omega,by rw[hst,hnx],hb2,numF_get hri,numF_all hrl hsl,by simp only; omega,by simp only; omega,by simp only[List.length_append,List.length_singleton]; omega,⟨?_,?_,?_,?_,?_,?_,?_,?_⟩,?_,?_,?_,?_⟩
  all_goals simp only[upd_app,Nat.reduceEqDiff,↓reduceIte,u2,u6,u8,u13,u14,u16,u17,u18,u19,u69,u70]
end
end
section
set_option linter.unusedSectionVars false
variable [Mx]
open Go Go.Proofs
theorem clsL_len (p:List UInt8) (f:Bool):(clsL p f).length=256:=clsTo_len _ _ _
theorem bld_bad {tm:Env} {hp:HP} (h0:hp[0]? = some (some (.row 90 [.nils,.nils,.nils]))) (t6:tm 6=.ptr 0 0):vcE Tryz.prog (hintL [(25,7)]) M0 112 (IC.seq (IC.reg r48_3) IC.ret) tm hp fun e' tm' hp'=>e'=.ret∧RetE [.cell 6 (some 3),.t 7] (fun r' hp'=>FrzN hp' r' (.tup [.agg noDfa.c,.bool false])) .ret tm' hp':=by
 have h0l:=(List.getElem?_eq_some_iff.1 h0).1
 have hbst:fillA [(0,1),(1,1),(2,1)] [.nils,.nils,.nils] (([]:List Nat).zip ([]:List AV))=some [.nils,.nils,.nils]:=rfl
 have hst:storeA hp 3 (.ptr 0 0) (.agg [.nils,.nils,.nils])=some (hp.set 0 (some (.row 90 [.nils,.nils,.nils]))):=by
  simp only[storeA,h0,cellsA]
  rfl
 refine vcE.ex (by simp (disch:=first|assumption|omega) only[go_sem,↓reduceIte,Nat.reduceEqDiff,t6,↓hbst,↓hst]; rfl) ?_
 refine⟨rfl,.tup [.agg [.nils,.nils,.nils],.bool false],?_,fresh_ok rfl⟩
 simp only[resE,resEL,resE1,upd_app,Nat.reduceEqDiff,↓reduceIte,t6,loadA,rowA,List.getElem?_set_self h0l]
 rfl
theorem bld_much {tm:Env} {hp:HP} (h0:hp[0]? = some (some (.row 90 [.nils,.nils,.nils]))) (t6:tm 6=.ptr 0 0):vcE Tryz.prog (hintL [(25,7)]) M0 112 (IC.seq (IC.reg r48_14) IC.ret) tm hp fun e' tm' hp'=>e'=.ret∧RetE [.cell 6 (some 3),.t 7] (fun r' hp'=>FrzN hp' r' (.tup [.agg noDfa.c,.bool false])) .ret tm' hp':=by
 have h0l:=(List.getElem?_eq_some_iff.1 h0).1
 have hbst:fillA [(0,1),(1,1),(2,1)] [.nils,.nils,.nils] (([]:List Nat).zip ([]:List AV))=some [.nils,.nils,.nils]:=rfl
 have hst:storeA hp 3 (.ptr 0 0) (.agg [.nils,.nils,.nils])=some (hp.set 0 (some (.row 90 [.nils,.nils,.nils]))):=by
  simp only[storeA,h0,cellsA]
  rfl
 refine vcE.ex (by simp (disch:=first|assumption|omega) only[go_sem,↓reduceIte,Nat.reduceEqDiff,t6,↓hbst,↓hst]; rfl) ?_
 refine⟨rfl,.tup [.agg [.nils,.nils,.nils],.bool false],?_,fresh_ok rfl⟩
 simp only[resE,resEL,resE1,upd_app,Nat.reduceEqDiff,↓reduceIte,t6,loadA,rowA,List.getElem?_set_self h0l]
 rfl
theorem bldF_row {st:List Int→Int→List Int} {ac:List Int→Bool} {sm:List Int} {most k i:Nat} {rows nx:List (List Int)} {acs:List Bool} {row:List Int} (h:rows[i]? = some row):bldF st ac sm most (k+1) i rows nx acs=if rows.length > most then none else bldF st ac sm most k (i+1) (nextF st sm rows row).2 (nx++[(nextF st sm rows row).1]) (acs++[ac row]):=by
 rw[bldF,h]
theorem bldF_end {st:List Int→Int→List Int} {ac:List Int→Bool} {sm:List Int} {most k i:Nat} {rows nx:List (List Int)} {acs:List Bool} (h:rows[i]? = none):bldF st ac sm most (k+1) i rows nx acs=some (nx,acs):=by
 rw[bldF,h]
theorem bld_outer {x:Option (List UInt8 × Bool)} {sm cls:List Int} {lo mN rid:Nat} {ex:Bool} {rows:List (List Int)} (hx:okW x) (hsm:sm.length≤2000) (hm1:1≤mN) (hm2:mN≤256) {hp:HP} {tm:Env} (hz:rows.length=1) (hrl:∀ r ∈ rows,r.length≤1000000) (hb:Bs hp rid rows 6 6 0 [] [] [] cls lo ex) (hv:Rv x mN sm 0 tm) (t7:tm 7=.bool false) :
  vcE Tryz.prog (hintL [(25,7)]) M0 112 (IC.block 0 (IC.loop b48_1)) tm hp fun e' tm' hp'=>(e'=.ret∧bldF (stepI x) (accI x) sm mN (mN+1) 0 rows [] []=none∧RetE [.cell 6 (some 3),.t 7] (fun r' hp'=>FrzN hp' r' (.tup [.agg noDfa.c,.bool false])) .ret tm' hp')∨(e'=.normal∧∃ rid' rows' nxid acid fin accs,bldF (stepI x) (accI x) sm mN (mN+1) 0 rows [] []=some (fin.map (·.2),accs)∧Bs hp' rid' rows' nxid acid 0 fin accs [] cls lo ex∧tm' 6=.ptr 0 0∧tm' 14=.ptr 2 0):=by
 refine vcE.block (vcE.loop (by intro l tm hp h; simp at h) (fun k tm' hp' => ∃ (i rid':Nat) (rows':List (List Int)) (nxid acid:Nat) (fin:List (Nat × List Int)) (accs:List Bool),k=mN+1 - i∧i≤mN∧i≤rows'.length∧rows'≠[]∧rows'.length≤3000∧(∀ r ∈ rows',r.length≤1000000)∧fin.length=i∧accs.length=i∧bldF (stepI x) (accI x) sm mN (mN+1 - i) i rows' (fin.map (·.2)) accs=bldF (stepI x) (accI x) sm mN (mN+1) 0 rows [] []∧Bs hp' rid' rows' nxid acid 0 fin accs [] cls lo ex∧Rv x mN sm i tm') (mN+1) ⟨0,rid,rows,6,6,[],[],rfl,by omega,by omega,(fun e=>by rw[e] at hz; simp at hz),by omega,hrl,rfl,rfl,rfl,hb,hv⟩ ?_)
 clear hb hv t7 hrl
 rintro k tm hp ⟨i,rid',rows',nxid,acid,fin,accs,rfl,him,hir,hne,hrn,hrl,hfl,hal,hR,hb,hv⟩
 obtain⟨t2,t6,t8,t13,t14,t16,t17,t18⟩:=hv
 have h5:=hb.met.hb
 have hone:=bld_one rid' rows'.length 1
 have hlb:=fun hp:HP=>bld_len hp rid' rows'.length 1
 have hlf:=bld_fits rid' rows'.length 1
 rw[show mN+1 - i=(mN - i)+1 by omega] at hR
 by_cases hlt:i<rows'.length
 rotate_left
 ·have hnone:rows'[i]? = none:=List.getElem?_eq_none (by omega)
  rw[bldF_end hnone] at hR
  refine vcE.ex (by simp (disch:=first|assumption|omega) only[go_sem,↓reduceIte,t18,Nat.reduceEqDiff,t16,h5,↓hone,hlf,hlb,Int.ofNat_lt,hlt,decide_false]; rfl) ?_
  refine .inr ⟨rfl,rid',rows',nxid,acid,fin,accs,hR.symm,hb,?_,?_⟩
  all_goals simp only[upd_app,Nat.reduceEqDiff,↓reduceIte,t6,t14]
 have hg:=List.getElem?_eq_getElem hlt
 generalize rows'[i]=row at hg
 rw[bldF_row hg] at hR
 refine vcE.step (by simp (disch:=first|assumption|omega) only[go_sem,↓reduceIte,t18,Nat.reduceEqDiff,t16,h5,↓hone,hlf,hlb,Int.ofNat_lt,hlt]; rfl) ?_
 refine vcE.then (fun e' tm' hp'=>(e'=.ret∧bldF (stepI x) (accI x) sm mN (mN+1) 0 rows [] []=none∧RetE [.cell 6 (some 3),.t 7] (fun r' hp'=>FrzN hp' r' (.tup [.agg noDfa.c,.bool false])) .ret tm' hp')∨(e'=.normal∧i<mN∧∃ (rid2:Nat) (nxid2 acid2:Nat) (fin2:List (Nat × List Int)) (accs2:List Bool),fin2.length=i+1∧accs2.length=i+1∧fin2.map (·.2)=fin.map (·.2)++[(nextF (stepI x) sm rows' row).1]∧accs2=accs++[accI x row]∧rows'.length≤mN∧Bs hp' rid2 (nextF (stepI x) sm rows' row).2 nxid2 acid2 0 fin2 accs2 [] cls lo ex∧(∀ r ∈ (nextF (stepI x) sm rows' row).2,r.length≤1000000)∧rows'.length≤(nextF (stepI x) sm rows' row).2.length∧(nextF (stepI x) sm rows' row).2.length≤rows'.length+sm.length∧Rv x mN sm i tm')) ?_ ?_
 rotate_left
 ·rintro e' tm' hp' (⟨rfl,h1,h2⟩|⟨rfl,him2,rid2,nxid2,acid2,fin2,accs2,hf2,ha2,hfm,hac,hle,hb2,hrl2,hge,hub,⟨u2,u6,u8,u13,u14,u16,u17,u18⟩⟩)
  ·exact .inl ⟨rfl,h1,h2⟩
  ·have w1:=natW (x:=(i:Int)+1) (i+1) (by omega) (by omega)
   rw[if_neg (by omega)] at hR
   refine vcE.ex (by simp (disch:=first|assumption|omega) only[go_sem,↓reduceIte,u18,w1]; rfl) ?_
   refine⟨mN - i,by omega,i+1,rid2,_,nxid2,acid2,fin2,accs2,by omega,by omega,by omega,?_,by omega,hrl2,hf2,ha2,?_,hb2,⟨?_,?_,?_,?_,?_,?_,?_,?_⟩⟩
   ·intro e
    rw[e] at hge
    simp only[List.length_nil] at hge
    omega
   ·rw[hfm,hac,show mN+1 - (i+1)=mN - i by omega]
    exact hR
   all_goals simp only[upd_app,Nat.reduceEqDiff,↓reduceIte,u2,u6,u8,u13,u14,u16,u17]
 by_cases hmu:rows'.length > mN
 ·rw[if_pos hmu] at hR
  have hmu':(mN:Int)<((rows'.length:Nat):Int):=by omega
  refine vcE.block (vcE.seq (vcE.step (by simp (disch:=first|assumption|omega) only[go_sem,↓reduceIte,Nat.reduceEqDiff,t16,h5,↓hone,hlf,hlb,t2,hmu']; rfl) (vcE.condTrue (by simp only[evE,upd_app,↓reduceIte]) (vcE.mono (bld_much hb.r0 (by simp only[upd_app,Nat.reduceEqDiff,↓reduceIte,t6])) ?_))))
  rintro e tm hp ⟨rfl,h⟩
  exact .inl ⟨rfl,hR.symm,h⟩
 ·have hmu':¬ (mN:Int)<((rows'.length:Nat):Int):=by omega
  refine vcE.block (vcE.step (by simp (disch:=first|assumption|omega) only[go_sem,↓reduceIte,Nat.reduceEqDiff,t16,h5,↓hone,hlf,hlb,t2,hmu',decide_false]; rfl) (vcE.s1 (k:=vcE.then _ (bld_inner (sm:=sm) (most:=(mN:Int)) hx hg hrl (by omega) hb ⟨?_,?_,?_,?_,?_,?_,?_,?_⟩ ?_) ?_)))
  ·simp only[upd_app,Nat.reduceEqDiff,↓reduceIte,t2]
  ·simp only[upd_app,Nat.reduceEqDiff,↓reduceIte,t6]
  ·simp only[upd_app,Nat.reduceEqDiff,↓reduceIte,t8]
  ·simp only[upd_app,Nat.reduceEqDiff,↓reduceIte,t13]
  ·simp only[upd_app,Nat.reduceEqDiff,↓reduceIte,t14]
  ·simp only[upd_app,Nat.reduceEqDiff,↓reduceIte,t16]
  ·simp only[upd_app,Nat.reduceEqDiff,↓reduceIte,t17]
  ·simp only[upd_app,Nat.reduceEqDiff,↓reduceIte,t18]
  ·simp only[upd_app,↓reduceIte]
  clear t2 t6 t8 t13 t14 t16 t17 t18 h5 hone hlb hlf hb
  rintro e' tm hp2 ⟨rfl,rid2,nid2,hb,⟨t2,t6,t8,t13,t14,t16,t17,t18⟩,t19,hg2,hrl2,hge,hub⟩
  generalize hq:nextF (stepI x) sm rows' row=q at *
  have hq0:q.2≠[]:=by
   intro e
   rw[e] at hg2
   simp at hg2
  obtain⟨hpA,hpB,a1,a2,a3,hb2⟩:=hb.more hq0 (by omega)
  have r2:=hb.r2
  have hob:=bld_one nxid fin.length 1
  have pk1:pickA none [AV.sl 1 0 256 1 lo ex,bld nxid fin.length 1,bld acid accs.length 1] 1=some (bld nxid fin.length 1):=by
   simp only[pickA,List.getElem?_cons_succ,List.getElem?_cons_zero]
   rw[if_pos hob]
  have hcel:=bld_cells nid2 q.1.length 1
  have hntb:∀ a b c,notTup (bld a b c)=true:=fun a b c=>by unfold bld; split<;>rfl
  refine vcE.step (by simp (disch:=first|assumption|omega) only[go_sem,↓reduceIte,t14,r2,↓pk1,Nat.reduceEqDiff,t19,hntb,hcel,↓a1,↓a3]; rfl) ?_
  obtain⟨hpC,hpD,b1,b2,b3,hb3⟩:=hb2.acc hq0 (by omega) (accI x row)
  have hrowl:row.length≤1000000:=hrl2 row (List.mem_of_getElem? hg2)
  have hacc:=M0_acc hx hrowl
  have r22:=hb2.r2
  have h5:=hb2.met.hb
  have hone:=bld_one rid2 q.2.length 1
  have y2:=row_addr (rid:=rid2) (List.getElem?_eq_some_iff.1 hg2).1
  have hrr:=(hb2.rows_at hq0).2
  have p2:=encR_at hg2
  have hnf:=fun hp=>nV_frz x hp
  have hoc:=bld_one acid accs.length 1
  have pk2:pickA none [AV.sl 1 0 256 1 lo ex,bld (hp2.length+1) (fin++[(nid2,q.1)]).length 1,bld acid accs.length 1] 2=some (bld acid accs.length 1):=by
   simp only[pickA,List.getElem?_cons_succ,List.getElem?_cons_zero]
   rw[if_pos hoc]
  refine vcE.ex (by simp (disch:=first|assumption|omega) only[go_sem,exOps.eq_2,↓reduceIte,Nat.reduceEqDiff,t14,r22,↓pk2,t8,t16,h5,↓hone,t18,↓y2,hrr,↓p2,frzL.eq_2,hnf,hacc,nidL.eq_2,↓b1,↓b3]; rfl) ?_
  refine .inr ⟨rfl,by omega,rid2,_,_,fin++[(nid2,q.1)],accs++[accI x row],by simp[hfl],by simp[hal],by simp,rfl,by omega,hb3,hrl2,hge,hub,⟨?_,?_,?_,?_,?_,?_,?_,?_⟩⟩
  all_goals simp only[upd_app,Nat.reduceEqDiff,↓reduceIte,t2,t6,t8,t13,t14,t16,t17,t18]
end
end Go.Gi
