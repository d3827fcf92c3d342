/- A key's numbers: one less. -/
/- An index's methods: made, Has, Len, lists, New. -/
/- Put: what an index is then. -/
/- Put. -/
/- Drop. -/
/- slices.Grow of nil, and slices.Concat, as compiled, for elements of any one kind. -/
import Derived.Test.YtakdhioafodhcaaGreatDoorGiIyC
set_option linter.unusedVariables false
set_option linter.unusedSimpArgs false
set_option linter.unusedSectionVars false
namespace Go.Gi
section
set_option linter.unusedSectionVars false
variable [Mx]
open Go Go.Proofs
structure DropL (H:HP) (m:Nat) (L:List PL) (key:List UInt8) (id:Int) (H6:HP) (L':List PL):Prop where
 p:PMap H6 m L'
 ids:∀ k,idsL L' k=if k=key then (idsL L k).filter fun a => !decide (a=id) else idsL L k
 sls:∀ z ∈ L',∃ y ∈ L,y.sl=z.sl
 nd:(L'.map PL.sl).Nodup
 fr:∀ j,j≠m→(∀ y ∈ L,y.sl≠j)→H6[j]? = H[j]?
theorem mem_mid {α:Type} {A B:List α} {y z z':α} (h:y ∈ A++z' :: B):y=z'∨(y ∈ A++B∧y ∈ A++z :: B):=by
 rcases List.mem_append.1 h with h|h
 ·exact .inr ⟨List.mem_append_left _ h,List.mem_append_left _ h⟩
 ·rcases List.mem_cons.1 h with h|h
  ·exact .inl h
  ·exact .inr ⟨List.mem_append_right _ h,List.mem_append_right _ (List.mem_cons_of_mem _ h)⟩
theorem mem_mid0 {α:Type} {A B:List α} {y z:α} (h:y ∈ A++B):y ∈ A++z :: B:=by
 rcases List.mem_append.1 h with h|h
 ·exact List.mem_append_left _ h
 ·exact List.mem_append_right _ (List.mem_cons_of_mem _ h)
theorem del_list {H H4:HP} {m:Nat} {A B:List PL} {z:PL} (h:PMap H m (A++z :: B)) (hnd:((A++z :: B).map PL.sl).Nodup) {key:List UInt8} {id:Int} (hz:z.key=key) (hAB:∀ y ∈ A++B,y.key≠key) (hid:idsL (A++z :: B) key=z.ids) {rest:List Int} (hlen:(z.ids.filter fun a => !decide (a=id)).length+rest.length=z.ids.length+z.rest.length) (hd:DJ elIn 3 z.sl H ((z.ids.filter fun a => !decide (a=id))++rest) H4) :
  ∃ H5,mapupA H4 .str (.map m) (.str key) (.sl z.sl 0 (z.ids.filter fun a => !decide (a=id)).length 1 (z.ids.length+z.rest.length) false)=some H5∧(∀ zz,lookA H5 .str zz false (.map m) (.str key)=some (.sl z.sl 0 (z.ids.filter fun a => !decide (a=id)).length 1 (z.ids.length+z.rest.length) false)) ∧
   ((z.ids.filter fun a => !decide (a=id))≠[]→∃ L',DropL H m (A++z :: B) key id H5 L')∧((z.ids.filter fun a => !decide (a=id))=[]→∃ H6 L',delA H5 .str (.map m) (.str key)=some H6∧DropL H m (A++z :: B) key id H6 L'):=by
 obtain⟨bs,c,hm⟩:=h.m
 have hmr:∀ y ∈ A++z :: B,y.sl≠m:=fun y hy e=>by
  have:=h.r y hy
  rw[e,hm] at this
  cases this
 have hzm:z ∈ A++z :: B:=List.mem_append_right _ List.mem_cons_self
 have hne:=hmr z hzm
 have hno:=nodup_ne hnd
 obtain⟨hfr,hrow⟩:=hd
 have m4:H4[m]? = some (some (.map ((A++z :: B).map PL.ent) bs c)):=by rw[hfr m (Ne.symm hne)]; exact hm
 have hA:∀ y ∈ A,y.key≠key:=fun y hy=>hAB y (List.mem_append_left _ hy)
 have hf:=find_at (i:=0) hz (B:=B) hA
 rw[Nat.zero_add] at hf
 generalize hk:(z.ids.filter fun a => !decide (a=id))=K at *
 have e1:(A++(⟨key,K,z.sl,rest⟩:PL) :: B).map PL.ent=((A++z :: B).map PL.ent).set A.length (.str key,.sl z.sl 0 K.length 1 (z.ids.length+z.rest.length) false):=by
  rw[List.map_append,List.map_cons,List.map_append,List.map_cons,show A.length=(A.map PL.ent).length by simp,set_mid]
  simp only[PL.ent,PL.v,hlen]
 have n5:(H4.set m (some (.map ((A++(⟨key,K,z.sl,rest⟩:PL) :: B).map PL.ent) bs c)))[m]? = some (some (.map ((A++(⟨key,K,z.sl,rest⟩:PL) :: B).map PL.ent) bs c)):=set_get m4
 have hf5:=find_at (i:=0) (z:=(⟨key,K,z.sl,rest⟩:PL)) (k:=key) rfl (B:=B) hA
 rw[Nat.zero_add] at hf5
 have rows:∀ (X:Blk) y,y ∈ A++B→(H4.set m (some X))[y.sl]? = some (some y.row):=fun X y hy=>by
  rw[set_get_ne (Ne.symm (hmr y (mem_mid0 hy))),hfr _ (hno y hy)]
  exact h.r y (mem_mid0 hy)
 have frs:∀ (X:Blk) j,j≠m→(∀ y ∈ A++z :: B,y.sl≠j)→(H4.set m (some X))[j]? = H[j]?:=fun X j hj hs=>by
  rw[List.getElem?_set_ne (Ne.symm hj)]
  exact hfr j (Ne.symm (hs z hzm))
 refine⟨H4.set m (some (.map ((A++(⟨key,K,z.sl,rest⟩:PL) :: B).map PL.ent) bs c)),?_,fun zz=>?_,fun hK=>?_,fun hK=>?_⟩
 ·rw[up_of m4 rfl hf,e1]
 ·simp only[lookA,keyA,rowsA,n5,hf5,cond_true,cond_false,PL.v,hlen]
 ·refine⟨A++⟨key,K,z.sl,rest⟩ :: B,⟨⟨bs,c,n5⟩,fun y hy=>?_,fun y hy=>?_,nodup_mid h.nd (by simpa using hAB)⟩,fun k=>?_,fun y hy=>?_,nodup_mid hnd hno,frs _⟩
  ·rcases mem_mid (z:=z) hy with rfl|⟨hy,_⟩
   ·rw[set_get_ne (Ne.symm hne)]
    exact hrow
   ·exact rows _ y hy
  ·rcases mem_mid (z:=z) hy with rfl|⟨_,hy⟩
   ·exact hK
   ·exact h.ne y hy
  ·rw[idsL_mid (z:=z) (z':=⟨key,K,z.sl,rest⟩) hz rfl hAB]
   by_cases e:k=key
   ·subst e
    rw[if_pos rfl,if_pos rfl,hid,hk]
   ·rw[if_neg e,if_neg e]
  ·rcases mem_mid (z:=z) hy with rfl|⟨_,hy⟩
   ·exact⟨z,hzm,rfl⟩
   ·exact⟨y,hy,rfl⟩
 ·have e2:((A++(⟨key,K,z.sl,rest⟩:PL) :: B).map PL.ent).eraseIdx A.length=(A++B).map PL.ent:=by
   rw[List.map_append,List.map_cons,List.map_append,show A.length=(A.map PL.ent).length by simp,List.eraseIdx_append_of_length_le (Nat.le_refl _),Nat.sub_self]
   rfl
  have hdel:delA (H4.set m (some (.map ((A++(⟨key,K,z.sl,rest⟩:PL) :: B).map PL.ent) bs c))) .str (.map m) (.str key)=some (H4.set m (some (.map ((A++B).map PL.ent) (bs.eraseIdx A.length) c))):=by
   simp only[delA,keyA,n5,hf5,cond_true,e2,List.set_set]
  refine⟨_,A++B,hdel,⟨⟨_,_,set_get m4⟩,rows _,fun y hy=>h.ne y (mem_mid0 hy),?_⟩,fun k=>?_,fun y hy=>⟨y,mem_mid0 hy,rfl⟩,?_,frs _⟩
  ·exact (((List.sublist_cons_self z B).append_left A).map PL.key).nodup h.nd
  ·have hn:idsL (A++B) key=[]:=by
    unfold idsL
    rw[List.find?_eq_none.2 (by simpa using hAB)]
   by_cases e:k=key
   ·subst e
    rw[if_pos rfl,hid,hk,hK,hn]
   ·rw[if_neg e,idsL_app,idsL_app,idsL_cons,if_neg (by rw[hz]; exact fun e'=>e e'.symm)]
  ·exact (((List.sublist_cons_self z B).append_left A).map PL.sl).nodup hnd
end
section
set_option linter.unusedSectionVars false
variable [Mx]
open Go Go.Proofs
def mostB (n:Int):Int:=if 256<(if 1 > n then 1 else n) then 256 else if 1 > n then 1 else n
theorem mostB_in (n:Int):1≤mostB n∧mostB n≤256:=by unfold mostB; split<;>split<;>omega
section
variable {hp:HP} {b:Nat} {most:Int}
theorem made_calls (hx:hp[b+4]? = some (some (.row 57 (ixC most b (b+1) (b+2) (b+3))))):ACalls Tryz.prog 27 [.ptr (b+4) 0] hp fun r hp'=>r=.bool true∧hp'=hp:=by
 refine calls_e hmG (TabOk.none _) comp27 (by decide) (by simp) ?_
 refine vcE.ex (by simp (disch:=first|assumption|omega) only[go_sem,↓reduceIte,Nat.reduceEqDiff,reduceCtorEq,hx,isNilA,nilchkA]; rfl) ?_
 exact⟨_,rfl,by simp only[upd_app,↓reduceIte],rfl⟩
theorem new_gen (n:Int) (hp:HP):ACalls Tryz.prog 9 [.int .i64 n] hp fun r H=>r=.ptr (hp.length+4) 0∧IxF hp.length (mostB n) [] (fun k=>hp.length≤k∧k<H.length) H∧Chg (fun _=>False) hp H:=by
 refine calls_e hmG (TabOk.none _) comp9 (by decide) (by simp) ?_
 have hf:fillA [(0,1),(1,1),(2,1),(3,1),(4,1)] [.int .i64 0,.nilm,.nilm,.nilm,.nilm] (([0,1,2,3,4]:List Nat).zip [.int .i64 (mostB n),.map hp.length,.map (hp.length+1),.map (hp.length+2),.map (hp.length+3)])=some (ixC (mostB n) hp.length (hp.length+1) (hp.length+2) (hp.length+3)):=rfl
 have hc:cellsA (.agg (ixC (mostB n) hp.length (hp.length+1) (hp.length+2) (hp.length+3)))=ixC (mostB n) hp.length (hp.length+1) (hp.length+2) (hp.length+3):=rfl
 refine vcE.ex (by simp (disch:=first|assumption|omega) only[go_sem,↓reduceIte,reduceCtorEq,mkmapA,List.length_append,Nat.add_assoc,Nat.reduceAdd,Nat.reduceEqDiff]; rfl) ?_
 have key:∀ H:HP,H=((((hp++[some (.map [] [] 0)])++[some (.map [] [] 0)])++[some (.map [] [] 0)])++[some (.map [] [] 0)])++[some (.row 57 (ixC (mostB n) hp.length (hp.length+1) (hp.length+2) (hp.length+3)))]→IxF hp.length (mostB n) [] (fun k=>hp.length≤k∧k<H.length) H∧Chg (fun _=>False) hp H:=by
  rintro H rfl
  have e:((((hp++[some (Blk.map [] [] 0)])++[some (.map [] [] 0)])++[some (.map [] [] 0)])++[some (.map [] [] 0)])++[some (.row 57 (ixC (mostB n) hp.length (hp.length+1) (hp.length+2) (hp.length+3)))]=hp++[some (.map [] [] 0),some (.map [] [] 0),some (.map [] [] 0),some (.map [] [] 0),some (.row 57 (ixC (mostB n) hp.length (hp.length+1) (hp.length+2) (hp.length+3)))]:=by simp
  rw[e]
  have g:∀ i x,([some (Blk.map [] [] 0),some (.map [] [] 0),some (.map [] [] 0),some (.map [] [] 0),some (.row 57 (ixC (mostB n) hp.length (hp.length+1) (hp.length+2) (hp.length+3)))]:HP)[i]? = some x→(hp++[some (Blk.map [] [] 0),some (.map [] [] 0),some (.map [] [] 0),some (.map [] [] 0),some (.row 57 (ixC (mostB n) hp.length (hp.length+1) (hp.length+2) (hp.length+3)))])[hp.length+i]? = some x:=fun i x h=>by
   rw[List.getElem?_append_right (by omega),Nat.add_sub_cancel_left]
   exact h
  have ok0:MapOk [] [] 0:=⟨List.nodup_nil,fun _ h=>absurd h List.not_mem_nil,rfl⟩
  refine⟨⟨[],fun _=>[],⟨g 4 _ rfl,⟨[],0,g 0 _ rfl,ok0⟩,⟨[],0,g 3 _ rfl,ok0⟩,fun f=>⟨⟨[],0,?_⟩,fun _ h=>absurd h List.not_mem_nil,fun _ h=>absurd h List.not_mem_nil,List.nodup_nil⟩,fun _ h=>absurd h List.not_mem_nil,fun _=>List.nodup_nil,fun _ h=>absurd h List.not_mem_nil,fun _ _=>rfl,⟨List.nodup_nil,fun _ h=>absurd h List.not_mem_nil,fun _ h=>absurd h List.not_mem_nil,Nat.zero_le _⟩⟩,rfl,?_⟩,⟨fun k hk _=>List.getElem?_append_left hk,by simp⟩⟩
  ·cases f
   ·exact g 1 _ rfl
   ·exact g 2 _ rfl
  ·rintro k (⟨h1,h2⟩|⟨y,hy,_⟩|⟨_,z,hz,_⟩)
   ·exact⟨h1,by simp; omega⟩
   ·cases hy
   ·cases hz
 exact⟨_,rfl,by simp only[↓reduceIte,upd_app,List.length_append,List.length_cons,List.length_nil,Nat.zero_add,Nat.add_assoc],key _ rfl⟩
variable {S:List (Gl × Nat)} {L:Bool→List PL}
theorem hasS {id:Int}:hasG (S.map (·.1)) id=S.any fun y=>decide (y.1.id=id):=by simp only[hasG,List.any_map,Function.comp_def]
theorem Ixs.split (h:Ixs b most S L hp) (id:Int):(hasG (S.map (·.1)) id=false∧∀ y ∈ S,y.1.id≠id)∨∃ A y B,S=A++y :: B∧y.1.id=id∧(∀ x ∈ A++B,x.1.id≠id)∧hasG (S.map (·.1)) id=true:=by
 cases hh:hasG (S.map (·.1)) id
 ·exact .inl ⟨rfl,fun y hy=>hasG_not hh y.1 (List.mem_map_of_mem hy)⟩
 ·rw[hasS,List.any_eq_true] at hh
  obtain⟨y,hy,he⟩:=hh
  rw[decide_eq_true_eq] at he
  obtain⟨A,B,rfl⟩:=List.append_of_mem hy
  refine .inr ⟨A,y,B,rfl,he,fun x hx=>?_,rfl⟩
  have hn:=h.ok.nd
  rw[List.map_map] at hn
  have:=nodup_ne (f:=Gl.id ∘ (fun y:Gl × Nat=>y.1)) hn x hx
  rw[← he]
  exact this
theorem has_gen (h:Ixs b most S L hp) (id:Int):ACalls Tryz.prog 22 [.ptr (b+4) 0,.int .i64 id] hp fun r hp'=>r=.bool (hasG (S.map (·.1)) id)∧hp'=hp:=by
 refine calls_e hmG (TabOk.none _) comp22 (by decide) (by simp) ?_
 obtain⟨bs,c,ha,ho⟩:=h.ha
 have hx:=h.hx
 have hl:∃ v,lookA hp .int .nilp true (.map b) (.int .i64 id)=some (.tup [v,.bool (hasG (S.map (·.1)) id)]):=by
  rcases h.split id with ⟨h1,h2⟩|⟨A,y,B,rfl,h2,h3,h4⟩
  ·exact⟨.nilp,by simp only[lookA,keyA,rowsA,ha,findS_none h2,cond_true,h1]⟩
  ·exact⟨.ptr y.2 0,by simp only[lookA,keyA,rowsA,ha,findS_at h2 fun x hx=>h3 x (List.mem_append_left _ hx),cond_true,h4]⟩
 obtain⟨v,hl⟩:=hl
 refine vcE.s0 ?_
 rw[show r22_1=r22_1.take 1++((r22_1.drop 1).take 1++r22_1.drop 2) from rfl]
 refine vcE.seq (vcE.seq (vcE.app (vcE.e1 (k:=⟨rfl,vcE.app (vcE.call (f:=27) (caps:=[]) (ys:=[.ptr (b+4) 0]) rfl rfl (made_calls hx) ?_)⟩))))
 rintro r hp ⟨rfl,rfl⟩
 refine⟨rfl,vcE.ex (by simp (disch:=first|assumption|omega) only[go_sem,↓reduceIte,putE]; rfl) ?_⟩
 refine vcE.e0 ?_
 refine vcE.ex (by simp (disch:=first|assumption|omega) only[go_sem,↓reduceIte,Nat.reduceEqDiff,reduceCtorEq,hx,nilchkA,↓hl]; rfl) ?_
 exact⟨_,rfl,by simp only[upd_app,↓reduceIte],rfl⟩
theorem len_gen (h:Ixs b most S L hp):ACalls Tryz.prog 13 [.ptr (b+4) 0] hp fun r hp'=>r=.int .i64 (S.length:Int)∧hp'=hp:=by
 refine calls_e hmG (TabOk.none _) comp13 (by decide) (by simp) ?_
 obtain⟨bs,c,ha,ho⟩:=h.ha
 have hx:=h.hx
 have hl:lenA hp (.map b)=some (.int .i64 (S.length:Int)):=by
  simp only[lenA,ha,List.length_map]
 have hlf:lenFits .map (.map b)=true:=rfl
 refine vcE.s0 ?_
 rw[show r13_1=r13_1.take 1++((r13_1.drop 1).take 1++r13_1.drop 2) from rfl]
 refine vcE.seq (vcE.seq (vcE.app (vcE.e1 (k:=⟨rfl,vcE.app (vcE.call (f:=27) (caps:=[]) (ys:=[.ptr (b+4) 0]) rfl rfl (made_calls hx) ?_)⟩))))
 rintro r hp ⟨rfl,rfl⟩
 refine⟨rfl,vcE.ex (by simp (disch:=first|assumption|omega) only[go_sem,↓reduceIte,putE]; rfl) ?_⟩
 refine vcE.e0 ?_
 refine vcE.ex (by simp (disch:=first|assumption|omega) only[go_sem,↓reduceIte,reduceCtorEq,hx,nilchkA,↓hl,hlf]; rfl) ?_
 exact⟨_,rfl,by simp only[upd_app,↓reduceIte],rfl⟩
def P4:Tab:=Tab.none.addO 33 (.cons .str .nil) fun p=>if p.1.length≤1000000 then some (.rd true (.str (p.1.map foldB))) else none
theorem P4_ok:TabOk Tryz.prog P4:=by
 refine TabOk.addO (TabOk.none _) ?_
 intro p r h
 split at h
 ·cases h; exact pFoldS p.1 (by omega)
 ·cases h
theorem P4_fold {p:List UInt8} (h:p.length≤1000000):P4 33 [.str p]=some (.rd true (.str (p.map foldB))):=
 (Tab.addO_self _ _ (.cons .str .nil) _ (p,())).trans (if_pos h)
theorem lists_gen (hx:hp[b+4]? = some (some (.row 57 (ixC most b (b+1) (b+2) (b+3))))) (g:Gl) (hl:g.pat.length≤1000000):ACalls Tryz.prog 30 [.ptr (b+4) 0,.agg g.c] hp fun r hp'=>r=.tup [.map (b+1+g.fold.toNat),.str g.key]∧hp'=hp++[some (Blk.row 47 g.c)]:=by
 refine calls_e hmG P4_ok comp30 (by rfl) (by simp) ?_
 have hq:(hp++[some (Blk.row 47 g.c)])[hp.length]? = some (some (.row 47 [.int .i64 g.id,.str g.pat,.bool g.fold])):=by simp[Gl.c]
 have hx':(hp++[some (Blk.row 47 g.c)])[b+4]? = some (some (.row 57 (ixC most b (b+1) (b+2) (b+3)))):=app_get hx
 have hc:cellsA (.agg g.c)=g.c:=rfl
 have k1:=P4_fold hl
 obtain⟨id,pat,fold⟩:=g
 cases fold
 ·refine vcE.ex (by simp (disch:=first|assumption|omega) only[go_sem,↓reduceIte,hc,Nat.reduceEqDiff,hq,exOps.eq_2,reduceCtorEq,nilchkA,hx']; rfl) ?_
  exact⟨_,rfl,rfl,rfl⟩
 ·refine vcE.ex (by simp (disch:=first|assumption|omega) only[go_sem,↓reduceIte,hc,Nat.reduceEqDiff,hq,exOps.eq_2,reduceCtorEq,nilchkA,hx',frzL.eq_2,k1,nidL.eq_2]; rfl) ?_
  exact⟨_,rfl,rfl,rfl⟩
end
end
section
set_option linter.unusedSectionVars false
variable [Mx]
open Go Go.Proofs
section
variable {hp:HP} {b:Nat} {most:Int} {S:List (Gl × Nat)} {L:Bool→List PL}
theorem Ixs.sl_ne (h:Ixs b most S L hp) {f:Bool} {z:PL} (hz:z ∈ L f):z.sl≠b∧z.sl≠b+3∧z.sl≠b+4∧(∀ f':Bool,z.sl≠b+1+f'.toNat)∧∀ y ∈ S,z.sl≠y.2:=by
 have hr:=(h.p f).r z hz
 obtain⟨bs,c,ha,_⟩:=h.ha
 obtain⟨bw,cw,hw,_⟩:=h.hw
 refine⟨fun e=>?_,fun e=>?_,fun e=>?_,fun f' e=>?_,fun y hy e=>?_⟩
 ·rw[e,ha] at hr; cases hr
 ·rw[e,hw] at hr; cases hr
 ·rw[e,h.hx] at hr; cases hr
 ·obtain⟨b',c',hm⟩:=(h.p f').m
  rw[e,hm] at hr; cases hr
 ·rw[e,h.en y hy] at hr; cases hr
theorem Ixs.e_ne (h:Ixs b most S L hp) {y:Gl × Nat} (hy:y ∈ S):y.2≠b∧y.2≠b+3∧y.2≠b+4∧∀ f':Bool,y.2≠b+1+f'.toNat:=by
 have hr:=h.en y hy
 obtain⟨bs,c,ha,_⟩:=h.ha
 obtain⟨bw,cw,hw,_⟩:=h.hw
 refine⟨fun e=>?_,fun e=>?_,fun e=>?_,fun f' e=>?_⟩
 ·rw[e,ha] at hr; cases hr
 ·rw[e,hw] at hr; cases hr
 ·rw[e,h.hx] at hr; cases hr
 ·obtain⟨b',c',hm⟩:=(h.p f').m
  rw[e,hm] at hr; cases hr
theorem Ixs.dj2 (h:Ixs b most S L hp) {f f':Bool} (hne:f≠f'):∀ y ∈ L f,∀ z ∈ L f',y.sl≠z.sl:=by
 cases f<;>cases f'
 ·exact absurd rfl hne
 ·exact h.dj
 ·exact fun y hy z hz e=>h.dj z hz y hy e.symm
 ·exact absurd rfl hne
theorem fb_lt (f:Bool):f.toNat<2:=by cases f<;>simp
theorem fb_inj {f f':Bool} (h:f≠f'):f.toNat≠f'.toNat:=by cases f<;>cases f'<;>simp_all
theorem Ixs.lit (h:Ixs b most S L hp) {g:Gl} (hg:g.lit=true) (he:errPut (S.map (·.1)) g=0) {H4 H6:HP} {L':List PL} {bs:List Nat} {c:Nat}
  (hfr:∀ k,k<hp.length→k≠b→H4[k]? = hp[k]?) (h0:H4[b]? = some (some (.map ((S++[(g,hp.length)]).map entS) bs c))) (ho:MapOk ((S++[(g,hp.length)]).map entS) bs c) (hen:H4[hp.length]? = some (some (.row 62 (g.cells most)))) (hp6:PutL H4 (b+1+g.fold.toNat) (L g.fold) g.key g.id H6 L') :
  Ixs b most (S++[(g,hp.length)]) (fun f=>if f=g.fold then L' else L f) H6:=by
 have hl4:=h.lt (k:=b+4) (.inl ⟨by omega,by omega⟩)
 have hle:hp.length<H4.length:=get_lt hen
 have hf2:=fb_lt g.fold
 have fr:∀ k,k<hp.length→k≠b→k≠b+1+g.fold.toNat→(∀ y ∈ L g.fold,y.sl≠k)→H6[k]? = hp[k]?:=fun k h1 h2 h3 h4=>by
  rw[hp6.fr k (by omega) h3 h4]
  exact hfr k h1 h2
 have hws:wildS (S++[(g,hp.length)])=wildS S:=by
  simp only[wildS,List.filter_append,List.filter_cons,hg,Bool.not_true,List.filter_nil]
  simp
 refine⟨?_,⟨bs,c,?_,ho⟩,?_,fun f=>?_,fun y hy=>?_,fun f=>?_,?_,fun f k=>?_,?_⟩
 ·rw[fr _ hl4 (by omega) (by omega) fun y hy=>(h.sl_ne hy).2.2.1]
  exact h.hx
 ·rw[hp6.fr b (by omega) (by omega) fun y hy=>(h.sl_ne hy).1]
  exact h0
 ·obtain⟨bw,cw,hw,how⟩:=h.hw
  rw[hws]
  refine⟨bw,cw,?_,how⟩
  rw[fr _ (by omega) (by omega) (by omega) fun y hy=>(h.sl_ne hy).2.1]
  exact hw
 ·by_cases hf:f=g.fold
  ·subst hf
   rw[if_pos rfl]
   exact hp6.p
  ·rw[if_neg hf]
   have:=fb_inj hf
   have hf3:=fb_lt f
   refine (h.p f).frame (fr _ (by omega) (by omega) (by omega) fun y hy=>(h.sl_ne hy).2.2.2.1 f) fun z hz=>fr _ (get_lt ((h.p f).r z hz)) (h.sl_ne hz).1 ((h.sl_ne hz).2.2.2.1 _) fun y hy e=>h.dj2 (Ne.symm hf) y hy z hz e
 ·rcases List.mem_append.1 hy with hy|hy
  ·rw[fr _ (get_lt (h.en y hy)) (h.e_ne hy).1 ((h.e_ne hy).2.2.2 _) fun z hz=>(h.sl_ne hz).2.2.2.2 y hy]
   exact h.en y hy
  ·rw[List.mem_singleton.1 hy]
   rw[hp6.fr _ hle (by omega) fun z hz=>by have:=get_lt ((h.p _).r z hz); omega]
   exact hen
 ·by_cases hf:f=g.fold
  ·rw[if_pos hf]; exact hp6.nd
  ·rw[if_neg hf]; exact h.nd f
 ·have old:∀ f,∀ y ∈ L f,y.sl<H4.length:=fun f y hy=>by
   have:=get_lt ((h.p f).r y hy)
   omega
  intro y hy z hz
  cases hgf:g.fold
  ·rw[hgf] at hy hz hp6
   simp only[if_true] at hy
   simp only[Bool.true_eq_false,if_false] at hz
   rcases hp6.sls y hy with e|⟨x,hx,e⟩
   ·have:=old true z hz
    omega
   ·rw[← e]; exact h.dj x hx z hz
  ·rw[hgf] at hy hz hp6
   simp only[if_true] at hz
   simp only[Bool.false_eq_true,if_false] at hy
   rcases hp6.sls z hz with e|⟨x,hx,e⟩
   ·have:=old false y hy
    omega
   ·rw[← e]; exact h.dj y hy x hx
 ·rw[List.map_append,List.map_cons,List.map_nil,idsG_put]
  by_cases hf:f=g.fold
  ·subst hf
   rw[if_pos rfl,hp6.ids,h.r]
   simp only[Gl.at_,hg,Bool.true_and,beq_self_eq_true]
   by_cases hk:k=g.key
   ·rw[if_pos hk,if_pos (by simp[hk])]
   ·rw[if_neg hk,if_neg (by simpa using fun e=>hk e.symm),List.append_nil]
  ·rw[if_neg hf,h.r]
   have:(g.fold == f)=false:=by simpa using fun e=>hf e.symm
   simp only[Gl.at_,this,Bool.and_false,Bool.false_and]
   simp
 ·rw[List.map_append]
  exact h.ok.put he
theorem Ixs.wild (h:Ixs b most S L hp) {g:Gl} (hg:g.lit=false) (he:errPut (S.map (·.1)) g=0) {H6:HP} {bs bw:List Nat} {c cw:Nat}
  (hfr:∀ k,k<hp.length→k≠b→k≠b+3→H6[k]? = hp[k]?) (h0:H6[b]? = some (some (.map ((S++[(g,hp.length)]).map entS) bs c))) (ho:MapOk ((S++[(g,hp.length)]).map entS) bs c) (h3:H6[b+3]? = some (some (.map ((wildS S++[(g,hp.length)]).map entS) bw cw))) (ho3:MapOk ((wildS S++[(g,hp.length)]).map entS) bw cw) (hen:H6[hp.length]? = some (some (.row 62 (g.cells most)))) :
  Ixs b most (S++[(g,hp.length)]) L H6:=by
 have hl4:=h.lt (k:=b+4) (.inl ⟨by omega,by omega⟩)
 have hws:wildS (S++[(g,hp.length)])=wildS S++[(g,hp.length)]:=by
  simp only[wildS,List.filter_append,List.filter_cons,hg,Bool.not_false,List.filter_nil,if_true]
 refine⟨?_,⟨bs,c,h0,ho⟩,by rw[hws]; exact⟨bw,cw,h3,ho3⟩,fun f=>?_,fun y hy=>?_,h.nd,h.dj,fun f k=>?_,?_⟩
 ·rw[hfr _ hl4 (by omega) (by omega)]
  exact h.hx
 ·have:=fb_lt f
  exact (h.p f).frame (hfr _ (by omega) (by omega) (by omega)) fun z hz=>hfr _ (get_lt ((h.p f).r z hz)) (h.sl_ne hz).1 (h.sl_ne hz).2.1
 ·rcases List.mem_append.1 hy with hy|hy
  ·rw[hfr _ (get_lt (h.en y hy)) (h.e_ne hy).1 (h.e_ne hy).2.1]
   exact h.en y hy
  ·rw[List.mem_singleton.1 hy]
   exact hen
 ·rw[List.map_append,List.map_cons,List.map_nil,idsG_put,h.r]
  simp only[Gl.at_,hg,Bool.false_and]
  simp
 ·rw[List.map_append]
  exact h.ok.put he
end
end
section
set_option linter.unusedSectionVars false
variable [Mx]
open Go Go.Proofs
def P5:Tab:=((Tab.none.addR 28 (.cons .str .nil) fun p=>.rd true (.int .i64 (checkG p.1))).addO 29 (.cons .str .nil) fun p=>if p.1.length≤1000000 then some (.rd true (litP p.1)) else none).addO 31 (.cons .str (.cons .bool (.cons .i64 .nil))) fun p=>if p.1.length≤300 then some (.rd false (.tup [(newA p.1 p.2.1 p.2.2.1).v,.int .i64 (errA p.1 p.2.2.1)])) else none
theorem P5_ok:TabOk Tryz.prog P5:=by
 refine TabOk.addO (TabOk.addO (TabOk.addR (TabOk.none _) ?_) ?_) ?_
 ·exact fun p=>pCheck p.1
 ·intro p r h
  split at h
  ·cases h; exact pLiteral p.1 (by assumption)
  ·cases h
 ·intro p r h
  split at h
  ·cases h; exact pNewA p.1 p.2.1 p.2.2.1 (by assumption)
  ·cases h
theorem P5_check (p:List UInt8):P5 28 [.str p]=some (.rd true (.int .i64 (checkG p))):=
 (Tab.addO_ne _ _ _ _ rfl _).trans ((Tab.addO_ne _ _ _ _ rfl _).trans (Tab.addR_self _ _ (.cons .str .nil) _ (p,())))
theorem P5_lit {p:List UInt8} (h:p.length≤1000000):P5 29 [.str p]=some (.rd true (litP p)):=
 (Tab.addO_ne _ _ _ _ rfl _).trans ((Tab.addO_self _ _ (.cons .str .nil) _ (p,())).trans (if_pos h))
theorem P5_new {p:List UInt8} (f:Bool) (most:Int) (h:p.length≤300):P5 31 [.str p,.bool f,.int .i64 most]=some (.rd false (.tup [(newA p f most).v,.int .i64 (errA p most)])):=
 (Tab.addO_self _ _ (.cons .str (.cons .bool (.cons .i64 .nil))) _ (p,f,most,())).trans (if_pos h)
section
variable {hp:HP} {b:Nat} {most:Int} {S:List (Gl × Nat)} {L:Bool→List PL}
def PutR (b:Nat) (most:Int) (S:List (Gl × Nat)) (L:Bool→List PL) (hp:HP) (g:Gl) (r:AV) (H:HP):Prop:=
 r=.int .i64 (errPut (S.map (·.1)) g)∧(∃ S' L',Ixs b most S' L' H∧S'.map (·.1)=putG (S.map (·.1)) g∧∀ k,Foot b S' L' k→Foot b S L k∨hp.length≤k)∧Chg (Foot b S L) hp H
theorem PutR.same (h:Ixs b most S L hp) {g:Gl} {e:Int} (he:errPut (S.map (·.1)) g=e) (hn:e≠0):PutR b most S L hp g (.int .i64 e) hp:=
 ⟨by rw[he],⟨S,L,h,by rw[putG,if_neg (by rw[he]; exact hn)],fun k hk=>.inl hk⟩,Chg.refl _ _⟩
theorem PutR.ofLit (h:Ixs b most S L hp) {g:Gl} (hg:g.lit=true) (he:errPut (S.map (·.1)) g=0) {H4 H6:HP} {L':List PL} {bs:List Nat} {c:Nat}
  (hfr:∀ k,k<hp.length→k≠b→H4[k]? = hp[k]?) (h0:H4[b]? = some (some (.map ((S++[(g,hp.length)]).map entS) bs c))) (ho:MapOk ((S++[(g,hp.length)]).map entS) bs c) (hen:H4[hp.length]? = some (some (.row 62 (g.cells most)))) (hp6:PutL H4 (b+1+g.fold.toNat) (L g.fold) g.key g.id H6 L'):PutR b most S L hp g (.int .i64 0) H6:=by
 have hle:hp.length<H4.length:=get_lt hen
 have hf2:=fb_lt g.fold
 have hl6:=hp6.le
 refine⟨by rw[he],⟨_,_,h.lit hg he hfr h0 ho hen hp6,by rw[putG,if_pos he,List.map_append]; rfl,?_⟩,⟨?_,by omega⟩⟩
 ·rintro k (hk|⟨y,hy,rfl⟩|⟨f,z,hz,rfl⟩)
  ·exact .inl (.inl hk)
  ·rcases List.mem_append.1 hy with hy|hy
   ·exact .inl (.inr (.inl ⟨y,hy,rfl⟩))
   ·rw[List.mem_singleton.1 hy]
    exact .inr (Nat.le_refl _)
  ·by_cases hf:f=g.fold
   ·subst hf
    replace hz:z ∈ L':=by simpa using hz
    rcases hp6.sls z hz with e|⟨y,hy,e⟩
    ·exact .inr (by omega)
    ·exact .inl (.inr (.inr ⟨_,y,hy,e⟩))
   ·replace hz:z ∈ L f:=by simpa[hf] using hz
    exact .inl (.inr (.inr ⟨f,z,hz,rfl⟩))
 ·intro k hk hn
  have hb:k≠b:=fun e=>hn (.inl (by omega))
  rw[hp6.fr k (by omega) (fun e=>hn (.inl (by omega))) fun y hy e=>hn (.inr (.inr ⟨_,y,hy,e⟩))]
  exact hfr k hk hb
theorem PutR.ofWild (h:Ixs b most S L hp) {g:Gl} (hg:g.lit=false) (he:errPut (S.map (·.1)) g=0) {H6:HP} {bs bw:List Nat} {c cw:Nat}
  (hfr:∀ k,k<hp.length→k≠b→k≠b+3→H6[k]? = hp[k]?) (h0:H6[b]? = some (some (.map ((S++[(g,hp.length)]).map entS) bs c))) (ho:MapOk ((S++[(g,hp.length)]).map entS) bs c) (h3:H6[b+3]? = some (some (.map ((wildS S++[(g,hp.length)]).map entS) bw cw))) (ho3:MapOk ((wildS S++[(g,hp.length)]).map entS) bw cw) (hen:H6[hp.length]? = some (some (.row 62 (g.cells most)))):PutR b most S L hp g (.int .i64 0) H6:=by
 have hle:hp.length<H6.length:=get_lt hen
 refine⟨by rw[he],⟨_,_,h.wild hg he hfr h0 ho h3 ho3 hen,by rw[putG,if_pos he,List.map_append]; rfl,?_⟩,⟨?_,by omega⟩⟩
 ·rintro k (hk|⟨y,hy,rfl⟩|⟨f,z,hz,rfl⟩)
  ·exact .inl (.inl hk)
  ·rcases List.mem_append.1 hy with hy|hy
   ·exact .inl (.inr (.inl ⟨y,hy,rfl⟩))
   ·rw[List.mem_singleton.1 hy]
    exact .inr (Nat.le_refl _)
  ·exact .inl (.inr (.inr ⟨f,z,hz,rfl⟩))
 ·intro k hk hn
  exact hfr k hk (fun e=>hn (.inl (by omega))) (fun e=>hn (.inl (by omega)))
theorem Aut.v_store (a:Aut) {H:HP} {k o:Nat} {t:TypeId} {cs:List AV} (hk:H[k]? = some (some (.row t cs))) (ho:o+1≤cs.length):storeA H 1 (.ptr k o) a.v=some (H.set k (some (.row t (over cs o [a.v])))):=by
 cases a<;>simp only[storeA,Aut.v,cellsA,hk,List.length_cons,List.length_nil,Nat.zero_add,ho,and_self,if_true]
theorem Aut.v_pick (a:Aut) {x y z:AV}:pickA none [x,y,z,a.v] 3=some a.v:=by cases a<;>rfl
theorem Gl.auto_pick (g:Gl) (most:Int):pickA none (g.cells most) 3=some (g.auto most):=by
 unfold Gl.cells Gl.auto
 split
 ·rfl
 ·exact Aut.v_pick _
theorem lit_any (g:Gl):g.pat.any wildb = !g.lit:=by rw[Gl.lit,Bool.not_not]
theorem wild_ids (h:Ixs b most S L hp) {id:Int} (hn:∀ y ∈ S,y.1.id≠id):∀ y ∈ wildS S,y.1.id≠id:=fun y hy=>hn y (List.mem_filter.1 hy).1
set_option maxHeartbeats 1000000 in
theorem put_gen (h:Ixs b most S L hp) (g:Gl) (hl:g.pat.length≤300):ACalls Tryz.prog 11 [.ptr (b+4) 0,.int .i64 g.id,.str g.pat,.bool g.fold] hp (PutR b most S L hp g):=by
 refine calls_e hmG P5_ok comp11 (by decide) (by simp) ?_
 have hx:=h.hx
 obtain⟨bs,c,ha,ho⟩:=h.ha
 have hl1:lenA hp (.map b)=some (.int .i64 (S.length:Int)):=by simp only[lenA,ha,List.length_map]
 have hlf:lenFits .map (.map b)=true:=rfl
 have k1:=P5_check g.pat
 have k2:=P5_lit (p:=g.pat) (by omega)
 have k3:=P5_new g.fold most hl
 have g4:=get_lt hx
 refine vcE.s1 (k:=vcE.seq (vcE.block ?_))
 rw[show r11_1=r11_1.take 1++((r11_1.drop 1).take 1++r11_1.drop 2) from rfl]
 refine vcE.seq (vcE.app (vcE.e1 (k:=⟨rfl,vcE.app (vcE.call (f:=27) (caps:=[]) (ys:=[.ptr (b+4) 0]) rfl rfl (made_calls hx) ?_)⟩)))
 rintro r hp ⟨rfl,rfl⟩
 refine⟨rfl,vcE.ex (by simp (disch:=first|assumption|omega) only[go_sem,↓reduceIte,putE]; rfl) ?_⟩
 refine vcE.condFalse (by simp only[evE,upd_app,↓reduceIte]) ?_
 by_cases h0:g.id<0
 ·refine vcE.step (by simp (disch:=first|assumption|omega) only[go_sem,↓reduceIte,Nat.reduceEqDiff,h0,decide_true]; rfl) (vcE.condTrue (by simp only[evE,upd_app,↓reduceIte]) ?_)
  refine vcE.e0 ?_
  refine⟨_,rfl,?_⟩
  simp only[upd_app,↓reduceIte]
  exact PutR.same h (if_pos h0) (by decide)
 refine vcE.step (by simp (disch:=first|assumption|omega) only[go_sem,↓reduceIte,Nat.reduceEqDiff,h0,decide_false]; rfl) (vcE.condFalse (by simp only[evE,upd_app,↓reduceIte]) ?_)
 rw[show r11_5=r11_5.take 2++((r11_5.drop 2).take 1++r11_5.drop 3) from rfl]
 refine vcE.seq (vcE.app (vcE.e1 (k:=⟨rfl,vcE.app (vcE.call (f:=22) (caps:=[]) (ys:=[.ptr (b+4) 0,.int .i64 g.id]) rfl rfl (has_gen h g.id) ?_)⟩)))
 rintro r hp ⟨rfl,rfl⟩
 refine⟨rfl,vcE.ex (by simp (disch:=first|assumption|omega) only[go_sem,↓reduceIte,putE]; rfl) ?_⟩
 cases hh:hasG (S.map (·.1)) g.id
 rotate_left
 ·refine vcE.condTrue (by simp only[evE,upd_app,↓reduceIte]) ?_
  refine vcE.e0 ?_
  refine⟨_,rfl,?_⟩
  simp only[upd_app,↓reduceIte]
  refine PutR.same h ?_ (by decide)
  rw[errPut,if_neg h0,if_pos hh]
 refine vcE.condFalse (by simp only[evE,upd_app,↓reduceIte]) ?_
 refine vcE.e0 ?_
 by_cases hc:checkG g.pat=0
 rotate_left
 ·refine vcE.ex (by simp (disch:=first|assumption|omega) only[go_sem,↓reduceIte,Nat.reduceEqDiff,reduceCtorEq,Nat.reduceAdd,k1,hc]; rfl) ?_
  refine⟨_,rfl,?_⟩
  simp only[upd_app,↓reduceIte]
  refine PutR.same h ?_ hc
  rw[errPut,if_neg h0,if_neg (by simp[hh]),if_pos hc]
 rw[hc] at k1
 by_cases hlen:200≤S.length
 ·have hge:(S.length:Int)≥200:=by omega
  refine vcE.ex (by simp (disch:=first|assumption|omega) only[go_sem,↓reduceIte,Nat.reduceEqDiff,frzL.eq_2,k1,nidL.eq_2,reduceCtorEq,nilchkA,hx,hlf,↓hl1,hge]; rfl) ?_
  refine⟨_,rfl,?_⟩
  simp only[upd_app,↓reduceIte]
  refine PutR.same h ?_ (by decide)
  rw[errPut,if_neg h0,if_neg (by simp[hh]),if_neg (by simp[hc]),if_pos (by rw[List.length_map]; exact hlen)]
 have hge:¬ (S.length:Int)≥200:=by omega
 have he:errPut (S.map (·.1)) g=0:=by rw[errPut,if_neg h0,if_neg (by simp[hh]),if_neg (by simp[hc]),if_neg (by rw[List.length_map]; exact hlen)]
 have f1:fillA [(0,1),(1,1),(2,1)] [.int .i64 0,.str [],.bool false] (([0,1,2]:List Nat).zip [.int .i64 g.id,.str g.pat,.bool g.fold])=some g.c:=rfl
 have f2:fillA [(0,3),(3,1)] [.int .i64 0,.str [],.bool false,.nilp] (([0]:List Nat).zip [.agg g.c])=some (g.c++[.nilp]):=rfl
 have fc:cellsA (.agg (g.c++[.nilp]))=g.c++[.nilp]:=rfl
 have hno:∀ y ∈ S,y.1.id≠g.id:=fun y hy=>hasG_not hh y.1 (List.mem_map_of_mem hy)
 have ga:=get_lt ha
 have hx1:(hp++[some (Blk.row 62 (g.c++[.nilp]))])[b+4]? = _:=app_get hx
 have ha1:(hp++[some (Blk.row 62 (g.c++[.nilp]))])[b]? = _:=app_get ha
 obtain⟨H2,hH2⟩:∃ H2,H2=(hp++[some (Blk.row 62 (g.c++[.nilp]))]).set b (some (.map ((S++[(g,hp.length)]).map entS) (bs++[c]) (c+1))):=⟨_,rfl⟩
 have hup:mapupA (hp++[some (Blk.row 62 (g.c++[.nilp]))]) .int (.map b) (.int .i64 g.id) (.ptr hp.length 0)=some H2:=by
  rw[up_of ha1 rfl (findS_none hno),hH2,List.map_append]
  rfl
 refine vcE.step (by simp (disch:=first|assumption|omega) only[go_sem,↓reduceIte,Nat.reduceEqDiff,k1]; rfl) (vcE.step (by simp (disch:=first|assumption|omega) only[go_sem,↓reduceIte,reduceCtorEq,nilchkA,hx,hlf,↓hl1,hge,decide_false]; rfl) (vcE.step (by simp (disch:=first|assumption|omega) only[go_sem,↓reduceIte,Nat.reduceEqDiff,Nat.reduceAdd,↓f1,↓f2,boxA_eq,fc]; rfl) (vcE.step (by simp (disch:=first|assumption|omega) only[go_sem,↓reduceIte,Nat.reduceEqDiff,reduceCtorEq,hx1,nilchkA,↓hup]; rfl) ?_)))
 have hfr2:∀ k,k<hp.length→k≠b→H2[k]? = hp[k]?:=fun k hk hb=>by
  rw[hH2,List.getElem?_set_ne (Ne.symm hb),List.getElem?_append_left hk]
 have h20:H2[b]? = some (some (.map ((S++[(g,hp.length)]).map entS) (bs++[c]) (c+1))):=by rw[hH2]; exact set_get ha1
 have he2:H2[hp.length]? = some (some (.row 62 (g.c++[.nilp]))):=by
  rw[hH2,set_get_ne (by omega)]
  simp
 have ho2:MapOk ((S++[(g,hp.length)]).map entS) (bs++[c]) (c+1):=by rw[List.map_append]; exact ho.put _
 have hx2:H2[b+4]? = some (some (.row 57 (ixC most b (b+1) (b+2) (b+3)))):=by rw[hfr2 _ g4 (by omega)]; exact hx
 have hl2:H2.length=hp.length+1:=by rw[hH2]; simp
 clear hup hH2 hx1 ha1 hl1
 cases hlit:g.lit
 ·have hw:g.pat.any wildb=true:=by rw[lit_any,hlit]; rfl
  rw[litP,if_pos hw] at k2
  refine vcE.seq (vcE.step (by simp (disch:=first|assumption|omega) only[go_sem,↓reduceIte,Nat.reduceEqDiff,k2,Bool.true_or]; rfl) (vcE.s1 (k:=vcE.condFalse (by simp only[evE,upd_app,↓reduceIte]) ?_)))
  refine vcE.e0 ?_
  have hst:storeA H2 1 (.ptr hp.length 3) (newA g.pat g.fold most).v=some (H2.set hp.length (some (.row 62 (g.cells most)))):=by
   have hov:over (g.c++[.nilp]) 3 [(newA g.pat g.fold most).v]=g.cells most:=by
    rw[Gl.cells,Gl.auto,hlit]
    rfl
   rw[Aut.v_store _ he2 (o:=3) (Nat.le_refl _),hov]
  obtain⟨H3,hH3⟩:∃ H3,H3=H2.set hp.length (some (.row 62 (g.cells most))):=⟨_,rfl⟩
  rw[← hH3] at hst
  have hfr3:∀ k,k≠hp.length→H3[k]? = H2[k]?:=fun k hk=>by rw[hH3,List.getElem?_set_ne (Ne.symm hk)]
  have he3:H3[hp.length]? = some (some (.row 62 (g.cells most))):=by rw[hH3]; exact set_get he2
  have hx3:H3[b+4]? = some (some (.row 57 (ixC most b (b+1) (b+2) (b+3)))):=by rw[hfr3 _ (by omega)]; exact hx2
  obtain⟨bw,cw,hwm,how⟩:=h.hw
  have hw3:H3[b+3]? = some (some (.map ((wildS S).map entS) bw cw)):=by rw[hfr3 _ (by omega),hfr2 _ (by omega) (by omega)]; exact hwm
  have hup:=up_of (ky:=.int) (v:=.ptr hp.length 0) hw3 (k:=.int .i64 g.id) rfl (findS_none (wild_ids h hno))
  refine vcE.step (by simp (disch:=first|assumption|omega) only[go_sem,↓reduceIte,Nat.reduceEqDiff,reduceCtorEq,k3,hx2,nilchkA,↓hst]; rfl) (vcE.step (by simp (disch:=first|assumption|omega) only[go_sem,↓reduceIte,Nat.reduceEqDiff,reduceCtorEq,hx3,nilchkA,↓hup]; rfl) ?_)
  refine vcE.e0 ?_
  refine⟨_,rfl,?_⟩
  simp only[upd_app,↓reduceIte]
  refine PutR.ofWild h hlit he (bs:=bs++[c]) (c:=c+1) (bw:=bw++[cw]) (cw:=cw+1) ?_ ?_ ho2 ?_ ?_ ?_
  ·intro k hk hb h3
   rw[List.getElem?_set_ne (Ne.symm h3),hfr3 _ (by omega)]
   exact hfr2 k hk hb
  ·rw[List.getElem?_set_ne (by omega),hfr3 _ (by omega)]
   exact h20
  ·rw[set_get hw3,List.map_append]
   rfl
  ·rw[List.map_append]
   exact how.put _
  ·rw[List.getElem?_set_ne (by omega)]
   exact he3
 ·have hw:¬ g.pat.any wildb=true:=by rw[lit_any,hlit]; decide
  rw[litP,if_neg hw] at k2
  have hce:g.cells most=g.c++[.nilp]:=by
   rw[Gl.cells,Gl.auto,hlit]
   rfl
  rw[← hce] at he2
  have hf2:=fb_lt g.fold
  have hpe:pickA (some 3) (g.cells most) 0=some (.agg g.c):=by rw[hce]; rfl
  obtain⟨H3,hH3⟩:∃ H3,H3=H2++[some (Blk.row 47 g.c)]:=⟨_,rfl⟩
  obtain⟨H4,hH4⟩:∃ H4,H4=H3++[some (Blk.row 3 [AV.int .i64 g.id])]:=⟨_,rfl⟩
  have hl3:H3.length=hp.length+2:=by rw[hH3]; simp[hl2]
  have hfr3:∀ k,k<hp.length+1→H3[k]? = H2[k]?:=fun k hk=>by rw[hH3,List.getElem?_append_left (by omega)]
  have hfr4:∀ k,k<hp.length+2→H4[k]? = H3[k]?:=fun k hk=>by rw[hH4,List.getElem?_append_left (by omega)]
  have hfrA:∀ k,k<hp.length→k≠b→H4[k]? = hp[k]?:=fun k hk hb=>by rw[hfr4 k (by omega),hfr3 k (by omega)]; exact hfr2 k hk hb
  have hsrc:srcA H4 1 (.sl H3.length 0 1 1 1 true)=some ([AV.int .i64 g.id],1):=by rw[hH4]; simp[srcA]
  have hpm:PMap H4 (b+1+g.fold.toNat) (L g.fold):=(h.p g.fold).frame (hfrA _ (by omega) (by omega)) fun z hz=>hfrA _ (get_lt ((h.p _).r z hz)) (h.sl_ne hz).1
  have hsm:∀ k,(idsL (L g.fold) k).length≤1000:=fun k=>by
   have h1:=h.ok.len
   have h2:(idsG g.fold k (S.map (·.1))).length≤(S.map (·.1)).length:=by
    rw[idsG,List.length_map]
    exact List.length_filter_le _ _
   rw[h.r]
   omega
  obtain⟨v,v',H5,H6,L',hv,h5,h6,hp6⟩:=put_list hpm (h.nd g.fold) g.key g.id hsrc hsm
  have hlk:=hv H3 (by rw[hfr4 _ (by omega)])
  rw[hH4] at h5
  refine vcE.seq (vcE.step (by simp (disch:=first|assumption|omega) only[go_sem,↓reduceIte,Nat.reduceEqDiff,k2,Bool.true_or]; rfl) (vcE.s1 (k:=vcE.condTrue (by simp only[evE,upd_app,↓reduceIte]) ?_)))
  rw[show r11_16=r11_16.take 5++((r11_16.drop 5).take 1++r11_16.drop 6) from rfl]
  refine vcE.seq (vcE.app (vcE.ex (by simp (disch:=first|assumption|omega) only[go_sem,↓reduceIte,Nat.reduceEqDiff,reduceCtorEq,nilchkA,he2,↓hpe]; rfl) ⟨rfl,vcE.app (vcE.call (f:=30) (caps:=[]) (ys:=[.ptr (b+4) 0,.agg g.c]) rfl rfl (lists_gen hx2 g (by omega)) ?_)⟩))
  rintro r Hz ⟨rfl,rfl⟩
  rw[← hH3]
  refine⟨rfl,vcE.ex (by simp (disch:=first|assumption|omega) only[go_sem,↓reduceIte,Nat.reduceEqDiff,putE]; rfl) ?_⟩
  refine vcE.ex (by simp (disch:=first|assumption|omega) only[go_sem,↓reduceIte,Nat.reduceEqDiff,↓hlk,↓h5,↓h6]; rfl) ?_
  refine⟨_,rfl,?_⟩
  simp only[upd_app,↓reduceIte]
  refine PutR.ofLit h hlit he (bs:=bs++[c]) (c:=c+1) hfrA ?_ ho2 ?_ hp6
  ·rw[hfr4 _ (by omega),hfr3 _ (by omega)]; exact h20
  ·rw[hfr4 _ (by omega),hfr3 _ (by omega)]; exact he2
end
end
section
set_option linter.unusedSectionVars false
variable [Mx]
open Go Go.Proofs
section
variable {hp:HP} {b:Nat} {most:Int} {S A B:List (Gl × Nat)} {y:Gl × Nat} {L:Bool→List PL}
def DropR (b:Nat) (most:Int) (S:List (Gl × Nat)) (L:Bool→List PL) (hp:HP) (id:Int) (r:AV) (H:HP):Prop:=
 r=.int .i64 (errDrop (S.map (·.1)) id)∧(∃ S' L',Ixs b most S' L' H∧S'.map (·.1)=dropG (S.map (·.1)) id∧∀ k,Foot b S' L' k→Foot b S L k)∧Chg (Foot b S L) hp H
theorem dropG_mid (hn:∀ x ∈ A++B,x.1.id≠y.1.id):dropG ((A++y :: B).map (·.1)) y.1.id=(A++B).map (·.1):=by
 have e:∀ C:List (Gl × Nat),(∀ x ∈ C,x.1.id≠y.1.id)→(C.map (·.1)).filter (fun g => !decide (g.id=y.1.id))=C.map (·.1):=fun C hC=>List.filter_eq_self.2 fun g hg=>by
  obtain⟨x,hx,rfl⟩:=List.mem_map.1 hg
  simp[hC x hx]
 rw[dropG,List.map_append,List.map_cons,List.filter_append,List.filter_cons,if_neg (by simp),e A fun x hx=>hn x (List.mem_append_left _ hx),e B fun x hx=>hn x (List.mem_append_right _ hx),List.map_append]
theorem erase_ent:((A++y :: B).map entS).eraseIdx A.length=(A++B).map entS:=by
 rw[List.map_append,List.map_cons,List.map_append,show A.length=(A.map entS).length by simp,List.eraseIdx_append_of_length_le (Nat.le_refl _),Nat.sub_self]
 rfl
theorem del_of {H:HP} {m:Nat} {es:List (AV × AV)} {bs:List Nat} {c:Nat} (hm:H[m]? = some (some (.map es bs c))) {ky:KK} {k:AV} (hk:keyA ky k=true) {x:Nat × AV} (hf:findA k es 0=some (some x)):delA H ky (.map m) k=some (H.set m (some (.map (es.eraseIdx x.1) (bs.eraseIdx x.1) c))):=by
 simp only[delA,hk,hm,hf,cond_true]
theorem Ixs.dropL (h:Ixs b most (A++y :: B) L hp) (hy:y.1.lit=true) {H4 H6:HP} {L':List PL} {bs:List Nat} {c:Nat} (hfr:∀ k,k<hp.length→k≠b→H4[k]? = hp[k]?) (h0:H4[b]? = some (some (.map ((A++B).map entS) bs c))) (ho:MapOk ((A++B).map entS) bs c) (hd:DropL H4 (b+1+y.1.fold.toNat) (L y.1.fold) y.1.key y.1.id H6 L') (hn:∀ x ∈ A++B,x.1.id≠y.1.id) :
  Ixs b most (A++B) (fun f=>if f=y.1.fold then L' else L f) H6:=by
 have hl4:=h.lt (k:=b+4) (.inl ⟨by omega,by omega⟩)
 have hf2:=fb_lt y.1.fold
 have hsub:∀ x ∈ A++B,x ∈ A++y :: B:=fun x hx=>mem_mid0 hx
 have fr:∀ k,k<hp.length→k≠b→k≠b+1+y.1.fold.toNat→(∀ z ∈ L y.1.fold,z.sl≠k)→H6[k]? = hp[k]?:=fun k h1 h2 h3 h4=>by
  rw[hd.fr k h3 h4]
  exact hfr k h1 h2
 have hws:wildS (A++y :: B)=wildS (A++B):=by
  simp only[wildS,List.filter_append,List.filter_cons,hy,Bool.not_true]
  simp
 have hG:=dropG_mid hn
 have hym:y.1 ∈ (A++y :: B).map (·.1):=List.mem_map_of_mem (List.mem_append_right _ List.mem_cons_self)
 refine⟨?_,⟨bs,c,?_,ho⟩,?_,fun f=>?_,fun x hx=>?_,fun f=>?_,?_,fun f k=>?_,?_⟩
 ·rw[fr _ hl4 (by omega) (by omega) fun z hz=>(h.sl_ne hz).2.2.1]
  exact h.hx
 ·rw[hd.fr b (by omega) fun z hz=>(h.sl_ne hz).1]
  exact h0
 ·obtain⟨bw,cw,hw,how⟩:=h.hw
  rw[hws] at hw how
  refine⟨bw,cw,?_,how⟩
  rw[fr _ (by omega) (by omega) (by omega) fun z hz=>(h.sl_ne hz).2.1]
  exact hw
 ·by_cases hf:f=y.1.fold
  ·subst hf
   rw[if_pos rfl]
   exact hd.p
  ·rw[if_neg hf]
   have:=fb_inj hf
   have hf3:=fb_lt f
   refine (h.p f).frame (fr _ (by omega) (by omega) (by omega) fun z hz=>(h.sl_ne hz).2.2.2.1 f) fun z hz=>fr _ (get_lt ((h.p f).r z hz)) (h.sl_ne hz).1 ((h.sl_ne hz).2.2.2.1 _) fun w hw e=>h.dj2 (Ne.symm hf) w hw z hz e
 ·have hx:=hsub x hx
  rw[fr _ (get_lt (h.en x hx)) (h.e_ne hx).1 ((h.e_ne hx).2.2.2 _) fun z hz=>(h.sl_ne hz).2.2.2.2 x hx]
  exact h.en x hx
 ·by_cases hf:f=y.1.fold
  ·rw[if_pos hf]; exact hd.nd
  ·rw[if_neg hf]; exact h.nd f
 ·intro u hu z hz
  cases hgf:y.1.fold
  ·rw[hgf] at hu hz hd
   simp only[if_true] at hu
   simp only[Bool.true_eq_false,if_false] at hz
   obtain⟨x,hx,e⟩:=hd.sls u hu
   rw[← e]; exact h.dj x hx z hz
  ·rw[hgf] at hu hz hd
   simp only[if_true] at hz
   simp only[Bool.false_eq_true,if_false] at hu
   obtain⟨x,hx,e⟩:=hd.sls z hz
   rw[← e]; exact h.dj u hu x hx
 ·rw[← hG]
  by_cases hf:f=y.1.fold
  ·subst hf
   rw[if_pos rfl,hd.ids,h.r]
   by_cases hk:k=y.1.key
   ·rw[if_pos hk,idsG_drop]
   ·rw[if_neg hk,idsG_drop_ne h.ok.nd hym]
    simp only[Gl.at_,hy,Bool.true_and,beq_self_eq_true]
    simpa using fun e=>hk e.symm
  ·rw[if_neg hf,h.r,idsG_drop_ne h.ok.nd hym]
   have:(y.1.fold == f)=false:=by simpa using fun e=>hf e.symm
   simp only[Gl.at_,this,Bool.and_false,Bool.false_and]
 ·rw[← hG]
  exact h.ok.drop _
theorem Ixs.dropW (h:Ixs b most (A++y :: B) L hp) (hy:y.1.lit=false) {H6:HP} {bs bw:List Nat} {c cw:Nat} (hfr:∀ k,k<hp.length→k≠b→k≠b+3→H6[k]? = hp[k]?) (h0:H6[b]? = some (some (.map ((A++B).map entS) bs c))) (ho:MapOk ((A++B).map entS) bs c) (h3:H6[b+3]? = some (some (.map ((wildS (A++B)).map entS) bw cw))) (ho3:MapOk ((wildS (A++B)).map entS) bw cw) (hn:∀ x ∈ A++B,x.1.id≠y.1.id):Ixs b most (A++B) L H6:=by
 have hl4:=h.lt (k:=b+4) (.inl ⟨by omega,by omega⟩)
 have hsub:∀ x ∈ A++B,x ∈ A++y :: B:=fun x hx=>mem_mid0 hx
 have hG:=dropG_mid hn
 have hym:y.1 ∈ (A++y :: B).map (·.1):=List.mem_map_of_mem (List.mem_append_right _ List.mem_cons_self)
 refine⟨?_,⟨bs,c,h0,ho⟩,⟨bw,cw,h3,ho3⟩,fun f=>?_,fun x hx=>?_,h.nd,h.dj,fun f k=>?_,?_⟩
 ·rw[hfr _ hl4 (by omega) (by omega)]
  exact h.hx
 ·have:=fb_lt f
  exact (h.p f).frame (hfr _ (by omega) (by omega) (by omega)) fun z hz=>hfr _ (get_lt ((h.p f).r z hz)) (h.sl_ne hz).1 (h.sl_ne hz).2.1
 ·have hx:=hsub x hx
  rw[hfr _ (get_lt (h.en x hx)) (h.e_ne hx).1 (h.e_ne hx).2.1]
  exact h.en x hx
 ·rw[← hG,h.r,idsG_drop_ne h.ok.nd hym]
  simp only[Gl.at_,hy,Bool.false_and]
 ·rw[← hG]
  exact h.ok.drop _
theorem DropR.ofLit (h:Ixs b most (A++y :: B) L hp) (hy:y.1.lit=true) {H4 H6:HP} {L':List PL} {bs:List Nat} {c:Nat} (hfr:∀ k,k<hp.length→k≠b→H4[k]? = hp[k]?) (h0:H4[b]? = some (some (.map ((A++B).map entS) bs c))) (ho:MapOk ((A++B).map entS) bs c) (hd:DropL H4 (b+1+y.1.fold.toNat) (L y.1.fold) y.1.key y.1.id H6 L') (hn:∀ x ∈ A++B,x.1.id≠y.1.id) (hle:hp.length≤H6.length) (hg:hasG ((A++y :: B).map (·.1)) y.1.id=true):DropR b most (A++y :: B) L hp y.1.id (.int .i64 0) H6:=by
 refine⟨by rw[errDrop,if_pos hg],⟨_,_,h.dropL hy hfr h0 ho hd hn,(dropG_mid hn).symm,?_⟩,⟨?_,hle⟩⟩
 ·rintro k (hk|⟨x,hx,rfl⟩|⟨f,z,hz,rfl⟩)
  ·exact .inl hk
  ·exact .inr (.inl ⟨x,mem_mid0 hx,rfl⟩)
  ·by_cases hf:f=y.1.fold
   ·subst hf
    replace hz:z ∈ L':=by simpa using hz
    obtain⟨x,hx,e⟩:=hd.sls z hz
    exact .inr (.inr ⟨_,x,hx,e⟩)
   ·replace hz:z ∈ L f:=by simpa[hf] using hz
    exact .inr (.inr ⟨f,z,hz,rfl⟩)
 ·intro k hk hnf
  have hf2:=fb_lt y.1.fold
  rw[hd.fr k (fun e=>hnf (.inl (by omega))) fun z hz e=>hnf (.inr (.inr ⟨_,z,hz,e⟩))]
  exact hfr k hk fun e=>hnf (.inl (by omega))
theorem DropR.ofWild (h:Ixs b most (A++y :: B) L hp) (hy:y.1.lit=false) {H6:HP} {bs bw:List Nat} {c cw:Nat} (hfr:∀ k,k<hp.length→k≠b→k≠b+3→H6[k]? = hp[k]?) (h0:H6[b]? = some (some (.map ((A++B).map entS) bs c))) (ho:MapOk ((A++B).map entS) bs c) (h3:H6[b+3]? = some (some (.map ((wildS (A++B)).map entS) bw cw))) (ho3:MapOk ((wildS (A++B)).map entS) bw cw) (hn:∀ x ∈ A++B,x.1.id≠y.1.id) (hle:hp.length≤H6.length) (hg:hasG ((A++y :: B).map (·.1)) y.1.id=true):DropR b most (A++y :: B) L hp y.1.id (.int .i64 0) H6:=by
 refine⟨by rw[errDrop,if_pos hg],⟨_,_,h.dropW hy hfr h0 ho h3 ho3 hn,(dropG_mid hn).symm,?_⟩,⟨?_,hle⟩⟩
 ·rintro k (hk|⟨x,hx,rfl⟩|⟨f,z,hz,rfl⟩)
  ·exact .inl hk
  ·exact .inr (.inl ⟨x,mem_mid0 hx,rfl⟩)
  ·exact .inr (.inr ⟨f,z,hz,rfl⟩)
 ·intro k hk hnf
  exact hfr k hk (fun e=>hnf (.inl (by omega))) (fun e=>hnf (.inl (by omega)))
theorem Gl.au_ptr {g:Gl} (hg:checkG g.pat=0) (hm:1≤most∧most≤256):∃ cs,(g.au most).v=.fptr cs 0:=by
 have he:errA g.pat most=0:=by rw[errA,if_neg (by simp[hg]),if_neg (by omega)]
 rw[Gl.au,newA,if_neg (by simp[he])]
 split<;>exact⟨_,rfl⟩
end
theorem isd_calls {H:HP} {b:Nat} {t:TypeId} {id a:Int} (hb:H[b]? = some (some (.row t [.int .i64 id]))):ACalls Tryz.prog 39 [.int .i64 a,.ptr b 0] H fun r H'=>r=.bool (decide (a=id))∧H'=H:=by
 refine calls_e hmG (TabOk.none _) comp39 (by decide) (by simp) ?_
 refine vcE.ex (by simp (disch:=first|assumption|omega) only[go_sem,↓reduceIte,Nat.reduceEqDiff,reduceCtorEq,hb]; rfl) ?_
 refine⟨_,rfl,?_,rfl⟩
 simp only[upd_app,↓reduceIte]
section
variable {hp:HP} {b:Nat} {most:Int} {S:List (Gl × Nat)} {L:Bool→List PL}
set_option maxHeartbeats 1000000 in
theorem drop_gen (h:Ixs b most S L hp) (hm:1≤most∧most≤256) (id:Int):ACalls Tryz.prog 14 [.ptr (b+4) 0,.int .i64 id] hp (DropR b most S L hp id):=by
 refine calls_e hmG (TabOk.none _) comp14 (by decide) (by simp) ?_
 refine vcE.step (by simp (disch:=first|assumption|omega) only[go_sem,↓reduceIte,boxA_eq,cellsA]; rfl) ?_
 have hfr0:∀ k,k<hp.length→(hp++[some (Blk.row 3 [AV.int .i64 id])])[k]? = hp[k]?:=fun k hk=>List.getElem?_append_left hk
 have h0:Ixs b most S L (hp++[some (Blk.row 3 [AV.int .i64 id])]):=h.frame fun k hk=>hfr0 k (h.lt hk)
 have kb:(hp++[some (Blk.row 3 [AV.int .i64 id])])[hp.length]? = some (some (.row 3 [.int .i64 id])):=by simp
 have hl0:(hp++[some (Blk.row 3 [AV.int .i64 id])]).length=hp.length+1:=by simp
 generalize hp++[some (Blk.row 3 [AV.int .i64 id])]=H0 at *
 have hx:=h0.hx
 have g4:=h.lt (k:=b+4) (.inl ⟨by omega,by omega⟩)
 rw[show r14_1=r14_1.take 1++((r14_1.drop 1).take 1++r14_1.drop 2) from rfl]
 refine vcE.seq (vcE.seq (vcE.app (vcE.e1 (k:=⟨rfl,vcE.app (vcE.call (f:=27) (caps:=[]) (ys:=[.ptr (b+4) 0]) rfl rfl (made_calls hx) ?_)⟩))))
 rintro r H1 ⟨rfl,rfl⟩
 refine⟨rfl,vcE.ex (by simp (disch:=first|assumption|omega) only[go_sem,↓reduceIte,putE]; rfl) ?_⟩
 refine vcE.condFalse (by simp only[evE,upd_app,↓reduceIte]) ?_
 refine vcE.e0 ?_
 obtain⟨bs,c,ha,ho⟩:=h0.ha
 have hld4:loadA H1 none (.ptr (b+4) 1)=some (.map b):=by
  simp only[loadA,rowA,hx,pickA]
  rfl
 have hldb:loadA H1 none (.ptr hp.length 0)=some (.int .i64 id):=by
  simp only[loadA,rowA,kb,pickA]
  rfl
 rcases h0.split id with ⟨hg,hno⟩|⟨A,y,B,rfl,rfl,hn,hg⟩
 ·have hlk:lookA H1 .int .nilp true (.map b) (.int .i64 id)=some (.tup [.nilp,.bool false]):=by
   simp only[lookA,keyA,rowsA,ha,findS_none hno,cond_true]
  refine vcE.step (by simp (disch:=first|assumption|omega) only[go_sem,exOps.eq_2,↓reduceIte,reduceCtorEq,nilchkA,↓hld4,Nat.reduceEqDiff,↓hldb,↓hlk]; rfl) ?_
  refine vcE.e0 ?_
  refine⟨_,rfl,?_⟩
  simp only[upd_app,↓reduceIte]
  refine⟨by rw[errDrop,if_neg (by simp[hg])],⟨S,L,h0,?_,fun k hk=>hk⟩,⟨fun k hk _=>hfr0 k hk,by omega⟩⟩
  rw[dropG,List.filter_eq_self.2]
  intro g hgm
  simp[hasG_not hg g hgm]
 have hnA:∀ x ∈ A,x.1.id≠y.1.id:=fun x hx=>hn x (List.mem_append_left _ hx)
 have hf:=findS_at (i:=0) (B:=B) rfl hnA
 rw[Nat.zero_add] at hf
 have hlk:lookA H1 .int .nilp true (.map b) (.int .i64 y.1.id)=some (.tup [.ptr y.2 0,.bool true]):=by
  simp only[lookA,keyA,rowsA,ha,hf,cond_true]
 have hdel:delA H1 .int (.map b) (.int .i64 y.1.id)=some (H1.set b (some (.map ((A++B).map entS) (bs.eraseIdx A.length) c))):=by
  rw[del_of ha rfl hf,erase_ent]
 have ho2:MapOk ((A++B).map entS) (bs.eraseIdx A.length) c:=by rw[← erase_ent]; exact ho.del _
 have hym:y ∈ A++y :: B:=List.mem_append_right _ List.mem_cons_self
 have hye:=h0.en y hym
 have hyn:=h0.e_ne hym
 have hchk:checkG y.1.pat=0:=h0.ok.chk _ (List.mem_map_of_mem hym)
 refine vcE.step (by simp (disch:=first|assumption|omega) only[go_sem,exOps.eq_2,↓reduceIte,reduceCtorEq,nilchkA,↓hld4,Nat.reduceEqDiff,↓hldb,↓hlk]; rfl) ?_
 refine vcE.s0 ?_
 refine vcE.step (by simp (disch:=first|assumption|omega) only[go_sem,exOps.eq_2,↓reduceIte,reduceCtorEq,nilchkA,↓hld4,Nat.reduceEqDiff,↓hldb,↓hdel]; rfl) ?_
 have gb:=get_lt ha
 have gy:=get_lt hye
 obtain⟨H2,hH2⟩:∃ H2,H2=H1.set b (some (.map ((A++B).map entS) (bs.eraseIdx A.length) c)):=⟨_,rfl⟩
 have hl2:H2.length=hp.length+1:=by rw[hH2,List.length_set]; exact hl0
 have hfr2:∀ k,k≠b→H2[k]? = H1[k]?:=fun k hk=>by rw[hH2,List.getElem?_set_ne (Ne.symm hk)]
 have h2b:H2[b]? = some (some (.map ((A++B).map entS) (bs.eraseIdx A.length) c)):=by rw[hH2]; exact set_get ha
 rw[← hH2]
 have hx2:H2[b+4]? = some (some (.row 57 (ixC most b (b+1) (b+2) (b+3)))):=by rw[hfr2 _ (by omega)]; exact hx
 have ke2:H2[y.2]? = some (some (.row 62 (y.1.cells most))):=by rw[hfr2 _ hyn.1]; exact hye
 have kb2:H2[hp.length]? = some (some (.row 3 [.int .i64 y.1.id])):=by rw[hfr2 _ (by omega)]; exact kb
 clear hld4 hldb hlk hdel hH2
 have hpn:loadA H2 none (.ptr y.2 3)=some (y.1.auto most):=by
  simp only[loadA,rowA,ke2,Gl.auto_pick]
 have hpe:loadA H2 (some 3) (.ptr y.2 0)=some (.agg y.1.c):=by
  simp only[loadA,rowA,ke2,pickA]
  rfl
 cases hlit:y.1.lit
 ·obtain⟨cs,hcs⟩:=Gl.au_ptr (most:=most) hchk hm
  have hau:y.1.auto most=.fptr cs 0:=by rw[Gl.auto,hlit]; exact hcs
  rw[hau] at hpn
  obtain⟨bw,cw,hwm,how⟩:=h0.hw
  have hw2:H2[b+3]? = some (some (.map ((wildS (A++y :: B)).map entS) bw cw)):=by rw[hfr2 _ (by omega)]; exact hwm
  have hws:wildS (A++y :: B)=wildS A++y :: wildS B:=by
   simp only[wildS,List.filter_append,List.filter_cons,hlit,Bool.not_false,if_true]
  have hws2:wildS (A++B)=wildS A++wildS B:=by simp only[wildS,List.filter_append]
  rw[hws] at hw2 how
  have hf2:=findS_at (i:=0) (y:=y) (B:=wildS B) rfl (A:=wildS A) fun x hx=>hnA x (List.mem_filter.1 hx).1
  rw[Nat.zero_add] at hf2
  have hdel2:=del_of (ky:=.int) hw2 rfl hf2
  have ho3:=how.del (wildS A).length
  rw[erase_ent,← hws2] at hdel2 ho3
  have hld4:loadA H2 none (.ptr (b+4) 4)=some (.map (b+3)):=by
   simp only[loadA,rowA,hx2,pickA]
   rfl
  have hldb:loadA H2 none (.ptr hp.length 0)=some (.int .i64 y.1.id):=by
   simp only[loadA,rowA,kb2,pickA]
   rfl
  refine vcE.ex (by simp (disch:=first|assumption|omega) only[go_sem,↓reduceIte,Nat.reduceEqDiff,nilchkA,↓hpn,isNilA,exOps.eq_2,reduceCtorEq,↓hld4,↓hldb,↓hdel2]; rfl) ?_
  refine⟨_,rfl,?_⟩
  simp only[upd_app,↓reduceIte]
  refine DropR.ofWild h hlit (bs:=bs.eraseIdx A.length) (c:=c) (bw:=bw.eraseIdx (wildS A).length) (cw:=cw) ?_ ?_ ho2 ?_ ho3 hn ?_ hg
  ·intro k hk hb h3
   rw[List.getElem?_set_ne (Ne.symm h3),hfr2 _ hb]
   exact hfr0 k hk
  ·rw[List.getElem?_set_ne (by omega)]
   exact h2b
  ·exact set_get hw2
  ·rw[List.length_set]
   omega
 ·have hau:y.1.auto most=.nilp:=by rw[Gl.auto,hlit]; rfl
  rw[hau] at hpn
  have hpl:y.1.pat.length≤1000000:=by
   unfold checkG at hchk
   split at hchk
   ·cases hchk
   ·split at hchk
    ·cases hchk
    ·omega
  refine vcE.step (by simp (disch:=first|assumption|omega) only[go_sem,↓reduceIte,Nat.reduceEqDiff,isNilA,nilchkA,↓hpn]; rfl) ?_
  rw[show r14_10=r14_10.take 5++((r14_10.drop 5).take 1++r14_10.drop 6) from rfl]
  refine vcE.seq (vcE.app (vcE.ex (by simp (disch:=first|assumption|omega) only[go_sem,↓reduceIte,Nat.reduceEqDiff,reduceCtorEq,nilchkA,↓hpe]; rfl) ⟨rfl,vcE.app (vcE.call (f:=30) (caps:=[]) (ys:=[.ptr (b+4) 0,.agg y.1.c]) rfl (by simp only[evsE,evE,upd_app,Nat.reduceEqDiff,↓reduceIte]) (lists_gen hx2 y.1 hpl) ?_)⟩))
  rintro r Hz ⟨rfl,rfl⟩
  refine⟨rfl,vcE.ex (by simp (disch:=first|assumption|omega) only[go_sem,↓reduceIte,Nat.reduceEqDiff,putE]; rfl) ?_⟩
  obtain⟨H3,hH3⟩:∃ H3,H3=H2++[some (Blk.row 47 y.1.c)]:=⟨_,rfl⟩
  rw[← hH3]
  have hl3:H3.length=hp.length+2:=by rw[hH3]; simp[hl2]
  have hfr3:∀ k,k<hp.length+1→H3[k]? = H2[k]?:=fun k hk=>by rw[hH3,List.getElem?_append_left (by omega)]
  have hfrA:∀ k,k<hp.length→k≠b→H3[k]? = hp[k]?:=fun k hk hb=>by rw[hfr3 k (by omega),hfr2 k hb]; exact hfr0 k hk
  have hf2:=fb_lt y.1.fold
  have hsl:∀ z ∈ L y.1.fold,z.sl<hp.length:=fun z hz=>get_lt ((h.p _).r z hz)
  have hpm:PMap H3 (b+1+y.1.fold.toNat) (L y.1.fold):=(h.p y.1.fold).frame (hfrA _ (by omega) (by omega)) fun z hz=>hfrA _ (hsl z hz) (h.sl_ne hz).1
  have kb3:H3[hp.length]? = some (some (.row 3 [.int .i64 y.1.id])):=by rw[hfr3 _ (by omega)]; exact kb2
  have h3b:H3[b]? = some (some (.map ((A++B).map entS) (bs.eraseIdx A.length) c)):=by rw[hfr3 _ (by omega)]; exact h2b
  have hids:y.1.id ∈ idsL (L y.1.fold) y.1.key:=by
   rw[h.r,idsG]
   refine List.mem_map.2 ⟨y.1,List.mem_filter.2 ⟨List.mem_map_of_mem hym,?_⟩,rfl⟩
   simp[Gl.at_,hlit]
  have hsm:(idsL (L y.1.fold) y.1.key).length≤1000:=by
   have h1:=h.ok.len
   have h2:(idsG y.1.fold y.1.key ((A++y :: B).map (·.1))).length≤((A++y :: B).map (·.1)).length:=by
    rw[idsG,List.length_map]
    exact List.length_filter_le _ _
   rw[h.r]
   omega
  rcases hpm.split y.1.key with ⟨_,hnil⟩|⟨LA,z,LB,hL,hz,hAB,hid⟩
  ·rw[hnil] at hids
   cases hids
  have hnd:=h.nd y.1.fold
  have hzm:z ∈ L y.1.fold:=by rw[hL]; exact List.mem_append_right _ List.mem_cons_self
  have hzl:=hsl z hzm
  have hzr:=hpm.r z hzm
  have hlk:=look_of (k:=y.1.key) hpm (by
   have:=find_at (i:=0) hz (B:=LB) (A:=LA) fun x hx=>hAB x (List.mem_append_left _ hx)
   rw[← hL] at this
   exact this)
  simp only at hlk
  rw[hid] at hsm
  have hdf:=deleteF1 (L:=elIn) (hp:=H3) (id:=z.sl) (cap:=z.ids.length+z.rest.length) (e:=3) (ex:=false) (l:=z.ids) (rest:=z.rest) (p:=fun a=>decide (a=y.1.id)) (g:=39) (caps:=[.ptr hp.length 0]) hmG (0:Int) comp38 comp54 hzr (by omega) (by omega) (fun a H hf=>isd_calls (by rw[hf _ (by omega)]; exact kb3))
  rw[show r14_11=r14_11.take 6++((r14_11.drop 6).take 1++r14_11.drop 7) from rfl]
  refine vcE.seq (vcE.app (vcE.ex (by simp (disch:=first|assumption|omega) only[go_sem,↓reduceIte,Nat.reduceEqDiff,↓hlk]; rfl) ⟨rfl,vcE.app (vcE.call (f:=38) (caps:=[]) (ys:=[z.v,.func 39 [.ptr hp.length 0]]) rfl (by simp only[evsE,evE,upd_app,Nat.reduceEqDiff,↓reduceIte]) hdf ?_)⟩))
  rintro r H4 ⟨rfl,rest,hr1,hdj⟩
  rw[hL] at hpm hnd hid
  obtain⟨H5,hup,hlk2,hK1,hK2⟩:=del_list (H4:=H4) hpm hnd hz hAB hid hr1 hdj
  have hlk3:=hlk2 .nils
  refine⟨rfl,vcE.ex (by simp (disch:=first|assumption|omega) only[go_sem,↓reduceIte,Nat.reduceEqDiff,putE,↓hup]; rfl) ?_⟩
  have fin:∀ H6 L',DropL H3 (b+1+y.1.fold.toNat) (LA++z :: LB) y.1.key y.1.id H6 L'→DropR b most (A++y :: B) L hp y.1.id (.int .i64 0) H6:=fun H6 L' hD=>by
   rw[← hL] at hD
   have hb6:H6[hp.length]? = some (some (.row 3 [.int .i64 y.1.id])):=by
    rw[hD.fr _ (by omega) fun x hx=>by have:=hsl x hx; omega]
    exact kb3
   exact DropR.ofLit h hlit hfrA h3b ho2 hD hn (by have:=get_lt hb6; omega) hg
  by_cases hK:(z.ids.filter fun a => !decide (a=y.1.id))=[]
  ·obtain⟨H6,L',hdel2,hD⟩:=hK2 hK
   have hz0:(((z.ids.filter fun a => !decide (a=y.1.id)).length:Nat):Int)=0:=by rw[hK]; rfl
   refine vcE.ex (by simp (disch:=first|assumption|omega) only[go_sem,↓reduceIte,Nat.reduceEqDiff,↓hlk3,hz0,↓hdel2,decide_true]; rfl) ?_
   refine⟨_,rfl,?_⟩
   simp only[upd_app,↓reduceIte]
   exact fin H6 L' hD
  ·obtain⟨L',hD⟩:=hK1 hK
   have hz0:¬ (((z.ids.filter fun a => !decide (a=y.1.id)).length:Nat):Int)=0:=fun e=>hK (List.eq_nil_of_length_eq_zero (by omega))
   refine vcE.ex (by simp (disch:=first|assumption|omega) only[go_sem,↓reduceIte,Nat.reduceEqDiff,↓hlk3,hz0,decide_false]; rfl) ?_
   refine⟨_,rfl,?_⟩
   simp only[upd_app,↓reduceIte]
   exact fin H5 L' hD
end
end
section
set_option linter.unusedSectionVars false
variable [Mx]
open Go
variable {α:Type}
abbrev growC (e:TypeId) (sz bytes:Nat) (Z:List AV) (t9:TypeId) (msg:List UInt8):IC:=(IC.seq (IC.reg [⟨some 4,.op (.mov),[.c (.nils)],none⟩]) (IC.seq (IC.seq (IC.reg [⟨some 5,.op (.mov),[.t 1],none⟩,
 ⟨some 6,.op (.bin .lss .prim),[.t 5,.c (.int .i64 0)],none⟩]) (IC.cond (.t 6) (IC.reg [⟨some 7,.op (.mkif t9),[.c (.str msg)],none⟩,
 ⟨none,.op (.never),[],none⟩]) IC.skip)) (IC.seq (IC.seq (IC.reg [⟨some 8,.op (.mov),[.t 1],none⟩,
 ⟨some 9,.op (.mov),[.t 0],none⟩,
 ⟨some 10,.op (.cap),[.t 9],none⟩,
 ⟨some 11,.op (.mov),[.t 0],none⟩,
 ⟨some 12,.op (.len .slice),[.t 11],none⟩,
 ⟨some 13,.op (.bin .sub .prim),[.t 10,.t 12],none⟩,
 ⟨some 14,.op (.bin .sub .prim),[.t 8,.t 13],none⟩,
 ⟨some 1,.op (.mov),[.t 14],none⟩]) (IC.seq (IC.reg [⟨some 15,.op (.mov),[.t 1],none⟩,
 ⟨some 16,.op (.bin .gtr .prim),[.t 15,.c (.int .i64 0)],none⟩]) (IC.cond (.t 16) (IC.reg [⟨some 17,.op (.mov),[.t 0],none⟩,
 ⟨some 18,.op (.mov),[.t 0],none⟩,
 ⟨some 19,.op (.cap),[.t 18],none⟩,
 ⟨some 20,.op (.slice sz false true false),[.t 17,.t 19],none⟩,
 ⟨some 21,.op (.mov),[.t 1],none⟩,
 ⟨some 22,.op (.appz e Z bytes),[.t 20,.t 21],none⟩,
 ⟨some 23,.op (.mov),[.t 0],none⟩,
 ⟨some 24,.op (.len .slice),[.t 23],none⟩,
 ⟨some 25,.op (.slice sz false true false),[.t 22,.t 24],none⟩,
 ⟨some 0,.op (.mov),[.t 25],none⟩]) IC.skip))) (IC.seq (IC.reg [⟨some 26,.op (.mov),[.t 0],none⟩,
 ⟨some 4,.op (.mov),[.t 26],none⟩]) IC.ret))))
def growR (E:Enc α) (e:TypeId) (z:α) (n k:Nat):AV × HP:=if n=0 then (.nils,[]) else (.sl k 0 0 E.sz n false,[some (.row e (E.cs (List.replicate n z)))])
theorem grow_calls {P:Program} (hm:P.follows .mixedOrders=true) {hint:Nat→Nat} {f:FuncId} (E:Enc α) {e t9:TypeId} {bytes:Nat} {msg:List UInt8} (z:α) (hf:compF P hint f=some ⟨growC e E.sz bytes (E.c z) t9 msg,27,[.t 4]⟩) {n:Nat} (hb:n*bytes≤140737488355328) (hn:n≤4611686018427387904) (hp:HP) :
  ACalls P f [.nils,.int .i64 n] hp fun r hp'=>r=(growR E e z n hp.length).1∧hp'=hp++(growR E e z n hp.length).2:=by
 refine calls_e hm (TabOk.none _) hf (by rfl) (by simp) ?_
 have w1:IntKind.wrap .i64 ((0:Int) - 0)=0:=by decide
 have w2:IntKind.wrap .i64 ((n:Int) - 0)=n:=by rw[Int.sub_zero]; exact wrap_i64 (by omega) (by omega)
 have hn0:¬ ((n:Int)<0):=by omega
 by_cases h0:n=0
 ·subst h0
  refine vcE.ex (by simp (disch:=first|assumption|omega) only[go_sem,↓reduceIte,Nat.reduceEqDiff,reduceCtorEq,capA,Int.natCast_zero,Int.lt_irrefl]; rfl) ?_
  exact⟨_,rfl,rfl,by simp[growR]⟩
 ·have hgt:((n:Int) > 0):=by omega
  have hz:appzA e (E.c z) bytes hp .nils (.int .i64 n)=some (.sl hp.length 0 n E.sz n false,hp++[some (.row e (E.cs (List.replicate n z)))]):=by
   simp only[appzA,emptyA,if_true]
   rw[if_pos ⟨by omega,by simpa using hb,by omega⟩,Int.toNat_natCast,if_neg h0,E.len,E.zeros]
  have s0:sliceA E.sz .nils none (some (.int .i64 (0:Int))) none=some .nils:=by simp[sliceA,bndA,cutA]
  have s1:sliceA E.sz (.sl hp.length 0 n E.sz n false) none (some (.int .i64 (0:Int))) none=some (.sl hp.length 0 0 E.sz n false):=slice_hi (h:=0) (by omega)
  refine vcE.ex (by simp (disch:=first|assumption|omega) only[go_sem,↓reduceIte,Nat.reduceEqDiff,reduceCtorEq,capA,w1,w2,↓hz,↓s0,↓s1]; rfl) ?_
  refine⟨_,rfl,?_,?_⟩
  ·simp only[growR,if_neg h0]
   rfl
  ·simp only[growR,if_neg h0]
abbrev concatB1 (t9:TypeId) (msg:List UInt8):IC:=(IC.seq (IC.reg [⟨some 12,.op (.bin .lss .prim),[.t 11,.t 10],none⟩]) (IC.seq (IC.cond (.t 12) IC.skip (IC.exit 0)) (IC.seq (IC.block 1 (IC.seq (IC.reg [⟨some 13,.op (.iaddr 1),[.t 9,.t 11],none⟩,
 ⟨some 14,.op (.load none),[.t 13],none⟩,
 ⟨some 5,.op (.mov),[.t 14],none⟩]) (IC.seq (IC.reg [⟨some 15,.op (.mov),[.t 3],none⟩,
 ⟨some 16,.op (.mov),[.t 5],none⟩,
 ⟨some 17,.op (.len .slice),[.t 16],none⟩,
 ⟨some 18,.op (.bin .add .prim),[.t 15,.t 17],none⟩,
 ⟨some 3,.op (.mov),[.t 18],none⟩]) (IC.seq (IC.reg [⟨some 19,.op (.mov),[.t 3],none⟩,
 ⟨some 20,.op (.bin .lss .prim),[.t 19,.c (.int .i64 0)],none⟩]) (IC.cond (.t 20) (IC.reg [⟨some 21,.op (.mkif t9),[.c (.str msg)],none⟩,
 ⟨none,.op (.never),[],none⟩]) IC.skip))))) (IC.reg [⟨some 22,.op (.bin .add .prim),[.t 11,.c (.int .i64 1)],none⟩,
 ⟨some 11,.op (.mov),[.t 22],none⟩]))))
abbrev concatB2 (e:TypeId) (sz bytes:Nat):IC:=(IC.seq (IC.reg [⟨some 28,.op (.bin .lss .prim),[.t 27,.t 26],none⟩]) (IC.seq (IC.cond (.t 28) IC.skip (IC.exit 2)) (IC.seq (IC.block 3 (IC.seq (IC.reg [⟨some 29,.op (.iaddr 1),[.t 25,.t 27],none⟩,
 ⟨some 30,.op (.load none),[.t 29],none⟩,
 ⟨some 8,.op (.mov),[.t 30],none⟩]) (IC.reg [⟨some 31,.op (.mov),[.t 6],none⟩,
 ⟨some 32,.op (.mov),[.t 8],none⟩,
 ⟨some 33,.op (.app e sz bytes),[.t 31,.t 32],none⟩,
 ⟨some 6,.op (.mov),[.t 33],none⟩]))) (IC.reg [⟨some 34,.op (.bin .add .prim),[.t 27,.c (.int .i64 1)],none⟩,
 ⟨some 27,.op (.mov),[.t 34],none⟩]))))
abbrev concatC (g:FuncId) (e:TypeId) (sz bytes:Nat) (t9:TypeId) (msg:List UInt8):IC:=(IC.seq (IC.reg [⟨some 2,.op (.mov),[.c (.nils)],none⟩]) (IC.seq (IC.reg [⟨some 3,.op (.mov),[.c (.int .i64 0)],none⟩]) (IC.seq (IC.seq (IC.reg [⟨some 9,.op (.mov),[.t 0],none⟩,
 ⟨some 10,.op (.len .slice),[.t 9],none⟩,
 ⟨some 11,.op (.mov),[.c (.int .i64 0)],none⟩]) (IC.block 0 (IC.loop (concatB1 t9 msg)))) (IC.seq (IC.reg [⟨some 23,.op (.mov),[.t 3],none⟩,
 ⟨some 24,.call none,[.f g,.c (.nils),.t 23],none⟩,
 ⟨some 6,.op (.mov),[.t 24],none⟩]) (IC.seq (IC.seq (IC.reg [⟨some 25,.op (.mov),[.t 0],none⟩,
 ⟨some 26,.op (.len .slice),[.t 25],none⟩,
 ⟨some 27,.op (.mov),[.c (.int .i64 0)],none⟩]) (IC.block 2 (IC.loop (concatB2 e sz bytes)))) (IC.seq (IC.reg [⟨some 35,.op (.mov),[.t 6],none⟩,
 ⟨some 2,.op (.mov),[.t 35],none⟩]) IC.ret))))))
def catV (N sz k i:Nat):AV:=if N=0 then .nils else .sl k 0 i sz N false
def catH (E:Enc α) (e:TypeId) (z:α) (N:Nat) (l:List α):HP:=if N=0 then [] else [some (.row e (E.cs (l++List.replicate (N - l.length) z)))]
theorem cat_app (E:Enc α) (e:TypeId) (z:α) {bytes N:Nat} {hp:HP} {l m:List α} {x:AV} (hx:srcA (hp++catH E e z N l) E.sz x=some (E.cs m,m.length)) (hN:l.length+m.length≤N) :
  appA e E.sz bytes (hp++catH E e z N l) (catV N E.sz hp.length l.length) x=some (catV N E.sz hp.length (l++m).length,hp++catH E e z N (l++m)):=by
 by_cases h0:N=0
 ·subst h0
  have hm:m=[]:=List.eq_nil_of_length_eq_zero (by omega)
  subst hm
  simp only[catV,catH,if_true,List.append_nil] at hx ⊢
  simp[appA,hx,Enc.cs]
 ·simp only[catV,catH,if_neg h0] at hx ⊢
  by_cases hm:m.length=0
  ·have:=List.eq_nil_of_length_eq_zero hm
   subst this
   simp[appA,hx]
  ·have hg:(hp++[some (Blk.row e (E.cs (l++List.replicate (N - l.length) z)))])[hp.length]? = some (some (.row e (E.cs (l++List.replicate (N - l.length) z)))):=by simp
   have hlen:(l++List.replicate (N - l.length) z).length=N:=by simp; omega
   have h1:l.length*E.sz≤N*E.sz:=Nat.mul_le_mul_right _ (by omega)
   have h2:(l.length+m.length)*E.sz≤N*E.sz:=Nat.mul_le_mul_right _ hN
   simp only[appA,hx,hg]
   rw[if_neg hm,if_pos ⟨trivial,by rw[E.cs_len,hlen]; omega⟩,if_pos hN,if_pos (by rw[E.cs_len,hlen]; omega),Nat.zero_add,E.over_mid (by rw[hlen]; exact hN),set_concat]
   rw[List.take_left,List.drop_append,List.drop_eq_nil_of_le («as»:=l) (by omega),List.nil_append,List.drop_replicate,List.length_append,show N - l.length - (l.length+m.length - l.length)=N - (l.length+m.length) by omega]
theorem concat_calls {P:Program} (hm:P.follows .mixedOrders=true) {hint hint':Nat→Nat} {f g:FuncId} (E:Enc α) {e t9 t8:TypeId} {bytes:Nat} {msg msg':List UInt8} (z:α) (hf:compF P hint f=some ⟨concatC g e E.sz bytes t9 msg,36,[.t 2]⟩) (hfg:compF P hint' g=some ⟨growC e E.sz bytes (E.c z) t8 msg',27,[.t 4]⟩)
  {hp:HP} {id lo:Nat} {ex:Bool} {e1:TypeId} {xs:List AV} {ls:List (List α)} (hrow:hp[id]? = some (some (.row e1 xs))) (hlen:xs.length=ls.length) (hone:∀ x ∈ xs,oneA x=true)
  (hsrc:∀ (i:Nat) (x:AV) (l:List α),xs[i]? = some x→ls[i]? = some l→lenFits .slice x=true∧(∀ hp,lenA hp x=some (.int .i64 l.length))∧∀ new,srcA (hp++new) E.sz x=some (E.cs l,l.length)) (hb:ls.flatten.length*bytes≤140737488355328) (hn:ls.flatten.length≤4611686018427387904) (hx:xs.length≤4611686018427387904) :
  ACalls P f [.sl id 0 xs.length 1 lo ex] hp fun r hp'=>r=catV ls.flatten.length E.sz hp.length ls.flatten.length∧hp'=hp++catH E e z ls.flatten.length ls.flatten:=by
 refine calls_e hm (TabOk.none _) hf (by rfl) (by simp) ?_
 have tk:∀ i,((ls.take i).flatten).length≤ls.flatten.length:=fun i=>by
  have h:=congrArg (fun l:List (List α)=>l.flatten.length) (List.take_append_drop i ls)
  simp only[List.flatten_append,List.length_append] at h
  omega
 have stp:∀ i l,ls[i]? = some l→(ls.take (i+1)).flatten=(ls.take i).flatten++l:=fun i l h=>by
  rw[List.take_add_one,h]
  simp
 have ldx:∀ new i x,xs[i]? = some x→loadA (hp++new) none (.ptr id i)=some x:=fun new i x h=>by
  simp only[loadA,rowA,app_get hrow,pickA,h,hone x (List.mem_of_getElem? h),if_true]
 refine vcE.s1 (k:=vcE.s1 (k:=vcE.then (fun e' tm hp'=>e'=.normal∧hp'=hp∧tm 0=.sl id 0 xs.length 1 lo ex∧tm 3=.int .i64 ls.flatten.length) ?_ ?_))
 ·refine vcE.s1 (k:=vcE.block (vcE.count (by intro l tm hp h; simp at h)
   (fun i tm hp'=>hp'=hp∧tm 0=.sl id 0 xs.length 1 lo ex∧tm 9=.sl id 0 xs.length 1 lo ex∧tm 10=.int .i64 xs.length∧tm 11=.int .i64 i∧tm 3=.int .i64 ((ls.take i).flatten).length) xs.length ⟨rfl,rfl,rfl,rfl,rfl,rfl⟩ ?_ ?_))
  ·rintro i tm hp' hi ⟨rfl,t0,t9,t10,t11,t3⟩
   obtain⟨x,hxi⟩:∃ x,xs[i]? = some x:=⟨_,List.getElem?_eq_getElem hi⟩
   obtain⟨l,hli⟩:∃ l,ls[i]? = some l:=⟨_,List.getElem?_eq_getElem (by omega)⟩
   obtain⟨q1,q2,q3⟩:=hsrc i x l hxi hli
   have hia:iaddrA 1 (.sl id 0 xs.length 1 lo ex) (.int .i64 i)=some (.ptr id i):=iaddr_sl1 hi
   have hld:=ldx [] i x hxi
   rw[List.append_nil] at hld
   have h1:=tk (i+1)
   have h2:=stp i l hli
   have h3:((ls.take (i+1)).flatten).length=((ls.take i).flatten).length+l.length:=by rw[h2,List.length_append]
   have hw:IntKind.wrap .i64 ((((ls.take i).flatten).length:Int)+(l.length:Int))=((((ls.take (i+1)).flatten).length:Nat):Int):=by rw[h3,wrap_i64 (by omega) (by omega)]; rfl
   refine vcE.ex (by simp (disch:=omega) only[go_sem,↓reduceIte,Nat.reduceEqDiff,t9,t10,t11,t3,hia,↓hld,q1,q2,hw]; rfl) ?_
   refine⟨rfl,?_,?_,?_,?_,?_⟩
   all_goals simp only[upd_app,Nat.reduceEqDiff,↓reduceIte,t0,t9,t10]
   rfl
  ·rintro tm hp' ⟨rfl,t0,t9,t10,t11,t3⟩
   refine vcE.ex (by simp (disch:=omega) only[go_sem,↓reduceIte,t10,t11]; rfl) ?_
   refine⟨rfl,rfl,?_,?_⟩
   ·simp only[upd_app,Nat.reduceEqDiff,↓reduceIte,t0]
   ·rw[hlen,List.take_length] at t3
    simp only[upd_app,Nat.reduceEqDiff,↓reduceIte,t3]
 ·rintro e' tm hp' ⟨rfl,rfl,t0,t3⟩
  rw[show ([⟨some 23,.op (.mov),[.t 3],none⟩,⟨some 24,.call none,[.f g,.c (.nils),.t 23],none⟩,⟨some 6,.op (.mov),[.t 24],none⟩]:List IOp)=[⟨some 23,.op (.mov),[.t 3],none⟩]++([⟨some 24,.call none,[.f g,.c (.nils),.t 23],none⟩]++[⟨some 6,.op (.mov),[.t 24],none⟩]) from rfl]
  refine vcE.seq (vcE.app (vcE.ex (by simp only[go_sem,↓reduceIte,t3]; rfl) ⟨rfl,vcE.app (vcE.call (f:=g) (caps:=[]) (ys:=[.nils,.int .i64 ls.flatten.length]) rfl rfl (grow_calls hm E z hfg hb hn _) ?_)⟩))
  rintro r hp2 ⟨rfl,rfl⟩
  refine⟨rfl,vcE.e0 ?_⟩
  have g1:(growR E e z ls.flatten.length hp'.length).1=catV ls.flatten.length E.sz hp'.length 0:=by unfold growR catV; split<;>rfl
  have g2:(growR E e z ls.flatten.length hp'.length).2=catH E e z ls.flatten.length []:=by unfold growR catH; split<;>simp
  rw[g1,g2]
  refine vcE.then (fun e' tm hp2=>e'=.normal∧hp2=hp'++catH E e z ls.flatten.length ls.flatten∧tm 6=catV ls.flatten.length E.sz hp'.length ls.flatten.length) ?_ ?_
  ·refine vcE.step (by simp only[go_sem,↓reduceIte,reduceCtorEq,putE,t0]; rfl) (vcE.block (vcE.count (by intro l tm hp h; simp at h)
    (fun i tm hp2=>hp2=hp'++catH E e z ls.flatten.length (ls.take i).flatten∧tm 25=.sl id 0 xs.length 1 lo ex∧tm 26=.int .i64 xs.length∧tm 27=.int .i64 i∧tm 6=catV ls.flatten.length E.sz hp'.length ((ls.take i).flatten).length) xs.length ⟨rfl,?_,?_,?_,?_⟩ ?_ ?_))
   ·simp only[upd_app,Nat.reduceEqDiff,↓reduceIte]
   ·simp only[upd_app,Nat.reduceEqDiff,↓reduceIte]
   ·simp only[upd_app,↓reduceIte]; rfl
   ·simp only[upd_app,Nat.reduceEqDiff,↓reduceIte]; rfl
   ·rintro i tm hp2 hi ⟨rfl,t25,t26,t27,t6⟩
    obtain⟨x,hxi⟩:∃ x,xs[i]? = some x:=⟨_,List.getElem?_eq_getElem hi⟩
    obtain⟨l,hli⟩:∃ l,ls[i]? = some l:=⟨_,List.getElem?_eq_getElem (by omega)⟩
    obtain⟨q1,q2,q3⟩:=hsrc i x l hxi hli
    have hia:iaddrA 1 (.sl id 0 xs.length 1 lo ex) (.int .i64 i)=some (.ptr id i):=iaddr_sl1 hi
    have hld:=ldx (catH E e z ls.flatten.length (ls.take i).flatten) i x hxi
    have h2:=stp i l hli
    have h3:=tk (i+1)
    rw[h2,List.length_append] at h3
    have happ:=cat_app E e z (bytes:=bytes) (q3 (catH E e z ls.flatten.length (ls.take i).flatten)) h3
    rw[← h2] at happ
    refine vcE.ex (by simp (disch:=omega) only[go_sem,↓reduceIte,Nat.reduceEqDiff,t25,t26,t27,t6,hia,↓hld,↓happ]; rfl) ?_
    refine⟨rfl,?_,?_,?_,?_⟩
    all_goals simp only[upd_app,Nat.reduceEqDiff,↓reduceIte,t25,t26]
    rfl
   ·rintro tm hp2 ⟨rfl,t25,t26,t27,t6⟩
    refine vcE.ex (by simp (disch:=omega) only[go_sem,↓reduceIte,t26,t27]; rfl) ?_
    rw[hlen,List.take_length] at t6
    refine⟨rfl,?_,?_⟩
    ·rw[hlen,List.take_length]
    ·simp only[upd_app,Nat.reduceEqDiff,↓reduceIte,t6]
  ·rintro e' tm hp2 ⟨rfl,rfl,t6⟩
   refine vcE.ex (by simp only[go_sem,↓reduceIte,t6]; rfl) ?_
   exact⟨_,rfl,rfl,rfl⟩
end
end Go.Gi
