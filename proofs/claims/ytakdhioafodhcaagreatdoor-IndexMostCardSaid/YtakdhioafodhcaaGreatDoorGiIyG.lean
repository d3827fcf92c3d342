/- A key's numbers: one more, one less. -/
/- A key's numbers: one less. -/
/- An index's methods: made, Has, Len, lists, New. -/
/- Put: what an index is then. -/
/- Put. -/
import Derived.Test.YtakdhioafodhcaaGreatDoorGiDK
set_option linter.unusedVariables false
set_option linter.unusedSimpArgs false
namespace Go.Gi
open _root_.Bool renaming false_and → xR, true_or → zj
open _root_.Go.Proofs.Tryz renaming prog → qi
open _root_.List renaming getElem?_append_left → qm, mem_append_right → qW, getElem?_set_ne → qv, mem_cons_of_mem → qI, mem_append_left → qR, mem_map_of_mem → xx, length_append → qo, mem_cons_self → qD, mem_singleton → qQ, filter_append → xz, find?_eq_none → zt, nodup_append → zh, length_cons → qr, filter_cons → xK, not_mem_nil → xV, append_nil → qt, length_nil → qx, map_append → qC, length_map → qL, mem_append → qM, filter_nil → zp, nodup_cons → zy, map_cons → qB, mem_cons → xm, mem_map → xw, map_nil → xW
open _root_.Nat renaming reduceEqDiff → qa, reduceAdd → qs, add_assoc → xy, zero_add → qY, add_zero → xN, sub_self → xX, le_refl → qk, mul_one → xC
open _root_.Go.Gi.Tab renaming addO_self → xe, addO_ne → qS
open _root_.Go.Gi.TabOk renaming none → qJ, addO → xp
section
set_option linter.unusedSectionVars false
variable [Mx]
open Go Go.Proofs
theorem MapOk.put {es:List (AV × AV)} {bs:List Nat} {c:Nat} (h:MapOk es bs c) (x:AV × AV):MapOk (es++[x]) (bs++[c]) (c+1):=by
 refine⟨?_,?_,by simp[h.len]⟩
 ·rw[zh]
  refine⟨h.nd,by simp,fun a ha b hb=>?_⟩
  have:=h.lt a ha
  simp only[qQ] at hb
  omega
 ·intro b hb
  rcases qM.1 hb with hb|hb
  ·have:=h.lt b hb
   omega
  ·rw[qQ.1 hb]
   omega
theorem MapOk.del {es:List (AV × AV)} {bs:List Nat} {c:Nat} (h:MapOk es bs c) (j:Nat):MapOk (es.eraseIdx j) (bs.eraseIdx j) c:=
 ⟨(List.eraseIdx_sublist bs j).nodup h.nd,fun b hb=>h.lt b ((List.eraseIdx_sublist bs j).subset hb),by rw[List.length_eraseIdx,List.length_eraseIdx,h.len]⟩
theorem look_of {H:HP} {m:Nat} {L:List PL} (h:PMap H m L) {k:List UInt8} {r:Option (Nat × AV)} (hf:findA (.str k) (L.map PL.ent) 0=some r):lookA H .str .nils false (.map m) (.str k)=some (match r with|some x=>x.2|none=>.nils):=by
 obtain⟨bs,c,hm⟩:=h.m
 simp only[lookA,keyA,rowsA,hm,hf,cond_true]
 cases r<;>rfl
theorem up_of {H:HP} {m:Nat} {es:List (AV × AV)} {bs:List Nat} {c:Nat} (hm:H[m]? = some (some (.map es bs c))) {ky:KK} {k v:AV} (hk:keyA ky k=true) {r:Option (Nat × AV)} (hf:findA k es 0=some r):mapupA H ky (.map m) k v=some (match r with|some x=>H.set m (some (.map (es.set x.1 (k,v)) bs c))|none=>H.set m (some (.map (es++[(k,v)]) (bs++[c]) (c+1)))):=by
 simp only[mapupA,hk,hm,hf,cond_true]
 cases r<;>rfl
structure PutL (H:HP) (m:Nat) (L:List PL) (key:List UInt8) (id:Int) (H6:HP) (L':List PL):Prop where
 p:PMap H6 m L'
 ids:∀ k,idsL L' k=if k=key then idsL L k++[id] else idsL L k
 sls:∀ z ∈ L',z.sl=H.length∨∃ y ∈ L,y.sl=z.sl
 nd:(L'.map PL.sl).Nodup
 fr:∀ j,j<H.length→j≠m→(∀ y ∈ L,y.sl≠j)→H6[j]? = H[j]?
 le:H.length≤H6.length
theorem idsL_app {A B:List PL} {k:List UInt8}:idsL (A++B) k=match A.find? fun z=>decide (z.key=k) with
 | some z=>z.ids
 | none=>idsL B k:=by
 unfold idsL
 rw[List.find?_append]
 cases A.find? fun z=>decide (z.key=k)<;>rfl
theorem idsL_cons {z:PL} {B:List PL} {k:List UInt8}:idsL (z :: B) k=if z.key=k then z.ids else idsL B k:=by
 unfold idsL
 rw[List.find?_cons]
 by_cases h:z.key=k
 ·simp[h]
 ·simp[h]
theorem idsL_mid {A B:List PL} {z z':PL} {k key:List UInt8} (hz:z.key=key) (hz':z'.key=key) (hA:∀ y ∈ A++B,y.key≠key):idsL (A++z' :: B) k=if k=key then z'.ids else idsL (A++z :: B) k:=by
 by_cases hk:k=key
 ·rw[if_pos hk,hk,idsL_app,zt.2 (by simpa using fun y hy=>hA y (qR _ hy)),idsL_cons,if_pos hz']
 ·rw[if_neg hk,idsL_app,idsL_app,idsL_cons,idsL_cons,if_neg (by rw[hz']; exact fun e=>hk e.symm),if_neg (by rw[hz]; exact fun e=>hk e.symm)]
theorem nodup_mid {α β:Type} {f:α→β} {A B:List α} {z z':α} (h:((A++z :: B).map f).Nodup) (h':∀ y ∈ A++B,f y≠f z'):((A++z' :: B).map f).Nodup:=by
 rw[qC,qB,zh,zy] at h ⊢
 obtain⟨h1,⟨h2,h3⟩,h4⟩:=h
 refine⟨h1,⟨?_,h3⟩,?_⟩
 ·intro hm
  obtain⟨y,hy,he⟩:=xw.1 hm
  exact h' y (qW _ hy) he
 ·intro a ha b hb
  rcases xm.1 hb with rfl|hb
  ·obtain⟨y,hy,rfl⟩:=xw.1 ha
   exact h' y (qR _ hy)
  ·exact h4 a ha b (qI _ hb)
theorem nodup_ne {α β:Type} {f:α→β} {A B:List α} {z:α} (h:((A++z :: B).map f).Nodup):∀ y ∈ A++B,f y≠f z:=by
 rw[qC,qB,zh,zy] at h
 obtain⟨h1,⟨h2,h3⟩,h4⟩:=h
 intro y hy
 rcases qM.1 hy with hy|hy
 ·exact h4 _ (xx hy) _ qD
 ·exact fun e=>h2 (by rw[← e]; exact xx hy)
theorem set_mid {α:Type} {A B:List α} {x y:α}:(A++x :: B).set A.length y=A++y :: B:=by
 rw[List.set_append_right _ _ (qk _),xX]
 rfl
theorem put_list {H:HP} {m:Nat} {L:List PL} (h:PMap H m L) (hnd:(L.map PL.sl).Nodup) (key:List UInt8) (id:Int) {x:AV} (hx:srcA H 1 x=some ([.int .i64 id],1)) (hsm:∀ k,(idsL L k).length≤1000) :
  ∃ v v' H5 H6 L',(∀ H':HP,H'[m]? = H[m]?→lookA H' .str .nils false (.map m) (.str key)=some v)∧appA 3 1 8 H v x=some (v',H5)∧mapupA H5 .str (.map m) (.str key) v'=some H6∧PutL H m L key id H6 L':=by
 obtain⟨bs,c,hm⟩:=h.m
 have hml:=get_lt hm
 have hmr:∀ z ∈ L,z.sl≠m:=fun z hz e=>by
  have:=h.r z hz
  rw[e,hm] at this
  cases this
 have hlt:∀ z ∈ L,z.sl<H.length:=fun z hz=>get_lt (h.r z hz)
 rcases h.split key with ⟨hno,hid⟩|⟨A,z,B,rfl,hz,hAB,hid⟩
 ·have hf:=find_none (i:=0) hno
  refine⟨.nils,.sl H.length 0 1 1 1 false,H++[some (.row 3 [.int .i64 id])],_,L++[⟨key,[id],H.length,[]⟩],fun H' h'=>?_,?_,up_of (app_get hm) rfl hf,?_⟩
  ·simp only[lookA,keyA,rowsA,h',hm,hf,cond_true]
   rfl
  ·simp only[appA,hx]
   rfl
  ·have e1:(L++[(⟨key,[id],H.length,[]⟩:PL)]).map PL.ent=L.map PL.ent++[(.str key,.sl H.length 0 1 1 1 false)]:=by
    rw[qC]
    rfl
   have hmm:(H++[some (Blk.row 3 [.int .i64 id])])[m]? = some (some (.map (L.map PL.ent) bs c)):=app_get hm
   refine⟨⟨⟨bs++[c],c+1,by rw[set_get hmm,e1]⟩,?_,?_,?_⟩,?_,?_,?_,?_,by simp⟩
   ·intro y hy
    rcases qM.1 hy with hy|hy
    ·rw[set_get_ne (Ne.symm (hmr y hy))]
     exact app_get (h.r y hy)
    ·rw[qQ.1 hy,set_get_ne (by simp only; omega)]
     simp[PL.row,Enc.cs,encI]
   ·intro y hy
    rcases qM.1 hy with hy|hy
    ·exact h.ne y hy
    ·rw[qQ.1 hy]
     simp
   ·rw[qC,zh]
    refine⟨h.nd,by simp,fun a ha b hb=>?_⟩
    obtain⟨y,hy,rfl⟩:=xw.1 ha
    simp only[qB,xW,qQ] at hb
    subst hb
    exact hno y hy
   ·intro k
    rw[idsL_app,idsL_cons]
    by_cases hk:k=key
    ·subst hk
     rw[zt.2 (by simpa using hno),if_pos rfl,if_pos rfl,hid]
     rfl
    ·rw[if_neg hk,if_neg (fun e=>hk e.symm)]
     unfold idsL
     cases L.find? fun z=>decide (z.key=k)<;>rfl
   ·intro y hy
    rcases qM.1 hy with hy|hy
    ·exact .inr ⟨y,hy,rfl⟩
    ·rw[qQ.1 hy]
     exact .inl rfl
   ·rw[qC,zh]
    refine⟨hnd,by simp,fun a ha b hb=>?_⟩
    obtain⟨y,hy,rfl⟩:=xw.1 ha
    simp only[qB,xW,qQ] at hb
    subst hb
    have:=hlt y hy
    omega
   ·intro j hj hjm _
    rw[qv (Ne.symm hjm),qm hj]
 ·have hf:=find_at (i:=0) hz (B:=B) fun y hy=>hAB y (qR _ hy)
  rw[qY] at hf
  have hzm:z ∈ A++z :: B:=qW _ qD
  have hr:=h.r z hzm
  have hzl:=hlt z hzm
  have hne:=hmr z hzm
  have hno:=nodup_ne hnd
  have hzi:z.ids.length≤1000:=by rw[← hid]; exact hsm key
  have hcl:(encI.cs (z.ids++z.rest)).length=z.ids.length+z.rest.length:=by
   rw[encI.cs_len,qo]
   exact xC _
  have hlk:∀ H':HP,H'[m]? = H[m]?→lookA H' .str .nils false (.map m) (.str key)=some z.v:=fun H' h'=>by
   simp only[lookA,keyA,rowsA,h',hm,hf,cond_true,cond_false]
  obtain⟨zk,zi,zs,zr⟩:=z
  simp only at hz hr hzl hne hno hzi hcl hid
  subst hz
  cases zr with
  | nil =>
   simp only[qx,xN,qt] at hcl
   have hmm:(H.set zs none++[some (Blk.row 3 (encI.cs (zi++[id])))])[m]? = some (some (.map ((A++(⟨zk,zi,zs,[]⟩:PL) :: B).map PL.ent) bs c)):=app_get (by rw[set_get_ne hne]; exact hm)
   refine⟨_,.sl H.length 0 (zi.length+1) 1 (zi.length+1) false,H.set zs none++[some (.row 3 (encI.cs (zi++[id])))],_,A++(⟨zk,zi++[id],H.length,[]⟩:PL) :: B,hlk,?_,up_of hmm rfl hf,?_⟩
   ·have e2:(encI.cs zi).drop 0++[AV.int .i64 id]=encI.cs (zi++[id]):=by rw[List.drop_zero,encI.cs_app]; rfl
    simp only[appA,hx,PL.v,hr,PL.row,qx,xN,qt,hcl,e2]
    rw[if_neg (by omega),if_pos ⟨trivial,by omega⟩,if_neg (by omega),if_pos ⟨by omega,by omega⟩,if_neg (by decide),if_pos ⟨by omega,trivial⟩]
   ·have e1:(A++(⟨zk,zi++[id],H.length,[]⟩:PL) :: B).map PL.ent=((A++(⟨zk,zi,zs,[]⟩:PL) :: B).map PL.ent).set A.length (.str zk,.sl H.length 0 (zi.length+1) 1 (zi.length+1) false):=by
     rw[qC,qB,qC,qB,show A.length=(A.map PL.ent).length by simp,set_mid]
     simp[PL.ent,PL.v]
    refine⟨⟨⟨bs,c,by rw[set_get hmm,e1]⟩,?_,?_,?_⟩,?_,?_,?_,?_,by simp⟩
    ·intro y hy
     have hcase:y=⟨zk,zi++[id],H.length,[]⟩∨y ∈ A++B:=by
      rcases qM.1 hy with hy|hy
      ·exact .inr (qR _ hy)
      ·rcases xm.1 hy with hy|hy
       ·exact .inl hy
       ·exact .inr (qW _ hy)
     rcases hcase with rfl|hy
     ·rw[set_get_ne (by simp only; omega)]
      simp[PL.row]
     ·have hyL:y ∈ A++(⟨zk,zi,zs,[]⟩:PL) :: B:=by
       rcases qM.1 hy with hy|hy
       ·exact qR _ hy
       ·exact qW _ (qI _ hy)
      rw[set_get_ne (Ne.symm (hmr y hyL))]
      refine app_get ?_
      rw[set_get_ne (Ne.symm (hno y hy))]
      exact h.r y hyL
    ·intro y hy
     rcases qM.1 hy with hy|hy
     ·exact h.ne y (qR _ hy)
     ·rcases xm.1 hy with rfl|hy
      ·simp
      ·exact h.ne y (qW _ (qI _ hy))
    ·exact nodup_mid h.nd hAB
    ·intro k
     rw[idsL_mid (z:=⟨zk,zi,zs,[]⟩) (z':=⟨zk,zi++[id],H.length,[]⟩) rfl rfl hAB]
     by_cases hk:k=zk
     ·subst hk
      rw[if_pos rfl,if_pos rfl,hid]
     ·rw[if_neg hk,if_neg hk]
    ·intro y hy
     rcases qM.1 hy with hy|hy
     ·exact .inr ⟨y,qR _ hy,rfl⟩
     ·rcases xm.1 hy with rfl|hy
      ·exact .inl rfl
      ·exact .inr ⟨y,qW _ (qI _ hy),rfl⟩
    ·refine nodup_mid hnd fun y hy=>?_
     have hyL:y ∈ A++(⟨zk,zi,zs,[]⟩:PL) :: B:=by
      rcases qM.1 hy with hy|hy
      ·exact qR _ hy
      ·exact qW _ (qI _ hy)
     have:=hlt y hyL
     simp only
     omega
    ·intro j hj hjm hjs
     rw[qv (Ne.symm hjm),qm (by simpa using hj),qv (hjs _ hzm)]
  | cons r zr =>
   simp only[qr] at hcl
   have eo:over (encI.cs (zi++r :: zr)) (0+zi.length*1) [AV.int .i64 id]=encI.cs ((zi++[id])++zr):=by
    have:=encI.over_mid (l:=zi++r :: zr) (m:=[id]) (i:=zi.length) (by simp)
    rw[show encI.sz=1 from rfl,xC] at this
    rw[xC,qY]
    refine (show over (encI.cs (zi++r :: zr)) zi.length [AV.int .i64 id]=over (encI.cs (zi++r :: zr)) zi.length (encI.cs [id]) from rfl).trans (this.trans ?_)
    rw[List.take_left,List.length_singleton,show zi.length+1=(zi++[r]).length by simp,show zi++r :: zr=(zi++[r])++zr by simp,List.drop_left]
   have hmm:(H.set zs (some (Blk.row 3 (encI.cs ((zi++[id])++zr)))))[m]? = some (some (.map ((A++(⟨zk,zi,zs,r :: zr⟩:PL) :: B).map PL.ent) bs c)):=by rw[set_get_ne hne]; exact hm
   refine⟨_,.sl zs 0 (zi.length+1) 1 (zi.length+(zr.length+1)) false,H.set zs (some (.row 3 (encI.cs ((zi++[id])++zr)))),_,A++(⟨zk,zi++[id],zs,zr⟩:PL) :: B,hlk,?_,up_of hmm rfl hf,?_⟩
   ·simp only[appA,hx,PL.v,hr,PL.row,qr,hcl,eo]
    rw[if_neg (by omega),if_pos ⟨trivial,by omega⟩,if_pos (by omega),if_pos (by omega)]
   ·have e1:(A++(⟨zk,zi++[id],zs,zr⟩:PL) :: B).map PL.ent=((A++(⟨zk,zi,zs,r :: zr⟩:PL) :: B).map PL.ent).set A.length (.str zk,.sl zs 0 (zi.length+1) 1 (zi.length+(zr.length+1)) false):=by
     rw[qC,qB,qC,qB,show A.length=(A.map PL.ent).length by simp,set_mid]
     simp only[PL.ent,PL.v,qo,qr,qx,qY]
     rw[show zi.length+1+zr.length=zi.length+(zr.length+1) by omega]
    refine⟨⟨⟨bs,c,by rw[set_get hmm,e1]⟩,?_,?_,?_⟩,?_,?_,?_,?_,by simp⟩
    ·intro y hy
     have hcase:y=⟨zk,zi++[id],zs,zr⟩∨y ∈ A++B:=by
      rcases qM.1 hy with hy|hy
      ·exact .inr (qR _ hy)
      ·rcases xm.1 hy with hy|hy
       ·exact .inl hy
       ·exact .inr (qW _ hy)
     rcases hcase with rfl|hy
     ·rw[set_get_ne (Ne.symm hne)]
      exact set_get hr
     ·have hyL:y ∈ A++(⟨zk,zi,zs,r :: zr⟩:PL) :: B:=by
       rcases qM.1 hy with hy|hy
       ·exact qR _ hy
       ·exact qW _ (qI _ hy)
      rw[set_get_ne (Ne.symm (hmr y hyL)),set_get_ne (Ne.symm (hno y hy))]
      exact h.r y hyL
    ·intro y hy
     rcases qM.1 hy with hy|hy
     ·exact h.ne y (qR _ hy)
     ·rcases xm.1 hy with rfl|hy
      ·simp
      ·exact h.ne y (qW _ (qI _ hy))
    ·exact nodup_mid h.nd hAB
    ·intro k
     rw[idsL_mid (z:=⟨zk,zi,zs,r :: zr⟩) (z':=⟨zk,zi++[id],zs,zr⟩) rfl rfl hAB]
     by_cases hk:k=zk
     ·subst hk
      rw[if_pos rfl,if_pos rfl,hid]
     ·rw[if_neg hk,if_neg hk]
    ·intro y hy
     refine .inr ?_
     rcases qM.1 hy with hy|hy
     ·exact⟨y,qR _ hy,rfl⟩
     ·rcases xm.1 hy with rfl|hy
      ·exact⟨_,hzm,rfl⟩
      ·exact⟨y,qW _ (qI _ hy),rfl⟩
    ·exact nodup_mid hnd hno
    ·intro j hj hjm hjs
     rw[qv (Ne.symm hjm),qv (hjs _ hzm)]
end
section
set_option linter.unusedSectionVars false
variable [Mx]
open Go Go.Proofs
structure DropL (H:HP) (m:Nat) (L:List PL) (key:List UInt8) (id:Int) (H6:HP) (L':List PL):Prop where
 p:PMap H6 m L'
 ids:∀ k,idsL L' k=if k=key then (idsL L k).filter fun a => !decide (a=id) else idsL L k
 sls:∀ z ∈ L',∃ y ∈ L,y.sl=z.sl
 nd:(L'.map PL.sl).Nodup
 fr:∀ j,j≠m→(∀ y ∈ L,y.sl≠j)→H6[j]? = H[j]?
theorem mem_mid {α:Type} {A B:List α} {y z z':α} (h:y ∈ A++z' :: B):y=z'∨(y ∈ A++B∧y ∈ A++z :: B):=by
 rcases qM.1 h with h|h
 ·exact .inr ⟨qR _ h,qR _ h⟩
 ·rcases xm.1 h with h|h
  ·exact .inl h
  ·exact .inr ⟨qW _ h,qW _ (qI _ h)⟩
theorem mem_mid0 {α:Type} {A B:List α} {y z:α} (h:y ∈ A++B):y ∈ A++z :: B:=by
 rcases qM.1 h with h|h
 ·exact qR _ h
 ·exact qW _ (qI _ h)
theorem del_list {H H4:HP} {m:Nat} {A B:List PL} {z:PL} (h:PMap H m (A++z :: B)) (hnd:((A++z :: B).map PL.sl).Nodup) {key:List UInt8} {id:Int} (hz:z.key=key) (hAB:∀ y ∈ A++B,y.key≠key) (hid:idsL (A++z :: B) key=z.ids) {rest:List Int} (hlen:(z.ids.filter fun a => !decide (a=id)).length+rest.length=z.ids.length+z.rest.length) (hd:DJ elIn 3 z.sl H ((z.ids.filter fun a => !decide (a=id))++rest) H4) :
  ∃ H5,mapupA H4 .str (.map m) (.str key) (.sl z.sl 0 (z.ids.filter fun a => !decide (a=id)).length 1 (z.ids.length+z.rest.length) false)=some H5∧(∀ zz,lookA H5 .str zz false (.map m) (.str key)=some (.sl z.sl 0 (z.ids.filter fun a => !decide (a=id)).length 1 (z.ids.length+z.rest.length) false)) ∧
   ((z.ids.filter fun a => !decide (a=id))≠[]→∃ L',DropL H m (A++z :: B) key id H5 L')∧((z.ids.filter fun a => !decide (a=id))=[]→∃ H6 L',delA H5 .str (.map m) (.str key)=some H6∧DropL H m (A++z :: B) key id H6 L'):=by
 obtain⟨bs,c,hm⟩:=h.m
 have hmr:∀ y ∈ A++z :: B,y.sl≠m:=fun y hy e=>by
  have:=h.r y hy
  rw[e,hm] at this
  cases this
 have hzm:z ∈ A++z :: B:=qW _ qD
 have hne:=hmr z hzm
 have hno:=nodup_ne hnd
 obtain⟨hfr,hrow⟩:=hd
 have m4:H4[m]? = some (some (.map ((A++z :: B).map PL.ent) bs c)):=by rw[hfr m (Ne.symm hne)]; exact hm
 have hA:∀ y ∈ A,y.key≠key:=fun y hy=>hAB y (qR _ hy)
 have hf:=find_at (i:=0) hz (B:=B) hA
 rw[qY] at hf
 generalize hk:(z.ids.filter fun a => !decide (a=id))=K at *
 have e1:(A++(⟨key,K,z.sl,rest⟩:PL) :: B).map PL.ent=((A++z :: B).map PL.ent).set A.length (.str key,.sl z.sl 0 K.length 1 (z.ids.length+z.rest.length) false):=by
  rw[qC,qB,qC,qB,show A.length=(A.map PL.ent).length by simp,set_mid]
  simp only[PL.ent,PL.v,hlen]
 have n5:(H4.set m (some (.map ((A++(⟨key,K,z.sl,rest⟩:PL) :: B).map PL.ent) bs c)))[m]? = some (some (.map ((A++(⟨key,K,z.sl,rest⟩:PL) :: B).map PL.ent) bs c)):=set_get m4
 have hf5:=find_at (i:=0) (z:=(⟨key,K,z.sl,rest⟩:PL)) (k:=key) rfl (B:=B) hA
 rw[qY] at hf5
 have rows:∀ (X:Blk) y,y ∈ A++B→(H4.set m (some X))[y.sl]? = some (some y.row):=fun X y hy=>by
  rw[set_get_ne (Ne.symm (hmr y (mem_mid0 hy))),hfr _ (hno y hy)]
  exact h.r y (mem_mid0 hy)
 have frs:∀ (X:Blk) j,j≠m→(∀ y ∈ A++z :: B,y.sl≠j)→(H4.set m (some X))[j]? = H[j]?:=fun X j hj hs=>by
  rw[qv (Ne.symm hj)]
  exact hfr j (Ne.symm (hs z hzm))
 refine⟨H4.set m (some (.map ((A++(⟨key,K,z.sl,rest⟩:PL) :: B).map PL.ent) bs c)),?_,fun zz=>?_,fun hK=>?_,fun hK=>?_⟩
 ·rw[up_of m4 rfl hf,e1]
 ·simp only[lookA,keyA,rowsA,n5,hf5,cond_true,cond_false,PL.v,hlen]
 ·refine⟨A++⟨key,K,z.sl,rest⟩ :: B,⟨⟨bs,c,n5⟩,fun y hy=>?_,fun y hy=>?_,nodup_mid h.nd (by simpa using hAB)⟩,fun k=>?_,fun y hy=>?_,nodup_mid hnd hno,frs _⟩
  ·rcases mem_mid (z:=z) hy with rfl|⟨hy,_⟩
   ·rw[set_get_ne (Ne.symm hne)]
    exact hrow
   ·exact rows _ y hy
  ·rcases mem_mid (z:=z) hy with rfl|⟨_,hy⟩
   ·exact hK
   ·exact h.ne y hy
  ·rw[idsL_mid (z:=z) (z':=⟨key,K,z.sl,rest⟩) hz rfl hAB]
   by_cases e:k=key
   ·subst e
    rw[if_pos rfl,if_pos rfl,hid,hk]
   ·rw[if_neg e,if_neg e]
  ·rcases mem_mid (z:=z) hy with rfl|⟨_,hy⟩
   ·exact⟨z,hzm,rfl⟩
   ·exact⟨y,hy,rfl⟩
 ·have e2:((A++(⟨key,K,z.sl,rest⟩:PL) :: B).map PL.ent).eraseIdx A.length=(A++B).map PL.ent:=by
   rw[qC,qB,qC,show A.length=(A.map PL.ent).length by simp,List.eraseIdx_append_of_length_le (qk _),xX]
   rfl
  have hdel:delA (H4.set m (some (.map ((A++(⟨key,K,z.sl,rest⟩:PL) :: B).map PL.ent) bs c))) .str (.map m) (.str key)=some (H4.set m (some (.map ((A++B).map PL.ent) (bs.eraseIdx A.length) c))):=by
   simp only[delA,keyA,n5,hf5,cond_true,e2,List.set_set]
  refine⟨_,A++B,hdel,⟨⟨_,_,set_get m4⟩,rows _,fun y hy=>h.ne y (mem_mid0 hy),?_⟩,fun k=>?_,fun y hy=>⟨y,mem_mid0 hy,rfl⟩,?_,frs _⟩
  ·exact (((List.sublist_cons_self z B).append_left A).map PL.key).nodup h.nd
  ·have hn:idsL (A++B) key=[]:=by
    unfold idsL
    rw[zt.2 (by simpa using hAB)]
   by_cases e:k=key
   ·subst e
    rw[if_pos rfl,hid,hk,hK,hn]
   ·rw[if_neg e,idsL_app,idsL_app,idsL_cons,if_neg (by rw[hz]; exact fun e'=>e e'.symm)]
  ·exact (((List.sublist_cons_self z B).append_left A).map PL.sl).nodup hnd
end
section
set_option linter.unusedSectionVars false
variable [Mx]
open Go Go.Proofs
def mostB (n:Int):Int:=if 256<(if 1 > n then 1 else n) then 256 else if 1 > n then 1 else n
theorem mostB_in (n:Int):1≤mostB n∧mostB n≤256:=by unfold mostB; split<;>split<;>omega
section
variable {hp:HP} {b:Nat} {most:Int}
theorem made_calls (hx:hp[b+4]? = some (some (.row 57 (ixC most b (b+1) (b+2) (b+3))))):ACalls qi 27 [.ptr (b+4) 0] hp fun r hp'=>r=.bool true∧hp'=hp:=by
 refine calls_e hmG (qJ _) comp27 (by decide) (by simp) ?_
 refine vcE.ex (by simp (disch:=first|assumption|omega) only[go_sem,↓reduceIte,qa,reduceCtorEq,hx,isNilA,nilchkA]; rfl) ?_
 exact⟨_,rfl,by simp only[upd_app,↓reduceIte],rfl⟩
theorem new_gen (n:Int) (hp:HP):ACalls qi 9 [.int .i64 n] hp fun r H=>r=.ptr (hp.length+4) 0∧IxF hp.length (mostB n) [] (fun k=>hp.length≤k∧k<H.length) H∧Chg (fun _=>False) hp H:=by
 refine calls_e hmG (qJ _) comp9 (by decide) (by simp) ?_
 have hf:fillA [(0,1),(1,1),(2,1),(3,1),(4,1)] [.int .i64 0,.nilm,.nilm,.nilm,.nilm] (([0,1,2,3,4]:List Nat).zip [.int .i64 (mostB n),.map hp.length,.map (hp.length+1),.map (hp.length+2),.map (hp.length+3)])=some (ixC (mostB n) hp.length (hp.length+1) (hp.length+2) (hp.length+3)):=rfl
 have hc:cellsA (.agg (ixC (mostB n) hp.length (hp.length+1) (hp.length+2) (hp.length+3)))=ixC (mostB n) hp.length (hp.length+1) (hp.length+2) (hp.length+3):=rfl
 refine vcE.ex (by simp (disch:=first|assumption|omega) only[go_sem,↓reduceIte,reduceCtorEq,mkmapA,qo,xy,qs,qa]; rfl) ?_
 have key:∀ H:HP,H=((((hp++[some (.map [] [] 0)])++[some (.map [] [] 0)])++[some (.map [] [] 0)])++[some (.map [] [] 0)])++[some (.row 57 (ixC (mostB n) hp.length (hp.length+1) (hp.length+2) (hp.length+3)))]→IxF hp.length (mostB n) [] (fun k=>hp.length≤k∧k<H.length) H∧Chg (fun _=>False) hp H:=by
  rintro H rfl
  have e:((((hp++[some (Blk.map [] [] 0)])++[some (.map [] [] 0)])++[some (.map [] [] 0)])++[some (.map [] [] 0)])++[some (.row 57 (ixC (mostB n) hp.length (hp.length+1) (hp.length+2) (hp.length+3)))]=hp++[some (.map [] [] 0),some (.map [] [] 0),some (.map [] [] 0),some (.map [] [] 0),some (.row 57 (ixC (mostB n) hp.length (hp.length+1) (hp.length+2) (hp.length+3)))]:=by simp
  rw[e]
  have g:∀ i x,([some (Blk.map [] [] 0),some (.map [] [] 0),some (.map [] [] 0),some (.map [] [] 0),some (.row 57 (ixC (mostB n) hp.length (hp.length+1) (hp.length+2) (hp.length+3)))]:HP)[i]? = some x→(hp++[some (Blk.map [] [] 0),some (.map [] [] 0),some (.map [] [] 0),some (.map [] [] 0),some (.row 57 (ixC (mostB n) hp.length (hp.length+1) (hp.length+2) (hp.length+3)))])[hp.length+i]? = some x:=fun i x h=>by
   rw[List.getElem?_append_right (by omega),Nat.add_sub_cancel_left]
   exact h
  have ok0:MapOk [] [] 0:=⟨List.nodup_nil,fun _ h=>absurd h xV,rfl⟩
  refine⟨⟨[],fun _=>[],⟨g 4 _ rfl,⟨[],0,g 0 _ rfl,ok0⟩,⟨[],0,g 3 _ rfl,ok0⟩,fun f=>⟨⟨[],0,?_⟩,fun _ h=>absurd h xV,fun _ h=>absurd h xV,List.nodup_nil⟩,fun _ h=>absurd h xV,fun _=>List.nodup_nil,fun _ h=>absurd h xV,fun _ _=>rfl,⟨List.nodup_nil,fun _ h=>absurd h xV,fun _ h=>absurd h xV,Nat.zero_le _⟩⟩,rfl,?_⟩,⟨fun k hk _=>qm hk,by simp⟩⟩
  ·cases f
   ·exact g 1 _ rfl
   ·exact g 2 _ rfl
  ·rintro k (⟨h1,h2⟩|⟨y,hy,_⟩|⟨_,z,hz,_⟩)
   ·exact⟨h1,by simp; omega⟩
   ·cases hy
   ·cases hz
 exact⟨_,rfl,by simp only[↓reduceIte,upd_app,qo,qr,qx,qY,xy],key _ rfl⟩
variable {S:List (Gl × Nat)} {L:Bool→List PL}
theorem hasS {id:Int}:hasG (S.map (·.1)) id=S.any fun y=>decide (y.1.id=id):=by simp only[hasG,List.any_map,Function.comp_def]
theorem Ixs.split (h:Ixs b most S L hp) (id:Int):(hasG (S.map (·.1)) id=false∧∀ y ∈ S,y.1.id≠id)∨∃ A y B,S=A++y :: B∧y.1.id=id∧(∀ x ∈ A++B,x.1.id≠id)∧hasG (S.map (·.1)) id=true:=by
 cases hh:hasG (S.map (·.1)) id
 ·exact .inl ⟨rfl,fun y hy=>hasG_not hh y.1 (xx hy)⟩
 ·rw[hasS,List.any_eq_true] at hh
  obtain⟨y,hy,he⟩:=hh
  rw[decide_eq_true_eq] at he
  obtain⟨A,B,rfl⟩:=List.append_of_mem hy
  refine .inr ⟨A,y,B,rfl,he,fun x hx=>?_,rfl⟩
  have hn:=h.ok.nd
  rw[List.map_map] at hn
  have:=nodup_ne (f:=Gl.id ∘ (fun y:Gl × Nat=>y.1)) hn x hx
  rw[← he]
  exact this
theorem has_gen (h:Ixs b most S L hp) (id:Int):ACalls qi 22 [.ptr (b+4) 0,.int .i64 id] hp fun r hp'=>r=.bool (hasG (S.map (·.1)) id)∧hp'=hp:=by
 refine calls_e hmG (qJ _) comp22 (by decide) (by simp) ?_
 obtain⟨bs,c,ha,ho⟩:=h.ha
 have hx:=h.hx
 have hl:∃ v,lookA hp .int .nilp true (.map b) (.int .i64 id)=some (.tup [v,.bool (hasG (S.map (·.1)) id)]):=by
  rcases h.split id with ⟨h1,h2⟩|⟨A,y,B,rfl,h2,h3,h4⟩
  ·exact⟨.nilp,by simp only[lookA,keyA,rowsA,ha,findS_none h2,cond_true,h1]⟩
  ·exact⟨.ptr y.2 0,by simp only[lookA,keyA,rowsA,ha,findS_at h2 fun x hx=>h3 x (qR _ hx),cond_true,h4]⟩
 obtain⟨v,hl⟩:=hl
 refine vcE.s0 ?_
 rw[show r22_1=r22_1.take 1++((r22_1.drop 1).take 1++r22_1.drop 2) from rfl]
 refine vcE.seq (vcE.seq (vcE.app (vcE.e1 (k:=⟨rfl,vcE.app (vcE.call (f:=27) (caps:=[]) (ys:=[.ptr (b+4) 0]) rfl rfl (made_calls hx) ?_)⟩))))
 rintro r hp ⟨rfl,rfl⟩
 refine⟨rfl,vcE.ex (by simp (disch:=first|assumption|omega) only[go_sem,↓reduceIte,putE]; rfl) ?_⟩
 refine vcE.e0 ?_
 refine vcE.ex (by simp (disch:=first|assumption|omega) only[go_sem,↓reduceIte,qa,reduceCtorEq,hx,nilchkA,↓hl]; rfl) ?_
 exact⟨_,rfl,by simp only[upd_app,↓reduceIte],rfl⟩
theorem len_gen (h:Ixs b most S L hp):ACalls qi 13 [.ptr (b+4) 0] hp fun r hp'=>r=.int .i64 (S.length:Int)∧hp'=hp:=by
 refine calls_e hmG (qJ _) comp13 (by decide) (by simp) ?_
 obtain⟨bs,c,ha,ho⟩:=h.ha
 have hx:=h.hx
 have hl:lenA hp (.map b)=some (.int .i64 (S.length:Int)):=by
  simp only[lenA,ha,qL]
 have hlf:lenFits .map (.map b)=true:=rfl
 refine vcE.s0 ?_
 rw[show r13_1=r13_1.take 1++((r13_1.drop 1).take 1++r13_1.drop 2) from rfl]
 refine vcE.seq (vcE.seq (vcE.app (vcE.e1 (k:=⟨rfl,vcE.app (vcE.call (f:=27) (caps:=[]) (ys:=[.ptr (b+4) 0]) rfl rfl (made_calls hx) ?_)⟩))))
 rintro r hp ⟨rfl,rfl⟩
 refine⟨rfl,vcE.ex (by simp (disch:=first|assumption|omega) only[go_sem,↓reduceIte,putE]; rfl) ?_⟩
 refine vcE.e0 ?_
 refine vcE.ex (by simp (disch:=first|assumption|omega) only[go_sem,↓reduceIte,reduceCtorEq,hx,nilchkA,↓hl,hlf]; rfl) ?_
 exact⟨_,rfl,by simp only[upd_app,↓reduceIte],rfl⟩
def P4:Tab:=Tab.none.addO 33 (.cons .str .nil) fun p=>if p.1.length≤1000000 then some (.rd true (.str (p.1.map foldB))) else none
theorem P4_ok:TabOk qi P4:=by
 refine xp (qJ _) ?_
 intro p r h
 split at h
 ·cases h; exact pFoldS p.1 (by omega)
 ·cases h
theorem P4_fold {p:List UInt8} (h:p.length≤1000000):P4 33 [.str p]=some (.rd true (.str (p.map foldB))):=
 (xe _ _ (.cons .str .nil) _ (p,())).trans (if_pos h)
theorem lists_gen (hx:hp[b+4]? = some (some (.row 57 (ixC most b (b+1) (b+2) (b+3))))) (g:Gl) (hl:g.pat.length≤1000000):ACalls qi 30 [.ptr (b+4) 0,.agg g.c] hp fun r hp'=>r=.tup [.map (b+1+g.fold.toNat),.str g.key]∧hp'=hp++[some (Blk.row 47 g.c)]:=by
 refine calls_e hmG P4_ok comp30 (by rfl) (by simp) ?_
 have hq:(hp++[some (Blk.row 47 g.c)])[hp.length]? = some (some (.row 47 [.int .i64 g.id,.str g.pat,.bool g.fold])):=by simp[Gl.c]
 have hx':(hp++[some (Blk.row 47 g.c)])[b+4]? = some (some (.row 57 (ixC most b (b+1) (b+2) (b+3)))):=app_get hx
 have hc:cellsA (.agg g.c)=g.c:=rfl
 have k1:=P4_fold hl
 obtain⟨id,pat,fold⟩:=g
 cases fold
 ·refine vcE.ex (by simp (disch:=first|assumption|omega) only[go_sem,↓reduceIte,hc,qa,hq,exOps.eq_2,reduceCtorEq,nilchkA,hx']; rfl) ?_
  exact⟨_,rfl,rfl,rfl⟩
 ·refine vcE.ex (by simp (disch:=first|assumption|omega) only[go_sem,↓reduceIte,hc,qa,hq,exOps.eq_2,reduceCtorEq,nilchkA,hx',frzL.eq_2,k1,nidL.eq_2]; rfl) ?_
  exact⟨_,rfl,rfl,rfl⟩
end
end
section
set_option linter.unusedSectionVars false
variable [Mx]
open Go Go.Proofs
section
variable {hp:HP} {b:Nat} {most:Int} {S:List (Gl × Nat)} {L:Bool→List PL}
theorem Ixs.sl_ne (h:Ixs b most S L hp) {f:Bool} {z:PL} (hz:z ∈ L f):z.sl≠b∧z.sl≠b+3∧z.sl≠b+4∧(∀ f':Bool,z.sl≠b+1+f'.toNat)∧∀ y ∈ S,z.sl≠y.2:=by
 have hr:=(h.p f).r z hz
 obtain⟨bs,c,ha,_⟩:=h.ha
 obtain⟨bw,cw,hw,_⟩:=h.hw
 refine⟨fun e=>?_,fun e=>?_,fun e=>?_,fun f' e=>?_,fun y hy e=>?_⟩
 ·rw[e,ha] at hr; cases hr
 ·rw[e,hw] at hr; cases hr
 ·rw[e,h.hx] at hr; cases hr
 ·obtain⟨b',c',hm⟩:=(h.p f').m
  rw[e,hm] at hr; cases hr
 ·rw[e,h.en y hy] at hr; cases hr
theorem Ixs.e_ne (h:Ixs b most S L hp) {y:Gl × Nat} (hy:y ∈ S):y.2≠b∧y.2≠b+3∧y.2≠b+4∧∀ f':Bool,y.2≠b+1+f'.toNat:=by
 have hr:=h.en y hy
 obtain⟨bs,c,ha,_⟩:=h.ha
 obtain⟨bw,cw,hw,_⟩:=h.hw
 refine⟨fun e=>?_,fun e=>?_,fun e=>?_,fun f' e=>?_⟩
 ·rw[e,ha] at hr; cases hr
 ·rw[e,hw] at hr; cases hr
 ·rw[e,h.hx] at hr; cases hr
 ·obtain⟨b',c',hm⟩:=(h.p f').m
  rw[e,hm] at hr; cases hr
theorem Ixs.dj2 (h:Ixs b most S L hp) {f f':Bool} (hne:f≠f'):∀ y ∈ L f,∀ z ∈ L f',y.sl≠z.sl:=by
 cases f<;>cases f'
 ·exact absurd rfl hne
 ·exact h.dj
 ·exact fun y hy z hz e=>h.dj z hz y hy e.symm
 ·exact absurd rfl hne
theorem fb_lt (f:Bool):f.toNat<2:=by cases f<;>simp
theorem fb_inj {f f':Bool} (h:f≠f'):f.toNat≠f'.toNat:=by cases f<;>cases f'<;>simp_all
theorem Ixs.lit (h:Ixs b most S L hp) {g:Gl} (hg:g.lit=true) (he:errPut (S.map (·.1)) g=0) {H4 H6:HP} {L':List PL} {bs:List Nat} {c:Nat}
  (hfr:∀ k,k<hp.length→k≠b→H4[k]? = hp[k]?) (h0:H4[b]? = some (some (.map ((S++[(g,hp.length)]).map entS) bs c))) (ho:MapOk ((S++[(g,hp.length)]).map entS) bs c) (hen:H4[hp.length]? = some (some (.row 62 (g.cells most)))) (hp6:PutL H4 (b+1+g.fold.toNat) (L g.fold) g.key g.id H6 L') :
  Ixs b most (S++[(g,hp.length)]) (fun f=>if f=g.fold then L' else L f) H6:=by
 have hl4:=h.lt (k:=b+4) (.inl ⟨by omega,by omega⟩)
 have hle:hp.length<H4.length:=get_lt hen
 have hf2:=fb_lt g.fold
 have fr:∀ k,k<hp.length→k≠b→k≠b+1+g.fold.toNat→(∀ y ∈ L g.fold,y.sl≠k)→H6[k]? = hp[k]?:=fun k h1 h2 h3 h4=>by
  rw[hp6.fr k (by omega) h3 h4]
  exact hfr k h1 h2
 have hws:wildS (S++[(g,hp.length)])=wildS S:=by
  simp only[wildS,xz,xK,hg,Bool.not_true,zp]
  simp
 refine⟨?_,⟨bs,c,?_,ho⟩,?_,fun f=>?_,fun y hy=>?_,fun f=>?_,?_,fun f k=>?_,?_⟩
 ·rw[fr _ hl4 (by omega) (by omega) fun y hy=>(h.sl_ne hy).2.2.1]
  exact h.hx
 ·rw[hp6.fr b (by omega) (by omega) fun y hy=>(h.sl_ne hy).1]
  exact h0
 ·obtain⟨bw,cw,hw,how⟩:=h.hw
  rw[hws]
  refine⟨bw,cw,?_,how⟩
  rw[fr _ (by omega) (by omega) (by omega) fun y hy=>(h.sl_ne hy).2.1]
  exact hw
 ·by_cases hf:f=g.fold
  ·subst hf
   rw[if_pos rfl]
   exact hp6.p
  ·rw[if_neg hf]
   have:=fb_inj hf
   have hf3:=fb_lt f
   refine (h.p f).frame (fr _ (by omega) (by omega) (by omega) fun y hy=>(h.sl_ne hy).2.2.2.1 f) fun z hz=>fr _ (get_lt ((h.p f).r z hz)) (h.sl_ne hz).1 ((h.sl_ne hz).2.2.2.1 _) fun y hy e=>h.dj2 (Ne.symm hf) y hy z hz e
 ·rcases qM.1 hy with hy|hy
  ·rw[fr _ (get_lt (h.en y hy)) (h.e_ne hy).1 ((h.e_ne hy).2.2.2 _) fun z hz=>(h.sl_ne hz).2.2.2.2 y hy]
   exact h.en y hy
  ·rw[qQ.1 hy]
   rw[hp6.fr _ hle (by omega) fun z hz=>by have:=get_lt ((h.p _).r z hz); omega]
   exact hen
 ·by_cases hf:f=g.fold
  ·rw[if_pos hf]; exact hp6.nd
  ·rw[if_neg hf]; exact h.nd f
 ·have old:∀ f,∀ y ∈ L f,y.sl<H4.length:=fun f y hy=>by
   have:=get_lt ((h.p f).r y hy)
   omega
  intro y hy z hz
  cases hgf:g.fold
  ·rw[hgf] at hy hz hp6
   simp only[if_true] at hy
   simp only[Bool.true_eq_false,if_false] at hz
   rcases hp6.sls y hy with e|⟨x,hx,e⟩
   ·have:=old true z hz
    omega
   ·rw[← e]; exact h.dj x hx z hz
  ·rw[hgf] at hy hz hp6
   simp only[if_true] at hz
   simp only[Bool.false_eq_true,if_false] at hy
   rcases hp6.sls z hz with e|⟨x,hx,e⟩
   ·have:=old false y hy
    omega
   ·rw[← e]; exact h.dj y hy x hx
 ·rw[qC,qB,xW,idsG_put]
  by_cases hf:f=g.fold
  ·subst hf
   rw[if_pos rfl,hp6.ids,h.r]
   simp only[Gl.at_,hg,Bool.true_and,beq_self_eq_true]
   by_cases hk:k=g.key
   ·rw[if_pos hk,if_pos (by simp[hk])]
   ·rw[if_neg hk,if_neg (by simpa using fun e=>hk e.symm),qt]
  ·rw[if_neg hf,h.r]
   have:(g.fold == f)=false:=by simpa using fun e=>hf e.symm
   simp only[Gl.at_,this,Bool.and_false,xR]
   simp
 ·rw[qC]
  exact h.ok.put he
theorem Ixs.wild (h:Ixs b most S L hp) {g:Gl} (hg:g.lit=false) (he:errPut (S.map (·.1)) g=0) {H6:HP} {bs bw:List Nat} {c cw:Nat}
  (hfr:∀ k,k<hp.length→k≠b→k≠b+3→H6[k]? = hp[k]?) (h0:H6[b]? = some (some (.map ((S++[(g,hp.length)]).map entS) bs c))) (ho:MapOk ((S++[(g,hp.length)]).map entS) bs c) (h3:H6[b+3]? = some (some (.map ((wildS S++[(g,hp.length)]).map entS) bw cw))) (ho3:MapOk ((wildS S++[(g,hp.length)]).map entS) bw cw) (hen:H6[hp.length]? = some (some (.row 62 (g.cells most)))) :
  Ixs b most (S++[(g,hp.length)]) L H6:=by
 have hl4:=h.lt (k:=b+4) (.inl ⟨by omega,by omega⟩)
 have hws:wildS (S++[(g,hp.length)])=wildS S++[(g,hp.length)]:=by
  simp only[wildS,xz,xK,hg,Bool.not_false,zp,if_true]
 refine⟨?_,⟨bs,c,h0,ho⟩,by rw[hws]; exact⟨bw,cw,h3,ho3⟩,fun f=>?_,fun y hy=>?_,h.nd,h.dj,fun f k=>?_,?_⟩
 ·rw[hfr _ hl4 (by omega) (by omega)]
  exact h.hx
 ·have:=fb_lt f
  exact (h.p f).frame (hfr _ (by omega) (by omega) (by omega)) fun z hz=>hfr _ (get_lt ((h.p f).r z hz)) (h.sl_ne hz).1 (h.sl_ne hz).2.1
 ·rcases qM.1 hy with hy|hy
  ·rw[hfr _ (get_lt (h.en y hy)) (h.e_ne hy).1 (h.e_ne hy).2.1]
   exact h.en y hy
  ·rw[qQ.1 hy]
   exact hen
 ·rw[qC,qB,xW,idsG_put,h.r]
  simp only[Gl.at_,hg,xR]
  simp
 ·rw[qC]
  exact h.ok.put he
end
end
section
set_option linter.unusedSectionVars false
variable [Mx]
open Go Go.Proofs
def P5:Tab:=((Tab.none.addR 28 (.cons .str .nil) fun p=>.rd true (.int .i64 (checkG p.1))).addO 29 (.cons .str .nil) fun p=>if p.1.length≤1000000 then some (.rd true (litP p.1)) else none).addO 31 (.cons .str (.cons .bool (.cons .i64 .nil))) fun p=>if p.1.length≤300 then some (.rd false (.tup [(newA p.1 p.2.1 p.2.2.1).v,.int .i64 (errA p.1 p.2.2.1)])) else none
theorem P5_ok:TabOk qi P5:=by
 refine xp (xp (TabOk.addR (qJ _) ?_) ?_) ?_
 ·exact fun p=>pCheck p.1
 ·intro p r h
  split at h
  ·cases h; exact pLiteral p.1 (by assumption)
  ·cases h
 ·intro p r h
  split at h
  ·cases h; exact pNewA p.1 p.2.1 p.2.2.1 (by assumption)
  ·cases h
theorem P5_check (p:List UInt8):P5 28 [.str p]=some (.rd true (.int .i64 (checkG p))):=
 (qS _ _ _ _ rfl _).trans ((qS _ _ _ _ rfl _).trans (Tab.addR_self _ _ (.cons .str .nil) _ (p,())))
theorem P5_lit {p:List UInt8} (h:p.length≤1000000):P5 29 [.str p]=some (.rd true (litP p)):=
 (qS _ _ _ _ rfl _).trans ((xe _ _ (.cons .str .nil) _ (p,())).trans (if_pos h))
theorem P5_new {p:List UInt8} (f:Bool) (most:Int) (h:p.length≤300):P5 31 [.str p,.bool f,.int .i64 most]=some (.rd false (.tup [(newA p f most).v,.int .i64 (errA p most)])):=
 (xe _ _ (.cons .str (.cons .bool (.cons .i64 .nil))) _ (p,f,most,())).trans (if_pos h)
section
variable {hp:HP} {b:Nat} {most:Int} {S:List (Gl × Nat)} {L:Bool→List PL}
def PutR (b:Nat) (most:Int) (S:List (Gl × Nat)) (L:Bool→List PL) (hp:HP) (g:Gl) (r:AV) (H:HP):Prop:=
 r=.int .i64 (errPut (S.map (·.1)) g)∧(∃ S' L',Ixs b most S' L' H∧S'.map (·.1)=putG (S.map (·.1)) g∧∀ k,Foot b S' L' k→Foot b S L k∨hp.length≤k)∧Chg (Foot b S L) hp H
theorem PutR.same (h:Ixs b most S L hp) {g:Gl} {e:Int} (he:errPut (S.map (·.1)) g=e) (hn:e≠0):PutR b most S L hp g (.int .i64 e) hp:=
 ⟨by rw[he],⟨S,L,h,by rw[putG,if_neg (by rw[he]; exact hn)],fun k hk=>.inl hk⟩,Chg.refl _ _⟩
theorem PutR.ofLit (h:Ixs b most S L hp) {g:Gl} (hg:g.lit=true) (he:errPut (S.map (·.1)) g=0) {H4 H6:HP} {L':List PL} {bs:List Nat} {c:Nat}
  (hfr:∀ k,k<hp.length→k≠b→H4[k]? = hp[k]?) (h0:H4[b]? = some (some (.map ((S++[(g,hp.length)]).map entS) bs c))) (ho:MapOk ((S++[(g,hp.length)]).map entS) bs c) (hen:H4[hp.length]? = some (some (.row 62 (g.cells most)))) (hp6:PutL H4 (b+1+g.fold.toNat) (L g.fold) g.key g.id H6 L'):PutR b most S L hp g (.int .i64 0) H6:=by
 have hle:hp.length<H4.length:=get_lt hen
 have hf2:=fb_lt g.fold
 have hl6:=hp6.le
 refine⟨by rw[he],⟨_,_,h.lit hg he hfr h0 ho hen hp6,by rw[putG,if_pos he,qC]; rfl,?_⟩,⟨?_,by omega⟩⟩
 ·rintro k (hk|⟨y,hy,rfl⟩|⟨f,z,hz,rfl⟩)
  ·exact .inl (.inl hk)
  ·rcases qM.1 hy with hy|hy
   ·exact .inl (.inr (.inl ⟨y,hy,rfl⟩))
   ·rw[qQ.1 hy]
    exact .inr (qk _)
  ·by_cases hf:f=g.fold
   ·subst hf
    replace hz:z ∈ L':=by simpa using hz
    rcases hp6.sls z hz with e|⟨y,hy,e⟩
    ·exact .inr (by omega)
    ·exact .inl (.inr (.inr ⟨_,y,hy,e⟩))
   ·replace hz:z ∈ L f:=by simpa[hf] using hz
    exact .inl (.inr (.inr ⟨f,z,hz,rfl⟩))
 ·intro k hk hn
  have hb:k≠b:=fun e=>hn (.inl (by omega))
  rw[hp6.fr k (by omega) (fun e=>hn (.inl (by omega))) fun y hy e=>hn (.inr (.inr ⟨_,y,hy,e⟩))]
  exact hfr k hk hb
theorem PutR.ofWild (h:Ixs b most S L hp) {g:Gl} (hg:g.lit=false) (he:errPut (S.map (·.1)) g=0) {H6:HP} {bs bw:List Nat} {c cw:Nat}
  (hfr:∀ k,k<hp.length→k≠b→k≠b+3→H6[k]? = hp[k]?) (h0:H6[b]? = some (some (.map ((S++[(g,hp.length)]).map entS) bs c))) (ho:MapOk ((S++[(g,hp.length)]).map entS) bs c) (h3:H6[b+3]? = some (some (.map ((wildS S++[(g,hp.length)]).map entS) bw cw))) (ho3:MapOk ((wildS S++[(g,hp.length)]).map entS) bw cw) (hen:H6[hp.length]? = some (some (.row 62 (g.cells most)))):PutR b most S L hp g (.int .i64 0) H6:=by
 have hle:hp.length<H6.length:=get_lt hen
 refine⟨by rw[he],⟨_,_,h.wild hg he hfr h0 ho h3 ho3 hen,by rw[putG,if_pos he,qC]; rfl,?_⟩,⟨?_,by omega⟩⟩
 ·rintro k (hk|⟨y,hy,rfl⟩|⟨f,z,hz,rfl⟩)
  ·exact .inl (.inl hk)
  ·rcases qM.1 hy with hy|hy
   ·exact .inl (.inr (.inl ⟨y,hy,rfl⟩))
   ·rw[qQ.1 hy]
    exact .inr (qk _)
  ·exact .inl (.inr (.inr ⟨f,z,hz,rfl⟩))
 ·intro k hk hn
  exact hfr k hk (fun e=>hn (.inl (by omega))) (fun e=>hn (.inl (by omega)))
theorem Aut.v_store (a:Aut) {H:HP} {k o:Nat} {t:TypeId} {cs:List AV} (hk:H[k]? = some (some (.row t cs))) (ho:o+1≤cs.length):storeA H 1 (.ptr k o) a.v=some (H.set k (some (.row t (over cs o [a.v])))):=by
 cases a<;>simp only[storeA,Aut.v,cellsA,hk,qr,qx,qY,ho,and_self,if_true]
theorem Aut.v_pick (a:Aut) {x y z:AV}:pickA none [x,y,z,a.v] 3=some a.v:=by cases a<;>rfl
theorem Gl.auto_pick (g:Gl) (most:Int):pickA none (g.cells most) 3=some (g.auto most):=by
 unfold Gl.cells Gl.auto
 split
 ·rfl
 ·exact Aut.v_pick _
theorem lit_any (g:Gl):g.pat.any wildb = !g.lit:=by rw[Gl.lit,Bool.not_not]
theorem wild_ids (h:Ixs b most S L hp) {id:Int} (hn:∀ y ∈ S,y.1.id≠id):∀ y ∈ wildS S,y.1.id≠id:=fun y hy=>hn y (List.mem_filter.1 hy).1
set_option maxHeartbeats 1000000 in
theorem put_gen (h:Ixs b most S L hp) (g:Gl) (hl:g.pat.length≤300):ACalls qi 11 [.ptr (b+4) 0,.int .i64 g.id,.str g.pat,.bool g.fold] hp (PutR b most S L hp g):=by
 refine calls_e hmG P5_ok comp11 (by decide) (by simp) ?_
 have hx:=h.hx
 obtain⟨bs,c,ha,ho⟩:=h.ha
 have hl1:lenA hp (.map b)=some (.int .i64 (S.length:Int)):=by simp only[lenA,ha,qL]
 have hlf:lenFits .map (.map b)=true:=rfl
 have k1:=P5_check g.pat
 have k2:=P5_lit (p:=g.pat) (by omega)
 have k3:=P5_new g.fold most hl
 have g4:=get_lt hx
 refine vcE.s1 (k:=vcE.seq (vcE.block ?_))
 rw[show r11_1=r11_1.take 1++((r11_1.drop 1).take 1++r11_1.drop 2) from rfl]
 refine vcE.seq (vcE.app (vcE.e1 (k:=⟨rfl,vcE.app (vcE.call (f:=27) (caps:=[]) (ys:=[.ptr (b+4) 0]) rfl rfl (made_calls hx) ?_)⟩)))
 rintro r hp ⟨rfl,rfl⟩
 refine⟨rfl,vcE.ex (by simp (disch:=first|assumption|omega) only[go_sem,↓reduceIte,putE]; rfl) ?_⟩
 refine vcE.condFalse (by simp only[evE,upd_app,↓reduceIte]) ?_
 by_cases h0:g.id<0
 ·refine vcE.step (by simp (disch:=first|assumption|omega) only[go_sem,↓reduceIte,qa,h0,decide_true]; rfl) (vcE.condTrue (by simp only[evE,upd_app,↓reduceIte]) ?_)
  refine vcE.e0 ?_
  refine⟨_,rfl,?_⟩
  simp only[upd_app,↓reduceIte]
  exact PutR.same h (if_pos h0) (by decide)
 refine vcE.step (by simp (disch:=first|assumption|omega) only[go_sem,↓reduceIte,qa,h0,decide_false]; rfl) (vcE.condFalse (by simp only[evE,upd_app,↓reduceIte]) ?_)
 rw[show r11_5=r11_5.take 2++((r11_5.drop 2).take 1++r11_5.drop 3) from rfl]
 refine vcE.seq (vcE.app (vcE.e1 (k:=⟨rfl,vcE.app (vcE.call (f:=22) (caps:=[]) (ys:=[.ptr (b+4) 0,.int .i64 g.id]) rfl rfl (has_gen h g.id) ?_)⟩)))
 rintro r hp ⟨rfl,rfl⟩
 refine⟨rfl,vcE.ex (by simp (disch:=first|assumption|omega) only[go_sem,↓reduceIte,putE]; rfl) ?_⟩
 cases hh:hasG (S.map (·.1)) g.id
 rotate_left
 ·refine vcE.condTrue (by simp only[evE,upd_app,↓reduceIte]) ?_
  refine vcE.e0 ?_
  refine⟨_,rfl,?_⟩
  simp only[upd_app,↓reduceIte]
  refine PutR.same h ?_ (by decide)
  rw[errPut,if_neg h0,if_pos hh]
 refine vcE.condFalse (by simp only[evE,upd_app,↓reduceIte]) ?_
 refine vcE.e0 ?_
 by_cases hc:checkG g.pat=0
 rotate_left
 ·refine vcE.ex (by simp (disch:=first|assumption|omega) only[go_sem,↓reduceIte,qa,reduceCtorEq,qs,k1,hc]; rfl) ?_
  refine⟨_,rfl,?_⟩
  simp only[upd_app,↓reduceIte]
  refine PutR.same h ?_ hc
  rw[errPut,if_neg h0,if_neg (by simp[hh]),if_pos hc]
 rw[hc] at k1
 by_cases hlen:200≤S.length
 ·have hge:(S.length:Int)≥200:=by omega
  refine vcE.ex (by simp (disch:=first|assumption|omega) only[go_sem,↓reduceIte,qa,frzL.eq_2,k1,nidL.eq_2,reduceCtorEq,nilchkA,hx,hlf,↓hl1,hge]; rfl) ?_
  refine⟨_,rfl,?_⟩
  simp only[upd_app,↓reduceIte]
  refine PutR.same h ?_ (by decide)
  rw[errPut,if_neg h0,if_neg (by simp[hh]),if_neg (by simp[hc]),if_pos (by rw[qL]; exact hlen)]
 have hge:¬ (S.length:Int)≥200:=by omega
 have he:errPut (S.map (·.1)) g=0:=by rw[errPut,if_neg h0,if_neg (by simp[hh]),if_neg (by simp[hc]),if_neg (by rw[qL]; exact hlen)]
 have f1:fillA [(0,1),(1,1),(2,1)] [.int .i64 0,.str [],.bool false] (([0,1,2]:List Nat).zip [.int .i64 g.id,.str g.pat,.bool g.fold])=some g.c:=rfl
 have f2:fillA [(0,3),(3,1)] [.int .i64 0,.str [],.bool false,.nilp] (([0]:List Nat).zip [.agg g.c])=some (g.c++[.nilp]):=rfl
 have fc:cellsA (.agg (g.c++[.nilp]))=g.c++[.nilp]:=rfl
 have hno:∀ y ∈ S,y.1.id≠g.id:=fun y hy=>hasG_not hh y.1 (xx hy)
 have ga:=get_lt ha
 have hx1:(hp++[some (Blk.row 62 (g.c++[.nilp]))])[b+4]? = _:=app_get hx
 have ha1:(hp++[some (Blk.row 62 (g.c++[.nilp]))])[b]? = _:=app_get ha
 obtain⟨H2,hH2⟩:∃ H2,H2=(hp++[some (Blk.row 62 (g.c++[.nilp]))]).set b (some (.map ((S++[(g,hp.length)]).map entS) (bs++[c]) (c+1))):=⟨_,rfl⟩
 have hup:mapupA (hp++[some (Blk.row 62 (g.c++[.nilp]))]) .int (.map b) (.int .i64 g.id) (.ptr hp.length 0)=some H2:=by
  rw[up_of ha1 rfl (findS_none hno),hH2,qC]
  rfl
 refine vcE.step (by simp (disch:=first|assumption|omega) only[go_sem,↓reduceIte,qa,k1]; rfl) (vcE.step (by simp (disch:=first|assumption|omega) only[go_sem,↓reduceIte,reduceCtorEq,nilchkA,hx,hlf,↓hl1,hge,decide_false]; rfl) (vcE.step (by simp (disch:=first|assumption|omega) only[go_sem,↓reduceIte,qa,qs,↓f1,↓f2,boxA_eq,fc]; rfl) (vcE.step (by simp (disch:=first|assumption|omega) only[go_sem,↓reduceIte,qa,reduceCtorEq,hx1,nilchkA,↓hup]; rfl) ?_)))
 have hfr2:∀ k,k<hp.length→k≠b→H2[k]? = hp[k]?:=fun k hk hb=>by
  rw[hH2,qv (Ne.symm hb),qm hk]
 have h20:H2[b]? = some (some (.map ((S++[(g,hp.length)]).map entS) (bs++[c]) (c+1))):=by rw[hH2]; exact set_get ha1
 have he2:H2[hp.length]? = some (some (.row 62 (g.c++[.nilp]))):=by
  rw[hH2,set_get_ne (by omega)]
  simp
 have ho2:MapOk ((S++[(g,hp.length)]).map entS) (bs++[c]) (c+1):=by rw[qC]; exact ho.put _
 have hx2:H2[b+4]? = some (some (.row 57 (ixC most b (b+1) (b+2) (b+3)))):=by rw[hfr2 _ g4 (by omega)]; exact hx
 have hl2:H2.length=hp.length+1:=by rw[hH2]; simp
 clear hup hH2 hx1 ha1 hl1
 cases hlit:g.lit
 ·have hw:g.pat.any wildb=true:=by rw[lit_any,hlit]; rfl
  rw[litP,if_pos hw] at k2
  refine vcE.seq (vcE.step (by simp (disch:=first|assumption|omega) only[go_sem,↓reduceIte,qa,k2,zj]; rfl) (vcE.s1 (k:=vcE.condFalse (by simp only[evE,upd_app,↓reduceIte]) ?_)))
  refine vcE.e0 ?_
  have hst:storeA H2 1 (.ptr hp.length 3) (newA g.pat g.fold most).v=some (H2.set hp.length (some (.row 62 (g.cells most)))):=by
   have hov:over (g.c++[.nilp]) 3 [(newA g.pat g.fold most).v]=g.cells most:=by
    rw[Gl.cells,Gl.auto,hlit]
    rfl
   rw[Aut.v_store _ he2 (o:=3) (qk _),hov]
  obtain⟨H3,hH3⟩:∃ H3,H3=H2.set hp.length (some (.row 62 (g.cells most))):=⟨_,rfl⟩
  rw[← hH3] at hst
  have hfr3:∀ k,k≠hp.length→H3[k]? = H2[k]?:=fun k hk=>by rw[hH3,qv (Ne.symm hk)]
  have he3:H3[hp.length]? = some (some (.row 62 (g.cells most))):=by rw[hH3]; exact set_get he2
  have hx3:H3[b+4]? = some (some (.row 57 (ixC most b (b+1) (b+2) (b+3)))):=by rw[hfr3 _ (by omega)]; exact hx2
  obtain⟨bw,cw,hwm,how⟩:=h.hw
  have hw3:H3[b+3]? = some (some (.map ((wildS S).map entS) bw cw)):=by rw[hfr3 _ (by omega),hfr2 _ (by omega) (by omega)]; exact hwm
  have hup:=up_of (ky:=.int) (v:=.ptr hp.length 0) hw3 (k:=.int .i64 g.id) rfl (findS_none (wild_ids h hno))
  refine vcE.step (by simp (disch:=first|assumption|omega) only[go_sem,↓reduceIte,qa,reduceCtorEq,k3,hx2,nilchkA,↓hst]; rfl) (vcE.step (by simp (disch:=first|assumption|omega) only[go_sem,↓reduceIte,qa,reduceCtorEq,hx3,nilchkA,↓hup]; rfl) ?_)
  refine vcE.e0 ?_
  refine⟨_,rfl,?_⟩
  simp only[upd_app,↓reduceIte]
  refine PutR.ofWild h hlit he (bs:=bs++[c]) (c:=c+1) (bw:=bw++[cw]) (cw:=cw+1) ?_ ?_ ho2 ?_ ?_ ?_
  ·intro k hk hb h3
   rw[qv (Ne.symm h3),hfr3 _ (by omega)]
   exact hfr2 k hk hb
  ·rw[qv (by omega),hfr3 _ (by omega)]
   exact h20
  ·rw[set_get hw3,qC]
   rfl
  ·rw[qC]
   exact how.put _
  ·rw[qv (by omega)]
   exact he3
 ·have hw:¬ g.pat.any wildb=true:=by rw[lit_any,hlit]; decide
  rw[litP,if_neg hw] at k2
  have hce:g.cells most=g.c++[.nilp]:=by
   rw[Gl.cells,Gl.auto,hlit]
   rfl
  rw[← hce] at he2
  have hf2:=fb_lt g.fold
  have hpe:pickA (some 3) (g.cells most) 0=some (.agg g.c):=by rw[hce]; rfl
  obtain⟨H3,hH3⟩:∃ H3,H3=H2++[some (Blk.row 47 g.c)]:=⟨_,rfl⟩
  obtain⟨H4,hH4⟩:∃ H4,H4=H3++[some (Blk.row 3 [AV.int .i64 g.id])]:=⟨_,rfl⟩
  have hl3:H3.length=hp.length+2:=by rw[hH3]; simp[hl2]
  have hfr3:∀ k,k<hp.length+1→H3[k]? = H2[k]?:=fun k hk=>by rw[hH3,qm (by omega)]
  have hfr4:∀ k,k<hp.length+2→H4[k]? = H3[k]?:=fun k hk=>by rw[hH4,qm (by omega)]
  have hfrA:∀ k,k<hp.length→k≠b→H4[k]? = hp[k]?:=fun k hk hb=>by rw[hfr4 k (by omega),hfr3 k (by omega)]; exact hfr2 k hk hb
  have hsrc:srcA H4 1 (.sl H3.length 0 1 1 1 true)=some ([AV.int .i64 g.id],1):=by rw[hH4]; simp[srcA]
  have hpm:PMap H4 (b+1+g.fold.toNat) (L g.fold):=(h.p g.fold).frame (hfrA _ (by omega) (by omega)) fun z hz=>hfrA _ (get_lt ((h.p _).r z hz)) (h.sl_ne hz).1
  have hsm:∀ k,(idsL (L g.fold) k).length≤1000:=fun k=>by
   have h1:=h.ok.len
   have h2:(idsG g.fold k (S.map (·.1))).length≤(S.map (·.1)).length:=by
    rw[idsG,qL]
    exact List.length_filter_le _ _
   rw[h.r]
   omega
  obtain⟨v,v',H5,H6,L',hv,h5,h6,hp6⟩:=put_list hpm (h.nd g.fold) g.key g.id hsrc hsm
  have hlk:=hv H3 (by rw[hfr4 _ (by omega)])
  rw[hH4] at h5
  refine vcE.seq (vcE.step (by simp (disch:=first|assumption|omega) only[go_sem,↓reduceIte,qa,k2,zj]; rfl) (vcE.s1 (k:=vcE.condTrue (by simp only[evE,upd_app,↓reduceIte]) ?_)))
  rw[show r11_16=r11_16.take 5++((r11_16.drop 5).take 1++r11_16.drop 6) from rfl]
  refine vcE.seq (vcE.app (vcE.ex (by simp (disch:=first|assumption|omega) only[go_sem,↓reduceIte,qa,reduceCtorEq,nilchkA,he2,↓hpe]; rfl) ⟨rfl,vcE.app (vcE.call (f:=30) (caps:=[]) (ys:=[.ptr (b+4) 0,.agg g.c]) rfl rfl (lists_gen hx2 g (by omega)) ?_)⟩))
  rintro r Hz ⟨rfl,rfl⟩
  rw[← hH3]
  refine⟨rfl,vcE.ex (by simp (disch:=first|assumption|omega) only[go_sem,↓reduceIte,qa,putE]; rfl) ?_⟩
  refine vcE.ex (by simp (disch:=first|assumption|omega) only[go_sem,↓reduceIte,qa,↓hlk,↓h5,↓h6]; rfl) ?_
  refine⟨_,rfl,?_⟩
  simp only[upd_app,↓reduceIte]
  refine PutR.ofLit h hlit he (bs:=bs++[c]) (c:=c+1) hfrA ?_ ho2 ?_ hp6
  ·rw[hfr4 _ (by omega),hfr3 _ (by omega)]; exact h20
  ·rw[hfr4 _ (by omega),hfr3 _ (by omega)]; exact he2
end
end
end Go.Gi
