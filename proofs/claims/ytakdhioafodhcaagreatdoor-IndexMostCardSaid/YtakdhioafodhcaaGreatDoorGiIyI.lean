/- Drop. -/
/- slices.Grow of nil, and slices.Concat, as compiled, for elements of any one kind. -/
/- Match. -/
import Derived.Test.YtakdhioafodhcaaGreatDoorGiIyG
import Derived.Test.YtakdhioafodhcaaGreatDoorGiDK
set_option linter.unusedVariables false
set_option linter.unusedSimpArgs false
set_option linter.unusedSectionVars false
namespace Go.Gi
open _root_.Bool renaming false_eq_true → qA, false_and → xR
open _root_.Go.Proofs.Tryz renaming prog → qi
open _root_.Go.IntKind renaming wrap → qU
open _root_.List renaming eq_nil_of_length_eq_zero → qq, getElem?_append_left → qm, getElem?_eq_getElem → qg, getElem?_cons_zero → ql, mem_append_right → qW, getElem?_set_ne → qv, mem_append_left → qR, mem_of_getElem? → xa, mem_map_of_mem → xx, filter_eq_self → zq, length_append → qo, mem_cons_self → qD, filter_append → xz, append_assoc → qV, take_add_one → xn, take_length → xl, filter_cons → xK, append_nil → qt, map_append → qC, length_map → qL, mem_filter → xI, length_set → xU, filter_nil → zp, take_zero → xi, map_cons → qB, mem_cons → xm, mem_map → xw, map_map → zc
open _root_.Nat renaming mul_le_mul_right → xj, reduceEqDiff → qa, reduceAdd → qs, zero_add → qY, sub_self → xX, le_refl → qk, mul_one → xC
open _root_.Option.some renaming injEq → qd
open _root_.Go.Gi.TabOk renaming none → qJ
section
set_option linter.unusedSectionVars false
variable [Mx]
open Go Go.Proofs
section
variable {hp:HP} {b:Nat} {most:Int} {S A B:List (Gl × Nat)} {y:Gl × Nat} {L:Bool→List PL}
def DropR (b:Nat) (most:Int) (S:List (Gl × Nat)) (L:Bool→List PL) (hp:HP) (id:Int) (r:AV) (H:HP):Prop:=
 r=.int .i64 (errDrop (S.map (·.1)) id)∧(∃ S' L',Ixs b most S' L' H∧S'.map (·.1)=dropG (S.map (·.1)) id∧∀ k,Foot b S' L' k→Foot b S L k)∧Chg (Foot b S L) hp H
theorem dropG_mid (hn:∀ x ∈ A++B,x.1.id≠y.1.id):dropG ((A++y :: B).map (·.1)) y.1.id=(A++B).map (·.1):=by
 have e:∀ C:List (Gl × Nat),(∀ x ∈ C,x.1.id≠y.1.id)→(C.map (·.1)).filter (fun g => !decide (g.id=y.1.id))=C.map (·.1):=fun C hC=>zq.2 fun g hg=>by
  obtain⟨x,hx,rfl⟩:=xw.1 hg
  simp[hC x hx]
 rw[dropG,qC,qB,xz,xK,if_neg (by simp),e A fun x hx=>hn x (qR _ hx),e B fun x hx=>hn x (qW _ hx),qC]
theorem erase_ent:((A++y :: B).map entS).eraseIdx A.length=(A++B).map entS:=by
 rw[qC,qB,qC,show A.length=(A.map entS).length by simp,List.eraseIdx_append_of_length_le (qk _),xX]
 rfl
theorem del_of {H:HP} {m:Nat} {es:List (AV × AV)} {bs:List Nat} {c:Nat} (hm:H[m]? = some (some (.map es bs c))) {ky:KK} {k:AV} (hk:keyA ky k=true) {x:Nat × AV} (hf:findA k es 0=some (some x)):delA H ky (.map m) k=some (H.set m (some (.map (es.eraseIdx x.1) (bs.eraseIdx x.1) c))):=by
 simp only[delA,hk,hm,hf,cond_true]
theorem Ixs.dropL (h:Ixs b most (A++y :: B) L hp) (hy:y.1.lit=true) {H4 H6:HP} {L':List PL} {bs:List Nat} {c:Nat} (hfr:∀ k,k<hp.length→k≠b→H4[k]? = hp[k]?) (h0:H4[b]? = some (some (.map ((A++B).map entS) bs c))) (ho:MapOk ((A++B).map entS) bs c) (hd:DropL H4 (b+1+y.1.fold.toNat) (L y.1.fold) y.1.key y.1.id H6 L') (hn:∀ x ∈ A++B,x.1.id≠y.1.id) :
  Ixs b most (A++B) (fun f=>if f=y.1.fold then L' else L f) H6:=by
 have hl4:=h.lt (k:=b+4) (.inl ⟨by omega,by omega⟩)
 have hf2:=fb_lt y.1.fold
 have hsub:∀ x ∈ A++B,x ∈ A++y :: B:=fun x hx=>mem_mid0 hx
 have fr:∀ k,k<hp.length→k≠b→k≠b+1+y.1.fold.toNat→(∀ z ∈ L y.1.fold,z.sl≠k)→H6[k]? = hp[k]?:=fun k h1 h2 h3 h4=>by
  rw[hd.fr k h3 h4]
  exact hfr k h1 h2
 have hws:wildS (A++y :: B)=wildS (A++B):=by
  simp only[wildS,xz,xK,hy,Bool.not_true]
  simp
 have hG:=dropG_mid hn
 have hym:y.1 ∈ (A++y :: B).map (·.1):=xx (qW _ qD)
 refine⟨?_,⟨bs,c,?_,ho⟩,?_,fun f=>?_,fun x hx=>?_,fun f=>?_,?_,fun f k=>?_,?_⟩
 ·rw[fr _ hl4 (by omega) (by omega) fun z hz=>(h.sl_ne hz).2.2.1]
  exact h.hx
 ·rw[hd.fr b (by omega) fun z hz=>(h.sl_ne hz).1]
  exact h0
 ·obtain⟨bw,cw,hw,how⟩:=h.hw
  rw[hws] at hw how
  refine⟨bw,cw,?_,how⟩
  rw[fr _ (by omega) (by omega) (by omega) fun z hz=>(h.sl_ne hz).2.1]
  exact hw
 ·by_cases hf:f=y.1.fold
  ·subst hf
   rw[if_pos rfl]
   exact hd.p
  ·rw[if_neg hf]
   have:=fb_inj hf
   have hf3:=fb_lt f
   refine (h.p f).frame (fr _ (by omega) (by omega) (by omega) fun z hz=>(h.sl_ne hz).2.2.2.1 f) fun z hz=>fr _ (get_lt ((h.p f).r z hz)) (h.sl_ne hz).1 ((h.sl_ne hz).2.2.2.1 _) fun w hw e=>h.dj2 (Ne.symm hf) w hw z hz e
 ·have hx:=hsub x hx
  rw[fr _ (get_lt (h.en x hx)) (h.e_ne hx).1 ((h.e_ne hx).2.2.2 _) fun z hz=>(h.sl_ne hz).2.2.2.2 x hx]
  exact h.en x hx
 ·by_cases hf:f=y.1.fold
  ·rw[if_pos hf]; exact hd.nd
  ·rw[if_neg hf]; exact h.nd f
 ·intro u hu z hz
  cases hgf:y.1.fold
  ·rw[hgf] at hu hz hd
   simp only[if_true] at hu
   simp only[Bool.true_eq_false,if_false] at hz
   obtain⟨x,hx,e⟩:=hd.sls u hu
   rw[← e]; exact h.dj x hx z hz
  ·rw[hgf] at hu hz hd
   simp only[if_true] at hz
   simp only[qA,if_false] at hu
   obtain⟨x,hx,e⟩:=hd.sls z hz
   rw[← e]; exact h.dj u hu x hx
 ·rw[← hG]
  by_cases hf:f=y.1.fold
  ·subst hf
   rw[if_pos rfl,hd.ids,h.r]
   by_cases hk:k=y.1.key
   ·rw[if_pos hk,idsG_drop]
   ·rw[if_neg hk,idsG_drop_ne h.ok.nd hym]
    simp only[Gl.at_,hy,Bool.true_and,beq_self_eq_true]
    simpa using fun e=>hk e.symm
  ·rw[if_neg hf,h.r,idsG_drop_ne h.ok.nd hym]
   have:(y.1.fold == f)=false:=by simpa using fun e=>hf e.symm
   simp only[Gl.at_,this,Bool.and_false,xR]
 ·rw[← hG]
  exact h.ok.drop _
theorem Ixs.dropW (h:Ixs b most (A++y :: B) L hp) (hy:y.1.lit=false) {H6:HP} {bs bw:List Nat} {c cw:Nat} (hfr:∀ k,k<hp.length→k≠b→k≠b+3→H6[k]? = hp[k]?) (h0:H6[b]? = some (some (.map ((A++B).map entS) bs c))) (ho:MapOk ((A++B).map entS) bs c) (h3:H6[b+3]? = some (some (.map ((wildS (A++B)).map entS) bw cw))) (ho3:MapOk ((wildS (A++B)).map entS) bw cw) (hn:∀ x ∈ A++B,x.1.id≠y.1.id):Ixs b most (A++B) L H6:=by
 have hl4:=h.lt (k:=b+4) (.inl ⟨by omega,by omega⟩)
 have hsub:∀ x ∈ A++B,x ∈ A++y :: B:=fun x hx=>mem_mid0 hx
 have hG:=dropG_mid hn
 have hym:y.1 ∈ (A++y :: B).map (·.1):=xx (qW _ qD)
 refine⟨?_,⟨bs,c,h0,ho⟩,⟨bw,cw,h3,ho3⟩,fun f=>?_,fun x hx=>?_,h.nd,h.dj,fun f k=>?_,?_⟩
 ·rw[hfr _ hl4 (by omega) (by omega)]
  exact h.hx
 ·have:=fb_lt f
  exact (h.p f).frame (hfr _ (by omega) (by omega) (by omega)) fun z hz=>hfr _ (get_lt ((h.p f).r z hz)) (h.sl_ne hz).1 (h.sl_ne hz).2.1
 ·have hx:=hsub x hx
  rw[hfr _ (get_lt (h.en x hx)) (h.e_ne hx).1 (h.e_ne hx).2.1]
  exact h.en x hx
 ·rw[← hG,h.r,idsG_drop_ne h.ok.nd hym]
  simp only[Gl.at_,hy,xR]
 ·rw[← hG]
  exact h.ok.drop _
theorem DropR.ofLit (h:Ixs b most (A++y :: B) L hp) (hy:y.1.lit=true) {H4 H6:HP} {L':List PL} {bs:List Nat} {c:Nat} (hfr:∀ k,k<hp.length→k≠b→H4[k]? = hp[k]?) (h0:H4[b]? = some (some (.map ((A++B).map entS) bs c))) (ho:MapOk ((A++B).map entS) bs c) (hd:DropL H4 (b+1+y.1.fold.toNat) (L y.1.fold) y.1.key y.1.id H6 L') (hn:∀ x ∈ A++B,x.1.id≠y.1.id) (hle:hp.length≤H6.length) (hg:hasG ((A++y :: B).map (·.1)) y.1.id=true):DropR b most (A++y :: B) L hp y.1.id (.int .i64 0) H6:=by
 refine⟨by rw[errDrop,if_pos hg],⟨_,_,h.dropL hy hfr h0 ho hd hn,(dropG_mid hn).symm,?_⟩,⟨?_,hle⟩⟩
 ·rintro k (hk|⟨x,hx,rfl⟩|⟨f,z,hz,rfl⟩)
  ·exact .inl hk
  ·exact .inr (.inl ⟨x,mem_mid0 hx,rfl⟩)
  ·by_cases hf:f=y.1.fold
   ·subst hf
    replace hz:z ∈ L':=by simpa using hz
    obtain⟨x,hx,e⟩:=hd.sls z hz
    exact .inr (.inr ⟨_,x,hx,e⟩)
   ·replace hz:z ∈ L f:=by simpa[hf] using hz
    exact .inr (.inr ⟨f,z,hz,rfl⟩)
 ·intro k hk hnf
  have hf2:=fb_lt y.1.fold
  rw[hd.fr k (fun e=>hnf (.inl (by omega))) fun z hz e=>hnf (.inr (.inr ⟨_,z,hz,e⟩))]
  exact hfr k hk fun e=>hnf (.inl (by omega))
theorem DropR.ofWild (h:Ixs b most (A++y :: B) L hp) (hy:y.1.lit=false) {H6:HP} {bs bw:List Nat} {c cw:Nat} (hfr:∀ k,k<hp.length→k≠b→k≠b+3→H6[k]? = hp[k]?) (h0:H6[b]? = some (some (.map ((A++B).map entS) bs c))) (ho:MapOk ((A++B).map entS) bs c) (h3:H6[b+3]? = some (some (.map ((wildS (A++B)).map entS) bw cw))) (ho3:MapOk ((wildS (A++B)).map entS) bw cw) (hn:∀ x ∈ A++B,x.1.id≠y.1.id) (hle:hp.length≤H6.length) (hg:hasG ((A++y :: B).map (·.1)) y.1.id=true):DropR b most (A++y :: B) L hp y.1.id (.int .i64 0) H6:=by
 refine⟨by rw[errDrop,if_pos hg],⟨_,_,h.dropW hy hfr h0 ho h3 ho3 hn,(dropG_mid hn).symm,?_⟩,⟨?_,hle⟩⟩
 ·rintro k (hk|⟨x,hx,rfl⟩|⟨f,z,hz,rfl⟩)
  ·exact .inl hk
  ·exact .inr (.inl ⟨x,mem_mid0 hx,rfl⟩)
  ·exact .inr (.inr ⟨f,z,hz,rfl⟩)
 ·intro k hk hnf
  exact hfr k hk (fun e=>hnf (.inl (by omega))) (fun e=>hnf (.inl (by omega)))
theorem Gl.au_ptr {g:Gl} (hg:checkG g.pat=0) (hm:1≤most∧most≤256):∃ cs,(g.au most).v=.fptr cs 0:=by
 have he:errA g.pat most=0:=by rw[errA,if_neg (by simp[hg]),if_neg (by omega)]
 rw[Gl.au,newA,if_neg (by simp[he])]
 split<;>exact⟨_,rfl⟩
end
theorem isd_calls {H:HP} {b:Nat} {t:TypeId} {id a:Int} (hb:H[b]? = some (some (.row t [.int .i64 id]))):ACalls qi 39 [.int .i64 a,.ptr b 0] H fun r H'=>r=.bool (decide (a=id))∧H'=H:=by
 refine calls_e hmG (qJ _) comp39 (by decide) (by simp) ?_
 refine vcE.ex (by simp (disch:=first|assumption|omega) only[go_sem,↓reduceIte,qa,reduceCtorEq,hb]; rfl) ?_
 refine⟨_,rfl,?_,rfl⟩
 simp only[upd_app,↓reduceIte]
section
variable {hp:HP} {b:Nat} {most:Int} {S:List (Gl × Nat)} {L:Bool→List PL}
set_option maxHeartbeats 1000000 in
theorem drop_gen (h:Ixs b most S L hp) (hm:1≤most∧most≤256) (id:Int):ACalls qi 14 [.ptr (b+4) 0,.int .i64 id] hp (DropR b most S L hp id):=by
 refine calls_e hmG (qJ _) comp14 (by decide) (by simp) ?_
 refine vcE.step (by simp (disch:=first|assumption|omega) only[go_sem,↓reduceIte,boxA_eq,cellsA]; rfl) ?_
 have hfr0:∀ k,k<hp.length→(hp++[some (Blk.row 3 [AV.int .i64 id])])[k]? = hp[k]?:=fun k hk=>qm hk
 have h0:Ixs b most S L (hp++[some (Blk.row 3 [AV.int .i64 id])]):=h.frame fun k hk=>hfr0 k (h.lt hk)
 have kb:(hp++[some (Blk.row 3 [AV.int .i64 id])])[hp.length]? = some (some (.row 3 [.int .i64 id])):=by simp
 have hl0:(hp++[some (Blk.row 3 [AV.int .i64 id])]).length=hp.length+1:=by simp
 generalize hp++[some (Blk.row 3 [AV.int .i64 id])]=H0 at *
 have hx:=h0.hx
 have g4:=h.lt (k:=b+4) (.inl ⟨by omega,by omega⟩)
 rw[show r14_1=r14_1.take 1++((r14_1.drop 1).take 1++r14_1.drop 2) from rfl]
 refine vcE.seq (vcE.seq (vcE.app (vcE.e1 (k:=⟨rfl,vcE.app (vcE.call (f:=27) (caps:=[]) (ys:=[.ptr (b+4) 0]) rfl rfl (made_calls hx) ?_)⟩))))
 rintro r H1 ⟨rfl,rfl⟩
 refine⟨rfl,vcE.ex (by simp (disch:=first|assumption|omega) only[go_sem,↓reduceIte,putE]; rfl) ?_⟩
 refine vcE.condFalse (by simp only[evE,upd_app,↓reduceIte]) ?_
 refine vcE.e0 ?_
 obtain⟨bs,c,ha,ho⟩:=h0.ha
 have hld4:loadA H1 none (.ptr (b+4) 1)=some (.map b):=by
  simp only[loadA,rowA,hx,pickA]
  rfl
 have hldb:loadA H1 none (.ptr hp.length 0)=some (.int .i64 id):=by
  simp only[loadA,rowA,kb,pickA]
  rfl
 rcases h0.split id with ⟨hg,hno⟩|⟨A,y,B,rfl,rfl,hn,hg⟩
 ·have hlk:lookA H1 .int .nilp true (.map b) (.int .i64 id)=some (.tup [.nilp,.bool false]):=by
   simp only[lookA,keyA,rowsA,ha,findS_none hno,cond_true]
  refine vcE.step (by simp (disch:=first|assumption|omega) only[go_sem,exOps.eq_2,↓reduceIte,reduceCtorEq,nilchkA,↓hld4,qa,↓hldb,↓hlk]; rfl) ?_
  refine vcE.e0 ?_
  refine⟨_,rfl,?_⟩
  simp only[upd_app,↓reduceIte]
  refine⟨by rw[errDrop,if_neg (by simp[hg])],⟨S,L,h0,?_,fun k hk=>hk⟩,⟨fun k hk _=>hfr0 k hk,by omega⟩⟩
  rw[dropG,zq.2]
  intro g hgm
  simp[hasG_not hg g hgm]
 have hnA:∀ x ∈ A,x.1.id≠y.1.id:=fun x hx=>hn x (qR _ hx)
 have hf:=findS_at (i:=0) (B:=B) rfl hnA
 rw[qY] at hf
 have hlk:lookA H1 .int .nilp true (.map b) (.int .i64 y.1.id)=some (.tup [.ptr y.2 0,.bool true]):=by
  simp only[lookA,keyA,rowsA,ha,hf,cond_true]
 have hdel:delA H1 .int (.map b) (.int .i64 y.1.id)=some (H1.set b (some (.map ((A++B).map entS) (bs.eraseIdx A.length) c))):=by
  rw[del_of ha rfl hf,erase_ent]
 have ho2:MapOk ((A++B).map entS) (bs.eraseIdx A.length) c:=by rw[← erase_ent]; exact ho.del _
 have hym:y ∈ A++y :: B:=qW _ qD
 have hye:=h0.en y hym
 have hyn:=h0.e_ne hym
 have hchk:checkG y.1.pat=0:=h0.ok.chk _ (xx hym)
 refine vcE.step (by simp (disch:=first|assumption|omega) only[go_sem,exOps.eq_2,↓reduceIte,reduceCtorEq,nilchkA,↓hld4,qa,↓hldb,↓hlk]; rfl) ?_
 refine vcE.s0 ?_
 refine vcE.step (by simp (disch:=first|assumption|omega) only[go_sem,exOps.eq_2,↓reduceIte,reduceCtorEq,nilchkA,↓hld4,qa,↓hldb,↓hdel]; rfl) ?_
 have gb:=get_lt ha
 have gy:=get_lt hye
 obtain⟨H2,hH2⟩:∃ H2,H2=H1.set b (some (.map ((A++B).map entS) (bs.eraseIdx A.length) c)):=⟨_,rfl⟩
 have hl2:H2.length=hp.length+1:=by rw[hH2,xU]; exact hl0
 have hfr2:∀ k,k≠b→H2[k]? = H1[k]?:=fun k hk=>by rw[hH2,qv (Ne.symm hk)]
 have h2b:H2[b]? = some (some (.map ((A++B).map entS) (bs.eraseIdx A.length) c)):=by rw[hH2]; exact set_get ha
 rw[← hH2]
 have hx2:H2[b+4]? = some (some (.row 57 (ixC most b (b+1) (b+2) (b+3)))):=by rw[hfr2 _ (by omega)]; exact hx
 have ke2:H2[y.2]? = some (some (.row 62 (y.1.cells most))):=by rw[hfr2 _ hyn.1]; exact hye
 have kb2:H2[hp.length]? = some (some (.row 3 [.int .i64 y.1.id])):=by rw[hfr2 _ (by omega)]; exact kb
 clear hld4 hldb hlk hdel hH2
 have hpn:loadA H2 none (.ptr y.2 3)=some (y.1.auto most):=by
  simp only[loadA,rowA,ke2,Gl.auto_pick]
 have hpe:loadA H2 (some 3) (.ptr y.2 0)=some (.agg y.1.c):=by
  simp only[loadA,rowA,ke2,pickA]
  rfl
 cases hlit:y.1.lit
 ·obtain⟨cs,hcs⟩:=Gl.au_ptr (most:=most) hchk hm
  have hau:y.1.auto most=.fptr cs 0:=by rw[Gl.auto,hlit]; exact hcs
  rw[hau] at hpn
  obtain⟨bw,cw,hwm,how⟩:=h0.hw
  have hw2:H2[b+3]? = some (some (.map ((wildS (A++y :: B)).map entS) bw cw)):=by rw[hfr2 _ (by omega)]; exact hwm
  have hws:wildS (A++y :: B)=wildS A++y :: wildS B:=by
   simp only[wildS,xz,xK,hlit,Bool.not_false,if_true]
  have hws2:wildS (A++B)=wildS A++wildS B:=by simp only[wildS,xz]
  rw[hws] at hw2 how
  have hf2:=findS_at (i:=0) (y:=y) (B:=wildS B) rfl (A:=wildS A) fun x hx=>hnA x (xI.1 hx).1
  rw[qY] at hf2
  have hdel2:=del_of (ky:=.int) hw2 rfl hf2
  have ho3:=how.del (wildS A).length
  rw[erase_ent,← hws2] at hdel2 ho3
  have hld4:loadA H2 none (.ptr (b+4) 4)=some (.map (b+3)):=by
   simp only[loadA,rowA,hx2,pickA]
   rfl
  have hldb:loadA H2 none (.ptr hp.length 0)=some (.int .i64 y.1.id):=by
   simp only[loadA,rowA,kb2,pickA]
   rfl
  refine vcE.ex (by simp (disch:=first|assumption|omega) only[go_sem,↓reduceIte,qa,nilchkA,↓hpn,isNilA,exOps.eq_2,reduceCtorEq,↓hld4,↓hldb,↓hdel2]; rfl) ?_
  refine⟨_,rfl,?_⟩
  simp only[upd_app,↓reduceIte]
  refine DropR.ofWild h hlit (bs:=bs.eraseIdx A.length) (c:=c) (bw:=bw.eraseIdx (wildS A).length) (cw:=cw) ?_ ?_ ho2 ?_ ho3 hn ?_ hg
  ·intro k hk hb h3
   rw[qv (Ne.symm h3),hfr2 _ hb]
   exact hfr0 k hk
  ·rw[qv (by omega)]
   exact h2b
  ·exact set_get hw2
  ·rw[xU]
   omega
 ·have hau:y.1.auto most=.nilp:=by rw[Gl.auto,hlit]; rfl
  rw[hau] at hpn
  have hpl:y.1.pat.length≤1000000:=by
   unfold checkG at hchk
   split at hchk
   ·cases hchk
   ·split at hchk
    ·cases hchk
    ·omega
  refine vcE.step (by simp (disch:=first|assumption|omega) only[go_sem,↓reduceIte,qa,isNilA,nilchkA,↓hpn]; rfl) ?_
  rw[show r14_10=r14_10.take 5++((r14_10.drop 5).take 1++r14_10.drop 6) from rfl]
  refine vcE.seq (vcE.app (vcE.ex (by simp (disch:=first|assumption|omega) only[go_sem,↓reduceIte,qa,reduceCtorEq,nilchkA,↓hpe]; rfl) ⟨rfl,vcE.app (vcE.call (f:=30) (caps:=[]) (ys:=[.ptr (b+4) 0,.agg y.1.c]) rfl (by simp only[evsE,evE,upd_app,qa,↓reduceIte]) (lists_gen hx2 y.1 hpl) ?_)⟩))
  rintro r Hz ⟨rfl,rfl⟩
  refine⟨rfl,vcE.ex (by simp (disch:=first|assumption|omega) only[go_sem,↓reduceIte,qa,putE]; rfl) ?_⟩
  obtain⟨H3,hH3⟩:∃ H3,H3=H2++[some (Blk.row 47 y.1.c)]:=⟨_,rfl⟩
  rw[← hH3]
  have hl3:H3.length=hp.length+2:=by rw[hH3]; simp[hl2]
  have hfr3:∀ k,k<hp.length+1→H3[k]? = H2[k]?:=fun k hk=>by rw[hH3,qm (by omega)]
  have hfrA:∀ k,k<hp.length→k≠b→H3[k]? = hp[k]?:=fun k hk hb=>by rw[hfr3 k (by omega),hfr2 k hb]; exact hfr0 k hk
  have hf2:=fb_lt y.1.fold
  have hsl:∀ z ∈ L y.1.fold,z.sl<hp.length:=fun z hz=>get_lt ((h.p _).r z hz)
  have hpm:PMap H3 (b+1+y.1.fold.toNat) (L y.1.fold):=(h.p y.1.fold).frame (hfrA _ (by omega) (by omega)) fun z hz=>hfrA _ (hsl z hz) (h.sl_ne hz).1
  have kb3:H3[hp.length]? = some (some (.row 3 [.int .i64 y.1.id])):=by rw[hfr3 _ (by omega)]; exact kb2
  have h3b:H3[b]? = some (some (.map ((A++B).map entS) (bs.eraseIdx A.length) c)):=by rw[hfr3 _ (by omega)]; exact h2b
  have hids:y.1.id ∈ idsL (L y.1.fold) y.1.key:=by
   rw[h.r,idsG]
   refine xw.2 ⟨y.1,xI.2 ⟨xx hym,?_⟩,rfl⟩
   simp[Gl.at_,hlit]
  have hsm:(idsL (L y.1.fold) y.1.key).length≤1000:=by
   have h1:=h.ok.len
   have h2:(idsG y.1.fold y.1.key ((A++y :: B).map (·.1))).length≤((A++y :: B).map (·.1)).length:=by
    rw[idsG,qL]
    exact List.length_filter_le _ _
   rw[h.r]
   omega
  rcases hpm.split y.1.key with ⟨_,hnil⟩|⟨LA,z,LB,hL,hz,hAB,hid⟩
  ·rw[hnil] at hids
   cases hids
  have hnd:=h.nd y.1.fold
  have hzm:z ∈ L y.1.fold:=by rw[hL]; exact qW _ qD
  have hzl:=hsl z hzm
  have hzr:=hpm.r z hzm
  have hlk:=look_of (k:=y.1.key) hpm (by
   have:=find_at (i:=0) hz (B:=LB) (A:=LA) fun x hx=>hAB x (qR _ hx)
   rw[← hL] at this
   exact this)
  simp only at hlk
  rw[hid] at hsm
  have hdf:=deleteF1 (L:=elIn) (hp:=H3) (id:=z.sl) (cap:=z.ids.length+z.rest.length) (e:=3) (ex:=false) (l:=z.ids) (rest:=z.rest) (p:=fun a=>decide (a=y.1.id)) (g:=39) (caps:=[.ptr hp.length 0]) hmG (0:Int) comp38 comp54 hzr (by omega) (by omega) (fun a H hf=>isd_calls (by rw[hf _ (by omega)]; exact kb3))
  rw[show r14_11=r14_11.take 6++((r14_11.drop 6).take 1++r14_11.drop 7) from rfl]
  refine vcE.seq (vcE.app (vcE.ex (by simp (disch:=first|assumption|omega) only[go_sem,↓reduceIte,qa,↓hlk]; rfl) ⟨rfl,vcE.app (vcE.call (f:=38) (caps:=[]) (ys:=[z.v,.func 39 [.ptr hp.length 0]]) rfl (by simp only[evsE,evE,upd_app,qa,↓reduceIte]) hdf ?_)⟩))
  rintro r H4 ⟨rfl,rest,hr1,hdj⟩
  rw[hL] at hpm hnd hid
  obtain⟨H5,hup,hlk2,hK1,hK2⟩:=del_list (H4:=H4) hpm hnd hz hAB hid hr1 hdj
  have hlk3:=hlk2 .nils
  refine⟨rfl,vcE.ex (by simp (disch:=first|assumption|omega) only[go_sem,↓reduceIte,qa,putE,↓hup]; rfl) ?_⟩
  have fin:∀ H6 L',DropL H3 (b+1+y.1.fold.toNat) (LA++z :: LB) y.1.key y.1.id H6 L'→DropR b most (A++y :: B) L hp y.1.id (.int .i64 0) H6:=fun H6 L' hD=>by
   rw[← hL] at hD
   have hb6:H6[hp.length]? = some (some (.row 3 [.int .i64 y.1.id])):=by
    rw[hD.fr _ (by omega) fun x hx=>by have:=hsl x hx; omega]
    exact kb3
   exact DropR.ofLit h hlit hfrA h3b ho2 hD hn (by have:=get_lt hb6; omega) hg
  by_cases hK:(z.ids.filter fun a => !decide (a=y.1.id))=[]
  ·obtain⟨H6,L',hdel2,hD⟩:=hK2 hK
   have hz0:(((z.ids.filter fun a => !decide (a=y.1.id)).length:Nat):Int)=0:=by rw[hK]; rfl
   refine vcE.ex (by simp (disch:=first|assumption|omega) only[go_sem,↓reduceIte,qa,↓hlk3,hz0,↓hdel2,decide_true]; rfl) ?_
   refine⟨_,rfl,?_⟩
   simp only[upd_app,↓reduceIte]
   exact fin H6 L' hD
  ·obtain⟨L',hD⟩:=hK1 hK
   have hz0:¬ (((z.ids.filter fun a => !decide (a=y.1.id)).length:Nat):Int)=0:=fun e=>hK (qq (by omega))
   refine vcE.ex (by simp (disch:=first|assumption|omega) only[go_sem,↓reduceIte,qa,↓hlk3,hz0,decide_false]; rfl) ?_
   refine⟨_,rfl,?_⟩
   simp only[upd_app,↓reduceIte]
   exact fin H5 L' hD
end
end
section
set_option linter.unusedSectionVars false
variable [Mx]
open Go
variable {α:Type}
abbrev growC (e:TypeId) (sz bytes:Nat) (Z:List AV) (t9:TypeId) (msg:List UInt8):IC:=(IC.seq (IC.reg [⟨some 4,.op (.mov),[.c (.nils)],none⟩]) (IC.seq (IC.seq (IC.reg [⟨some 5,.op (.mov),[.t 1],none⟩,
 ⟨some 6,.op (.bin .lss .prim),[.t 5,.c (.int .i64 0)],none⟩]) (IC.cond (.t 6) (IC.reg [⟨some 7,.op (.mkif t9),[.c (.str msg)],none⟩,
 ⟨none,.op (.never),[],none⟩]) IC.skip)) (IC.seq (IC.seq (IC.reg [⟨some 8,.op (.mov),[.t 1],none⟩,
 ⟨some 9,.op (.mov),[.t 0],none⟩,
 ⟨some 10,.op (.cap),[.t 9],none⟩,
 ⟨some 11,.op (.mov),[.t 0],none⟩,
 ⟨some 12,.op (.len .slice),[.t 11],none⟩,
 ⟨some 13,.op (.bin .sub .prim),[.t 10,.t 12],none⟩,
 ⟨some 14,.op (.bin .sub .prim),[.t 8,.t 13],none⟩,
 ⟨some 1,.op (.mov),[.t 14],none⟩]) (IC.seq (IC.reg [⟨some 15,.op (.mov),[.t 1],none⟩,
 ⟨some 16,.op (.bin .gtr .prim),[.t 15,.c (.int .i64 0)],none⟩]) (IC.cond (.t 16) (IC.reg [⟨some 17,.op (.mov),[.t 0],none⟩,
 ⟨some 18,.op (.mov),[.t 0],none⟩,
 ⟨some 19,.op (.cap),[.t 18],none⟩,
 ⟨some 20,.op (.slice sz false true false),[.t 17,.t 19],none⟩,
 ⟨some 21,.op (.mov),[.t 1],none⟩,
 ⟨some 22,.op (.appz e Z bytes),[.t 20,.t 21],none⟩,
 ⟨some 23,.op (.mov),[.t 0],none⟩,
 ⟨some 24,.op (.len .slice),[.t 23],none⟩,
 ⟨some 25,.op (.slice sz false true false),[.t 22,.t 24],none⟩,
 ⟨some 0,.op (.mov),[.t 25],none⟩]) IC.skip))) (IC.seq (IC.reg [⟨some 26,.op (.mov),[.t 0],none⟩,
 ⟨some 4,.op (.mov),[.t 26],none⟩]) IC.ret))))
def growR (E:Enc α) (e:TypeId) (z:α) (n k:Nat):AV × HP:=if n=0 then (.nils,[]) else (.sl k 0 0 E.sz n false,[some (.row e (E.cs (List.replicate n z)))])
theorem grow_calls {P:Program} (hm:P.follows .mixedOrders=true) {hint:Nat→Nat} {f:FuncId} (E:Enc α) {e t9:TypeId} {bytes:Nat} {msg:List UInt8} (z:α) (hf:compF P hint f=some ⟨growC e E.sz bytes (E.c z) t9 msg,27,[.t 4]⟩) {n:Nat} (hb:n*bytes≤140737488355328) (hn:n≤4611686018427387904) (hp:HP) :
  ACalls P f [.nils,.int .i64 n] hp fun r hp'=>r=(growR E e z n hp.length).1∧hp'=hp++(growR E e z n hp.length).2:=by
 refine calls_e hm (qJ _) hf (by rfl) (by simp) ?_
 have w1:qU .i64 ((0:Int) - 0)=0:=by decide
 have w2:qU .i64 ((n:Int) - 0)=n:=by rw[Int.sub_zero]; exact wrap_i64 (by omega) (by omega)
 have hn0:¬ ((n:Int)<0):=by omega
 by_cases h0:n=0
 ·subst h0
  refine vcE.ex (by simp (disch:=first|assumption|omega) only[go_sem,↓reduceIte,qa,reduceCtorEq,capA,Int.natCast_zero,Int.lt_irrefl]; rfl) ?_
  exact⟨_,rfl,rfl,by simp[growR]⟩
 ·have hgt:((n:Int) > 0):=by omega
  have hz:appzA e (E.c z) bytes hp .nils (.int .i64 n)=some (.sl hp.length 0 n E.sz n false,hp++[some (.row e (E.cs (List.replicate n z)))]):=by
   simp only[appzA,emptyA,if_true]
   rw[if_pos ⟨by omega,by simpa using hb,by omega⟩,Int.toNat_natCast,if_neg h0,E.len,E.zeros]
  have s0:sliceA E.sz .nils none (some (.int .i64 (0:Int))) none=some .nils:=by simp[sliceA,bndA,cutA]
  have s1:sliceA E.sz (.sl hp.length 0 n E.sz n false) none (some (.int .i64 (0:Int))) none=some (.sl hp.length 0 0 E.sz n false):=slice_hi (h:=0) (by omega)
  refine vcE.ex (by simp (disch:=first|assumption|omega) only[go_sem,↓reduceIte,qa,reduceCtorEq,capA,w1,w2,↓hz,↓s0,↓s1]; rfl) ?_
  refine⟨_,rfl,?_,?_⟩
  ·simp only[growR,if_neg h0]
   rfl
  ·simp only[growR,if_neg h0]
abbrev concatB1 (t9:TypeId) (msg:List UInt8):IC:=(IC.seq (IC.reg [⟨some 12,.op (.bin .lss .prim),[.t 11,.t 10],none⟩]) (IC.seq (IC.cond (.t 12) IC.skip (IC.exit 0)) (IC.seq (IC.block 1 (IC.seq (IC.reg [⟨some 13,.op (.iaddr 1),[.t 9,.t 11],none⟩,
 ⟨some 14,.op (.load none),[.t 13],none⟩,
 ⟨some 5,.op (.mov),[.t 14],none⟩]) (IC.seq (IC.reg [⟨some 15,.op (.mov),[.t 3],none⟩,
 ⟨some 16,.op (.mov),[.t 5],none⟩,
 ⟨some 17,.op (.len .slice),[.t 16],none⟩,
 ⟨some 18,.op (.bin .add .prim),[.t 15,.t 17],none⟩,
 ⟨some 3,.op (.mov),[.t 18],none⟩]) (IC.seq (IC.reg [⟨some 19,.op (.mov),[.t 3],none⟩,
 ⟨some 20,.op (.bin .lss .prim),[.t 19,.c (.int .i64 0)],none⟩]) (IC.cond (.t 20) (IC.reg [⟨some 21,.op (.mkif t9),[.c (.str msg)],none⟩,
 ⟨none,.op (.never),[],none⟩]) IC.skip))))) (IC.reg [⟨some 22,.op (.bin .add .prim),[.t 11,.c (.int .i64 1)],none⟩,
 ⟨some 11,.op (.mov),[.t 22],none⟩]))))
abbrev concatB2 (e:TypeId) (sz bytes:Nat):IC:=(IC.seq (IC.reg [⟨some 28,.op (.bin .lss .prim),[.t 27,.t 26],none⟩]) (IC.seq (IC.cond (.t 28) IC.skip (IC.exit 2)) (IC.seq (IC.block 3 (IC.seq (IC.reg [⟨some 29,.op (.iaddr 1),[.t 25,.t 27],none⟩,
 ⟨some 30,.op (.load none),[.t 29],none⟩,
 ⟨some 8,.op (.mov),[.t 30],none⟩]) (IC.reg [⟨some 31,.op (.mov),[.t 6],none⟩,
 ⟨some 32,.op (.mov),[.t 8],none⟩,
 ⟨some 33,.op (.app e sz bytes),[.t 31,.t 32],none⟩,
 ⟨some 6,.op (.mov),[.t 33],none⟩]))) (IC.reg [⟨some 34,.op (.bin .add .prim),[.t 27,.c (.int .i64 1)],none⟩,
 ⟨some 27,.op (.mov),[.t 34],none⟩]))))
abbrev concatC (g:FuncId) (e:TypeId) (sz bytes:Nat) (t9:TypeId) (msg:List UInt8):IC:=(IC.seq (IC.reg [⟨some 2,.op (.mov),[.c (.nils)],none⟩]) (IC.seq (IC.reg [⟨some 3,.op (.mov),[.c (.int .i64 0)],none⟩]) (IC.seq (IC.seq (IC.reg [⟨some 9,.op (.mov),[.t 0],none⟩,
 ⟨some 10,.op (.len .slice),[.t 9],none⟩,
 ⟨some 11,.op (.mov),[.c (.int .i64 0)],none⟩]) (IC.block 0 (IC.loop (concatB1 t9 msg)))) (IC.seq (IC.reg [⟨some 23,.op (.mov),[.t 3],none⟩,
 ⟨some 24,.call none,[.f g,.c (.nils),.t 23],none⟩,
 ⟨some 6,.op (.mov),[.t 24],none⟩]) (IC.seq (IC.seq (IC.reg [⟨some 25,.op (.mov),[.t 0],none⟩,
 ⟨some 26,.op (.len .slice),[.t 25],none⟩,
 ⟨some 27,.op (.mov),[.c (.int .i64 0)],none⟩]) (IC.block 2 (IC.loop (concatB2 e sz bytes)))) (IC.seq (IC.reg [⟨some 35,.op (.mov),[.t 6],none⟩,
 ⟨some 2,.op (.mov),[.t 35],none⟩]) IC.ret))))))
def catV (N sz k i:Nat):AV:=if N=0 then .nils else .sl k 0 i sz N false
def catH (E:Enc α) (e:TypeId) (z:α) (N:Nat) (l:List α):HP:=if N=0 then [] else [some (.row e (E.cs (l++List.replicate (N - l.length) z)))]
theorem cat_app (E:Enc α) (e:TypeId) (z:α) {bytes N:Nat} {hp:HP} {l m:List α} {x:AV} (hx:srcA (hp++catH E e z N l) E.sz x=some (E.cs m,m.length)) (hN:l.length+m.length≤N) :
  appA e E.sz bytes (hp++catH E e z N l) (catV N E.sz hp.length l.length) x=some (catV N E.sz hp.length (l++m).length,hp++catH E e z N (l++m)):=by
 by_cases h0:N=0
 ·subst h0
  have hm:m=[]:=qq (by omega)
  subst hm
  simp only[catV,catH,if_true,qt] at hx ⊢
  simp[appA,hx,Enc.cs]
 ·simp only[catV,catH,if_neg h0] at hx ⊢
  by_cases hm:m.length=0
  ·have:=qq hm
   subst this
   simp[appA,hx]
  ·have hg:(hp++[some (Blk.row e (E.cs (l++List.replicate (N - l.length) z)))])[hp.length]? = some (some (.row e (E.cs (l++List.replicate (N - l.length) z)))):=by simp
   have hlen:(l++List.replicate (N - l.length) z).length=N:=by simp; omega
   have h1:l.length*E.sz≤N*E.sz:=xj _ (by omega)
   have h2:(l.length+m.length)*E.sz≤N*E.sz:=xj _ hN
   simp only[appA,hx,hg]
   rw[if_neg hm,if_pos ⟨trivial,by rw[E.cs_len,hlen]; omega⟩,if_pos hN,if_pos (by rw[E.cs_len,hlen]; omega),qY,E.over_mid (by rw[hlen]; exact hN),set_concat]
   rw[List.take_left,List.drop_append,List.drop_eq_nil_of_le («as» :=l) (by omega),List.nil_append,List.drop_replicate,qo,show N - l.length - (l.length+m.length - l.length)=N - (l.length+m.length) by omega]
theorem concat_calls {P:Program} (hm:P.follows .mixedOrders=true) {hint hint':Nat→Nat} {f g:FuncId} (E:Enc α) {e t9 t8:TypeId} {bytes:Nat} {msg msg':List UInt8} (z:α) (hf:compF P hint f=some ⟨concatC g e E.sz bytes t9 msg,36,[.t 2]⟩) (hfg:compF P hint' g=some ⟨growC e E.sz bytes (E.c z) t8 msg',27,[.t 4]⟩)
  {hp:HP} {id lo:Nat} {ex:Bool} {e1:TypeId} {xs:List AV} {ls:List (List α)} (hrow:hp[id]? = some (some (.row e1 xs))) (hlen:xs.length=ls.length) (hone:∀ x ∈ xs,oneA x=true)
  (hsrc:∀ (i:Nat) (x:AV) (l:List α),xs[i]? = some x→ls[i]? = some l→lenFits .slice x=true∧(∀ hp,lenA hp x=some (.int .i64 l.length))∧∀ new,srcA (hp++new) E.sz x=some (E.cs l,l.length)) (hb:ls.flatten.length*bytes≤140737488355328) (hn:ls.flatten.length≤4611686018427387904) (hx:xs.length≤4611686018427387904) :
  ACalls P f [.sl id 0 xs.length 1 lo ex] hp fun r hp'=>r=catV ls.flatten.length E.sz hp.length ls.flatten.length∧hp'=hp++catH E e z ls.flatten.length ls.flatten:=by
 refine calls_e hm (qJ _) hf (by rfl) (by simp) ?_
 have tk:∀ i,((ls.take i).flatten).length≤ls.flatten.length:=fun i=>by
  have h:=congrArg (fun l:List (List α)=>l.flatten.length) (List.take_append_drop i ls)
  simp only[List.flatten_append,qo] at h
  omega
 have stp:∀ i l,ls[i]? = some l→(ls.take (i+1)).flatten=(ls.take i).flatten++l:=fun i l h=>by
  rw[xn,h]
  simp
 have ldx:∀ new i x,xs[i]? = some x→loadA (hp++new) none (.ptr id i)=some x:=fun new i x h=>by
  simp only[loadA,rowA,app_get hrow,pickA,h,hone x (xa h),if_true]
 refine vcE.s1 (k:=vcE.s1 (k:=vcE.then (fun e' tm hp'=>e'=.normal∧hp'=hp∧tm 0=.sl id 0 xs.length 1 lo ex∧tm 3=.int .i64 ls.flatten.length) ?_ ?_))
 ·refine vcE.s1 (k:=vcE.block (vcE.count (by intro l tm hp h; simp at h)
   (fun i tm hp'=>hp'=hp∧tm 0=.sl id 0 xs.length 1 lo ex∧tm 9=.sl id 0 xs.length 1 lo ex∧tm 10=.int .i64 xs.length∧tm 11=.int .i64 i∧tm 3=.int .i64 ((ls.take i).flatten).length) xs.length ⟨rfl,rfl,rfl,rfl,rfl,rfl⟩ ?_ ?_))
  ·rintro i tm hp' hi ⟨rfl,t0,t9,t10,t11,t3⟩
   obtain⟨x,hxi⟩:∃ x,xs[i]? = some x:=⟨_,qg hi⟩
   obtain⟨l,hli⟩:∃ l,ls[i]? = some l:=⟨_,qg (by omega)⟩
   obtain⟨q1,q2,q3⟩:=hsrc i x l hxi hli
   have hia:iaddrA 1 (.sl id 0 xs.length 1 lo ex) (.int .i64 i)=some (.ptr id i):=iaddr_sl1 hi
   have hld:=ldx [] i x hxi
   rw[qt] at hld
   have h1:=tk (i+1)
   have h2:=stp i l hli
   have h3:((ls.take (i+1)).flatten).length=((ls.take i).flatten).length+l.length:=by rw[h2,qo]
   have hw:qU .i64 ((((ls.take i).flatten).length:Int)+(l.length:Int))=((((ls.take (i+1)).flatten).length:Nat):Int):=by rw[h3,wrap_i64 (by omega) (by omega)]; rfl
   refine vcE.ex (by simp (disch:=omega) only[go_sem,↓reduceIte,qa,t9,t10,t11,t3,hia,↓hld,q1,q2,hw]; rfl) ?_
   refine⟨rfl,?_,?_,?_,?_,?_⟩
   all_goals simp only[upd_app,qa,↓reduceIte,t0,t9,t10]
   rfl
  ·rintro tm hp' ⟨rfl,t0,t9,t10,t11,t3⟩
   refine vcE.ex (by simp (disch:=omega) only[go_sem,↓reduceIte,t10,t11]; rfl) ?_
   refine⟨rfl,rfl,?_,?_⟩
   ·simp only[upd_app,qa,↓reduceIte,t0]
   ·rw[hlen,xl] at t3
    simp only[upd_app,qa,↓reduceIte,t3]
 ·rintro e' tm hp' ⟨rfl,rfl,t0,t3⟩
  rw[show ([⟨some 23,.op (.mov),[.t 3],none⟩,⟨some 24,.call none,[.f g,.c (.nils),.t 23],none⟩,⟨some 6,.op (.mov),[.t 24],none⟩]:List IOp)=[⟨some 23,.op (.mov),[.t 3],none⟩]++([⟨some 24,.call none,[.f g,.c (.nils),.t 23],none⟩]++[⟨some 6,.op (.mov),[.t 24],none⟩]) from rfl]
  refine vcE.seq (vcE.app (vcE.ex (by simp only[go_sem,↓reduceIte,t3]; rfl) ⟨rfl,vcE.app (vcE.call (f:=g) (caps:=[]) (ys:=[.nils,.int .i64 ls.flatten.length]) rfl rfl (grow_calls hm E z hfg hb hn _) ?_)⟩))
  rintro r hp2 ⟨rfl,rfl⟩
  refine⟨rfl,vcE.e0 ?_⟩
  have g1:(growR E e z ls.flatten.length hp'.length).1=catV ls.flatten.length E.sz hp'.length 0:=by unfold growR catV; split<;>rfl
  have g2:(growR E e z ls.flatten.length hp'.length).2=catH E e z ls.flatten.length []:=by unfold growR catH; split<;>simp
  rw[g1,g2]
  refine vcE.then (fun e' tm hp2=>e'=.normal∧hp2=hp'++catH E e z ls.flatten.length ls.flatten∧tm 6=catV ls.flatten.length E.sz hp'.length ls.flatten.length) ?_ ?_
  ·refine vcE.step (by simp only[go_sem,↓reduceIte,reduceCtorEq,putE,t0]; rfl) (vcE.block (vcE.count (by intro l tm hp h; simp at h)
    (fun i tm hp2=>hp2=hp'++catH E e z ls.flatten.length (ls.take i).flatten∧tm 25=.sl id 0 xs.length 1 lo ex∧tm 26=.int .i64 xs.length∧tm 27=.int .i64 i∧tm 6=catV ls.flatten.length E.sz hp'.length ((ls.take i).flatten).length) xs.length ⟨rfl,?_,?_,?_,?_⟩ ?_ ?_))
   ·simp only[upd_app,qa,↓reduceIte]
   ·simp only[upd_app,qa,↓reduceIte]
   ·simp only[upd_app,↓reduceIte]; rfl
   ·simp only[upd_app,qa,↓reduceIte]; rfl
   ·rintro i tm hp2 hi ⟨rfl,t25,t26,t27,t6⟩
    obtain⟨x,hxi⟩:∃ x,xs[i]? = some x:=⟨_,qg hi⟩
    obtain⟨l,hli⟩:∃ l,ls[i]? = some l:=⟨_,qg (by omega)⟩
    obtain⟨q1,q2,q3⟩:=hsrc i x l hxi hli
    have hia:iaddrA 1 (.sl id 0 xs.length 1 lo ex) (.int .i64 i)=some (.ptr id i):=iaddr_sl1 hi
    have hld:=ldx (catH E e z ls.flatten.length (ls.take i).flatten) i x hxi
    have h2:=stp i l hli
    have h3:=tk (i+1)
    rw[h2,qo] at h3
    have happ:=cat_app E e z (bytes:=bytes) (q3 (catH E e z ls.flatten.length (ls.take i).flatten)) h3
    rw[← h2] at happ
    refine vcE.ex (by simp (disch:=omega) only[go_sem,↓reduceIte,qa,t25,t26,t27,t6,hia,↓hld,↓happ]; rfl) ?_
    refine⟨rfl,?_,?_,?_,?_⟩
    all_goals simp only[upd_app,qa,↓reduceIte,t25,t26]
    rfl
   ·rintro tm hp2 ⟨rfl,t25,t26,t27,t6⟩
    refine vcE.ex (by simp (disch:=omega) only[go_sem,↓reduceIte,t26,t27]; rfl) ?_
    rw[hlen,xl] at t6
    refine⟨rfl,?_,?_⟩
    ·rw[hlen,xl]
    ·simp only[upd_app,qa,↓reduceIte,t6]
  ·rintro e' tm hp2 ⟨rfl,rfl,t6⟩
   refine vcE.ex (by simp only[go_sem,↓reduceIte,t6]; rfl) ?_
   exact⟨_,rfl,rfl,rfl⟩
end
section
set_option linter.unusedSectionVars false
variable [Mx]
open Go Go.Proofs
def sdI:SdF qi elIn ltZ where
 fy:=51
 fa:=65
 fc:=50
 fs:=37
 fd:=34
 less:=72
 T:=N1
 e:=3
 tb:=28
 bytes:=8
 lk:=65000
 hy:=fun _=>0
 ha:=hintL [(1000002,65000),(2000002,13)]
 hc:=fun _=>0
 hs:=fun _=>0
 hd:=fun _=>0
 S:=srtI
 hT:=N1_ok
 hless:=N1_less
 swo:=swoZ
 tot:=ltZ_tot
 dec v:=match v with
  | .int _ n=>n
  | _=>0
 hdec _:=rfl
 small:=by decide
 cy:=comp51
 ca:=comp65
 ka:=keys65
 la:=lok65000
 cc:=comp50
 cs:=comp37
 cd:=comp34
theorem frame_le {hp H:HP} (h:∀ j,j<hp.length→H[j]? = hp[j]?):hp.length≤H.length:=by
 rcases Nat.lt_or_ge H.length hp.length with h1|h1
 ·have:=h _ h1
  rw[qg h1,List.getElem?_eq_none (qk _)] at this
  cases this
 ·exact h1
section
variable {hp:HP} {b:Nat} {most:Int} {S:List (Gl × Nat)} {L:Bool→List PL}
theorem idsG_len (h:Ixs b most S L hp) (f:Bool) (k:List UInt8):(idsG f k (S.map (·.1))).length≤200:=by
 have h1:=h.ok.len
 have h2:(idsG f k (S.map (·.1))).length≤(S.map (·.1)).length:=by
  rw[idsG,qL]
  exact List.length_filter_le _ _
 omega
theorem Ixs.look (h:Ixs b most S L hp) (f:Bool) (k:List UInt8):∃ v,lookA hp .str .nils false (.map (b+1+f.toNat)) (.str k)=some v∧notTup v=true∧cellsA v=[v]∧oneA v=true∧lenFits .slice v=true∧(∀ H,lenA H v=some (.int .i64 ((idsG f k (S.map (·.1))).length:Nat)))∧∀ new,srcA (hp++new) 1 v=some (encI.cs (idsG f k (S.map (·.1))),(idsG f k (S.map (·.1))).length):=by
 have hm:=h.p f
 rw[← h.r]
 rcases hm.split k with ⟨hno,hid⟩|⟨A,z,B,hL,hz,hAB,hid⟩
 ·refine⟨.nils,look_of hm (find_none hno),rfl,rfl,rfl,rfl,?_,?_⟩
  ·rw[hid]; exact fun _=>rfl
  ·rw[hid]; exact fun _=>rfl
 ·have hf:=find_at (i:=0) hz (B:=B) fun y hy=>hAB y (qR _ hy)
  rw[← hL] at hf
  have hzm:z ∈ L f:=by rw[hL]; exact qW _ qD
  have hr:=hm.r z hzm
  refine⟨z.v,look_of hm hf,rfl,rfl,rfl,rfl,?_,fun new=>?_⟩
  ·rw[hid]; exact fun _=>rfl
  ·have hr':(hp++new)[z.sl]? = _:=app_get hr
   rw[hid]
   have hcl:(encI.cs (z.ids++z.rest)).length=z.ids.length+z.rest.length:=by
    rw[encI.cs_len,qo]
    exact xC _
   have htk:(encI.cs (z.ids++z.rest)).take z.ids.length=encI.cs z.ids:=by
    rw[encI.cs_app,List.take_append_of_le_length (by rw[encI.cs_len]; exact Nat.le_of_eq (xC _).symm),List.take_of_length_le (by rw[encI.cs_len]; exact Nat.le_of_eq (xC _))]
   simp only[srcA,PL.v,hr',PL.row]
   rw[if_pos ⟨trivial,by rw[hcl]; omega⟩,List.drop_zero,xC,htk]
def takesI (most:Int) (t:List UInt8) (S:List (Gl × Nat)) (k:Int):Bool:=(wildS S).any fun y=>decide (y.1.id=k) && (y.1.au most).takes t
theorem takesI_at (h:Ixs b most S L hp) {t:List UInt8} {y:Gl × Nat} (hy:y ∈ wildS S):takesI most t S y.1.id=(y.1.au most).takes t:=by
 unfold takesI
 rw[Bool.eq_iff_iff,List.any_eq_true]
 constructor
 ·rintro⟨x,hx,he⟩
  rw[Bool.and_eq_true,decide_eq_true_eq] at he
  have hxy:x.1=y.1:=by
   rcases h.split y.1.id with ⟨_,h2⟩|⟨A,w,B,rfl,h2,h3,_⟩
   ·exact absurd rfl (h2 y (xI.1 hy).1)
   ·have g:∀ u ∈ A++w :: B,u.1.id=y.1.id→u=w:=fun u hu e=>by
     rcases List.mem_append.1 hu with hu|hu
     ·exact absurd e (h3 u (qR _ hu))
     ·rcases xm.1 hu with hu|hu
      ·exact hu
      ·exact absurd e (h3 u (qW _ hu))
    rw[g x (xI.1 hx).1 he.1,g y (xI.1 hy).1 rfl]
  rw[← hxy]
  exact he.2
 ·exact fun ht=>⟨y,hy,by simp[ht]⟩
theorem Ixs.hits (h:Ixs b most S L hp) (t:List UInt8):(idsG false t (S.map (·.1))++idsG true (t.map foldB) (S.map (·.1))++(srtL ltZ ((wildS S).map fun y=>y.1.id)).filter (takesI most t S)).Perm (hitG most t (S.map (·.1))):=by
 rw[qV]
 refine List.Perm.trans ?_ (hit_perm most t _)
 refine List.Perm.append_left _ (List.Perm.append_left _ ?_)
 refine (List.Perm.filter _ (srtL_perm _ _)).trans (List.Perm.of_eq ?_)
 rw[List.filter_map,List.filter_map,List.filter_map,zc]
 have e:(wildS S).filter ((takesI most t S) ∘ fun y=>y.1.id)=(wildS S).filter fun y=>(y.1.au most).takes t:=List.filter_congr fun y hy=>takesI_at h hy
 rw[e]
 rfl
theorem findS_mem {S:List (Gl × Nat)} (hn:(S.map fun y=>y.1.id).Nodup) {y:Gl × Nat} (hy:y ∈ S):∃ j,findA (.int .i64 y.1.id) (S.map entS) 0=some (some (j,.ptr y.2 0)):=by
 obtain⟨A,B,rfl⟩:=List.append_of_mem hy
 exact⟨_,findS_at rfl fun x hx=>nodup_ne hn x (qR _ hx)⟩
theorem Ixs.nd_ids (h:Ixs b most S L hp):(S.map fun y=>y.1.id).Nodup:=by
 have:=h.ok.nd
 rwa[zc] at this
theorem Ixs.nd_wild (h:Ixs b most S L hp):((wildS S).map fun y=>y.1.id).Nodup:=(List.filter_sublist.map _).nodup h.nd_ids
theorem Ixs.aut_ok (h:Ixs b most S L hp) (hm:1≤most∧most≤256) {y:Gl × Nat} (hy:y ∈ S):(y.1.au most).ok:=by
 have hchk:checkG y.1.pat=0:=h.ok.chk _ (xx hy)
 have hpl:y.1.pat.length≤300:=by
  unfold checkG at hchk
  split at hchk
  ·cases hchk
  ·split at hchk
   ·cases hchk
   ·omega
 refine (newA_yes y.1.fold hpl ?_).1
 rw[errA,if_neg (by simp[hchk]),if_neg (by omega)]
set_option maxHeartbeats 1000000 in
theorem match_gen (h:Ixs b most S L hp) (hm:1≤most∧most≤256) (t:List UInt8) (ht:t.length≤1000):ACalls qi 12 [.ptr (b+4) 0,.str t] hp fun r H => ∃ id,r=bld id (hitG most t (S.map (·.1))).length 1∧BldAt encI H id 3 (srtL ltZ (hitG most t (S.map (·.1))))∧hp.length≤id∧∀ j,j<hp.length→H[j]? = hp[j]?:=by
 refine calls_e hmG P4_ok comp12 (by decide) (by simp) ?_
 have hx:=h.hx
 refine vcE.s0 ?_
 rw[show r12_1=r12_1.take 1++((r12_1.drop 1).take 1++r12_1.drop 2) from rfl]
 refine vcE.seq (vcE.seq (vcE.app (vcE.e1 (k:=⟨rfl,vcE.app (vcE.call (f:=27) (caps:=[]) (ys:=[.ptr (b+4) 0]) rfl rfl (made_calls hx) ?_)⟩))))
 rintro r hp ⟨rfl,rfl⟩
 refine⟨rfl,vcE.ex (by simp (disch:=first|assumption|omega) only[go_sem,↓reduceIte,putE]; rfl) ?_⟩
 refine vcE.condFalse (by simp only[evE,upd_app,↓reduceIte]) ?_
 refine vcE.e0 ?_
 have k1:=P4_fold (p:=t) (by omega)
 obtain⟨v1,l1,n1,c1,o1,f1,q1,s1⟩:=h.look false t
 obtain⟨v2,l2,n2,c2,o2,f2,q2,s2⟩:=h.look true (t.map foldB)
 have b1:=idsG_len h false t
 have b2:=idsG_len h true (t.map foldB)
 have hB:(idsG false t (S.map (·.1))++idsG true (t.map foldB) (S.map (·.1))).length≤400:=by rw[qo]; omega
 have hpm:=h.hits t
 generalize idsG false t (S.map (·.1))=I1 at *
 generalize idsG true (t.map foldB) (S.map (·.1))=I2 at *
 simp only[Bool.toNat_false,Bool.toNat_true,Nat.add_zero,Nat.add_assoc,qs] at l1 l2
 refine vcE.seq (vcE.dv (fun tm H => ∃ id,tm 5=bld id (I1++I2).length 1∧tm 0=.ptr (b+4) 0∧tm 1=.str t∧BldAt encI H id 3 (I1++I2)∧hp.length≤id∧∀ j,j<hp.length→H[j]? = hp[j]?) (dvT.ops [0,1,2,3,4,5,6,7,8,9,10,11,12,13] (by simp (disch:=first|assumption|omega) only[go_sem,pickO,exOps.eq_2,↓reduceIte,reduceCtorEq,nilchkA,hx,ixC,qa,↓l1,frzL.eq_2,k1,nidL.eq_2,↓l2,n1,c1,n2,c2,qs]; rfl) ?_) ?_)
 ·have hrow:(hp++[some (Blk.row 28 [v1,v2])])[hp.length]? = some (some (.row 28 [v1,v2])):=by simp
  have hfl:[I1,I2].flatten=I1++I2:=by simp
  have hcc:=concat_calls hmG encI (0:Int) comp32 comp49 (lo:=2) (ex:=true) (ls:=[I1,I2]) hrow rfl (by
   intro x hx
   simp only[xm,List.not_mem_nil,or_false] at hx
   rcases hx with rfl|rfl
   ·exact o1
   ·exact o2) (by
   intro i x l h1 h2
   match i with
   | 0 =>
    simp only[ql,qd] at h1 h2
    subst h1; subst h2
    refine⟨f1,q1,fun new=>?_⟩
    rw[qV]
    exact s1 _
   | 1 =>
    simp only[ql,List.getElem?_cons_succ,qd] at h1 h2
    subst h1; subst h2
    refine⟨f2,q2,fun new=>?_⟩
    rw[qV]
    exact s2 _
   | (k+2)=>simp at h1) (by rw[hfl]; omega) (by rw[hfl]; omega) (by simp)
  rw[hfl] at hcc
  refine dvT.call (g:=32) (ys:=[.sl hp.length 0 2 1 2 true]) rfl ?_ hcc ?_ (dvT.ops [15] (t:=.done) (by simp (disch:=first|assumption|omega) only[go_sem,pickO,exOps.eq_2,↓reduceIte]; rfl) (dvT.done ?_))
  ·simp only[evsE,evE,upd_app,↓reduceIte]
  ·exact⟨_,rfl⟩
  ·have e1:(hp++[some (Blk.row 28 [v1,v2])]).length=hp.length+1:=by simp
   refine⟨hp.length+1,?_,?_,?_,?_,by omega,?_⟩
   ·simp only[upd_app,↓reduceIte,e1]
    unfold catV bld
    rfl
   ·simp only[upd_app,qa,↓reduceIte]
    rfl
   ·simp only[upd_app,qa,↓reduceIte]
    rfl
   ·by_cases h0:(I1++I2).length=0
    ·exact .inl (qq h0)
    ·refine .inr ?_
     unfold catH
     rw[if_neg h0,xX,List.replicate_zero,qt]
     rw[List.getElem?_append_right (by omega),e1,xX]
     rfl
   ·intro j hj
    rw[qV,qm hj]
 ·rintro tm H ⟨id,t5,t0,t1,hb,hid,hfr⟩
  clear l1 l2 n1 n2 c1 c2 o1 o2 f1 f2 q1 q2 s1 s2
  have h2:Ixs b most S L H:=h.frame fun k hk=>hfr k (h.lt hk)
  have hx2:=h2.hx
  obtain⟨bw,cw,hw2,how⟩:=h2.hw
  rw[show r12_4=r12_4.take 4++((r12_4.drop 4).take 1++((r12_4.drop 5).take 1++r12_4.drop 6)) from rfl]
  refine vcE.seq (vcE.seq (vcE.app (vcE.ex (by simp (disch:=first|assumption|omega) only[go_sem,↓reduceIte,t0,hx2,nilchkA]; rfl) ⟨rfl,vcE.app (vcE.call (f:=35) (caps:=[]) (ys:=[.map (b+3)]) rfl ?_ (kys_calls hmG comp35) ?_)⟩)))
  ·simp only[evsE,evE,upd_app,↓reduceIte]
  rintro r H1 ⟨rfl,rfl⟩
  have hlt2:=get_lt hw2
  have hbx:(H++[some (Blk.row 54 [.map (b+3)])])[H.length]? = some (some (.row 54 [.map (b+3)])):=by simp
  have hks:((wildS S).map entS).map (·.1)=((wildS S).map fun y=>y.1.id).map elIn.v:=by
   rw[zc,zc]
   rfl
  have hwl:((wildS S).map fun y=>y.1.id).length≤200:=by
   have h1:=h.ok.len
   have h2:(wildS S).length≤S.length:=List.length_filter_le _ _
   rw[qL] at h1 ⊢
   omega
  refine⟨rfl,vcE.app (vcE.call (f:=34) (caps:=[]) (ys:=[.func 51 [.ptr H.length 0]]) rfl (by simp only[evsE,evE,putE,upd_app,↓reduceIte]) (sdI.sorted hmG (ks:=(wildS S).map fun y=>y.1.id) hbx (app_get hw2) how hks (by omega)) ?_)⟩
  rintro r H2 ⟨sl,rfl,hsb,hsl,hfr2,_⟩
  have hWl:(srtL ltZ ((wildS S).map fun y=>y.1.id)).length=((wildS S).map fun y=>y.1.id).length:=srtL_len _ _
  have hWm:∀ k ∈ srtL ltZ ((wildS S).map fun y=>y.1.id),∃ y ∈ wildS S,y.1.id=k:=fun k hk=>by
   obtain⟨y,hy,e⟩:=xw.1 ((srtL_perm _ _).mem_iff.1 hk)
   exact⟨y,hy,e⟩
  rw[← hWl] at hwl ⊢
  generalize hWd:srtL ltZ ((wildS S).map fun y=>y.1.id)=W at *
  have hHl:=frame_le hfr
  have hfr3:∀ j,j<H.length→H2[j]? = H[j]?:=fun j hj=>by
   rw[hfr2 j (by simp; omega),qm hj]
  have hb2:BldAt encI H2 id 3 (I1++I2):=hb.imp (fun h=>h) fun h=>by rw[hfr3 _ (get_lt h)]; exact h
  have hfr4:∀ j,j<hp.length→H2[j]? = hp[j]?:=fun j hj=>by
   rw[hfr3 j (by omega)]
   exact hfr j hj
  have hlen:=fun hp=>bld_len hp sl W.length 1
  have hfit:=bld_fits sl W.length 1
  have hsid:I1++I2=[]∨id≠sl:=hb.imp (fun h=>h) fun h=>by
   have:=get_lt h
   simp only[qo,List.length_cons,List.length_nil] at hsl
   omega
  refine⟨rfl,vcE.ex (by simp (disch:=first|assumption|omega) only[go_sem,↓reduceIte,putE,hlen,hfit]; rfl) ?_⟩
  refine vcE.mono (Q:=fun e' tm H=>e'=.normal∧∃ id,tm 5=bld id (I1++I2++W.filter (takesI most t S)).length 1∧BldAt encI H id 3 (I1++I2++W.filter (takesI most t S))∧hp.length≤id∧∀ j,j<hp.length→H[j]? = hp[j]?) ?_ ?_
  ·refine vcE.block (vcE.count (by intro l tm hp h; simp at h) (fun i tm H=>tm 0=.ptr (b+4) 0∧tm 1=.str t∧tm 31=bld sl W.length 1∧tm 32=.int .i64 W.length∧tm 33=.int .i64 i∧BldAt encI H sl 3 W∧(∀ j,j<hp.length→H[j]? = hp[j]?)∧∃ id,tm 5=bld id (I1++I2++(W.take i).filter (takesI most t S)).length 1∧BldAt encI H id 3 (I1++I2++(W.take i).filter (takesI most t S))∧hp.length≤id∧(I1++I2++(W.take i).filter (takesI most t S)=[]∨id≠sl)) W.length ⟨?_,?_,?_,?_,?_,hsb,hfr4,id,?_,?_,hid,?_⟩ ?_ ?_)
   ·simp only[upd_app,qa,↓reduceIte,t0]
   ·simp only[upd_app,qa,↓reduceIte,t1]
   ·simp only[upd_app,qa,↓reduceIte]
   ·simp only[upd_app,qa,↓reduceIte]
   ·simp only[upd_app,↓reduceIte]; rfl
   ·simp only[upd_app,qa,↓reduceIte,t5,xi,zp,qt]
   ·simpa only[xi,zp,qt] using hb2
   ·simpa only[xi,zp,qt] using hsid
   ·rintro i tm H3 hi ⟨t0,t1,t31,t32,t33,hsb,hfr,id,t5,hb,hid,hne⟩
    have h3:Ixs b most S L H3:=h.frame fun k hk=>hfr k (h.lt hk)
    have hx3:=h3.hx
    obtain⟨bw3,cw3,hw3,_⟩:=h3.hw
    obtain⟨k,hk⟩:∃ k,W[i]? = some k:=⟨_,qg hi⟩
    obtain⟨y,hy,rfl⟩:=hWm k (xa hk)
    have hrow:=hsb.resolve_left (by intro e; rw[e] at hi; simp at hi)
    have hld:=encI.sl_load1 rfl hrow hk rfl rfl
    have hia:iaddrA 1 (.sl sl 0 W.length 1 W.length false) (.int .i64 i)=some (.ptr sl i):=iaddr_sl1 hi
    rw[bld_pos (by omega)] at t31
    obtain⟨j,hf⟩:=findS_mem (h3.nd_wild) hy
    have hlk:lookA H3 .int .nilp false (.map (b+3)) (.int .i64 y.1.id)=some (.ptr y.2 0):=by
     simp only[lookA,keyA,rowsA,hw3,hf,cond_true,cond_false]
    have hym:=(xI.1 hy).1
    have hlit:y.1.lit=false:=by simpa using (xI.1 hy).2
    have hye:=h3.en y hym
    have hau:loadA H3 none (.ptr y.2 3)=some (y.1.au most).v:=by
     simp only[loadA,rowA,hye,Gl.auto_pick,Gl.auto,hlit,qA,if_false]
    have hok:=h.aut_ok hm hym
    have hcall:=(pAMatch (y.1.au most) hok t ht).pc H3
    have htake:W.take (i+1)=W.take i++[y.1.id]:=by rw[xn,hk]; rfl
    have htI:takesI most t S y.1.id=(y.1.au most).takes t:=takesI_at h hy
    have hlt32:(i:Int)<W.length:=by omega
    refine vcE.step (by simp (disch:=first|assumption|omega) only[go_sem,↓reduceIte,t32,t33,hlt32,decide_true]; rfl) (vcE.s1 (k:=vcE.seq (vcE.block ?_)))
    refine vcE.step (by simp (disch:=first|assumption|omega) only[go_sem,↓reduceIte,qa,t31,t33,hia,↓hld]; rfl) ?_
    rw[show r12_7=r12_7.take 10++r12_7.drop 10 from rfl]
    refine vcE.seq (vcE.app (vcE.ex (by simp (disch:=first|assumption|omega) only[go_sem,exOps.eq_2,↓reduceIte,reduceCtorEq,t0,nilchkA,hx3,qa,↓hlk,↓hau,t1]; rfl) ⟨rfl,vcE.call (f:=36) (caps:=[]) (ys:=[(y.1.au most).v,.str t]) rfl (by simp only[evsE,evE,upd_app,qa,↓reduceIte]) hcall ?_⟩))
    rintro r H4 ⟨rfl,rfl⟩
    have hHl:=frame_le hfr
    cases htk:(y.1.au most).takes t
    ·rw[htk] at htI
     refine vcE.condFalse (by simp only[evE,putE,upd_app,↓reduceIte]) (vcE.ex (by simp only[exC]; rfl) ?_)
     refine vcE.ex (by simp (disch:=first|assumption|omega) only[go_sem,↓reduceIte,qa,putE,t33]; rfl) ?_
     have hfl:(W.take (i+1)).filter (takesI most t S)=(W.take i).filter (takesI most t S):=by
      rw[htake,xz,xK,htI]
      simp
     rw[hfl]
     refine⟨?_,?_,?_,?_,?_,hsb,hfr,id,?_,hb,hid,hne⟩
     ·simp only[upd_app,qa,↓reduceIte,t0]
     ·simp only[upd_app,qa,↓reduceIte,t1]
     ·simp only[upd_app,qa,↓reduceIte,t31,bld_pos (show 0<W.length by omega)]
     ·simp only[upd_app,qa,↓reduceIte,t32]
     ·simp only[upd_app,↓reduceIte]; rfl
     ·simp only[upd_app,qa,↓reduceIte,t5]
    ·rw[htk] at htI
     have hfl:I1++I2++(W.take (i+1)).filter (takesI most t S)=(I1++I2++(W.take i).filter (takesI most t S))++[y.1.id]:=by
      rw[htake,xz,xK,htI,qV (I1++I2)]
      simp
     rw[hfl]
     have hcl:(I1++I2++(W.take i).filter (takesI most t S)).length≤600:=by
      have:=List.length_filter_le (takesI most t S) (W.take i)
      rw[List.length_take] at this
      rw[qo]
      omega
     generalize I1++I2++(W.take i).filter (takesI most t S)=C at *
     have hsrc:srcA (H4++[some (Blk.row 3 [AV.int .i64 y.1.id])]) 1 (.sl H4.length 0 1 1 1 true)=some (encI.cs [y.1.id],[y.1.id].length):=by simp[srcA]; rfl
     have hap:=(hb.app [some (Blk.row 3 [AV.int .i64 y.1.id])]).more (bytes:=8) (m:=[y.1.id]) hsrc (by simp) (by simp; omega) (by simp; omega)
     have hat:=BldAt.moreAt encI (H4++[some (Blk.row 3 [AV.int .i64 y.1.id])]) id C.length 3 (C++[y.1.id])
     have hoth:∀ (j:Nat) (x:Option Blk),H4[j]? = some x→(C=[]∨j≠id)→(bldH (H4++[some (Blk.row 3 [AV.int .i64 y.1.id])]) id C.length (.row 3 (encI.cs (C++[y.1.id]))))[j]? = some x:=fun j x hj hk=>bldH_other (app_get hj) (hk.imp (fun e=>by rw[e]; rfl) fun h=>h)
     have hl4:(H4++[some (Blk.row 3 [AV.int .i64 y.1.id])]).length=H4.length+1:=by simp
     rw[hl4] at hap hat
     rw[show encI.sz=1 from rfl] at hap
     generalize bldH (H4++[some (Blk.row 3 [AV.int .i64 y.1.id])]) id C.length (.row 3 (encI.cs (C++[y.1.id])))=H5 at *
     refine vcE.condTrue (by simp only[evE,putE,upd_app,↓reduceIte]) (vcE.ex (by simp (disch:=first|assumption|omega) only[go_sem,↓reduceIte,qa,putE,t5,↓hap]; rfl) ?_)
     refine vcE.ex (by simp (disch:=first|assumption|omega) only[go_sem,↓reduceIte,qa,putE,t33]; rfl) ?_
     have hsl4:=get_lt hrow
     refine⟨?_,?_,?_,?_,?_,.inr (hoth _ _ hrow (hne.imp (fun e=>e) Ne.symm)),fun j hj=>?_,H4.length+1,?_,hat,by omega,.inr (by omega)⟩
     ·simp only[upd_app,qa,↓reduceIte,t0]
     ·simp only[upd_app,qa,↓reduceIte,t1]
     ·simp only[upd_app,qa,↓reduceIte,t31,bld_pos (show 0<W.length by omega)]
     ·simp only[upd_app,qa,↓reduceIte,t32]
     ·simp only[upd_app,↓reduceIte]; rfl
     ·rw[hoth j _ (by rw[hfr j hj,qg hj]) (.inr (by omega)),qg hj]
     ·simp only[upd_app,qa,↓reduceIte]
   ·rintro tm H3 ⟨t0,t1,t31,t32,t33,hsb,hfr,id,t5,hb,hid,hne⟩
    rw[xl] at t5 hb
    refine vcE.ex (by simp (disch:=first|assumption|omega) only[go_sem,↓reduceIte,t32,t33]; rfl) ?_
    exact⟨rfl,id,t5,hb,hid,hfr⟩
  ·rintro e' tm H3 ⟨rfl,id,t5,hb,hid,hfr⟩
   show vcE _ _ _ _ _ _ _ _
   have hcl:(I1++I2++W.filter (takesI most t S)).length≤600:=by
    have:=List.length_filter_le (takesI most t S) W
    rw[qo]
    omega
   rw[← hpm.length_eq,← srtL_congr swoZ ltZ_tot hpm]
   generalize I1++I2++W.filter (takesI most t S)=C at *
   have hs0:Srt elIn 3 id H3 H3 C.toArray:=⟨hb.imp (fun h=>by rw[h]; rfl) fun h=>h,fun _ _ _=>rfl,qk _⟩
   have hsla:SlA id C.toArray (bld id C.length 1):=by
    refine⟨fun i hi=>?_,by rw[List.size_toArray]; omega⟩
    rw[List.size_toArray] at hi
    rw[bld_pos (by omega)]
    exact iaddr_sl1 hi
   rw[show r12_10=r12_10.take 1++r12_10.drop 1 from rfl]
   refine vcE.seq (vcE.app (vcE.ex (by simp (disch:=first|assumption|omega) only[go_sem,↓reduceIte,t5]; rfl) ⟨rfl,vcE.call (f:=37) (caps:=[]) (ys:=[bld id C.length 1]) rfl (by simp only[evsE,evE,upd_app,↓reduceIte]) (srt_calls hmG N1_ok N1_less swoZ srtI comp37 hs0 hsla (fun hp=>by rw[bld_len,List.size_toArray]) (bld_fits _ _ _)) ?_⟩))
   rintro r H4 hd
   obtain⟨rfl,hs4⟩:=Done.eq swoZ ltZ_tot hd
   refine vcE.ex (by simp (disch:=first|assumption|omega) only[go_sem,↓reduceIte,qa,putE,t5]; rfl) ?_
   refine⟨_,rfl,id,by simp only[upd_app,↓reduceIte],?_,hid,?_⟩
   ·exact hs4.row.imp (fun h=>qq h) fun h=>h
   ·intro j hj
    have:=frame_le hfr
    rw[hs4.oth j (by omega) (by omega)]
    exact hfr j hj
end
end
end Go.Gi
