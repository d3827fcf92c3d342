/- IndexDrop. -/
import Derived.Test.YtakdhioafodhcaaGreatDoorGiIyR
set_option linter.unusedVariables false
set_option linter.unusedSimpArgs false
namespace Go.Gi
set_option linter.unusedSectionVars false
variable [Mx]
open Go Go.Proofs
def S1:Tab:=(S0.addR 8 .nil fun _=>.rd true (.bool true)).addO 15 (.cons (.S encX) .nil) fun p=>if p.1.length≤4611686018427387904 then some (.rd true (.bool (lightI p.1))) else none
theorem S1_ok:TabOk Tryz.prog S1:=by
 refine TabOk.addO (TabOk.addR S0_ok ?_) ?_
 ·exact fun _=>pLives
 ·intro p r h
  split at h
  ·rename_i hv; cases h; exact pLightI p.1 hv
  ·cases h
theorem S1_lives:S1 8 []=some (.rd true (.bool true)):=rfl
theorem S1_light {l:List ActI} (hl:l.length≤4611686018427387904):S1 15 [encX.S l]=some (.rd true (.bool (lightI l))):=
 (Tab.addO_self _ _ (.cons (.S encX) .nil) _ (l,())).trans (if_pos hl)
theorem S1_int {l m:List Int} (hl:l.length≤4611686018427387904):S1 20 [encI.S l,encI.S m]=some (.rd true (.bool (decide (l=m)))):=
 (Tab.addO_ne _ _ _ _ rfl _).trans ((Tab.addR_ne _ _ _ _ rfl _).trans (S0_int hl))
theorem S1_gl {l m:List Gl} (hl:l.length≤4611686018427387904):S1 24 [encG.S l,encG.S m]=some (.rd true (.bool (decide (l=m)))):=
 (Tab.addO_ne _ _ _ _ rfl _).trans ((Tab.addR_ne _ _ _ _ rfl _).trans (S0_gl hl))
def actsG (l:List ActI):List Gl:=l.foldl ActI.next []
theorem actsG_succ {l:List ActI} {i:Nat} {a:ActI} (h:l[i]? = some a):actsG (l.take (i+1))=a.next (actsG (l.take i)):=by
 rw[actsG,List.take_add_one,h,List.foldl_append]
 rfl
theorem IxF.bound {b:Nat} {most:Int} {G:List Gl} {F:Nat→Prop} {hp:HP} (h:IxF b most G F hp):IxF b most G (fun k=>F k∧k<hp.length) hp:=by
 obtain⟨S,L,h,rfl,hF⟩:=h
 exact⟨S,L,h,rfl,fun k hk=>⟨hF k hk,h.lt hk⟩⟩
theorem BldAt.fr {α:Type} {E:Enc α} {hp H:HP} {id:Nat} {e:TypeId} {l:List α} (h:BldAt E hp id e l) (hf:id<hp.length→H[id]? = hp[id]?):BldAt E H id e l:=
 h.imp (fun h=>h) fun h=>by rw[hf (get_lt h)]; exact h
theorem errPut_has {G:List Gl} (h:GOk2 G) (g:Gl):(hasG G g.id == decide (errPut G g=8))=true:=by
 by_cases h0:g.id<0
 ·have:hasG G g.id=false:=by
   cases hh:hasG G g.id
   ·rfl
   ·obtain⟨x,hx,e⟩:=hasG_iff.1 hh
    have:=h.pos x hx
    omega
  rw[errPut,if_pos h0,this]
  rfl
 by_cases h1:hasG G g.id=true
 ·have e:errPut G g=8:=by rw[errPut,if_neg h0,if_pos h1]
  rw[e,h1]
  rfl
 ·have e:errPut G g≠8:=by
   rw[errPut,if_neg h0,if_neg h1]
   split
   ·unfold checkG
    split
    ·decide
    ·split<;>decide
   ·split<;>decide
  rw[show hasG G g.id=false by simpa using h1]
  simp[e]
theorem sortG_small {G:List Gl} (h:GOk2 G):(sortG G).length≤200:=by rw[sortG_len]; exact h.len
theorem matchS_small {G:List Gl} (h:GOk2 G) (t:List UInt8):(matchS t G).length≤200:=by
 rw[matchS,List.length_map]
 exact Nat.le_trans (List.length_filter_le _ _) (sortG_small h)
set_option maxHeartbeats 4000000 in
theorem lawIDrop (l:List ActI) (hl:l.length≤4611686018427387904) (id:Int) (p:List UInt8) (fold:Bool) (text:List UInt8):PC Tryz.prog 5 [encX.S l,.int .i64 id,.str p,.bool fold,.str text] (.bool true):=by
 refine pc_e hmG S1_ok comp5 (by decide) (by simp) (nidL_ok (by simp only[nidL,nid,Enc.S_nid,Bool.and_self])) ?_
 have k1:=S1_lives
 have k2:=S1_light hl
 have hlen:∀ hp,lenA hp (encX.S l)=some (.int .i64 (l.length:Int)):=fun hp=>Enc.S_len _ _ _
 have hlf:lenFits .slice (encX.S l)=true:=rfl
 have hg2:∀ x y:Int,(x > y)=(y<x):=fun _ _=>rfl
 refine vcE.s1 (k:=vcE.step (by simp (disch:=first|assumption|omega) only[go_sem,↓reduceIte,k1,Bool.not_true]; rfl) ?_)
 cases hL:lightI l
 ·rw[hL] at k2
  refine vcE.ex (by simp (disch:=first|assumption|omega) only[go_sem,↓reduceIte,Nat.reduceEqDiff,reduceCtorEq,k2,Enc.S_nid,Bool.not_false]; rfl) ?_
  exact⟨_,rfl,rfl⟩
 rw[hL] at k2
 by_cases hp1:p.length≤300
 rotate_left
 ·have h1:(p.length:Int) > 300:=by omega
  refine vcE.ex (by simp (disch:=first|assumption|omega) only[go_sem,↓reduceIte,reduceCtorEq,frzL.eq_2,k2,Nat.reduceEqDiff,h1]; rfl) ?_
  exact⟨_,rfl,rfl⟩
 have h1:¬ (p.length:Int) > 300:=by omega
 by_cases hp2:text.length≤260
 rotate_left
 ·have h2:(text.length:Int) > 260:=by omega
  refine vcE.ex (by simp (disch:=first|assumption|omega) only[go_sem,↓reduceIte,reduceCtorEq,frzL.eq_2,k2,Nat.reduceEqDiff,h1,decide_false,h2]; rfl) ?_
  exact⟨_,rfl,rfl⟩
 have h2:¬ (text.length:Int) > 260:=by omega
 obtain⟨hl60,hla⟩:=lightI_at hL
 refine vcE.step (by simp (disch:=first|assumption|omega) only[go_sem,↓reduceIte,reduceCtorEq,frzL.eq_2,k2,Nat.reduceEqDiff,h1,decide_false,h2]; rfl) ?_
 rw[show r5_5=r5_5.take 1++r5_5.drop 1 from rfl]
 refine vcE.seq (vcE.app (vcE.call (f:=9) (caps:=[]) (ys:=[.int .i64 20]) rfl (by simp only[evsE,evE]) (new_gen 20 _) ?_))
 rintro r H0 ⟨rfl,hI0,_⟩
 refine⟨rfl,vcE.ex (by simp (disch:=first|assumption|omega) only[go_sem,↓reduceIte,putE]; rfl) ?_⟩
 have hI0:IxF 0 (mostB 20) [] _ H0:=hI0
 have hm:=mostB_in 20
 generalize mostB 20=most at *
 refine vcE.then (fun e' tm H=>e'=.normal∧IxF 0 most (actsG l) (fun _=>True) H∧tm 1=.int .i64 id∧tm 2=.str p∧tm 3=.bool fold∧tm 4=.str text∧tm 11=.ptr 4 0) ?_ ?_
 ·refine vcE.s1 (k:=vcE.block (vcE.count (by intro l tm hp h; simp at h) (fun i tm H=>IxF 0 most (actsG (l.take i)) (fun _=>True) H∧tm 0=encX.S l∧tm 1=.int .i64 id∧tm 2=.str p∧tm 3=.bool fold∧tm 4=.str text∧tm 11=.ptr 4 0∧tm 12=.int .i64 i) l.length ⟨hI0.mono fun _ _=>trivial,rfl,rfl,rfl,rfl,rfl,rfl,rfl⟩ ?_ ?_))
  ·rintro i tm H hi ⟨hI,t0,t1,t2,t3,t4,t11,t12⟩
   obtain⟨a,ha⟩:∃ a,l[i]? = some a:=⟨_,List.getElem?_eq_getElem hi⟩
   have hia:iaddrA 5 (encX.S l) (.int .i64 i)=some (.fptr (encX.cs l) (i*5)):=encX.S_iaddr hi
   have hpk:pickA (some 5) (encX.cs l) (i*5)=some (.agg a.c):=encX.pick ha
   have hlt:(i:Int)<l.length:=by omega
   refine vcE.step (by simp (disch:=first|assumption|omega) only[go_sem,↓reduceIte,t12,reduceCtorEq,t0,hlf,↓hlen,Nat.reduceEqDiff,hlt]; rfl) (vcE.seq (vcE.block ?_))
   rw[show r5_8=r5_8.take 5++r5_8.drop 5 from rfl]
   refine vcE.app (vcE.ex (by simp (disch:=first|assumption|omega) only[go_sem,↓reduceIte,Nat.reduceEqDiff,reduceCtorEq,t0,t11,t12,hia,↓hpk]; rfl) ⟨rfl,vcE.call (f:=19) (caps:=[]) (ys:=[.ptr 4 0,.agg a.c]) rfl (by simp only[evsE,evE,upd_app,Nat.reduceEqDiff,↓reduceIte]) (do_F hI hm a (hla a (List.mem_of_getElem? ha)).1) ?_⟩)
   rintro r H1 ⟨rfl,hI1,_⟩
   refine vcE.ex (by simp (disch:=first|assumption|omega) only[go_sem,↓reduceIte,Nat.reduceEqDiff,putE,t12]; rfl) ?_
   refine⟨?_,?_,?_,?_,?_,?_,?_,?_⟩
   ·rw[actsG_succ ha]
    exact hI1.mono fun _ _=>trivial
   all_goals simp only[upd_app,Nat.reduceEqDiff,↓reduceIte,t0,t1,t2,t3,t4,t11]
   rfl
  ·rintro tm H ⟨hI,t0,t1,t2,t3,t4,t11,t12⟩
   rw[List.take_length] at hI
   have hnlt:¬ (l.length:Int)<l.length:=Int.lt_irrefl _
   refine vcE.ex (by simp (disch:=first|assumption|omega) only[go_sem,↓reduceIte,t12,reduceCtorEq,t0,hlf,↓hlen,Nat.reduceEqDiff,hnlt,decide_false]; rfl) ?_
   refine⟨rfl,hI,?_,?_,?_,?_,?_⟩
   all_goals simp only[upd_app,Nat.reduceEqDiff,↓reduceIte,t1,t2,t3,t4,t11]
 rintro e' tm H ⟨rfl,hI,t1,t2,t3,t4,t11⟩
 have hI:=hI.bound
 have hok:=hI.ok
 generalize actsG l=G at *
 have s1:=sortG_small hok
 have s2:=matchS_small hok text
 rw[show r5_10=r5_10.take 1++((r5_10.drop 1).take 1++((r5_10.drop 2).take 2++((r5_10.drop 4).take 1++r5_10.drop 5))) from rfl]
 refine vcE.seq (vcE.app (vcE.ex (by simp (disch:=first|assumption|omega) only[go_sem,↓reduceIte,t11]; rfl) ⟨rfl,vcE.app (vcE.call (f:=25) (caps:=[]) (ys:=[.ptr 4 0]) rfl (by simp only[evsE,evE,upd_app,↓reduceIte]) (globs_F hI) ?_)⟩))
 rintro r H1 ⟨i1,rfl,hb1,hi1,hf1⟩
 have hI1:=hI.keep hf1
 refine⟨rfl,vcE.app (vcE.ex (by simp (disch:=first|assumption|omega) only[go_sem,↓reduceIte,Nat.reduceEqDiff,putE,t4,t11]; rfl) ⟨rfl,vcE.app (vcE.call (f:=12) (caps:=[]) (ys:=[.ptr 4 0,.str text]) rfl (by simp only[evsE,evE,upd_app,Nat.reduceEqDiff,↓reduceIte]) (match_F hI1 hm text (by omega)) ?_)⟩)⟩
 rintro r H2 ⟨i2,rfl,hb2,hi2,hf2⟩
 have hI2:=hI1.keep hf2
 have hb1:=hb1.fr fun h=>hf2 _ h
 have hl1:=frame_le hf1
 refine⟨rfl,vcE.ex (by simp (disch:=first|assumption|omega) only[go_sem,↓reduceIte,Nat.reduceEqDiff,putE]; rfl) ?_⟩
 refine vcE.seq ?_
 rw[show r5_11=r5_11.take 4++((r5_11.drop 4).take 1++r5_11.drop 5) from rfl]
 refine vcE.app (vcE.ex (by simp (disch:=first|assumption|omega) only[go_sem,↓reduceIte,Nat.reduceEqDiff,t1,t2,t3,t11]; rfl) ⟨rfl,vcE.app (vcE.call (f:=11) (caps:=[]) (ys:=[.ptr 4 0,.int .i64 id,.str p,.bool fold]) rfl (by simp only[evsE,evE,upd_app,Nat.reduceEqDiff,↓reduceIte]) (put_F hI2 ⟨id,p,fold⟩ hp1) ?_)⟩)
 rintro r H3 ⟨rfl,hI3,hC3⟩
 have hb1z:=hb1
 have hb2z:=hb2
 have hb1:=hb1.fr fun h=>hC3.fr _ h fun h=>by omega
 have hb2:=hb2.fr fun h=>hC3.fr _ h fun h=>by omega
 refine⟨rfl,vcE.ex (by simp (disch:=first|assumption|omega) only[go_sem,↓reduceIte,putE]; rfl) ?_⟩
 refine vcE.then (fun e' tm' H'=>e'=.normal∧IxF 0 most G (fun _=>True) H'∧BldAt encG H' i1 47 (sortG G)∧BldAt encI H' i2 3 (matchS text G)∧tm' 1=.int .i64 id∧tm' 4=.str text∧tm' 11=.ptr 4 0∧tm' 13=bld i1 (sortG G).length 3∧tm' 14=bld i2 (matchS text G).length 1∧tm' 15=.int .i64 (errPut G ⟨id,p,fold⟩)) ?_ ?_
 ·by_cases he:errPut G ⟨id,p,fold⟩=0
  ·have hno:hasG G id=false:=(errPut_ok he).2.1
   rw[putG,if_pos he] at hI3
   rw[he]
   have hlG:((G++[(⟨id,p,fold⟩:Gl)]).length:Int)=((sortG G).length:Int)+1:=by
    rw[sortG_len,List.length_append,List.length_singleton]
    rfl
   have ch:=has_F hI3 id
   have cl:=len_F hI3
   have cd:=drop_F hI3 hm id
   rw[show hasG (G++[⟨id,p,fold⟩]) id=true from hasG_put G ⟨id,p,fold⟩] at ch
   rw[hlG] at cl
   rw[show errDrop (G++[⟨id,p,fold⟩]) id=0 by rw[errDrop,if_pos (hasG_put G ⟨id,p,fold⟩)],show dropG (G++[⟨id,p,fold⟩]) id=G from dropG_put (g:=⟨id,p,fold⟩) hno] at cd
   have hbl:=fun hp=>bld_len hp i1 (sortG G).length 3
   have hbf:=bld_fits i1 (sortG G).length 3
   have hw:IntKind.wrap .i64 (((sortG G).length:Int)+1)=((sortG G).length:Int)+1:=wrap_i64 (by omega) (by omega)
   refine vcE.seq ?_
   rw[show r5_12=r5_12.take 5++((r5_12.drop 5).take 1++((r5_12.drop 6).take 3++((r5_12.drop 9).take 1++((r5_12.drop 10).take 8++((r5_12.drop 18).take 1++r5_12.drop 19))))) from rfl]
   refine vcE.app (vcE.ex (by simp (disch:=first|assumption|omega) only[go_sem,↓reduceIte,Nat.reduceEqDiff,t1,t11,decide_true]; rfl) ⟨rfl,vcE.app (vcE.call (f:=22) (caps:=[]) (ys:=[.ptr 4 0,.int .i64 id]) (by simp only[wantedE,upd_app,Nat.reduceEqDiff,↓reduceIte]; rfl) (by simp only[evsE,evE,upd_app,Nat.reduceEqDiff,↓reduceIte]) ch ?_)⟩)
   rintro r Hx ⟨rfl,rfl⟩
   refine⟨rfl,vcE.app (vcE.ex (by simp (disch:=first|assumption|omega) only[go_sem,↓reduceIte,Nat.reduceEqDiff,putE,t11,Bool.not_true]; rfl) ⟨rfl,vcE.app (vcE.call (f:=13) (caps:=[]) (ys:=[.ptr 4 0]) (by simp only[wantedE,upd_app,Nat.reduceEqDiff,↓reduceIte]; rfl) (by simp only[evsE,evE,upd_app,↓reduceIte]) cl ?_)⟩)⟩
   rintro r Hx ⟨rfl,rfl⟩
   refine⟨rfl,vcE.app (vcE.ex (by simp (disch:=first|assumption|omega) only[go_sem,↓reduceIte,Nat.reduceEqDiff,putE,t1,t11,↓hbl,hbf,hw]; rfl) ⟨rfl,vcE.app (vcE.call (f:=14) (caps:=[]) (ys:=[.ptr 4 0,.int .i64 id]) (by simp only[wantedE,upd_app,Nat.reduceEqDiff,↓reduceIte]; rfl) (by simp only[evsE,evE,upd_app,Nat.reduceEqDiff,↓reduceIte]) cd ?_)⟩)⟩
   rintro r H4 ⟨rfl,hI4,hC4⟩
   refine⟨rfl,vcE.ex (by simp (disch:=first|assumption|omega) only[go_sem,↓reduceIte,Nat.reduceEqDiff,putE]; rfl) ?_⟩
   refine vcE.e0 ?_
   have nF:∀ j,H.length≤j→j<H2.length→¬ Grow (fun k=>True∧k<H.length) H2 Hx j:=fun j h1 h2 h3=>by
    rcases h3 with h3|h3<;>omega
   refine⟨rfl,hI4.mono fun _ _=>trivial,?_,?_,?_,?_,?_,?_,?_,?_⟩
   ·exact hb1z.fr fun h=>by rw[hC4.fr _ (by have:=hC3.le; omega) (nF _ hi1 h)]; exact hC3.fr _ h fun h=>by omega
   ·exact hb2z.fr fun h=>by rw[hC4.fr _ (by have:=hC3.le; omega) (nF _ (by omega) h)]; exact hC3.fr _ h fun h=>by omega
   all_goals simp only[upd_app,Nat.reduceEqDiff,↓reduceIte,t1,t4,t11]
  ·rw[putG,if_neg he] at hI3
   refine vcE.ex (by simp (disch:=first|assumption|omega) only[go_sem,↓reduceIte,Nat.reduceEqDiff,he,decide_false]; rfl) ?_
   refine⟨rfl,hI3.mono fun _ _=>trivial,hb1,hb2,?_,?_,?_,?_,?_,?_⟩
   all_goals simp only[upd_app,Nat.reduceEqDiff,↓reduceIte,t1,t4,t11]
 rintro e' tm H4 ⟨rfl,hI,hb1,hb2,t1,t4,t11,t13,t14,t15⟩
 show vcE _ _ _ _ _ _ _ _
 have hpe:=errPut_has hok ⟨id,p,fold⟩
 have c1:=globs_F hI
 rw[show r5_14=r5_14.take 1++((r5_14.drop 1).take 1++((r5_14.drop 2).take 5++((r5_14.drop 7).take 1++((r5_14.drop 8).take 9++((r5_14.drop 17).take 1++r5_14.drop 18))))) from rfl]
 refine vcE.seq (vcE.app (vcE.ex (by simp (disch:=first|assumption|omega) only[go_sem,↓reduceIte,t11]; rfl) ⟨rfl,vcE.app (vcE.call (f:=25) (caps:=[]) (ys:=[.ptr 4 0]) rfl (by simp only[evsE,evE,upd_app,↓reduceIte]) c1 ?_)⟩))
 rintro r H5 ⟨i3,rfl,hb3,hi3,hf3⟩
 have hI5:=hI.keep hf3
 have hb1:=hb1.fr fun h=>hf3 _ h
 have hb2:=hb2.fr fun h=>hf3 _ h
 have f1:frz H5 (bld i3 (sortG G).length 3)=some (encG.S (sortG G)):=hb3.frz
 have f2:frz H5 (bld i1 (sortG G).length 3)=some (encG.S (sortG G)):=hb1.frz
 have k3:=S1_gl (l:=sortG G) (m:=sortG G) (by omega)
 rw[decide_eq_true rfl] at k3
 refine⟨rfl,vcE.app (vcE.ex (by simp (disch:=first|assumption|omega) only[go_sem,exOps.eq_2,↓reduceIte,Nat.reduceEqDiff,t13,frzL.eq_2,↓f1,↓f2,k3,t11,t4]; rfl) ⟨rfl,vcE.app (vcE.call (f:=12) (caps:=[]) (ys:=[.ptr 4 0,.str text]) (by simp only[wantedE,upd_app,Nat.reduceEqDiff,↓reduceIte]; rfl) (by simp only[evsE,evE,upd_app,Nat.reduceEqDiff,↓reduceIte]) (match_F hI5 hm text (by omega)) ?_)⟩)⟩
 rintro r H6 ⟨i4,rfl,hb4,hi4,hf4⟩
 have hI6:=hI5.keep hf4
 have hb2:=hb2.fr fun h=>hf4 _ h
 have f3:frz H6 (bld i4 (matchS text G).length 1)=some (encI.S (matchS text G)):=hb4.frz
 have f4:frz H6 (bld i2 (matchS text G).length 1)=some (encI.S (matchS text G)):=hb2.frz
 have k4:=S1_int (l:=matchS text G) (m:=matchS text G) (by omega)
 rw[decide_eq_true rfl] at k4
 by_cases he:errPut G ⟨id,p,fold⟩=0
 ·rw[he] at t15
  refine⟨rfl,vcE.app (vcE.ex (by simp (disch:=first|assumption|omega) only[go_sem,exOps.eq_2,Nat.reduceEqDiff,↓reduceIte,t14,frzL.eq_2,↓f3,↓f4,k4,t15]; rfl) ⟨rfl,vcE.app (vcE.e1 (k:=⟨rfl,vcE.e0 ?_⟩))⟩)⟩
  refine vcE.e0 ?_
  exact⟨_,rfl,rfl⟩
 ·refine⟨rfl,vcE.app (vcE.ex (by simp (disch:=first|assumption|omega) only[go_sem,exOps.eq_2,Nat.reduceEqDiff,↓reduceIte,t14,frzL.eq_2,↓f3,↓f4,k4,t15,he,decide_false,t11,t1]; rfl) ⟨rfl,vcE.app (vcE.call (f:=22) (caps:=[]) (ys:=[.ptr 4 0,.int .i64 id]) (by simp only[wantedE,upd_app,Nat.reduceEqDiff,↓reduceIte]; rfl) (by simp only[evsE,evE,upd_app,Nat.reduceEqDiff,↓reduceIte]) (has_F hI6 id) ?_)⟩)⟩
  rintro r Hx ⟨rfl,rfl⟩
  refine⟨rfl,vcE.ex (by simp (disch:=first|assumption|omega) only[go_sem,↓reduceIte,Nat.reduceEqDiff,putE,t15,hpe]; rfl) ?_⟩
  refine vcE.e0 ?_
  exact⟨_,rfl,rfl⟩
end Go.Gi
