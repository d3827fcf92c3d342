/- Globs. -/
/- Plain: an index's globs in order; what matches. -/
/- From a law's function, told over plain values, to its call in the model. -/
/- Arguments of laws: whatever plain data comes in, trees stand for it. -/
/- Arguments of laws, with a bound on what their reading holds. -/
/- An index's methods, by the blocks that are its own; acts; the chapter's example. -/
/- The chapter's example. -/
/- The laws' argument: acts. -/
/- IndexDrop. -/
import Derived.Test.YtakdhioafodhcaaGreatDoorGiIyI
import Derived.Test.YtakdhioafodhcaaGreatDoorGiSL
import Derived.Test.YtakdhioafodhcaaGreatDoorGiQ
import Derived.Below
import Derived.Deep.Slices
import Derived.SizedLaws
import Derived.Carry
set_option linter.unusedVariables false
set_option linter.unusedSimpArgs false
namespace Go.Gi
open _root_.Bool renaming not_eq_true' → zg, and_eq_true → qp, and_false → zf, and_self → xb
open _root_.Go.Proofs.Tryz renaming prog → qi
open _root_.List renaming getElem?_eq_some_iff → qf, getElem?_append_left → qm, getElem?_eq_getElem → qg, mem_cons_of_mem → qI, mem_append_left → qR, mem_of_getElem? → xa, map_congr_left → zB, length_append → qo, mem_cons_self → qD, take_add_one → xn, take_length → xl, all_eq_true → xr, not_mem_nil → xV, length_nil → qx, length_map → qL, mem_append → qM, mem_cons → xm, mem_map → xw, map_map → zc
open _root_.List.cons renaming injEq → xc
open _root_.Nat renaming eq_of_beq_eq_true → xo, reduceEqDiff → qa, le_refl → qk
open _root_.Option.some renaming injEq → qd
open _root_.Go.Gi.Tab renaming addO_self → xe, addO_ne → qS
open _root_.Go.Gi.TabOk renaming none → qJ, addO → xp
section
set_option linter.unusedSectionVars false
variable [Mx]
open Go Go.Proofs
def encG:Enc Gl where
 c:=Gl.c
 sz:=3
 pos:=by omega
 len _:=rfl
 nd _:=rfl
 ip:=true
 pl _ _:=rfl
 fz _ _:=rfl
 dec:=fun
  | [.int .i64 n,.str p,.bool f]=>some ⟨n,p,f⟩
  | _=>none
 dec_c _:=rfl
 dec_some cs a h:=by
  split at h
  ·cases h; rfl
  ·cases h
theorem gl_ext (a b:Gl):(a=b)↔(a.id=b.id∧a.pat=b.pat∧a.fold=b.fold):=by
 cases a; cases b; simp
instance:DecidableEq Gl:=fun a b=>decidable_of_iff (a.id=b.id∧a.pat=b.pat∧a.fold=b.fold) (gl_ext a b).symm
def elG:El Gl:=El.st encG [.int,.str,.bool] fun a b=>by
 simp only[eqA,encG,Gl.c,leavesEq,leafEq,if_true,qd]
 rw[Bool.eq_iff_iff]
 simp[gl_ext]
def lookG (G:List Gl) (id:Int):Gl:=(G.find? fun g=>decide (g.id=id)).getD ⟨0,[],false⟩
theorem lookG_at {G:List Gl} (hn:(G.map Gl.id).Nodup) {g:Gl} (hg:g ∈ G):lookG G g.id=g:=by
 obtain⟨A,B,rfl⟩:=List.append_of_mem hg
 unfold lookG
 rw[List.find?_append,List.find?_eq_none.2 (by simpa using fun x hx=>nodup_ne hn x (qR _ hx)),Option.none_or,List.find?_cons_of_pos (by simp)]
 rfl
def sortG (G:List Gl):List Gl:=(srtL ltZ (G.map Gl.id)).map (lookG G)
theorem sortG_len (G:List Gl):(sortG G).length=G.length:=by rw[sortG,qL,srtL_len,qL]
section
variable {hp:HP} {b:Nat} {most:Int} {S:List (Gl × Nat)} {L:Bool→List PL}
set_option maxHeartbeats 1000000 in
theorem globs_gen (h:Ixs b most S L hp):ACalls qi 25 [.ptr (b+4) 0] hp fun r H => ∃ id,r=bld id S.length 3∧BldAt encG H id 47 (sortG (S.map (·.1)))∧hp.length≤id∧∀ j,j<hp.length→H[j]? = hp[j]?:=by
 refine calls_e hmG (qJ _) comp25 (by decide) (by simp) ?_
 have hx:=h.hx
 refine vcE.s0 ?_
 rw[show r25_1=r25_1.take 1++((r25_1.drop 1).take 1++r25_1.drop 2) from rfl]
 refine vcE.seq (vcE.seq (vcE.app (vcE.e1 (k:=⟨rfl,vcE.app (vcE.call (f:=27) (caps:=[]) (ys:=[.ptr (b+4) 0]) rfl rfl (made_calls hx) ?_)⟩))))
 rintro r hp ⟨rfl,rfl⟩
 refine⟨rfl,vcE.ex (by simp (disch:=first|assumption|omega) only[go_sem,↓reduceIte,putE]; rfl) ?_⟩
 refine vcE.condFalse (by simp only[evE,upd_app,↓reduceIte]) ?_
 refine vcE.e0 ?_
 refine vcE.s0 ?_
 obtain⟨bs,c,ha,ho⟩:=h.ha
 rw[show r25_4=r25_4.take 4++((r25_4.drop 4).take 1++((r25_4.drop 5).take 1++r25_4.drop 6)) from rfl]
 refine vcE.seq (vcE.seq (vcE.app (vcE.ex (by simp (disch:=first|assumption|omega) only[go_sem,↓reduceIte,reduceCtorEq,hx,nilchkA]; rfl) ⟨rfl,vcE.app (vcE.call (f:=35) (caps:=[]) (ys:=[.map b]) rfl ?_ (kys_calls hmG comp35) ?_)⟩)))
 ·simp only[evsE,evE,upd_app,↓reduceIte]
 rintro r H1 ⟨rfl,rfl⟩
 have hbx:(hp++[some (Blk.row 54 [.map b])])[hp.length]? = some (some (.row 54 [.map b])):=by simp
 have hks:(S.map entS).map (·.1)=((S.map (·.1)).map Gl.id).map elIn.v:=by
  rw[zc,zc,zc]
  rfl
 have hwl:((S.map (·.1)).map Gl.id).length≤200:=by
  have h1:=h.ok.len
  rwa[qL]
 refine⟨rfl,vcE.app (vcE.call (f:=34) (caps:=[]) (ys:=[.func 51 [.ptr hp.length 0]]) rfl (by simp only[evsE,evE,putE,upd_app,↓reduceIte]) (sdI.sorted hmG (ks:=(S.map (·.1)).map Gl.id) hbx (app_get ha) ho hks (by omega)) ?_)⟩
 rintro r H2 ⟨sl,rfl,hsb,hsl,hfr2,_⟩
 have hWl:(srtL ltZ ((S.map (·.1)).map Gl.id)).length=((S.map (·.1)).map Gl.id).length:=srtL_len _ _
 have hSl:((S.map (·.1)).map Gl.id).length=S.length:=by rw[qL,qL]
 have hWm:∀ k ∈ srtL ltZ ((S.map (·.1)).map Gl.id),∃ y ∈ S,y.1.id=k:=fun k hk=>by
  obtain⟨y,hy,e⟩:=xw.1 ((srtL_perm _ _).mem_iff.1 hk)
  obtain⟨x,hx,rfl⟩:=xw.1 hy
  exact⟨x,hx,e⟩
 have hsg:sortG (S.map (·.1))=(srtL ltZ ((S.map (·.1)).map Gl.id)).map (lookG (S.map (·.1))):=rfl
 rw[hsg,← hSl]
 rw[← hWl] at hwl ⊢
 generalize srtL ltZ ((S.map (·.1)).map Gl.id)=W at *
 have hfr4:∀ j,j<hp.length→H2[j]? = hp[j]?:=fun j hj=>by
  rw[hfr2 j (by simp; omega),qm hj]
 have hlen:=fun hp=>bld_len hp sl W.length 1
 have hfit:=bld_fits sl W.length 1
 have hsl2:hp.length≤sl:=by
  simp only[qo,List.length_cons,qx] at hsl
  omega
 refine⟨rfl,vcE.ex (by simp (disch:=first|assumption|omega) only[go_sem,↓reduceIte,putE,hlen,hfit]; rfl) ?_⟩
 refine vcE.mono (Q:=fun e' tm H=>e'=.normal∧∃ id,tm 3=bld id (W.map (lookG (S.map (·.1)))).length 3∧BldAt encG H id 47 (W.map (lookG (S.map (·.1))))∧hp.length≤id∧∀ j,j<hp.length→H[j]? = hp[j]?) ?_ ?_
 ·refine vcE.block (vcE.count (by intro l tm hp h; simp at h) (fun i tm H=>tm 0=.ptr (b+4) 0∧tm 14=bld sl W.length 1∧tm 15=.int .i64 W.length∧tm 16=.int .i64 i∧BldAt encI H sl 3 W∧(∀ j,j<hp.length→H[j]? = hp[j]?)∧∃ id,tm 3=bld id ((W.take i).map (lookG (S.map (·.1)))).length 3∧BldAt encG H id 47 ((W.take i).map (lookG (S.map (·.1))))∧hp.length≤id∧((W.take i).map (lookG (S.map (·.1)))=[]∨id≠sl)) W.length ⟨?_,?_,?_,?_,hsb,hfr4,hp.length,?_,.inl (by simp),qk _,.inl (by simp)⟩ ?_ ?_)
  ·simp only[upd_app,qa,↓reduceIte]
   rfl
  ·simp only[upd_app,qa,↓reduceIte]
  ·simp only[upd_app,qa,↓reduceIte]
  ·simp only[upd_app,↓reduceIte]; rfl
  ·simp only[upd_app,qa,↓reduceIte,List.take_zero,List.map_nil,qx]; rfl
  ·rintro i tm H3 hi ⟨t0,t14,t15,t16,hsb,hfr,id,t3,hb,hid,hne⟩
   have h3:Ixs b most S L H3:=h.frame fun k hk=>hfr k (h.lt hk)
   have hx3:=h3.hx
   obtain⟨bw3,cw3,ha3,_⟩:=h3.ha
   obtain⟨k,hk⟩:∃ k,W[i]? = some k:=⟨_,qg hi⟩
   obtain⟨y,hy,rfl⟩:=hWm k (xa hk)
   have hrow:=hsb.resolve_left (by intro e; rw[e] at hi; simp at hi)
   have hld:=encI.sl_load1 rfl hrow hk rfl rfl
   have hia:iaddrA 1 (.sl sl 0 W.length 1 W.length false) (.int .i64 i)=some (.ptr sl i):=iaddr_sl1 hi
   rw[bld_pos (by omega)] at t14
   obtain⟨j,hf⟩:=findS_mem h3.nd_ids hy
   have hlk:lookA H3 .int .nilp false (.map b) (.int .i64 y.1.id)=some (.ptr y.2 0):=by
    simp only[lookA,keyA,rowsA,ha3,hf,cond_true,cond_false]
   have hye:=h3.en y hy
   have hpe:loadA H3 (some 3) (.ptr y.2 0)=some (.agg y.1.c):=by
    simp only[loadA,rowA,hye,pickA]
    rfl
   have hlg:lookG (S.map (·.1)) y.1.id=y.1:=lookG_at h.ok.nd (List.mem_map_of_mem hy)
   have htake:(W.take (i+1)).map (lookG (S.map (·.1)))=(W.take i).map (lookG (S.map (·.1)))++[y.1]:=by
    rw[xn,hk,List.map_append,← hlg]
    simp[hlg]
   have hlt32:(i:Int)<W.length:=by omega
   have hHl:=frame_le hfr
   have hcl:((W.take i).map (lookG (S.map (·.1)))).length≤200:=by
    rw[qL,List.length_take]
    omega
   rw[htake]
   generalize (W.take i).map (lookG (S.map (·.1)))=C at *
   have hsrc:srcA (H3++[some (Blk.row 47 y.1.c)]) 3 (.sl H3.length 0 1 3 1 true)=some (encG.cs [y.1],[y.1].length):=by simp[srcA]; exact⟨qk 3,rfl⟩
   have hap:=(hb.app [some (Blk.row 47 y.1.c)]).more (bytes:=32) (m:=[y.1]) hsrc (by simp) (by simp; omega) (by simp; omega)
   have hat:=BldAt.moreAt encG (H3++[some (Blk.row 47 y.1.c)]) id C.length 47 (C++[y.1])
   have hoth:∀ (j:Nat) (x:Option Blk),H3[j]? = some x→(C=[]∨j≠id)→(bldH (H3++[some (Blk.row 47 y.1.c)]) id C.length (.row 47 (encG.cs (C++[y.1]))))[j]? = some x:=fun j x hj hk=>bldH_other (app_get hj) (hk.imp (fun e=>by rw[e]; rfl) fun h=>h)
   have hl4:(H3++[some (Blk.row 47 y.1.c)]).length=H3.length+1:=by simp
   rw[hl4] at hap hat
   rw[show encG.sz=3 from rfl] at hap
   generalize bldH (H3++[some (Blk.row 47 y.1.c)]) id C.length (.row 47 (encG.cs (C++[y.1])))=H5 at *
   have hcc:cellsA (.agg y.1.c)=y.1.c:=rfl
   have hcl3:y.1.c.length=3:=rfl
   refine vcE.step (by simp (disch:=first|assumption|omega) only[go_sem,↓reduceIte,t15,t16,hlt32,decide_true]; rfl) (vcE.s1 (k:=vcE.seq (vcE.block ?_)))
   refine vcE.step (by simp (disch:=first|assumption|omega) only[go_sem,↓reduceIte,qa,t14,t16,hia,↓hld]; rfl) ?_
   refine vcE.ex (by simp (disch:=first|assumption|omega) only[go_sem,↓reduceIte,qa,t3,reduceCtorEq,t0,nilchkA,hx3,↓hlk,↓hpe,hcc,hcl3,↓hap]; rfl) ?_
   refine vcE.ex (by simp (disch:=first|assumption|omega) only[go_sem,↓reduceIte,qa,putE,t16]; rfl) ?_
   have hsl4:=get_lt hrow
   refine⟨?_,?_,?_,?_,.inr (hoth _ _ hrow (hne.imp (fun e=>e) Ne.symm)),fun j hj=>?_,H3.length+1,?_,hat,by omega,.inr (by omega)⟩
   ·simp only[upd_app,qa,↓reduceIte,t0]
   ·simp only[upd_app,qa,↓reduceIte,t14,bld_pos (show 0<W.length by omega)]
   ·simp only[upd_app,qa,↓reduceIte,t15]
   ·simp only[upd_app,↓reduceIte]; rfl
   ·rw[hoth j _ (by rw[hfr j hj,qg hj]) (.inr (by omega)),qg hj]
   ·simp only[upd_app,qa,↓reduceIte]
  ·rintro tm H3 ⟨t0,t14,t15,t16,hsb,hfr,id,t3,hb,hid,hne⟩
   rw[xl] at t3 hb
   refine vcE.ex (by simp (disch:=first|assumption|omega) only[go_sem,↓reduceIte,t15,t16]; rfl) ?_
   exact⟨rfl,id,t3,hb,hid,hfr⟩
 ·rintro e' tm H3 ⟨rfl,id,t3,hb,hid,hfr⟩
  show vcE _ _ _ _ _ _ _ _
  refine vcE.ex (by simp (disch:=first|assumption|omega) only[go_sem,↓reduceIte,t3]; rfl) ?_
  refine⟨_,rfl,id,?_,hb,hid,hfr⟩
  simp only[upd_app,↓reduceIte,qL]
end
end
section
set_option linter.unusedSectionVars false
variable [Mx]
open Go Go.Proofs
theorem gm_litB {f:Bool}:∀ {p t:List UInt8},p.any wildb=false→gm (sameB f) p t=decide ((if f then p.map foldB else p)=if f then t.map foldB else t)
 | [],t,_=>by cases t<;>cases f<;>simp[gm]
 | c :: p,t,h=>by
  rw[List.any_cons,Bool.or_eq_false_iff] at h
  obtain⟨h1,h2⟩:=h
  have h3:c≠42∧c≠63:=by
   unfold wildb at h1
   rw[Bool.or_eq_false_iff] at h1
   exact⟨by simpa using h1.1,by simpa using h1.2⟩
  have h4:(c == 63)=false:=by simpa using h3.2
  cases t with
  | nil=>cases f<;>simp[gm,h3.1]
  | cons b t =>
   have ih:=gm_litB (f:=f) (p:=p) (t:=t) h2
   simp only[gm,if_neg h3.1,h4,Bool.false_or,ih]
   cases f<;>simp[sameB]
theorem chk_le {p:List UInt8} (h:checkG p=0):p.length≤255:=by
 unfold checkG at h
 split at h
 ·cases h
 ·split at h
  ·cases h
  ·omega
theorem Gl.hit_gm {g:Gl} {most:Int} (hm:1≤most∧most≤256) (h:checkG g.pat=0) (t:List UInt8):g.hit most t=gm (sameB g.fold) g.pat t:=by
 have hl:=chk_le h
 unfold Gl.hit
 cases hg:g.lit
 ·rw[if_neg (by decide)]
  exact (newA_yes g.fold (by omega) (by rw[errA,if_neg (by simp[h]),if_neg (by omega)])).2 t
 ·rw[if_pos rfl,gm_litB (by rw[lit_any,hg]; rfl)]
  rfl
def Gl.ok (g:Gl) (t:List UInt8):Bool:=gm (sameB g.fold) g.pat t
def matchS (t:List UInt8) (G:List Gl):List Int:=((sortG G).filter fun g=>g.ok t).map Gl.id
theorem lookG_map {G:List Gl} (hn:(G.map Gl.id).Nodup):(G.map Gl.id).map (lookG G)=G:=by
 rw[zc]
 refine (zB (g:=id) fun g hg=>lookG_at hn hg).trans (List.map_id _)
theorem sortG_perm {G:List Gl} (hn:(G.map Gl.id).Nodup):(sortG G).Perm G:=by
 have:=(srtL_perm ltZ (G.map Gl.id)).map (lookG G)
 rwa[lookG_map hn] at this
theorem sortG_ids {G:List Gl} (hn:(G.map Gl.id).Nodup):(sortG G).map Gl.id=srtL ltZ (G.map Gl.id):=by
 rw[sortG,zc]
 refine (zB (g:=id) fun k hk=>?_).trans (List.map_id _)
 obtain⟨g,hg,rfl⟩:=xw.1 ((srtL_perm _ _).mem_iff.1 hk)
 exact congrArg Gl.id (lookG_at hn hg)
theorem srt_lt {l:List Int} (hn:l.Nodup):(srtL ltZ l).Pairwise (· < ·):=by
 have h1:=srtL_pair swoZ l
 have h2:(srtL ltZ l).Nodup:=(srtL_perm ltZ l).nodup_iff.2 hn
 refine (h1.and h2).imp ?_
 rintro a b ⟨h3,h4⟩
 simp only[ltZ,zg,decide_eq_false_iff_not] at h3
 omega
def UpG (G:List Gl):Prop:=G.Pairwise fun a b=>a.id<b.id
theorem sortG_up {G:List Gl} (hn:(G.map Gl.id).Nodup):UpG (sortG G):=by
 have:=srt_lt hn
 rw[← sortG_ids hn] at this
 exact List.pairwise_map.1 this
theorem up_eq {A B:List Gl} (hp:A.Perm B) (ha:UpG A) (hb:UpG B):A=B:=
 List.Perm.eq_of_pairwise (le:=fun a b:Gl=>a.id<b.id) (fun a b _ _ h1 h2=>absurd h1 (by omega)) ha hb hp
theorem sortG_eq {A G:List Gl} (hn:(G.map Gl.id).Nodup) (hp:A.Perm G) (ha:UpG A):sortG G=A:=
 up_eq ((sortG_perm hn).trans hp.symm) (sortG_up hn) ha
theorem hits_srt {G:List Gl} (h:GOk2 G) {most:Int} (hm:1≤most∧most≤256) (t:List UInt8):srtL ltZ (hitG most t G)=matchS t G:=by
 refine srtL_eq swoZ ltZ_tot ?_ ?_
 ·have e:G.filter (Gl.hit most t)=G.filter fun g=>g.ok t:=List.filter_congr fun g hg=>Gl.hit_gm hm (h.chk g hg) t
  rw[hitG,e]
  exact (((sortG_perm h.nd).filter _).map _).symm
 ·have:=(sortG_up h.nd).filter fun g=>g.ok t
  refine (List.pairwise_map.2 this).imp ?_
  intro a b hab
  simp only[ltZ,zg,decide_eq_false_iff_not]
  omega
structure ActI where
 kind:Int
 id:Int
 pat:List UInt8
 fold:Bool
 text:List UInt8
def ActI.g (a:ActI):Gl:=⟨a.id,a.pat,a.fold⟩
def ActI.put (a:ActI):Bool:=decide (a.kind.tmod 2=0)
def ActI.err (G:List Gl) (a:ActI):Int:=if a.put then errPut G a.g else errDrop G a.id
def ActI.next (G:List Gl) (a:ActI):List Gl:=if a.put then putG G a.g else dropG G a.id
theorem GOk2.nil:GOk2 []:=⟨List.nodup_nil,fun _ h=>absurd h xV,fun _ h=>absurd h xV,Nat.zero_le _⟩
theorem GOk2.putG {G:List Gl} (h:GOk2 G) (g:Gl):GOk2 (putG G g):=by
 unfold Gi.putG
 split
 ·exact h.put (by assumption)
 ·exact h
theorem GOk2.next {G:List Gl} (h:GOk2 G) (a:ActI):GOk2 (a.next G):=by
 unfold ActI.next
 split
 ·exact h.putG _
 ·exact h.drop _
end
section
set_option linter.unusedSectionVars false
variable [Mx]
open Go
def base (L:Nat→LC) (W:World):Cx:=⟨W,0,fun _=>(0,0),fun b=>b<W.heap.size,L,0⟩
theorem base_sim (L:Nat→LC) (W:World) (hg:GOk (base L W)):HSim (base L W) [] where
 len:=rfl
 blk i x h:=by simp at h
 inj i j x y h:=by simp at h
 fz b h:=h
 gl:=hg
theorem law_of_calls {P:Program} {n:FuncId} {xs:List AV} {args:List Value} (h:ACalls P n xs [] fun r _=>r=.bool true) (W:World) (hargs:VRels (base (lcP P) W) xs args) (hg:GOk (base (lcP P) W):=by exact⟨fun x hx=>by simp[Go.Gi.globals] at hx,fun x hx=>by simp[Go.Gi.globalsI] at hx⟩):Calls P n ⟨args⟩ W fun e W'=>e=.returned (.bool true)∧RowKit.Below W.heap.size W W':=
 Calls.mono (h.2 (base (lcP P) W) args (base_sim _ W hg) rfl hargs) fun e W' ⟨v,r,hp',Δ,h1,h2,h3,h4,h5,h6⟩=>by
  subst h6
  simp only[VRel] at h3
  subst h3
  subst h2
  exact⟨h1,h5.os,h5.tape,h5.output,h5.size,fun k hk=>h5.frame k hk (by rintro⟨i,x,hx,_⟩; simp at hx)⟩
theorem law_of_pc {P:Program} {n:FuncId} {xs:List AV} {args:List Value} (h:PC P n xs (.bool true)) (W:World) (hargs:VRels (base (lcP P) W) xs args) (hg:GOk (base (lcP P) W):=by exact⟨fun x hx=>by simp[Go.Gi.globals] at hx,fun x hx=>by simp[Go.Gi.globalsI] at hx⟩):Calls P n ⟨args⟩ W fun e W'=>e=.returned (.bool true)∧RowKit.Below W.heap.size W W':=
 law_of_calls ((h []).mono fun _ _ h=>h.1) W hargs hg
end
section
set_option linter.unusedSectionVars false
variable [Mx]
open Go Go.Deep Go.ChangeShapes Go.WideShapes
def flush (P:Program):Nat→Nat→List Field→Bool
 | o,n,[]=>Nat.beq o n
 | o,n,f :: fs=>Nat.beq f.offset o && flush P (o+P.cellsOf f.type) n fs
def plT (P:Program):Nat→TypeId→Bool
 | 0,_=>false
 | n+1,t=>match P.underlying t with
  | some .bool=>true
  | some (.int _)=>true
  | some .string=>true
  | some (.slice e)=>plT P n e && Nat.blt 0 (P.bytesOf e) && Nat.blt 0 (P.cellsOf e)
  | some (.struct fs)=>fs.toList.all (fun f=>plT P n f.type) && flush P 0 (P.cellsOf t) fs.toList
  | _=>false
def hasFs (H:TypeId→List AV→Prop):List Field→List AV→Prop
 | [],«as»=>«as»=[]
 | f :: fs,«as» => ∃ p q,«as»=p++q∧H f.type p∧hasFs H fs q
def HasT (P:Program):Nat→TypeId→List AV→Prop
 | 0,_,_=>False
 | n+1,t,«as»=>match P.underlying t with
  | some .bool => ∃ b,«as»=[.bool b]
  | some (.int k) => ∃ m,«as»=[.int k m]∧k.min≤m∧m≤k.max
  | some .string => ∃ s,«as»=[.str s]∧s.length≤reachBytes
  | some (.slice e) => ∃ xss:List (List AV),«as»=[.fsl xss.flatten xss.length]∧(∀ xs ∈ xss,HasT P n e xs)∧xss.length≤reachBytes
  | some (.struct fs)=>hasFs (HasT P n) fs.toList «as»
  | _=>False
theorem wf_has {k:IntKind} {m:Int} (h:(Lit.int k m).wf=true):k.min≤m∧m≤k.max:=by
 simpa[Lit.wf] using h
theorem cells?_get {w:World} {a:Addr}:∀ {n:Nat} {cs:List Value},w.cells? 0 a n=some cs→cs.length=n∧∀ j v,cs[j]? = some v→w.cell? (a.add j)=some v:=by
 intro n cs h
 unfold World.cells? at h
 rw[if_pos (Nat.zero_le _)] at h
 have key:∀ (l:List Nat) (cs:List Value),l.mapM (fun i=>w.cell? (a.add i))=some cs→cs.length=l.length∧∀ (j:Nat) (v:Value) (i:Nat),cs[j]? = some v→l[j]? = some i→w.cell? (a.add i)=some v:=by
  intro l
  induction l with
  | nil=>intro cs h; simp at h; subst h; simp
  | cons i l ih =>
   intro cs h
   rw[List.mapM_cons] at h
   simp only[Option.bind_eq_bind,Option.bind_eq_some_iff,Option.pure_def,qd] at h
   obtain⟨v,hv,vs,hvs,rfl⟩:=h
   obtain⟨h1,h2⟩:=ih vs hvs
   refine⟨by simp[h1],fun j u k hu hk=>?_⟩
   cases j with
   | zero=>simp at hu hk; subst hu hk; exact hv
   | succ j=>exact h2 j u k (by simpa using hu) (by simpa using hk)
 obtain⟨h1,h2⟩:=key _ _ h
 refine⟨by simpa using h1,fun j v hv=>h2 j v j hv ?_⟩
 have hj:=(qf.1 hv).1
 rw[List.getElem?_range (by simpa[h1] using hj)]
section
variable {H:Type} {enc:TypeId × Value→H} {P:Program} {W:World} {L:Nat→LC}
theorem trod_fields {n:Nat} {r:TypeId→List Value→Option (DataW H × List MemPlace)} {A:TypeId→List AV→Prop} {cs:List Value}:∀ (fs:List Field) (o:Nat) (xs:List (DataW H × List MemPlace)),
  flush P o cs.length fs=true→xs.length=fs.length→(∀ (i:Nat) (f:Field),fs[i]? = some f→r f.type ((cs.drop f.offset).take (P.cellsOf f.type))=xs[i]?)→(∀ m ∈ DataW.weightsEach P (fs.map (·.type)) (xs.map (·.1)),m≤reachBytes) →
  (∀ f ∈ fs,∀ cs' x,(∀ v ∈ cs',v ∈ cs)→r f.type cs'=some x→(∀ m ∈ x.1.weights P f.type,m≤reachBytes)→∃ «as»,VRels (base L W) «as» cs'∧(∀ v ∈ cs',one v=true)∧A f.type «as») →
  ∃ «as»,VRels (base L W) «as» (cs.drop o)∧(∀ v ∈ cs.drop o,one v=true)∧hasFs A fs «as»
 | [],o,xs,hf,hlx,h,hw,ih=>by
  simp only[flush] at hf
  have:=xo hf
  subst this
  exact⟨[],by simp[VRels],by simp,rfl⟩
 | f :: fs,o,[],hf,hlx,h,hw,ih=>by simp at hlx
 | f :: fs,o,x :: ys,hf,hlx,h,hw,ih=>by
  simp only[flush,qp] at hf
  have ho:=xo hf.1
  have hx:=h 0 f rfl
  simp only[List.getElem?_cons_zero] at hx
  have hys:∀ (i:Nat) (g:Field),fs[i]? = some g→r g.type ((cs.drop g.offset).take (P.cellsOf g.type))=ys[i]?:=fun i g hg=>h (i+1) g (by simpa using hg)
  simp only[List.map_cons,DataW.weightsEach,qM] at hw
  rw[ho] at hx
  obtain⟨«as»,h1,h2,h3⟩:=ih f qD _ _ (fun v hv=>List.mem_of_mem_drop (List.mem_of_mem_take hv)) hx (fun m hm=>hw m (.inl hm))
  obtain⟨bs,k1,k2,k3⟩:=trod_fields (n:=n) fs (o+P.cellsOf f.type) ys hf.2 (by simpa using hlx) hys (fun m hm=>hw m (.inr hm)) (fun g hg=>ih g (qI _ hg))
  have e:cs.drop o=(cs.drop o).take (P.cellsOf f.type)++cs.drop (o+P.cellsOf f.type):=by
   conv=>lhs; rw[← List.take_append_drop (P.cellsOf f.type) (cs.drop o)]
   rw[List.drop_drop]
  refine⟨«as»++bs,by rw[e]; exact h1.append k1,fun v hv=>?_,«as»,bs,rfl,h3,k3⟩
  rw[e,qM] at hv
  exact hv.elim (h2 v) (k2 v)
theorem trod_has:∀ (n fuel:Nat) (t:TypeId) (cs:List Value) (x:DataW H × List MemPlace),plT P n t=true→DataW.trod enc P W 0 (fun _=>true) true fuel t cs=some x→(∀ m ∈ x.1.weights P t,m≤reachBytes) →
  ∃ «as»,VRels (base L W) «as» cs∧(∀ v ∈ cs,one v=true)∧HasT P n t «as»
 | 0,fuel,t,cs,x,hok,_,_=>by simp[plT] at hok
 | n+1,0,t,cs,x,hok,h,_=>by simp[DataW.trod] at h
 | n+1,fuel+1,t,cs,x,hok,h,hw=>by
  simp only[plT] at hok
  simp only[HasT]
  split at hok
  ·rename_i hu
   obtain⟨b,rfl,_⟩:=DataW.trod_bool hu h
   exact⟨[.bool b],by simp[VRels,VRel],by simp[one],b,rfl⟩
  ·rename_i k hu
   obtain⟨m,rfl,_,hwf⟩:=DataW.trod_int hu h
   exact⟨[.int k m],by simp[VRels,VRel],by simp[one],m,rfl,wf_has hwf⟩
  ·rename_i hu
   obtain⟨s,rfl,rfl,_⟩:=DataW.trod_string hu h
   refine⟨[.str s.data.toList],by simp[VRels,VRel],by simp[one],_,rfl,?_⟩
   exact hw _ (by simp[DataW.weights])
  ·rename_i e hu
   simp only[qp] at hok
   obtain⟨⟨hoke,hbe⟩,hce⟩:=hok
   have hbe':0<P.bytesOf e:=by simpa[Nat.blt_eq] using hbe
   have hce':0<P.cellsOf e:=by simpa[Nat.blt_eq] using hce
   rcases open_slice hu h with ⟨rfl,rfl⟩|⟨a,len,cap,m,k,D,Pl,rfl,_,hlen,hcap,hmm,rfl,hel⟩
   ·exact⟨[.fsl [] 0],by simp[VRels,VRel,NilS],by simp[one],[],rfl,by simp,by simp⟩
   ·simp only[if_true] at hmm
    subst hmm
    by_cases hm0:m=0
    ·subst hm0
     obtain rfl:len=0:=by omega
     exact⟨[.fsl [] 0],by simp[VRels,VRel,NilS],by simp[one],[],rfl,by simp,by simp⟩
    have hsp:a.spot=none:=by
     obtain⟨cs',hc1,_⟩:=hel 0 (by omega)
     obtain⟨hcl,hcg⟩:=cells?_get hc1
     have h0:=hcg 0 _ (qg (by omega))
     unfold World.cell? at h0
     split at h0
     ·split at h0
      ·cases h0
      ·rename_i hns
       simpa[Addr.add] using hns
     ·cases h0
    obtain⟨b,o,sp⟩:=a
    simp only at hsp
    subst hsp
    have hwl:m*P.bytesOf e≤reachBytes:=by
     have:=hw _ (by simp only[DataW.weights,hu]; exact qD)
     simp only[qL,List.length_range] at this
     rwa[show len+(m - len)=m by omega] at this
    have hwe:∀ i,i<len→∀ q ∈ (D i).weights P e,q≤reachBytes:=by
     intro i hi q hq
     have mem:∀ (l:List (DataW H)) (d:DataW H),d ∈ l→∀ q ∈ d.weights P e,q ∈ DataW.weightsAll P e l:=by
      intro l
      induction l with
      | nil=>intro d hd; simp at hd
      | cons y l ih =>
       intro d hd q hq
       simp only[DataW.weightsAll,qM]
       rcases xm.1 hd with rfl|hd
       ·exact .inl hq
       ·exact .inr (ih d hd q hq)
     refine hw q ?_
     simp only[DataW.weights,hu]
     refine qI _ (qR _ (mem _ (D i) ?_ q hq))
     exact xw.2 ⟨i,List.mem_range.2 hi,rfl⟩
    have hadd:∀ o q,(⟨b,o,none⟩:Addr).add q=⟨b,o+q,none⟩:=fun o q=>by
     unfold Addr.add
     split
     ·rename_i h0; subst h0; rfl
     ·rfl
    have build:∀ q,q≤len→∃ xss:List (List AV),xss.length=q∧(∀ xs ∈ xss,HasT P n e xs)∧CellsAt (base L W) xss.flatten b o∧xss.flatten.length=q*P.cellsOf e:=by
     intro q
     induction q with
     | zero=>exact fun _=>⟨[],rfl,by simp,by simp[CellsAt],by simp⟩
     | succ q ih =>
      intro hq
      obtain⟨xss,h1,h2,h3,h4⟩:=ih (by omega)
      obtain⟨cs',hc1,hc2⟩:=hel q (by omega)
      obtain⟨hcl,hcg⟩:=cells?_get hc1
      obtain⟨«as»,k1,k2,k3⟩:=trod_has n k e cs' _ hoke hc2 (hwe q (by omega))
      refine⟨xss++[«as»],by simp[h1],?_,?_,?_⟩
      ·intro xs hxs
       rcases qM.1 hxs with hxs|hxs
       ·exact h2 xs hxs
       ·simp only[List.mem_singleton] at hxs; subst hxs; exact k3
      ·rw[List.flatten_append]
       refine h3.append ?_
       rw[h4]
       simp only[List.flatten_cons,List.flatten_nil,List.append_nil]
       refine CellsAt.of fun i y hy=>?_
       have hi:i<cs'.length:=by rw[← k1.length]; exact (qf.1 hy).1
       have hg:=k1.get i
       simp only[List.getD_eq_getElem?_getD,hy,qg hi,Option.getD_some] at hg
       have hcell:=hcg i _ (qg hi)
       rw[hadd,hadd] at hcell
       exact⟨_,hcell,k2 _ (List.getElem_mem hi),hg⟩
      ·rw[List.flatten_append,qo,h4,Nat.succ_mul]
       simp[k1.length,hcl]
    obtain⟨xss,h1,h2,h3,h4⟩:=build len (qk _)
    refine⟨[.fsl xss.flatten xss.length],?_,by simp[one],xss,rfl,h2,?_⟩
    ·simp only[VRels,VRel]
     refine⟨_,_,rfl,.inr ⟨b,o,m,by rw[h1],by omega,?_,h3⟩,rfl⟩
     by_cases h0:len=0
     ·left
      exact List.eq_nil_of_length_eq_zero (by rw[h4,h0,Nat.zero_mul])
     ·right
      have:0<xss.flatten.length:=by rw[h4]; exact Nat.mul_pos (by omega) hce'
      obtain⟨v,hv,_⟩:=h3.get 0 _ (qg this)
      show b<W.heap.size
      simp only[base,World.cell?,Nat.add_zero] at hv
      cases hh:W.heap[b]? with
      | none=>rw[hh] at hv; cases hv
      | some ob=>exact (Array.getElem?_eq_some_iff.1 hh).1
    ·rw[h1]
     have:len*1≤m*P.bytesOf e:=Nat.mul_le_mul hlen hbe'
     omega
  ·rename_i fs hu
   simp only[qp] at hok
   obtain⟨xs,k,hfu,rfl,hcl,hlx,hm⟩:=DataW.trod_struct hu h
   simp only[Nat.add_right_cancel_iff] at hfu
   subst hfu
   have hw':∀ m ∈ DataW.weightsEach P (fs.toList.map (·.type)) (xs.map (·.1)),m≤reachBytes:=by
    simpa[DataW.weights,hu] using hw
   have:=trod_fields (L:=L) (W:=W) (P:=P) (n:=n) (A:=HasT P n) (cs:=cs) fs.toList 0 xs (by rw[hcl]; exact hok.2) (by simpa using hlx) (fun i f hf=>hm i f (by simpa using hf)) hw' (fun f hf cs' x' hsub hx' hwx=>by
    have:=xr.1 hok.1 f hf
    exact trod_has n fuel f.type cs' x' this hx' hwx)
   simpa using this
  ·cases hok
def HasV (P:Program) (n:Nat) (t:TypeId) (a:AV):Prop:=
 match P.underlying t with
 | some (.struct _) => ∃ «as»,a=.agg «as»∧HasT P n t «as»
 | _=>HasT P n t [a]
theorem open_any {r:Reach} {b0:Nat} {t:TypeId} {v:Value} {d:DataW H} {ps:List MemPlace} {n:Nat} (hok:plT P n t=true) (hval:Value.okWide P W r b0 t v) (hd:DataW.Trod enc P W 0 (fun _=>true) true t v d ps) (hw:∀ m ∈ d.weights P t,m≤reachBytes) :
  ∃ a,VRel (base L W) a v∧HasV P n t a:=by
 obtain⟨fuel,hf⟩:=hd
 obtain⟨«as»,h1,h2,h3⟩:=trod_has (L:=L) n fuel t v.cells.toList _ hok hf hw
 unfold HasV
 split
 ·rename_i fs hu
  have:∃ cs,v=.agg cs:=by
   unfold Value.okWide at hval
   rw[hu] at hval
   obtain⟨cs,rfl,_⟩:=hval
   exact⟨cs,rfl⟩
  obtain⟨cs,rfl⟩:=this
  refine⟨.agg «as»,?_,«as»,rfl,h3⟩
  simp only[VRel]
  refine⟨cs.toList,rfl,by simpa[Value.cells] using h1,fun u hu=>h2 u (by simpa[Value.cells] using hu)⟩
 ·rename_i hns
  have hone:∃ a,«as»=[a]:=by
   cases n with
   | zero=>simp[HasT] at h3
   | succ n =>
    simp only[HasT] at h3
    split at h3
    ·obtain⟨b,rfl⟩:=h3; exact⟨_,rfl⟩
    ·obtain⟨b,rfl,_⟩:=h3; exact⟨_,rfl⟩
    ·obtain⟨b,rfl,_⟩:=h3; exact⟨_,rfl⟩
    ·obtain⟨b,rfl,_⟩:=h3; exact⟨_,rfl⟩
    ·rename_i fs hu; exact absurd hu (hns fs)
    ·cases h3
  obtain⟨a,rfl⟩:=hone
  refine⟨a,?_,h3⟩
  simp only[VRels] at h1
  obtain⟨u,us,h4,h5,h6⟩:=h1
  subst h6
  have hv:v=u:=by
   cases v with
   | agg cs =>
    exfalso
    unfold Value.okWide at hval
    split at hval
    ·rename_i fs hu; exact hns _ hu
    ·rename_i k e hu
     cases n with
     | zero=>simp[plT] at hok
     | succ n=>simp[plT,hu] at hok
    ·unfold Cell.okWide at hval
     split at hval<;>simp_all [Cell.ok]
   | tuple cs =>
    exfalso
    unfold Value.okWide at hval
    split at hval
    ·obtain⟨cs',h,_⟩:=hval; cases h
    ·obtain⟨cs',h,_⟩:=hval; cases h
    ·unfold Cell.okWide at hval
     split at hval<;>simp_all [Cell.ok]
   | _=>simpa[Value.cells] using h4
  rw[hv]
  exact h5
end
theorem has_str {P:Program} {n:Nat} {t:TypeId} {a:AV} (hu:P.underlying t=some .string) (h:HasV P (n+1) t a):∃ s,a=.str s∧s.length≤reachBytes:=by
 simp only[HasV,hu,HasT,xc,and_true] at h
 exact h
theorem has_int {P:Program} {n:Nat} {t:TypeId} {a:AV} {k:IntKind} (hu:P.underlying t=some (.int k)) (h:HasV P (n+1) t a):∃ m,a=.int k m∧k.min≤m∧m≤k.max:=by
 simp only[HasV,hu,HasT,xc,and_true] at h
 exact h
theorem flat_map {α:Type} (E:Enc α):∀ {xss:List (List AV)},(∀ xs ∈ xss,∃ x,xs=E.c x)→∃ l:List α,xss.flatten=E.cs l∧xss.length=l.length∧∀ P':α→Prop,(∀ xs ∈ xss,∀ x,xs=E.c x→P' x)→∀ x ∈ l,P' x
 | [],_=>⟨[],rfl,rfl,by simp⟩
 | xs :: xss,h=>by
  obtain⟨x,hx⟩:=h xs qD
  obtain⟨l,h1,h2,h3⟩:=flat_map E (xss:=xss) (fun ys hy=>h ys (qI _ hy))
  refine⟨x :: l,by simp[h1,hx,Enc.cs],by simp[h2],fun P' hP=>?_⟩
  intro y hy
  rcases xm.1 hy with rfl|hy
  ·exact hP xs qD _ hx
  ·exact h3 P' (fun ys hys=>hP ys (qI _ hys)) y hy
theorem hasT_slice {α:Type} (E:Enc α) {P:Program} {n:Nat} {t e:TypeId} {«as»:List AV} (hu:P.underlying t=some (.slice e)) (hE:∀ «as»,HasT P n e «as»→∃ x,«as»=E.c x) (h:HasT P (n+1) t «as»):∃ l:List α,«as»=[E.S l]∧l.length≤reachBytes:=by
 simp only[hu,HasT] at h
 obtain⟨xss,rfl,h1,h2⟩:=h
 obtain⟨l,h3,h4,_⟩:=flat_map E (fun xs hxs=>hE xs (h1 xs hxs))
 exact⟨l,by rw[h3,h4]; rfl,by omega⟩
theorem has_slice {α:Type} (E:Enc α) {P:Program} {n:Nat} {t e:TypeId} {a:AV} (hu:P.underlying t=some (.slice e)) (hE:∀ «as»,HasT P n e «as»→∃ x,«as»=E.c x) (h:HasV P (n+1) t a):∃ l:List α,a=E.S l∧l.length≤reachBytes:=by
 simp only[HasV,hu] at h
 obtain⟨l,h1,h2⟩:=hasT_slice E hu hE h
 exact⟨l,by simpa using h1,h2⟩
end
section
set_option linter.unusedSectionVars false
variable [Mx]
open Go Go.Deep Go.ChangeShapes Go.WideShapes
def HasTB (P:Program) (B:Nat):Nat→TypeId→List AV→Prop
 | 0,_,_=>False
 | n+1,t,«as»=>match P.underlying t with
  | some .bool => ∃ b,«as»=[.bool b]
  | some (.int k) => ∃ m,«as»=[.int k m]∧k.min≤m∧m≤k.max
  | some .string => ∃ s,«as»=[.str s]∧s.length≤B
  | some (.slice e) => ∃ xss:List (List AV),«as»=[.fsl xss.flatten xss.length]∧(∀ xs ∈ xss,HasTB P B n e xs)∧xss.length≤B
  | some (.struct fs)=>hasFs (HasTB P B n) fs.toList «as»
  | _=>False
theorem hasTB_of {P:Program}:∀ (n:Nat) (t:TypeId) («as»:List AV),HasT P n t «as»=HasTB P reachBytes n t «as»
 | 0,_,_=>rfl
 | n+1,t,«as»=>by
  have ih:HasT P n=HasTB P reachBytes n:=by
   funext t «as»
   exact hasTB_of n t «as»
  simp only[HasT,HasTB,ih]
  all_goals cases P.underlying t with
  | none=>rfl
  | some d=>cases d<;>rfl
section
variable {B:Nat} {H:Type} {K:DataW H→Prop} {enc:TypeId × Value→H} {P:Program} {W:World} {L:Nat→LC}
end
end
section
set_option linter.unusedSectionVars false
variable [Mx]
open Go Go.Proofs
def Grow (F:Nat→Prop) (hp H:HP) (k:Nat):Prop:=F k∨(hp.length≤k∧k<H.length)
section
variable {hp:HP} {b:Nat} {most:Int} {G:List Gl} {F:Nat→Prop}
theorem IxF.ok (h:IxF b most G F hp):GOk2 G:=by
 obtain⟨S,L,h,rfl,_⟩:=h
 exact h.ok
theorem put_F (h:IxF b most G F hp) (g:Gl) (hl:g.pat.length≤300):ACalls qi 11 [.ptr (b+4) 0,.int .i64 g.id,.str g.pat,.bool g.fold] hp fun r H=>r=.int .i64 (errPut G g)∧IxF b most (putG G g) (Grow F hp H) H∧Chg F hp H:=by
 obtain⟨S,L,h,rfl,hF⟩:=h
 refine (put_gen h g hl).mono ?_
 rintro r H ⟨hr,⟨S',L',h',he,hf⟩,hc⟩
 exact⟨hr,⟨S',L',h',he,fun k hk=>(hf k hk).imp (hF k) fun a=>⟨a,h'.lt hk⟩⟩,⟨fun k h1 h2=>hc.fr k h1 fun h3=>h2 (hF k h3),hc.le⟩⟩
theorem drop_F (h:IxF b most G F hp) (hm:1≤most∧most≤256) (id:Int):ACalls qi 14 [.ptr (b+4) 0,.int .i64 id] hp fun r H=>r=.int .i64 (errDrop G id)∧IxF b most (dropG G id) (Grow F hp H) H∧Chg F hp H:=by
 obtain⟨S,L,h,rfl,hF⟩:=h
 refine (drop_gen h hm id).mono ?_
 rintro r H ⟨hr,⟨S',L',h',he,hf⟩,hc⟩
 exact⟨hr,⟨S',L',h',he,fun k hk=>.inl (hF k (hf k hk))⟩,⟨fun k h1 h2=>hc.fr k h1 fun h3=>h2 (hF k h3),hc.le⟩⟩
theorem len_F (h:IxF b most G F hp):ACalls qi 13 [.ptr (b+4) 0] hp fun r H=>r=.int .i64 (G.length:Int)∧H=hp:=by
 obtain⟨S,L,h,rfl,hF⟩:=h
 rw[qL]
 exact len_gen h
theorem match_F (h:IxF b most G F hp) (hm:1≤most∧most≤256) (t:List UInt8) (ht:t.length≤1000):ACalls qi 12 [.ptr (b+4) 0,.str t] hp fun r H => ∃ id,r=bld id (matchS t G).length 1∧BldAt encI H id 3 (matchS t G)∧hp.length≤id∧∀ j,j<hp.length→H[j]? = hp[j]?:=by
 obtain⟨S,L,h,rfl,hF⟩:=h
 rw[← hits_srt h.ok hm t,srtL_len]
 exact match_gen h hm t ht
theorem globs_F (h:IxF b most G F hp):ACalls qi 25 [.ptr (b+4) 0] hp fun r H => ∃ id,r=bld id (sortG G).length 3∧BldAt encG H id 47 (sortG G)∧hp.length≤id∧∀ j,j<hp.length→H[j]? = hp[j]?:=by
 obtain⟨S,L,h,rfl,hF⟩:=h
 rw[sortG_len,qL]
 exact globs_gen h
theorem IxF.keep {H:HP} (h:IxF b most G F hp) (hf:∀ j,j<hp.length→H[j]? = hp[j]?):IxF b most G F H:=
 h.frame (F':=fun _=>False) ⟨fun k hk _=>hf k hk,frame_le hf⟩ fun _ _ h=>h
end
def ActI.c (a:ActI):List AV:=[.int .i64 a.kind,.int .i64 a.id,.str a.pat,.bool a.fold,.str a.text]
def encX:Enc ActI where
 c:=ActI.c
 sz:=5
 pos:=by omega
 len _:=rfl
 nd _:=rfl
 ip:=true
 pl _ _:=rfl
 fz _ _:=rfl
 dec:=fun
  | [.int .i64 k,.int .i64 n,.str r,.bool s,.str t]=>some ⟨k,n,r,s,t⟩
  | _=>none
 dec_c _:=rfl
 dec_some cs a h:=by
  split at h
  ·cases h; rfl
  ·cases h
def ActI.light (a:ActI):Bool:=decide (a.pat.length≤300) && decide (a.text.length≤260)
def lightI (l:List ActI):Bool:=l.all ActI.light && decide (l.length≤60)
theorem lightI_at {l:List ActI} (h:lightI l=true):l.length≤60∧∀ a ∈ l,a.pat.length≤300∧a.text.length≤260:=by
 rw[lightI,qp,decide_eq_true_eq,xr] at h
 refine⟨h.2,fun a ha=>?_⟩
 have:=h.1 a ha
 rw[ActI.light,qp,decide_eq_true_eq,decide_eq_true_eq] at this
 exact this
theorem all_take_succX {α:Type} {p:α→Bool} {l:List α} {i:Nat} {a:α} (h:l[i]? = some a):(l.take (i+1)).all p=((l.take i).all p && p a):=by
 rw[xn,h,List.all_append]
 simp
theorem all_falseX {α:Type} {p:α→Bool} {l:List α} {i:Nat} {a:α} (h:l[i]? = some a) (hp:p a=false):l.all p=false:=by
 cases hl:l.all p
 ·rfl
 ·rw[xr] at hl
  rw[hl a (xa h)] at hp
  cases hp
theorem encX_pat {l:List ActI} {i:Nat} {x:ActI} (h:l[i]? = some x):pickA none (encX.cs l) (i*5+2)=some (.str x.pat):=by
 have:=encX.pick_part h (sh:=none) (o:=2) (by show 2+1≤5; omega)
 rw[show encX.sz=5 from rfl] at this
 rw[this]
 rfl
theorem encX_text {l:List ActI} {i:Nat} {x:ActI} (h:l[i]? = some x):pickA none (encX.cs l) (i*5+4)=some (.str x.text):=by
 have:=encX.pick_part h (sh:=none) (o:=4) (by show 4+1≤5; omega)
 rw[show encX.sz=5 from rfl] at this
 rw[this]
 rfl
theorem pLightI (l:List ActI) (hl:l.length≤4611686018427387904):PCF qi 15 [encX.S l] (.bool (lightI l)):=by
 refine pcf_e hmG (qJ _) comp15 (by decide) (by simp) (nidL_ok (by simp only[nidL,Enc.S_nid,xb])) ?_
 have hg2:∀ x y:Int,(x > y)=(y<x):=fun _ _=>rfl
 refine vcE.s1 (k:=vcE.then (fun e tm hp=>(e=.ret∧tm 2=.bool false∧l.all ActI.light=false)∨(e=.normal∧tm 0=encX.S l∧l.all ActI.light=true)) ?_ ?_)
 ·refine vcE.s1 (k:=vcE.block (vcE.count (by intro l tm hp h; simp at h) (fun i tm hp=>tm 0=encX.S l∧tm 3=.int .i64 i∧(l.take i).all ActI.light=true) l.length ⟨rfl,rfl,rfl⟩ ?_ ?_))
  ·rintro i tm hp hi ⟨e0,e3,hall⟩
   obtain⟨x,hx⟩:∃ x,l[i]? = some x:=⟨_,qg hi⟩
   have hia:iaddrA 5 (encX.S l) (.int .i64 i)=some (.fptr (encX.cs l) (i*5)):=encX.S_iaddr hi
   have p2:=encX_pat hx
   have p4:=encX_text hx
   have hw:IntKind.wrap .i64 ((i:Int)+1)=(i:Int)+1:=wrap_i64 (by omega) (by omega)
   by_cases h1:x.pat.length≤300
   ·by_cases h2:x.text.length≤260
    ·refine vcE.ex (by simp (disch:=first|assumption|omega) only[go_sem,↓reduceIte,e3,reduceCtorEq,e0,qa,hia,↓p2,hg2,↓p4,hw]; rfl) ?_
     refine⟨?_,?_,by rw[all_take_succX hx,hall]; simp only[ActI.light,h1,h2,decide_true,xb]⟩
     ·simp only[upd_app,qa,↓reduceIte,e0]
     ·simp only[upd_app,↓reduceIte]; rfl
    ·refine vcE.ex (by simp (disch:=first|assumption|omega) only[go_sem,↓reduceIte,e3,reduceCtorEq,e0,qa,hia,↓p2,hg2,↓p4]; rfl) ?_
     refine .inl ⟨rfl,?_,all_falseX hx (by simp only[ActI.light,h2,decide_false,zf])⟩
     simp only[upd_app,↓reduceIte]
   ·refine vcE.ex (by simp (disch:=first|assumption|omega) only[go_sem,↓reduceIte,e3,reduceCtorEq,e0,qa,hia,↓p2,hg2]; rfl) ?_
    refine .inl ⟨rfl,?_,all_falseX hx (by simp only[ActI.light,h1,decide_false,Bool.false_and])⟩
    simp only[upd_app,↓reduceIte]
  ·rintro tm hp ⟨e0,e3,hall⟩
   rw[xl] at hall
   refine vcE.ex (by simp (disch:=first|assumption|omega) only[go_sem,↓reduceIte,qa,reduceCtorEq,e0,e3,Enc.S_len,Enc.S_fits]; rfl) ?_
   refine .inr ⟨rfl,?_,hall⟩
   simp only[upd_app,qa,↓reduceIte,e0]
 ·rintro e tm hp (⟨rfl,h2,h⟩|⟨rfl,h0,h⟩)
  ·refine⟨_,by simp only[resE,resEL,resE1,h2]; rfl,?_⟩
   rw[lightI,h]
   rfl
  ·by_cases h60:l.length≤60
   all_goals refine vcE.ex (by simp (disch:=first|assumption|omega) only[go_sem,↓reduceIte,h0,Enc.S_len,Enc.S_fits]; rfl) ?_
   all_goals refine⟨_,rfl,?_⟩
   all_goals simp only[lightI,h,h60,upd_app,↓reduceIte,decide_true,decide_false,xb,zf]
   all_goals rfl
section
variable {hp:HP} {b:Nat} {most:Int} {G:List Gl} {F:Nat→Prop}
theorem do_F (h:IxF b most G F hp) (hm:1≤most∧most≤256) (a:ActI) (hl:a.pat.length≤300):ACalls qi 19 [.ptr (b+4) 0,.agg a.c] hp fun r H=>r=.int .i64 (a.err G)∧IxF b most (a.next G) (Grow F hp H) H∧Chg F hp H:=by
 refine calls_e hmG (qJ _) comp19 (by rfl) (by simp) ?_
 have hc:cellsA (.agg a.c)=a.c:=rfl
 have hfr:∀ j,j<hp.length→(hp++[some (Blk.row 38 a.c)])[j]? = hp[j]?:=fun j hj=>qm hj
 have h1:=h.keep hfr
 have hq:(hp++[some (Blk.row 38 a.c)])[hp.length]? = some (some (.row 38 [.int .i64 a.kind,.int .i64 a.id,.str a.pat,.bool a.fold,.str a.text])):=by simp[ActI.c]
 have hl1:(hp++[some (Blk.row 38 a.c)]).length=hp.length+1:=by simp
 have h20:¬ (2:Int)=0:=by omega
 refine vcE.step (by simp (disch:=first|assumption|omega) only[go_sem,↓reduceIte,boxA_eq,hc]; rfl) ?_
 generalize hp++[some (Blk.row 38 a.c)]=H1 at *
 have fin:∀ (e:Int) (G':List Gl) H,IxF b most G' (Grow F H1 H) H→Chg F H1 H→IxF b most G' (Grow F hp H) H∧Chg F hp H:=fun e G' H hI hC=>by
  have:=hC.le
  refine⟨hI.mono fun k hk=>hk.imp (fun x=>x) fun x=>⟨by omega,x.2⟩,⟨fun k hk hn=>?_,by omega⟩⟩
  rw[hC.fr k (by omega) hn]
  exact hfr k hk
 by_cases hk:a.kind.tmod 2=0
 ·have he:a.err G=errPut G a.g:=by rw[ActI.err,if_pos (show a.put=true from decide_eq_true hk)]
  have hn:a.next G=putG G a.g:=by rw[ActI.next,if_pos (show a.put=true from decide_eq_true hk)]
  refine vcE.seq (vcE.step (by simp (disch:=first|assumption|omega) only[go_sem,↓reduceIte,qa,hq,h20,hk]; rfl) (vcE.condTrue (by simp only[evE,upd_app,↓reduceIte]) ?_))
  rw[show r19_2=r19_2.take 7++((r19_2.drop 7).take 1++r19_2.drop 8) from rfl]
  refine vcE.seq (vcE.app (vcE.ex (by simp (disch:=first|assumption|omega) only[go_sem,↓reduceIte,qa,reduceCtorEq,hq]; rfl) ⟨rfl,vcE.app (vcE.call (f:=11) (caps:=[]) (ys:=[.ptr (b+4) 0,.int .i64 a.id,.str a.pat,.bool a.fold]) rfl (by simp only[evsE,evE,upd_app,qa,↓reduceIte]) (put_F h1 a.g hl) ?_)⟩))
  rintro r H ⟨rfl,hI,hC⟩
  refine⟨rfl,vcE.ex (by simp (disch:=first|assumption|omega) only[go_sem,↓reduceIte,putE]; rfl) ?_⟩
  refine vcE.e0 ?_
  refine⟨_,rfl,?_⟩
  simp only[upd_app,↓reduceIte]
  rw[he,hn]
  exact⟨rfl,fin 0 _ H hI hC⟩
 ·have he:a.err G=errDrop G a.id:=by rw[ActI.err,if_neg (by simp[ActI.put,hk])]
  have hn:a.next G=dropG G a.id:=by rw[ActI.next,if_neg (by simp[ActI.put,hk])]
  refine vcE.seq (vcE.step (by simp (disch:=first|assumption|omega) only[go_sem,↓reduceIte,qa,hq,h20,hk,decide_false]; rfl) (vcE.condFalse (by simp only[evE,upd_app,↓reduceIte]) ?_))
  refine vcE.e0 ?_
  rw[show r19_3=r19_3.take 3++((r19_3.drop 3).take 1++r19_3.drop 4) from rfl]
  refine vcE.seq (vcE.app (vcE.ex (by simp (disch:=first|assumption|omega) only[go_sem,↓reduceIte,qa,reduceCtorEq,hq]; rfl) ⟨rfl,vcE.app (vcE.call (f:=14) (caps:=[]) (ys:=[.ptr (b+4) 0,.int .i64 a.id]) rfl (by simp only[evsE,evE,upd_app,qa,↓reduceIte]) (drop_F h1 hm a.id) ?_)⟩))
  rintro r H ⟨rfl,hI,hC⟩
  refine⟨rfl,vcE.ex (by simp (disch:=first|assumption|omega) only[go_sem,↓reduceIte,putE]; rfl) ?_⟩
  refine vcE.e0 ?_
  refine⟨_,rfl,?_⟩
  simp only[upd_app,↓reduceIte]
  rw[he,hn]
  exact⟨rfl,fin 0 _ H hI hC⟩
end
end
section
set_option linter.unusedSectionVars false
variable [Mx]
open Go Go.Proofs
theorem pSameI {l m:List Int} (hl:l.length≤4611686018427387904):PCF qi 20 [encI.S l,encI.S m] (.bool (decide (l=m))):=same_pc hmG elI true comp20 hl
theorem pSameG {l m:List Gl} (hl:l.length≤4611686018427387904):PCF qi 24 [encG.S l,encG.S m] (.bool (decide (l=m))):=same_pc hmG elG true comp24 hl
def S0:Tab:=(Tab.none.addO 20 (.cons (.S encI) (.cons (.S encI) .nil)) fun p=>if p.1.length≤4611686018427387904 then some (.rd true (.bool (decide (p.1=p.2.1)))) else none).addO 24 (.cons (.S encG) (.cons (.S encG) .nil)) fun p=>if p.1.length≤4611686018427387904 then some (.rd true (.bool (decide (p.1=p.2.1)))) else none
theorem S0_ok:TabOk qi S0:=by
 refine xp (xp (qJ _) ?_) ?_
 ·intro p r h
  split at h
  ·rename_i hv; cases h; exact pSameI hv
  ·cases h
 ·intro p r h
  split at h
  ·rename_i hv; cases h; exact pSameG hv
  ·cases h
theorem S0_int {l m:List Int} (hl:l.length≤4611686018427387904):S0 20 [encI.S l,encI.S m]=some (.rd true (.bool (decide (l=m)))):=
 (qS _ _ _ _ rfl _).trans ((xe _ _ (.cons (.S encI) (.cons (.S encI) .nil)) _ (l,m,())).trans (if_pos hl))
theorem S0_gl {l m:List Gl} (hl:l.length≤4611686018427387904):S0 24 [encG.S l,encG.S m]=some (.rd true (.bool (decide (l=m)))):=
 (xe _ _ (.cons (.S encG) (.cons (.S encG) .nil)) _ (l,m,())).trans (if_pos hl)
def gA:Gl:=⟨3,[97,42],false⟩
def gB:Gl:=⟨1,[97,98],false⟩
def gC:Gl:=⟨2,[98],false⟩
set_option maxHeartbeats 1000000 in
theorem pLives:PCF qi 8 [] (.bool true):=by
 refine pcf_e hmG S0_ok comp8 (by decide) (by simp) (nidL_ok rfl) ?_
 refine vcE.s0 ?_
 rw[show r8_1=r8_1.take 1++r8_1.drop 1 from rfl]
 refine vcE.seq (vcE.app (vcE.call (f:=9) (caps:=[]) (ys:=[.int .i64 10]) rfl (by simp only[evsE,evE]) (new_gen 10 []) ?_))
 rintro r H0 ⟨rfl,h0,_⟩
 refine⟨rfl,vcE.ex (by simp (disch:=first|assumption|omega) only[go_sem,↓reduceIte,putE]; rfl) ?_⟩
 refine vcE.seq ?_
 rw[show r8_2=r8_2.take 1++((r8_2.drop 1).take 1++((r8_2.drop 2).take 3++((r8_2.drop 5).take 1++((r8_2.drop 6).take 4++((r8_2.drop 10).take 1++((r8_2.drop 11).take 4++((r8_2.drop 15).take 1++r8_2.drop 16))))))) from rfl]
 have e1:errPut [] gA=0:=by decide
 have e2:errPut [gA] gB=0:=by decide
 have e3:errPut [gA,gB] gC=0:=by decide
 have p1:putG [] gA=[gA]:=by rw[putG,if_pos e1]; rfl
 have p2:putG [gA] gB=[gA,gB]:=by rw[putG,if_pos e2]; rfl
 have p3:putG [gA,gB] gC=[gA,gB,gC]:=by rw[putG,if_pos e3]; rfl
 have c1:=put_F h0 gA (by decide)
 rw[e1,p1] at c1
 refine vcE.app (vcE.e1 (k:=⟨rfl,vcE.app (vcE.call (f:=11) (caps:=[]) (ys:=[.ptr (0+4) 0,.int .i64 3,.str [97,42],.bool false]) rfl (by simp only[evsE,evE,upd_app,↓reduceIte]) c1 ?_)⟩))
 rintro r H1 ⟨rfl,h1,_⟩
 have c2:=put_F h1 gB (by decide)
 rw[e2,p2] at c2
 refine⟨rfl,vcE.app (vcE.ex (by simp (disch:=first|assumption|omega) only[go_sem,↓reduceIte,qa,putE]; rfl) ⟨rfl,vcE.app (vcE.call (f:=11) (caps:=[]) (ys:=[.ptr (0+4) 0,.int .i64 1,.str [97,98],.bool false]) (by simp only[wantedE,upd_app,qa,↓reduceIte]; rfl) (by simp only[evsE,evE,upd_app,↓reduceIte]) c2 ?_)⟩)⟩
 rintro r H2 ⟨rfl,h2,_⟩
 have c3:=put_F h2 gC (by decide)
 rw[e3,p3] at c3
 refine⟨rfl,vcE.app (vcE.ex (by simp (disch:=first|assumption|omega) only[go_sem,↓reduceIte,qa,putE]; rfl) ⟨rfl,vcE.app (vcE.call (f:=11) (caps:=[]) (ys:=[.ptr (0+4) 0,.int .i64 2,.str [98],.bool false]) (by simp only[wantedE,upd_app,qa,↓reduceIte]; rfl) (by simp only[evsE,evE,upd_app,↓reduceIte]) c3 ?_)⟩)⟩
 rintro r H3 ⟨rfl,h3,_⟩
 have es:sortG [gA,gB,gC]=[gB,gC,gA]:=sortG_eq (by decide) (by decide) (by unfold UpG; decide)
 have em:matchS [97,98] [gA,gB,gC]=[1,3]:=by
  rw[matchS,es]
  kernel_rfl
 have c4:=match_F h3 (mostB_in _) [97,98] (by decide)
 rw[em] at c4
 refine⟨rfl,vcE.app (vcE.ex (by simp (disch:=first|assumption|omega) only[go_sem,↓reduceIte,qa,putE]; rfl) ⟨rfl,vcE.app (vcE.call (f:=12) (caps:=[]) (ys:=[.ptr (0+4) 0,.str [97,98]]) (by simp only[wantedE,upd_app,qa,↓reduceIte]; rfl) (by simp only[evsE,evE,upd_app,↓reduceIte]) c4 ?_)⟩)⟩
 rintro r H4 ⟨id,rfl,hb,_,_⟩
 have f1:frz (H4++[some (Blk.row 3 [.int .i64 1,.int .i64 3])]) (bld id 2 1)=some (encI.S [1,3]):=(hb.app [some (Blk.row 3 [.int .i64 1,.int .i64 3])]).frz
 have f2:frz (H4++[some (Blk.row 3 [.int .i64 1,.int .i64 3])]) (.sl H4.length 0 2 1 2 true)=some (encI.S [1,3]):=encI.sl_frz (e:=3) (l:=[1,3]) (lo:=2) (ex:=true) (by simp; rfl)
 have k1:S0 20 [encI.S [1,3],encI.S [1,3]]=some (.rd true (.bool true)):=S0_int (l:=[1,3]) (m:=[1,3]) (by decide)
 refine⟨rfl,vcE.ex (by simp (disch:=first|assumption|omega) only[go_sem,↓reduceIte,qa,Nat.reduceAdd,putE,↓f1,↓f2,k1]; rfl) ?_⟩
 refine vcE.e0 ?_
 exact⟨_,rfl,rfl⟩
end
section
set_option linter.unusedSectionVars false
variable [Mx]
open Go Go.Proofs
set_option maxRecDepth 100000 in
theorem arg_acts {n:Nat} {x:AV} (h:HasV qi (n+3) 33 x):∃ l:List ActI,x=encX.S l∧l.length≤reachBytes:=by
 refine has_slice encX Tryz.underlying33 (fun bs h=>?_) h
 rw[hasTB_of] at h
 simp only[HasTB,Tryz.underlying38,Tryz.underlying3,Tryz.underlying9,Tryz.underlying4,hasFs] at h
 obtain⟨_,_,rfl,⟨k,rfl,_⟩,_,_,rfl,⟨m,rfl,_⟩,_,_,rfl,⟨s1,rfl,_⟩,_,_,rfl,⟨b,rfl⟩,_,_,rfl,⟨s2,rfl,_⟩,rfl⟩:=h
 exact⟨⟨k,m,s1,b,s2⟩,rfl⟩
end
section
set_option linter.unusedSectionVars false
variable [Mx]
open Go Go.Proofs
def S1:Tab:=(S0.addR 8 .nil fun _=>.rd true (.bool true)).addO 15 (.cons (.S encX) .nil) fun p=>if p.1.length≤4611686018427387904 then some (.rd true (.bool (lightI p.1))) else none
theorem S1_ok:TabOk qi S1:=by
 refine xp (TabOk.addR S0_ok ?_) ?_
 ·exact fun _=>pLives
 ·intro p r h
  split at h
  ·rename_i hv; cases h; exact pLightI p.1 hv
  ·cases h
theorem S1_light {l:List ActI} (hl:l.length≤4611686018427387904):S1 15 [encX.S l]=some (.rd true (.bool (lightI l))):=
 (xe _ _ (.cons (.S encX) .nil) _ (l,())).trans (if_pos hl)
theorem S1_int {l m:List Int} (hl:l.length≤4611686018427387904):S1 20 [encI.S l,encI.S m]=some (.rd true (.bool (decide (l=m)))):=
 (qS _ _ _ _ rfl _).trans ((Tab.addR_ne _ _ _ _ rfl _).trans (S0_int hl))
theorem S1_gl {l m:List Gl} (hl:l.length≤4611686018427387904):S1 24 [encG.S l,encG.S m]=some (.rd true (.bool (decide (l=m)))):=
 (qS _ _ _ _ rfl _).trans ((Tab.addR_ne _ _ _ _ rfl _).trans (S0_gl hl))
def actsG (l:List ActI):List Gl:=l.foldl ActI.next []
theorem actsG_succ {l:List ActI} {i:Nat} {a:ActI} (h:l[i]? = some a):actsG (l.take (i+1))=a.next (actsG (l.take i)):=by
 rw[actsG,xn,h,List.foldl_append]
 rfl
theorem IxF.bound {b:Nat} {most:Int} {G:List Gl} {F:Nat→Prop} {hp:HP} (h:IxF b most G F hp):IxF b most G (fun k=>F k∧k<hp.length) hp:=by
 obtain⟨S,L,h,rfl,hF⟩:=h
 exact⟨S,L,h,rfl,fun k hk=>⟨hF k hk,h.lt hk⟩⟩
theorem BldAt.fr {α:Type} {E:Enc α} {hp H:HP} {id:Nat} {e:TypeId} {l:List α} (h:BldAt E hp id e l) (hf:id<hp.length→H[id]? = hp[id]?):BldAt E H id e l:=
 h.imp (fun h=>h) fun h=>by rw[hf (get_lt h)]; exact h
theorem sortG_small {G:List Gl} (h:GOk2 G):(sortG G).length≤200:=by rw[sortG_len]; exact h.len
theorem matchS_small {G:List Gl} (h:GOk2 G) (t:List UInt8):(matchS t G).length≤200:=by
 rw[matchS,qL]
 exact Nat.le_trans (List.length_filter_le _ _) (sortG_small h)
end
end Go.Gi
