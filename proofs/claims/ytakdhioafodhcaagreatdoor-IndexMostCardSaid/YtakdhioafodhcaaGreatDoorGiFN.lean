/- The classes of bytes: dfa.classes: what it gives. -/
/- Regions whose order is drawn, with several ways: each is followed. -/
/- Rows of states and their numbers: dfa.key, the closure of dfa.Build. -/
/- Results in memory of their own, also with slices in slices; raw appending. -/
import Derived.Test.YtakdhioafodhcaaGreatDoorGiRM
import Derived.Test.YtakdhioafodhcaaGreatDoorGiNfN
import Derived.Test.YtakdhioafodhcaaGreatDoorGiXA
import Derived.Test.YtakdhioafodhcaaGreatDoorGiSL
set_option linter.unusedVariables false
set_option linter.unusedSimpArgs false
namespace Go.Gi
open _root_.Go.Gi.BldAt renaming moreAt → ze
open _root_.Bool renaming false_eq_true → qA, not_false → xS, not_true → xB
open _root_.Go.Proofs.Tryz renaming prog → qi
open _root_.Int renaming ofNat_lt → qT
open _root_.Go.IntKind renaming wrap → qU
open _root_.List renaming getElem?_append_right → xh, getElem?_eq_some_iff → qf, getElem?_append_left → qm, getElem?_eq_getElem → qg, getElem?_set_self → xf, take_of_length_le → xg, length_singleton → qP, getElem?_set_ne → qv, mem_of_getElem? → xa, length_append → qo, append_assoc → qV, take_add_one → xn, length_cons → qr, cons_append → qZ, length_take → xd, take_length → xl, all_eq_true → xr, append_nil → qt, map_append → qC, length_map → qL, length_set → xU, drop_zero → xJ
open _root_.Nat renaming reduceEqDiff → qa, zero_add → qY, le_refl → qk
open _root_.Option renaming map_some → qh
open _root_.Go.Gi.TabOk renaming none → qJ
section
set_option linter.unusedSectionVars false
variable [Mx]
open Go Go.Proofs
theorem LiveB.keep {hp hp':HP} {v:AV} {l:List UInt8} (h:LiveB hp v l) (hk:∀ k,k<hp.length→hp'[k]? = hp[k]?):LiveB hp' v l:=by
 rcases h with h|⟨id,lo,ex,e,z,h1,h2⟩
 ·exact .inl h
 ·exact .inr ⟨id,lo,ex,e,z,h1,by rw[hk id (qf.1 h2).1]; exact h2⟩
theorem app_own {α:Type} {E:Enc α} {hp:HP} {id:Nat} {e:TypeId} {l m:List α} {ex:Bool} {bytes:Nat} {x:AV} (h:hp[id]? = some (some (.row e (E.cs l)))) (hx:srcA hp E.sz x=some (E.cs m,m.length)) (hm:0<m.length) (hb:(l.length+m.length)*bytes≤140737488355328) (hn:l.length+m.length≤9223372036854775807) :
  ∃ hp',appA e E.sz bytes hp (.sl id 0 l.length E.sz l.length ex) x=some (.sl hp.length 0 (l++m).length E.sz (l++m).length false,hp')∧hp'[hp.length]? = some (some (.row e (E.cs (l++m))))∧(∀ k,k≠id→k<hp.length→hp'[k]? = hp[k]?)∧hp'.length=hp.length+1:=by
 cases ex with
 | false =>
  refine⟨_,E.sl_app h hx hm hb hn,?_,?_,?_⟩
  ·rw[xh (by simp)]
   simp
  ·intro k hk hl
   rw[qm (by simpa using hl),qv (Ne.symm hk)]
  ·simp
 | true =>
  refine⟨hp++[some (.row e (E.cs (l++m)))],?_,?_,?_,?_⟩
  ·simp only[appA,hx,h]
   rw[if_neg (by omega),if_pos ⟨trivial,by rw[E.cs_len]; omega⟩,if_neg (by omega),if_pos ⟨hb,hn⟩,if_pos trivial]
   rw[xJ,xg (by rw[E.cs_len]; omega),E.cs_app,qo]
  ·simp
  ·intro k hk hl
   rw[qm hl]
  ·simp
theorem encI_cs (l:List Int):encI.cs l=l.map fun n=>.int .i64 n:=encI.cs_map1 (fun _=>rfl) l
theorem pClasses (p:List UInt8) (f:Bool) (hp:p.length≤1000):PCF qi 59 [.str p,.bool f] (.tup [.agg (encI.cs (clsL p f)),encI.S (someL p f)]):=by
 refine pcf_e hmG C1_ok comp59 (by rfl) (by simp) (nidL_ok rfl) ?_
 have hz:encI.cs (List.replicate 256 0)=List.replicate 256 (.int .i64 0):=by rw[encI_cs,List.map_replicate]
 unfold c59
 rw[show r59_0=[⟨some 4,.op (.alloc 110 (List.replicate 256 (.int .i64 0))),[],none⟩,⟨some 5,.op (.mov),[.c (.nils)],none⟩] from by kernel_rfl]
 rw[show r59_13=[⟨some 9,.op (.alloc 110 (List.replicate 256 (.int .i64 0))),[],none⟩] from by kernel_rfl]
 rw[← hz]
 generalize hZ:encI.cs (List.replicate 256 0)=Z
 -- by which function
 refine vcE.step (by simp (disch:=first|assumption|omega) only[go_sem,↓reduceIte,allocA]; rfl) (vcE.s1 (k:=vcE.then (fun e' tm' hp'=>e'=.normal∧hp'=[some (.row 110 Z)]∧tm' 0=.str p∧tm' 4=.ptr 0 0∧tm' 6=.func (fOf f) []) ?_ ?_))
 ·cases f
  ·refine vcE.e0 ?_
   exact⟨rfl,rfl,rfl,rfl,rfl⟩
  ·refine vcE.e0 ?_
   exact⟨rfl,rfl,rfl,rfl,rfl⟩
 rintro e' tm hp1 ⟨rfl,rfl,t0,t4,t6⟩
 have hof:=fun c=>C1_of f c
 generalize fOf f=g at t6 hof
 -- those that are named
 refine vcE.s1 (k:=vcE.then (fun e' tm' hp'=>e'=.normal∧∃ id,1≤id∧hp'[0]? = some (some (.row 110 Z))∧BldAt encB hp' id 5 (namedB p f)∧(namedB p f=[]∨id<hp'.length)∧1≤hp'.length∧tm' 4=.ptr 0 0∧tm' 6=.func g []∧tm' 7=bld id (namedB p f).length 1) ?_ ?_)
 ·refine vcE.step (by simp (disch:=first|assumption|omega) only[go_sem,↓reduceIte,reduceCtorEq,t0]; rfl) (vcE.block (vcE.loop (by intro l tm hp h; simp at h) (fun k tm' hp' => ∃ i id:Nat,k=p.length - i∧i≤p.length∧1≤id∧hp'[0]? = some (some (.row 110 Z))∧BldAt encB hp' id 5 (namedB (p.take i) f)∧(namedB (p.take i) f=[]∨id<hp'.length)∧1≤hp'.length∧tm' 0=.str p∧tm' 4=.ptr 0 0∧tm' 6=.func g []∧tm' 7=bld id (namedB (p.take i) f).length 1∧tm' 18=.int .i64 p.length∧tm' 19=.int .i64 (i:Int)) p.length ⟨0,1,rfl,Nat.zero_le _,qk _,rfl,.inl rfl,.inl rfl,by simp,?_,?_,?_,?_,?_,?_⟩ ?_))
  ·first|(simp only[upd_app,qa,↓reduceIte,t0]; done)|(simp only[upd_app,qa,↓reduceIte,t0,t4,t6]; rfl)
  ·first|(simp only[upd_app,qa,↓reduceIte,t4]; done)|(simp only[upd_app,qa,↓reduceIte,t0,t4,t6]; rfl)
  ·first|(simp only[upd_app,qa,↓reduceIte,t6]; done)|(simp only[upd_app,qa,↓reduceIte,t0,t4,t6]; rfl)
  ·first|(simp only[upd_app,qa,↓reduceIte]; done)|(simp only[upd_app,qa,↓reduceIte]; rfl)
  ·first|(simp only[upd_app,qa,↓reduceIte]; done)|(simp only[upd_app,qa,↓reduceIte,t0,t4,t6]; rfl)
  ·first|(simp only[upd_app,↓reduceIte]; done)|(simp only[upd_app,↓reduceIte]; rfl)
  clear t0 t4 t6
  rintro k tm hp1 ⟨i,id,rfl,hi,hid,hr0,hb,hbl,hl1,t0,t4,t6,t7,t18,t19⟩
  by_cases hlt:i<p.length
  rotate_left
  ·have:i=p.length:=by omega
   subst this
   rw[xl] at hb hbl t7
   refine vcE.ex (by simp (disch:=first|assumption|omega) only[go_sem,↓reduceIte,t19,t18,qT,hlt,decide_false]; rfl) ?_
   refine⟨rfl,id,hid,hr0,hb,hbl,hl1,?_,?_,?_⟩
   all_goals simp only[upd_app,qa,↓reduceIte,t4,t6,t7]
  have hg:=qg hlt
  generalize hc:p[i]=c at hg
  have hix:indexSA (.str p) (.int .i64 (i:Int))=some (.int .u8 c.toNat):=idx_str hg
  have n42:binA .neq .prim (.int .u8 (c.toNat:Int)) (.int .u8 42)=some (.bool (!decide (c=42))):=neB c 42
  have n63:binA .neq .prim (.int .u8 (c.toNat:Int)) (.int .u8 63)=some (.bool (!decide (c=63))):=neB c 63
  have htk:p.take (i+1)=p.take i++[c]:=by rw[xn,hg]; rfl
  have hnm:namedB (p.take (i+1)) f=namedB (p.take i) f++(if keepB c then [ofB f c] else []):=by
   rw[htk,namedB,List.filter_append,qC]
   congr 1
   cases hk:keepB c<;>simp[hk]
  have w1:=natW (x:=(i:Int)+1) (i+1) (by omega) (by omega)
  have skip:keepB c=false→∀ {tm:Env},tm 0=.str p→tm 4=.ptr 0 0→tm 6=.func g []→tm 7=bld id (namedB (p.take i) f).length 1→tm 18=.int .i64 p.length→tm 19=.int .i64 ((i+1:Nat):Int)→∃ k',k'<p.length - i∧∃ i id:Nat,k'=p.length - i∧i≤p.length∧1≤id∧hp1[0]? = some (some (.row 110 Z))∧BldAt encB hp1 id 5 (namedB (p.take i) f)∧(namedB (p.take i) f=[]∨id<hp1.length)∧1≤hp1.length∧tm 0=.str p∧tm 4=.ptr 0 0∧tm 6=.func g []∧tm 7=bld id (namedB (p.take i) f).length 1∧tm 18=.int .i64 p.length∧tm 19=.int .i64 (i:Int):=by
   intro hk tm u0 u4 u6 u7 u18 u19
   rw[hk] at hnm
   simp only[qA,if_false,qt] at hnm
   exact⟨p.length - (i+1),by omega,i+1,id,rfl,by omega,hid,hr0,by rw[hnm]; exact hb,by rw[hnm]; exact hbl,hl1,u0,u4,u6,by rw[hnm]; exact u7,u18,u19⟩
  by_cases h42:c=42
  ·rw[decide_eq_true h42,xB] at n42
   refine vcE.ex (by simp (disch:=first|assumption|omega) only[go_sem,↓reduceIte,t19,t18,qT,hlt,qa,reduceCtorEq,t0,↓hix,↓n42,w1]; rfl) ?_
   refine skip (by simp[keepB,h42]) ?_ ?_ ?_ ?_ ?_ ?_
   all_goals simp only[upd_app,qa,↓reduceIte,t0,t4,t6,t7,t18]
  rw[decide_eq_false h42,xS] at n42
  by_cases h63:c=63
  ·rw[decide_eq_true h63,xB] at n63
   refine vcE.ex (by simp (disch:=first|assumption|omega) only[go_sem,↓reduceIte,t19,t18,qT,hlt,qa,reduceCtorEq,t0,↓hix,↓n42,↓n63,w1]; rfl) ?_
   refine skip (by simp[keepB,h63]) ?_ ?_ ?_ ?_ ?_ ?_
   all_goals simp only[upd_app,qa,↓reduceIte,t0,t4,t6,t7,t18]
  rw[decide_eq_false h63,xS] at n63
  have hk:keepB c=true:=by simp[keepB,h42,h63]
  rw[hk] at hnm
  simp only[if_true] at hnm
  have hlen:=namedB_len (p.take i) f
  have hlen2:(p.take i).length≤1000:=by rw[xd]; omega
  have happ:=(hb.app [some (.row 5 [.int .u8 (ofB f c).toNat])]).more (bytes:=1) (m:=[ofB f c]) (src_byte (ex:=true)) (by simp) (by simp; omega) (by simp; omega)
  simp only[show encB.sz=1 from rfl] at happ
  have hat:=ze encB (hp1++[some (Blk.row 5 [.int .u8 (ofB f c).toNat])]) id (namedB (p.take i) f).length 5 (namedB (p.take i) f++[ofB f c])
  have hl2:=bldH_len (hp1++[some (Blk.row 5 [.int .u8 (ofB f c).toNat])]) id (namedB (p.take i) f).length (Blk.row 5 (encB.cs (namedB (p.take i) f++[ofB f c])))
  have h02:=bldH_other (b:=Blk.row 5 (encB.cs (namedB (p.take i) f++[ofB f c]))) (app_get (new:=[some (Blk.row 5 [.int .u8 (ofB f c).toNat])]) hr0) (id:=id) (len:=(namedB (p.take i) f).length) (.inr (by omega))
  have ho:=hof c
  rw[← hnm] at happ hat hl2 h02
  refine vcE.ex (by simp (disch:=first|assumption|omega) only[go_sem,↓reduceIte,t19,t18,qT,hlt,qa,reduceCtorEq,t0,↓hix,↓n42,↓n63,t7,t6,frzL.eq_2,ho,nidL.eq_2,↓happ,w1]; rfl) ?_
  refine⟨p.length - (i+1),by omega,i+1,(hp1++[some (Blk.row 5 [.int .u8 (ofB f c).toNat])]).length,rfl,by omega,by simp,h02,hat,.inr (by rw[hl2]; omega),by rw[hl2]; omega,?_,?_,?_,?_,?_,?_⟩
  all_goals simp only[upd_app,qa,↓reduceIte,t0,t4,t6,t18]
 clear t0 t4 t6
 rintro e' tm hp1 ⟨rfl,id,hid,hr0,hb,hbl,hl1,t4,t6,t7⟩
 have hnl:=namedB_len p f
 -- sorted
 have hbv:bld id (namedB p f).length 1=bld id (namedB p f).length encB.sz:=rfl
 have hsrt0:Srt elB 5 id hp1 hp1 (namedB p f).toArray:=Srt.refl (hb.imp (fun h=>by rw[h]; rfl) fun h=>by rw[h]; rfl)
 have hsla:SlA id (namedB p f).toArray (bld id (namedB p f).length 1):=by
  refine⟨fun i hi=>?_,by rw[List.size_toArray]; omega⟩
  rw[List.size_toArray] at hi
  rw[bld_pos (by omega)]
  exact iaddr_sl1 hi
 refine vcE.then (fun e' tm' hp'=>e'=.normal∧Srt elB 5 id hp' hp' (sortB (namedB p f)).toArray∧hp'[0]? = some (some (.row 110 Z))∧1≤hp'.length∧tm' 4=.ptr 0 0∧tm' 6=.func g []∧tm' 7=bld id (namedB p f).length 1) ?_ ?_
 ·rw[show r59_11=r59_11.take 1++r59_11.drop 1 from rfl]
  refine vcE.app (vcE.ex (by simp (disch:=first|assumption|omega) only[go_sem,↓reduceIte,t7]; rfl) ⟨rfl,vcE.call (f:=88) (caps:=[]) (ys:=[bld id (namedB p f).length 1]) rfl ?_ (srt_calls hmG C1_ok C1_less swoB srtB comp88 hsrt0 hsla (fun hp=>by rw[bld_len,List.size_toArray]) (bld_fits _ _ _)) ?_⟩)
  ·simp only[evsE,evE,upd_app,↓reduceIte]
  rintro r hp' hd
  obtain⟨rfl,hs⟩:=Done.eq swoB ltB_tot hd
  refine⟨rfl,Srt.refl hs.row,?_,?_,?_,?_,?_⟩
  ·rw[hs.oth 0 (by omega) (by omega)]
   exact hr0
  ·have:=hs.len
   omega
  all_goals simp only[putE,upd_app,qa,↓reduceIte,t4,t6,t7]
 clear t4 t6 t7 hsrt0 hsla hb hbl hr0 hl1 hp1
 rintro e' tm hp1 ⟨rfl,hs,hr0,hl1,t4,t6,t7⟩
 -- one of each
 refine vcE.then (fun e' tm' hp'=>e'=.normal∧∃ kv,LiveB hp' kv (keysB p f)∧hp'[0]? = some (some (.row 110 Z))∧1≤hp'.length∧tm' 4=.ptr 0 0∧tm' 6=.func g []∧tm' 7=kv) ?_ ?_
 ·rw[show r59_12=r59_12.take 1++(r59_12.drop 1).take 1++r59_12.drop 2 from rfl]
  refine vcE.app (vcE.app (vcE.ex (by simp (disch:=first|assumption|omega) only[go_sem,↓reduceIte,t7]; rfl) ⟨rfl,vcE.call (f:=89) (caps:=[]) (ys:=[bld id (namedB p f).length 1]) rfl ?_ (cmp_calls (N:=(namedB p f).length) (by rw[List.size_toArray,sortB_len]) rfl hs (by omega)) ?_⟩))
  ·simp only[evsE,evE,upd_app,↓reduceIte]
  rintro r hp' ⟨hlv,hoth,hlen⟩
  refine⟨rfl,vcE.ex (by simp (disch:=first|assumption|omega) only[go_sem,↓reduceIte,putE]; rfl) ?_⟩
  refine⟨rfl,r,hlv,?_,by omega,?_,?_,?_⟩
  ·rw[hoth 0 (by omega)]
   exact hr0
  all_goals simp only[upd_app,qa,↓reduceIte,t4,t6]
 clear t4 t6 t7 hs hr0 hl1 hp1
 rintro e' tm hp1 ⟨rfl,kv,hlv,hr0,hl1,t4,t6,t7⟩
 have hrise:=keysB_rise p f
 have hkl:=keysB_len p f
 generalize hks:keysB p f=ks at *
 -- a byte of each class
 have hmo:∀ hp:HP,srcA (hp++[some (.row 3 [.int .i64 (-1)])]) 1 (.sl hp.length 0 1 1 1 true)=some (encI.cs [-1],1):=fun hp=>src_int
 refine vcE.step (by simp (disch:=first|assumption|omega) only[go_sem,↓reduceIte,allocA]; rfl) (vcE.s0 ?_)
 generalize hn0:hp1.length=n0 at *
 have hkeep1:∀ k,k<n0→(hp1++[some (.row 110 Z)]++[some (.row 3 [.int .i64 (-1)])])[k]? = hp1[k]?:=by
  intro k hk
  rw[qV,qm (by omega)]
 have harr1:(hp1++[some (.row 110 Z)]++[some (.row 3 [.int .i64 (-1)])])[n0]? = some (some (.row 110 Z)):=by
  rw[qV,xh (by omega)]
  simp[hn0]
 have hsid1:(hp1++[some (.row 110 Z)]++[some (.row 3 [.int .i64 (-1)])])[n0+1]? = some (some (.row 3 (encI.cs [-1]))):=by
  rw[xh (by simp; omega)]
  simp[hn0]
  rfl
 generalize hp1++[some (.row 110 Z)]++[some (.row 3 [.int .i64 (-1)])]=hp2 at *
 have hlen2:n0+1<hp2.length:=(qf.1 hsid1).1
 refine vcE.then (fun e' tm' hp'=>e'=.normal∧∃ sid l ex,l = -1 :: ks.map (fun c=>(c.toNat:Int))∧hp'[sid]? = some (some (.row 3 (encI.cs l)))∧n0<sid∧hp'[n0]? = some (some (.row 110 Z))∧(∀ k,k<n0→hp'[k]? = hp1[k]?)∧tm' 4=.ptr 0 0∧tm' 6=.func g []∧tm' 7=kv∧tm' 9=.ptr n0 0∧tm' 10=.sl sid 0 l.length 1 l.length ex) ?_ ?_
 ·have hln:=hlv.len (hp':=hp2)
  have hlf:lenFits .slice kv=true:=by
   rcases hlv with ⟨_,rfl⟩|⟨_,_,_,_,_,rfl,_⟩<;>rfl
  refine vcE.step (by simp (disch:=first|assumption|omega) only[go_sem,↓reduceIte,qa,t7,hln,hlf]; rfl) (vcE.block (vcE.loop (by intro l tm hp h; simp at h) (fun k tm' hp' => ∃ (i sid:Nat) (l:List Int) (ex:Bool),k=ks.length - i∧i≤ks.length∧l = -1 :: (ks.take i).map (fun c=>(c.toNat:Int))∧hp'[sid]? = some (some (.row 3 (encI.cs l)))∧n0<sid∧hp'[n0]? = some (some (.row 110 Z))∧(∀ k,k<n0→hp'[k]? = hp1[k]?)∧tm' 4=.ptr 0 0∧tm' 6=.func g []∧tm' 7=kv∧tm' 9=.ptr n0 0∧tm' 10=.sl sid 0 l.length 1 l.length ex∧tm' 46=kv∧tm' 47=.int .i64 (ks.length:Int)∧tm' 48=.int .i64 (i:Int)) ks.length ⟨0,n0+1,[-1],true,rfl,Nat.zero_le _,rfl,hsid1,by omega,harr1,hkeep1,?_,?_,?_,?_,?_,?_,?_,?_⟩ ?_))
  ·first|(simp only[upd_app,qa,↓reduceIte,t4]; done)|(simp only[upd_app,qa,↓reduceIte,t4,t6,t7,hn0]; rfl)
  ·first|(simp only[upd_app,qa,↓reduceIte,t6]; done)|(simp only[upd_app,qa,↓reduceIte,t4,t6,t7,hn0]; rfl)
  ·first|(simp only[upd_app,qa,↓reduceIte,t7]; done)|(simp only[upd_app,qa,↓reduceIte,t4,t6,t7,hn0]; rfl)
  ·first|(simp only[upd_app,qa,↓reduceIte]; done)|(simp only[upd_app,qa,↓reduceIte,t4,t6,t7,hn0]; rfl)
  ·simp only[upd_app,qa,↓reduceIte,qo,qP,hn0]
  ·first|(simp only[upd_app,qa,↓reduceIte]; done)|(simp only[upd_app,qa,↓reduceIte,t4,t6,t7,hn0]; rfl)
  ·first|(simp only[upd_app,qa,↓reduceIte]; done)|(simp only[upd_app,qa,↓reduceIte,t4,t6,t7,hn0]; rfl)
  ·first|(simp only[upd_app,↓reduceIte]; done)|(simp only[upd_app,↓reduceIte]; rfl)
  clear t4 t6 t7 hsid1 harr1 hkeep1 hlen2 hln
  rintro k tm hp3 ⟨i,sid,l,ex,rfl,hi,hl,hsd,hns,harr,hkeep,t4,t6,t7,t9,t10,t46,t47,t48⟩
  by_cases hlt:i<ks.length
  rotate_left
  ·have:i=ks.length:=by omega
   subst this
   rw[xl] at hl
   refine vcE.ex (by simp (disch:=first|assumption|omega) only[go_sem,↓reduceIte,t48,t47,qT,hlt,decide_false]; rfl) ?_
   refine⟨rfl,sid,l,ex,hl,hsd,hns,harr,hkeep,?_,?_,?_,?_,?_⟩
   all_goals simp only[upd_app,qa,↓reduceIte,t4,t6,t7,t9,t10]
  have hg:=qg hlt
  generalize ks[i]=c at hg
  obtain⟨pp,y1,y2⟩:=(hlv.keep (hp':=hp3) (fun k hk=>hkeep k (by omega))).at_ hg
  have hcl:=c.toNat_lt
  have wc:qU .i64 (c.toNat:Int)=(c.toNat:Int):=wrap_i64 (by omega) (by omega)
  have w1:=natW (x:=(i:Int)+1) (i+1) (by omega) (by omega)
  have hll:l.length≤2000:=by
   rw[hl,qr,qL,xd]
   omega
  obtain⟨hp4,happ,hnew,hoth,hle4⟩:=app_own (E:=encI) (ex:=ex) (bytes:=8) (m:=[(c.toNat:Int)]) (app_get (new:=[some (Blk.row 3 [.int .i64 (c.toNat:Int)])]) hsd) (src_int (ex:=true)) (by simp) (by simp; omega) (by simp; omega)
  simp only[show encI.sz=1 from rfl] at happ
  have hsl:=(qf.1 hsd).1
  refine vcE.ex (by simp (disch:=first|assumption|omega) only[go_sem,↓reduceIte,t48,t47,qT,hlt,qa,t46,↓y1,↓y2,t10,wc,↓happ,w1]; rfl) ?_
  refine⟨ks.length - (i+1),by omega,i+1,_,_,false,rfl,by omega,?_,hnew,by simp; omega,?_,?_,?_,?_,?_,?_,?_,?_,?_,?_⟩
  ·rw[hl,xn,hg]
   simp
  ·rw[hoth n0 (by omega) (by simp; omega)]
   exact app_get harr
  ·intro k hk
   rw[hoth k (by omega) (by simp; omega),qm (by omega)]
   exact hkeep k hk
  all_goals simp only[upd_app,qa,↓reduceIte,t4,t6,t7,t9,t46,t47]
 clear t4 t6 t7 hsid1 harr1 hkeep1 hlen2 hp2
 rintro e' tm hp2 ⟨rfl,sid,l,ex,hl,hsd,hns,harr,hkeep,t4,t6,t7,t9,t10⟩
 -- each byte
 have hll:l.length=ks.length+1:=by rw[hl,qr,qL]
 refine vcE.then (fun e' tm' hp'=>e'=.normal∧hp'[sid]? = some (some (.row 3 (encI.cs (zeroTo ks f 256 :: ks.map fun c=>(c.toNat:Int)))))∧hp'[n0]? = some (some (.row 110 (encI.cs (clsTo ks f 256))))∧hp'[0]? = some (some (.row 110 Z))∧tm' 4=.ptr 0 0∧tm' 9=.ptr n0 0∧tm' 10=.sl sid 0 (ks.length+1) 1 l.length ex) ?_ ?_
 ·rw[hll] at t10
  refine vcE.s1 (k:=vcE.block (vcE.loop (by intro l tm hp h; simp at h) (fun k tm' hp' => ∃ i:Nat,k=256 - i∧i≤256∧hp'[sid]? = some (some (.row 3 (encI.cs (zeroTo ks f i :: ks.map fun c=>(c.toNat:Int)))))∧hp'[n0]? = some (some (.row 110 (encI.cs (clsTo ks f i))))∧(∀ k,k<n0→hp'[k]? = hp1[k]?)∧tm' 4=.ptr 0 0∧tm' 6=.func g []∧tm' 7=kv∧tm' 9=.ptr n0 0∧tm' 10=.sl sid 0 (ks.length+1) 1 l.length ex∧tm' 58=.int .i64 (i:Int)) 256 ⟨0,rfl,Nat.zero_le _,by rw[hsd,hl]; rfl,by rw[harr,clsTo_zero,hZ],hkeep,?_,?_,?_,?_,?_,?_⟩ ?_))
  ·simp only[upd_app,qa,↓reduceIte,t4]
  ·simp only[upd_app,qa,↓reduceIte,t6]
  ·simp only[upd_app,qa,↓reduceIte,t7]
  ·simp only[upd_app,qa,↓reduceIte,t9]
  ·simp only[upd_app,qa,↓reduceIte,t10,hll]
  ·simp only[upd_app,↓reduceIte]
   rfl
  clear t4 t6 t7 t9 t10 hsd harr hkeep
  rintro k tm hp3 ⟨i,rfl,hi,hsd,harr,hkeep,t4,t6,t7,t9,t10,t58⟩
  by_cases hlt:i<256
  rotate_left
  ·have:i=256:=by omega
   subst this
   refine vcE.ex (by simp (disch:=first|assumption|omega) only[go_sem,↓reduceIte,t58]; rfl) ?_
   refine⟨rfl,hsd,harr,by rw[hkeep 0 (by omega)]; exact hr0,?_,?_,?_⟩
   all_goals simp only[upd_app,qa,↓reduceIte,t4,t9,t10]
  have hlt':(i:Int)<256:=by omega
  have hlv3:=hlv.keep (hp':=hp3) (fun k hk=>hkeep k (by omega))
  have hfz:=hlv3.frz
  have wu:qU .u8 (i:Int)=((UInt8.ofNat i).toNat:Int):=by
   rw[wrap_u8 (by omega) (by omega),UInt8.toNat_ofNat']
   omega
  have ho:=hof (UInt8.ofNat i)
  have hb:=C1_bin ks (ofB f (UInt8.ofNat i)) hrise (by omega)
  have w1:=natW (x:=(i:Int)+1) (i+1) (by omega) (by omega)
  have hlow:lowB ks (ofB f (UInt8.ofNat i))≤ks.length:=by
   rw[lowB]
   exact List.length_filter_le _ _
  have w2:=natW (x:=((lowB ks (ofB f (UInt8.ofNat i)):Nat):Int)+1) (lowB ks (ofB f (UInt8.ofNat i))+1) (by omega) (by omega)
  have hsl:=(qf.1 hsd).1
  have hnl:=(qf.1 harr).1
  cases his:isB ks (ofB f (UInt8.ofNat i))<;>rw[his] at hb
  ·have y1:iaddrA 1 (.sl sid 0 (ks.length+1) 1 l.length ex) (.int .i64 0)=some (.ptr sid 0):=iaddr_sl1 (i:=0) (by omega)
   have st:=encI.sl_store1 (e:=3) (id:=sid) (hp:=hp3) rfl hsd (i:=0) (by simp) (b:=(i:Int)) (v:=.int .i64 (i:Int)) rfl (fun vs h=>by cases h)
   refine vcE.ex (by simp (disch:=first|assumption|omega) only[go_sem,↓reduceIte,t58,hlt',qa,t7,t6,wu,frzL.eq_2,ho,nidL.eq_2,hfz,hb,t10,↓y1,↓st,w1]; rfl) ?_
   refine⟨256 - (i+1),by omega,i+1,rfl,by omega,?_,?_,?_,?_,?_,?_,?_,?_,?_⟩
   ·rw[xf hsl,zeroTo,if_neg (by rw[his]; simp)]
   ·rw[qv (by omega),harr,clsTo_same _ _ _ his]
   ·intro k hk
    rw[qv (by omega)]
    exact hkeep k hk
   all_goals simp only[upd_app,qa,↓reduceIte,t4,t6,t7,t9,t10]
  ·have y1:aaddrA 256 1 (.ptr n0 0) (.int .i64 (i:Int))=some (.ptr n0 i):=by
    simp only[aaddrA]
    rw[if_pos (by omega)]
    simp[faddrA]
   have st:=encI.sl_store1 (e:=110) (id:=n0) (hp:=hp3) rfl harr (i:=i) (by rw[clsTo_len]; omega) (b:=((lowB ks (ofB f (UInt8.ofNat i))+1:Nat):Int)) (v:=.int .i64 ((lowB ks (ofB f (UInt8.ofNat i))+1:Nat):Int)) rfl (fun vs h=>by cases h)
   refine vcE.ex (by simp (disch:=first|assumption|omega) only[go_sem,↓reduceIte,t58,hlt',qa,t7,t6,wu,frzL.eq_2,ho,nidL.eq_2,hfz,hb,w2,t9,↓y1,↓st,w1]; rfl) ?_
   refine⟨256 - (i+1),by omega,i+1,rfl,by omega,?_,?_,?_,?_,?_,?_,?_,?_,?_⟩
   ·rw[qv (by omega),zeroTo,if_pos his]
    exact hsd
   ·have:clsOf ks f (UInt8.ofNat i)=lowB ks (ofB f (UInt8.ofNat i))+1:=by rw[clsOf,if_pos his]
    rw[xf hnl,← clsTo_set,this]
   ·intro k hk
    rw[qv (by omega)]
    exact hkeep k hk
   all_goals simp only[upd_app,qa,↓reduceIte,t4,t6,t7,t9,t10]
 clear t4 t6 t7 t9 t10 hsd harr hkeep hp2
 rintro e' tm hp2 ⟨rfl,hsd,harr,h0,t4,t9,t10⟩
 have hcl:=clsTo_len ks f 256
 have hcc:(encI.cs (clsTo ks f 256)).length=256:=by rw[encI_cs,qL,hcl]
 have hZl:Z.length=256:=by rw[← hZ,encI_cs,qL,List.length_replicate]
 have hpk:pickA (some 256) (encI.cs (clsTo ks f 256)) 0=some (.agg (encI.cs (clsTo ks f 256))):=by
  simp only[pickA]
  rw[if_pos (by omega),xJ,xg (by omega)]
 have hst:storeA hp2 256 (.ptr 0 0) (.agg (encI.cs (clsTo ks f 256)))=some (hp2.set 0 (some (.row 110 (encI.cs (clsTo ks f 256))))):=by
  have ho:over Z 0 (encI.cs (clsTo ks f 256))=encI.cs (clsTo ks f 256):=by
   rw[over,List.take_zero,List.nil_append,List.drop_eq_nil_of_le (by omega),qt]
  simp only[storeA,h0,cellsA,hcc,hZl,ho,qY,qk,and_self,if_true]
 have h0l:=(qf.1 h0).1
 have hset:(hp2.set 0 (some (.row 110 (encI.cs (clsTo ks f 256)))))[0]? = some (some (.row 110 (encI.cs (clsTo ks f 256)))):=xf h0l
 have hset2:(hp2.set 0 (some (.row 110 (encI.cs (clsTo ks f 256)))))[sid]? = some (some (.row 3 (encI.cs (zeroTo ks f 256 :: ks.map fun c=>(c.toNat:Int))))):=by
  rw[qv (by omega)]
  exact hsd
 refine vcE.ex (by simp (disch:=first|assumption|omega) only[go_sem,↓reduceIte,qa,t4,t9,t10,harr,↓hpk,↓hst]; rfl) ?_
 refine⟨.tup [.agg (encI.cs (clsTo ks f 256)),.sl sid 0 (ks.length+1) 1 l.length ex],?_,?_⟩
 ·simp only[resE,resEL,resE1,upd_app,qa,↓reduceIte,t4,loadA,rowA,hset,hpk]
 ·have f2:=encI.sl_fresh (lo:=l.length) (ex:=ex) hset2
  rw[qr,qL] at f2
  have f1:∀ (hp:HP) (l:List Int),freshL hp (encI.cs l)=some (encI.cs l):=by
   intro hp l
   rw[encI_cs]
   induction l with
   | nil=>rfl
   | cons a l ih =>
    rw[List.map_cons]
    simp only[freshL,ih]
    rfl
  show fresh _ (.tup _)=_
  rw[fresh_tup]
  simp only[freshL,fresh_agg,f1]
  rw[show encI.sz=1 from rfl] at f2
  rw[f2]
  simp only[clsL,someL,hks]
end
section
set_option linter.unusedSectionVars false
variable [Mx]
open Go
mutual
def exT (w:Cls) (T:Tab) (is:List IOp):Tr→Env→HP→(Env→HP→Prop)→Prop
 | .done,tm,hp,K=>K tm hp
 | .take i t,tm,hp,K=>match is[i]? with
  | none=>exT w T is t tm hp K
  | some o => ∃ r,exOp w T o tm hp=some r∧exT w T is t r.1 r.2 K
 | .fork l,tm,hp,K=>exTs w T is l tm hp K
def exTs (w:Cls) (T:Tab) (is:List IOp):List (Nat × Tr)→Env→HP→(Env→HP→Prop)→Prop
 | [],_,_,_=>True
 | (i,t) :: l,tm,hp,K=>(match is[i]? with
  | none=>exT w T is t tm hp K
  | some o => ∃ r,exOp w T o tm hp=some r∧exT w T is t r.1 r.2 K)∧exTs w T is l tm hp K
end
mutual
theorem exT_vops {P:Program} {T:Tab} (hT:TabOk P T) {w:Cls} {n:Nat} {is:List IOp} (hr:is.all (·.inR n)=true) {K:Env→HP→Prop} {Q:St→Prop} (hq:∀ tm' hp' l',Is n tm' l'→K tm' hp'→Q ⟨l',hp'⟩):∀ (t:Tr) {tm:Env} {hp:HP} {l:List AV},Is n tm l→exT w T is t tm hp K→vopsT P w is t ⟨l,hp⟩ Q
 | .done,tm,hp,l,hl,h=>by
  simp only[exT] at h
  simp only[vopsT]
  exact hq _ _ _ hl h
 | .take i t,tm,hp,l,hl,h=>by
  simp only[exT] at h
  simp only[vopsT,opA1]
  cases hi:is[i]? with
  | none =>
   rw[hi] at h
   exact exT_vops hT hr hq t hl h
  | some o =>
   rw[hi] at h
   obtain⟨⟨tm1,hp1⟩,h1,h2⟩:=h
   have ho:o.inR n=true:=xr.1 hr o (xa hi)
   obtain⟨v,h3,h4⟩:=exOp_yields (w:=w) hT ho hl h1
   exact .inl ⟨v,hp1,h3,exT_vops hT hr hq t h4 h2⟩
 | .fork ls,tm,hp,l,hl,h=>by
  simp only[exT] at h
  simp only[vopsT]
  exact exTs_vops hT hr hq ls hl h
theorem exTs_vops {P:Program} {T:Tab} (hT:TabOk P T) {w:Cls} {n:Nat} {is:List IOp} (hr:is.all (·.inR n)=true) {K:Env→HP→Prop} {Q:St→Prop} (hq:∀ tm' hp' l',Is n tm' l'→K tm' hp'→Q ⟨l',hp'⟩):∀ (ls:List (Nat × Tr)) {tm:Env} {hp:HP} {l:List AV},Is n tm l→exTs w T is ls tm hp K→vopsTs P w is ls ⟨l,hp⟩ Q
 | [],tm,hp,l,hl,h=>by simp only[vopsTs]
 | (i,t) :: ls,tm,hp,l,hl,h=>by
  simp only[exTs] at h
  simp only[vopsTs,opA]
  refine⟨?_,exTs_vops hT hr hq ls hl h.2⟩
  have h:=h.1
  cases hi:is[i]? with
  | none =>
   rw[hi] at h
   exact exT_vops hT hr hq t hl h
  | some o =>
   rw[hi] at h
   obtain⟨⟨tm1,hp1⟩,h1,h2⟩:=h
   have ho:o.inR n=true:=xr.1 hr o (xa hi)
   obtain⟨v,h3,h4⟩:=exOp_yields (w:=w) hT ho hl h1
   exact .inl ⟨v,hp1,h3,exT_vops hT hr hq t h4 h2⟩
end
theorem vcE.forks {P:Program} {hint:Nat→Nat} {T:Tab} {n:Nat} {w:Cls} {is:List IOp} {t:Tr} {tm:Env} {hp:HP} {Q:Exit→Env→HP→Prop} (K:Env→HP→Prop) (h:exT w T is t tm hp K) (k:∀ tm' hp',K tm' hp'→Q .normal tm' hp'):vcE P hint T n (.regD w is t) tm hp Q:=
 vcE.drawn fun l Q' hl hq hT hr=>exT_vops hT hr (fun tm' hp' l' h1 h2=>hq _ _ _ h1 (k _ _ h2)) t hl h
section
variable {w:Cls} {T:Tab} {is:List IOp} {i:Nat} {t:Tr} {l:List (Nat × Tr)} {o:IOp} {tm tm':Env} {hp hp':HP} {K:Env→HP→Prop}
theorem exT_done (h:K tm hp):exT w T is .done tm hp K:=by simp only[exT]; exact h
theorem exT_take (hi:is[i]? = some o) (h1:exOp w T o tm hp=some (tm',hp')) (h2:exT w T is t tm' hp' K):exT w T is (.take i t) tm hp K:=by
 simp only[exT,hi]
 exact⟨_,h1,h2⟩
theorem exT_fork (h:exTs w T is l tm hp K):exT w T is (.fork l) tm hp K:=by simp only[exT]; exact h
theorem exTs_nil:exTs w T is [] tm hp K:=by simp only[exTs]
theorem exTs_cons (hi:is[i]? = some o) (h1:exOp w T o tm hp=some (tm',hp')) (h2:exT w T is t tm' hp' K) (h3:exTs w T is l tm hp K):exTs w T is ((i,t) :: l) tm hp K:=by
 simp only[exTs,hi]
 exact⟨⟨_,h1,h2⟩,h3⟩
end
end
section
set_option linter.unusedSectionVars false
variable [Mx]
open Go Go.Proofs
def keyI (l:List Int):List UInt8:=l.map fun n=>UInt8.ofNat (n % 256).toNat
theorem wrap8 (n:Int):qU .u8 n=((UInt8.ofNat (n % 256).toNat).toNat:Int):=by
 have h:qU .u8 n=n % 256:=by simp[qU,IntKind.bits,IntKind.signed]
 rw[h,UInt8.toNat_ofNat']
 omega
theorem pKey (l:List Int) (hl:l.length≤1000000):PCF qi 61 [encI.S l] (.str (keyI l)):=by
 refine pcf_e hmG (qJ _) comp61 (by decide) (by simp) (nidL_ok (by simp only[nidL,Enc.S_nid,Bool.and_self])) ?_
 refine vcE.s1 (k:=vcE.s1 (k:=vcE.then (fun e' tm' hp'=>e'=.normal∧∃ id,BldAt encB hp' id 5 (keyI l)∧tm' 3=bld id (keyI l).length 1) ?_ ?_))
 ·refine vcE.s1 (k:=vcE.block (vcE.loop (by intro l tm hp h; simp at h) (fun k tm' hp' => ∃ i id:Nat,k=l.length - i∧i≤l.length∧BldAt encB hp' id 5 (keyI (l.take i))∧tm' 3=bld id (keyI (l.take i)).length 1∧tm' 6=encI.S l∧tm' 7=.int .i64 l.length∧tm' 8=.int .i64 (i:Int)) l.length ⟨0,0,rfl,Nat.zero_le _,.inl rfl,?_,?_,?_,?_⟩ ?_))
  ·first|(simp only[upd_app,qa,↓reduceIte]; done)|(simp only[upd_app,qa,↓reduceIte]; rfl)
  ·first|(simp only[upd_app,qa,↓reduceIte]; done)|(simp only[upd_app,qa,↓reduceIte]; rfl)
  ·first|(simp only[upd_app,qa,↓reduceIte]; done)|(simp only[upd_app,qa,↓reduceIte]; rfl)
  ·first|(simp only[upd_app,↓reduceIte]; done)|(simp only[upd_app,↓reduceIte]; rfl)
  rintro k tm hp ⟨i,id,rfl,hi,hb,t3,t6,t7,t8⟩
  by_cases hlt:i<l.length
  rotate_left
  ·have:i=l.length:=by omega
   subst this
   rw[xl] at hb t3
   refine vcE.ex (by simp (disch:=first|assumption|omega) only[go_sem,↓reduceIte,t8,t7,qT,hlt,decide_false]; rfl) ?_
   refine⟨rfl,id,hb,?_⟩
   simp only[upd_app,qa,↓reduceIte,t3]
  have hg:=qg hlt
  generalize l[i]=n at hg
  have y1:iaddrA 1 (encI.S l) (.int .i64 (i:Int))=some (.fptr (encI.cs l) i):=encI_iaddr hlt
  have p1:=encI_at hg
  have w1:=natW (x:=(i:Int)+1) (i+1) (by omega) (by omega)
  have w8:=wrap8 n
  have hk:keyI (l.take (i+1))=keyI (l.take i)++[UInt8.ofNat (n % 256).toNat]:=by
   rw[xn,hg,keyI,qC]
   rfl
  have hlen:(keyI (l.take i)).length≤1000000:=by
   rw[keyI,qL,xd]
   omega
  have happ:=(hb.app [some (Blk.row 5 [.int .u8 (UInt8.ofNat (n % 256).toNat).toNat])]).more (bytes:=1) (m:=[UInt8.ofNat (n % 256).toNat]) (src_byte (ex:=true)) (by simp) (by simp; omega) (by simp; omega)
  simp only[show encB.sz=1 from rfl] at happ
  have hat:=ze encB (hp++[some (Blk.row 5 [.int .u8 (UInt8.ofNat (n % 256).toNat).toNat])]) id (keyI (l.take i)).length 5 (keyI (l.take i)++[UInt8.ofNat (n % 256).toNat])
  rw[← hk] at happ hat
  refine vcE.ex (by simp (disch:=first|assumption|omega) only[go_sem,↓reduceIte,t8,t7,qT,hlt,qa,t6,↓y1,↓p1,t3,w8,↓happ,w1]; rfl) ?_
  refine⟨l.length - (i+1),by omega,i+1,_,rfl,by omega,hat,?_,?_,?_,?_⟩
  all_goals simp only[upd_app,qa,↓reduceIte,t6,t7]
 rintro e' tm hp ⟨rfl,id,hb,t3⟩
 have hs:=hb.src
 rw[show encB.sz=1 from rfl] at hs
 have hb2:b2sA hp (bld id (keyI l).length 1)=some (.str (keyI l)):=by
  simp only[b2sA,hs]
  have hu:=unbyte_encB (keyI l)
  by_cases h0:(keyI l).length=0
  ·rw[bld,if_pos h0]
   simp only[hu,qh]
  ·rw[bld,if_neg h0]
   simp only[hu,qh]
 refine vcE.ex (by simp (disch:=first|assumption|omega) only[go_sem,↓reduceIte,t3,↓hb2]; rfl) ?_
 exact⟨_,rfl,rfl⟩
def K0:Tab:=Tab.none.addO 61 (.cons (.S encI) .nil) fun p=>if p.1.length≤1000000 then some (.rd true (.str (keyI p.1))) else none
theorem K0_ok:TabOk qi K0:=by
 refine TabOk.addO (qJ _) ?_
 intro p r h
 split at h
 ·rename_i hv; cases h; exact pKey p.1 hv
 ·cases h
theorem K0_key (l:List Int) (hl:l.length≤1000000):K0 61 [encI.S l]=some (.rd true (.str (keyI l))):=
 (Tab.addO_self _ _ (.cons (.S encI) .nil) _ (l,())).trans (if_pos hl)
def entsF:Nat→List (List Int)→List (AV × AV)
 | _,[]=>[]
 | k,r :: rs=>(.str (keyI r),.agg [.int .i64 (k:Int)]) :: entsF (k+1) rs
theorem entsF_snoc (l:List Int):∀ (rows:List (List Int)) (k:Nat),entsF k (rows++[l])=entsF k rows++[(.str (keyI l),.agg [.int .i64 ((k+rows.length:Nat):Int)])]
 | [],k=>rfl
 | r :: rs,k=>by
  rw[qZ,entsF,entsF_snoc l rs (k+1),entsF,qZ,qr,show k+1+rs.length=k+(rs.length+1) by omega]
def findK (s:List UInt8):List (List Int)→Option Nat
 | []=>none
 | r :: rs=>if s=keyI r then some 0 else (findK s rs).map (· + 1)
theorem findA_ents (s:List UInt8):∀ (rows:List (List Int)) (k i:Nat),findA (.str s) (entsF k rows) i=some ((findK s rows).map fun j=>(i+j,.agg [.int .i64 ((k+j:Nat):Int)]))
 | [],k,i=>rfl
 | r :: rs,k,i=>by
  rw[entsF,findA,findK]
  by_cases h:s=keyI r
  ·simp only[keyEqA,bEqb_eq,h,decide_true,if_true,qh]
   rfl
  ·simp only[keyEqA,bEqb_eq,h,decide_false,if_false,findA_ents s rs,Option.map_map]
   congr 2
   funext j
   simp only[Function.comp]
   rw[show i+1+j=i+(j+1) by omega,show k+1+j=k+(j+1) by omega]
def numF (rows:List (List Int)) (l:List Int):Nat × List (List Int):=match findK (keyI l) rows with
 | some j=>(j,rows)
 | none=>(rows.length,rows++[l])
structure Met (hp:HP) (a b mid rid:Nat) (rows:List (List Int)):Prop where
 ha:hp[a]? = some (some (.row 113 [.map mid]))
 hm:∃ bs c,hp[mid]? = some (some (.map (entsF 0 rows) bs c))
 hb:hp[b]? = some (some (.row 87 [bld rid rows.length 1]))
 hr:BldAt encR hp rid 28 rows
 nab:a≠b
 nam:a≠mid
 nbm:b≠mid
 nra:rid≠a
 nrb:rid≠b
 nrm:rid≠mid
theorem src_row {hp:HP} {e:TypeId} {l:List Int} {ex:Bool}:srcA (hp++[some (.row e [encI.S l])]) 1 (.sl hp.length 0 1 1 1 ex)=some (encR.cs [l],1):=by
 have:=encR.sl_src (hp:=hp++[some (.row e [encI.S l])]) (id:=hp.length) (e:=e) (l:=[l]) (lo:=1) (ex:=ex) (by simp; rfl)
 exact this
theorem num_calls {hp:HP} {a b mid rid:Nat} {rows:List (List Int)} (h:Met hp a b mid rid rows) {l:List Int} (hl:l.length≤1000000) (hn:rows.length≤1000000) :
  ACalls qi 60 [encI.S l,.ptr a 0,.ptr b 0] hp fun r hp'=>r=.int .i64 ((numF rows l).1:Nat)∧∃ rid',Met hp' a b mid rid' (numF rows l).2∧(rid'=rid∧rows≠[]∨hp.length≤rid')∧(∀ k,k<hp.length→k≠a→k≠b→k≠mid→k≠rid→hp'[k]? = hp[k]?)∧hp.length≤hp'.length:=by
 refine calls_e hmG K0_ok comp60 (by rfl) (by simp) ?_
 obtain⟨ha,⟨bs,c,hm⟩,hb,hr,nab,nam,nbm,nra,nrb,nrm⟩:=h
 have hk:=K0_key l hl
 have la:=(qf.1 ha).1
 have lb:=(qf.1 hb).1
 have lm:=(qf.1 hm).1
 have hf:=findA_ents (keyI l) rows 0 0
 simp only[qY] at hf
 have hlook:lookA hp .str (.agg [.int .i64 0]) true (.map mid) (.str (keyI l))=some (match findK (keyI l) rows with
   | some j=>.tup [.agg [.int .i64 (j:Int)],.bool true]
   | none=>.tup [.agg [.int .i64 0],.bool false]):=by
  simp only[lookA,keyA,rowsA,hm,hf,cond_true]
  cases findK (keyI l) rows<;>rfl
 have hq:∀ n:Int,(hp++[some (Blk.row 115 [.int .i64 n])])[hp.length]? = some (some (.row 115 [.int .i64 n])):=fun n=>by simp
 have ha':∀ n:Int,(hp++[some (Blk.row 115 [.int .i64 n])])[a]? = some (some (.row 113 [.map mid])):=fun n=>app_get ha
 have hb':∀ n:Int,(hp++[some (Blk.row 115 [.int .i64 n])])[b]? = some (some (.row 87 [bld rid rows.length 1])):=fun n=>app_get hb
 have hm':∀ n:Int,(hp++[some (Blk.row 115 [.int .i64 n])])[mid]? = some (some (.map (entsF 0 rows) bs c)):=fun n=>app_get hm
 have hst:∀ n m:Int,storeA (hp++[some (Blk.row 115 [.int .i64 n])]) 1 (.ptr hp.length 0) (.agg [.int .i64 m])=some (hp++[some (Blk.row 115 [.int .i64 m])]):=by
  intro n m
  simp only[storeA,hq,cellsA,qP,qY,qk,and_self,if_true]
  simp
  rfl
 have hlook':∀ n:Int,lookA (hp++[some (Blk.row 115 [.int .i64 n])]) .str (.agg [.int .i64 0]) true (.map mid) (.str (keyI l))=some (match findK (keyI l) rows with
   | some j=>.tup [.agg [.int .i64 (j:Int)],.bool true]
   | none=>.tup [.agg [.int .i64 0],.bool false]):=by
  intro n
  simp only[lookA,keyA,rowsA,hm',hf,cond_true]
  cases findK (keyI l) rows<;>rfl
 refine vcE.s0 ?_
 cases hfk:findK (keyI l) rows with
 | some j =>
  simp only[hfk] at hlook hlook'
  have hnum:numF rows l=(j,rows):=by simp only[numF,hfk]
  rw[hnum]
  refine vcE.seq (vcE.forks (fun tm' hp'=>hp'=hp++[some (Blk.row 115 [.int .i64 (j:Int)])]∧tm' 5=.ptr hp.length 0∧tm' 6=.bool true) ?_ ?_)
  ·repeat' (first|with_reducible exact exTs_nil|with_reducible refine exT_fork ?_|(with_reducible show exT _ _ _ (Tr.take _ _) _ _ _; refine exT_take rfl (by simp (disch:=first|assumption|omega) only[go_sem,↓reduceIte,reduceCtorEq,qa,↓hlook,↓hst,frzL.eq_2,hk,↓hlook',ha,ha']; rfl) ?_)|(with_reducible show exTs _ _ _ (_ :: _) _ _ _; refine exTs_cons rfl (by simp (disch:=first|assumption|omega) only[go_sem,↓reduceIte,qa,ha,frzL.eq_2,hk,ha']; rfl) ?_ ?_))
   all_goals (with_reducible refine exT_done ?_)
   all_goals refine⟨rfl,?_,?_⟩
   all_goals simp only[upd_app,qa,↓reduceIte]
  rintro tm hp' ⟨rfl,t5,t6⟩
  have hq1:=hq (j:Int)
  refine vcE.ex (by simp (disch:=first|assumption|omega) only[go_sem,↓reduceIte,qa,t5,t6,hq1,faddrA]; rfl) ?_
  refine⟨_,rfl,?_,rid,⟨app_get ha,⟨bs,c,app_get hm⟩,app_get hb,hr.app _,nab,nam,nbm,nra,nrb,nrm⟩,.inl ⟨rfl,fun e=>by rw[e] at hfk; cases hfk⟩,?_,by simp⟩
  ·simp only[upd_app,↓reduceIte]
  ·intro k hk _ _ _ _
   rw[qm hk]
 | none =>
  simp only[hfk] at hlook hlook' hf
  have hnum:numF rows l=(rows.length,rows++[l]):=by simp only[numF,hfk]
  rw[hnum]
  refine vcE.seq (vcE.forks (fun tm' hp'=>hp'=hp++[some (Blk.row 115 [.int .i64 0])]∧tm' 0=encI.S l∧tm' 1=.ptr a 0∧tm' 2=.ptr b 0∧tm' 5=.ptr hp.length 0∧tm' 6=.bool false) ?_ ?_)
  ·repeat' (first|with_reducible exact exTs_nil|with_reducible refine exT_fork ?_|(with_reducible show exT _ _ _ (Tr.take _ _) _ _ _; refine exT_take rfl (by simp (disch:=first|assumption|omega) only[go_sem,↓reduceIte,reduceCtorEq,qa,↓hlook,↓hst,frzL.eq_2,hk,↓hlook',ha,ha']; rfl) ?_)|(with_reducible show exTs _ _ _ (_ :: _) _ _ _; refine exTs_cons rfl (by simp (disch:=first|assumption|omega) only[go_sem,↓reduceIte,qa,ha,frzL.eq_2,hk,ha']; rfl) ?_ ?_))
   all_goals (with_reducible refine exT_done ?_)
   all_goals refine⟨rfl,?_,?_,?_,?_,?_⟩
   all_goals first|(simp only[upd_app,qa,↓reduceIte]; done)|(simp only[upd_app,qa,↓reduceIte]; rfl)
  rintro tm hp' ⟨rfl,t0,t1,t2,t5,t6⟩
  have hlb:=bld_len (hp++[some (Blk.row 115 [.int .i64 0])]) rid rows.length 1
  have hlf:=bld_fits rid rows.length 1
  have hone:=bld_one rid rows.length 1
  have hfill:fillA [(0,1)] [.int .i64 0] ([0].zip [.int .i64 (rows.length:Int)])=some [.int .i64 (rows.length:Int)]:=rfl
  refine vcE.seq (vcE.step (by simp (disch:=first|assumption|omega) only[go_sem,↓reduceIte,t6]; rfl) (vcE.condTrue (by simp only[evE,upd_app,↓reduceIte]) (vcE.step (by simp (disch:=first|assumption|omega) only[go_sem,↓reduceIte,qa,t2,hb',↓hone,hlf,hlb,↓hfill,t5,↓hst]; rfl) ?_)))
  generalize hH:hp++[some (Blk.row 115 [.int .i64 (rows.length:Int)])]=H
  have kH:∀ k,k<hp.length→H[k]? = hp[k]?:=fun k hk=>by rw[← hH,qm hk]
  have lH:H.length=hp.length+1:=by rw[← hH]; simp
  have aH:H[a]? = some (some (.row 113 [.map mid])):=by rw[kH a la]; exact ha
  have bH:H[b]? = some (some (.row 87 [bld rid rows.length 1])):=by rw[kH b lb]; exact hb
  have mH:H[mid]? = some (some (.map (entsF 0 rows) bs c)):=by rw[kH mid lm]; exact hm
  have qH:H[hp.length]? = some (some (.row 115 [.int .i64 (rows.length:Int)])):=by rw[← hH]; exact hq _
  have rH:BldAt encR H rid 28 rows:=by rw[← hH]; exact hr.app _
  have hup:mapupA H .str (.map mid) (.str (keyI l)) (.agg [.int .i64 (rows.length:Int)])=some (H.set mid (some (.map (entsF 0 (rows++[l])) (bs++[c]) (c+1)))):=by
   simp only[mapupA,keyA,mH,hf,cond_true,Option.map_none,entsF_snoc,qY]
  have hpk:pickA (some 1) [.int .i64 (rows.length:Int)] 0=some (.agg [.int .i64 (rows.length:Int)]):=by simp[pickA]
  refine vcE.step (by simp (disch:=first|assumption|omega) only[go_sem,exOps.eq_2,↓reduceIte,qa,t1,aH,reduceCtorEq,t0,t5,qH,↓hpk,frzL.eq_2,hk,↓hup]; rfl) ?_
  generalize hG:H.set mid (some (.map (entsF 0 (rows++[l])) (bs++[c]) (c+1)))=G
  have kG:∀ k,k≠mid→G[k]? = H[k]?:=fun k hk=>by rw[← hG,qv (Ne.symm hk)]
  have lG:G.length=hp.length+1:=by rw[← hG,xU,lH]
  have aG:G[a]? = some (some (.row 113 [.map mid])):=by rw[kG a nam]; exact aH
  have bG:G[b]? = some (some (.row 87 [bld rid rows.length 1])):=by rw[kG b nbm]; exact bH
  have mG:G[mid]? = some (some (.map (entsF 0 (rows++[l])) (bs++[c]) (c+1))):=by
   rw[← hG]
   exact xf (by omega)
  have qG:G[hp.length]? = some (some (.row 115 [.int .i64 (rows.length:Int)])):=by rw[kG _ (by omega)]; exact qH
  have rG:BldAt encR G rid 28 rows:=rH.imp (fun h=>h) fun h=>by rw[kG rid nrm]; exact h
  have happ:=(rG.app [some (Blk.row 28 [encI.S l])]).more (bytes:=24) (m:=[l]) (src_row (ex:=true)) (by simp) (by simp; omega) (by simp; omega)
  simp only[show encR.sz=1 from rfl] at happ
  have hat:=ze encR (G++[some (Blk.row 28 [encI.S l])]) rid rows.length 28 (rows++[l])
  generalize hJ:bldH (G++[some (Blk.row 28 [encI.S l])]) rid rows.length (Blk.row 28 (encR.cs (rows++[l])))=J at happ hat
  have lJ:J.length=hp.length+3:=by
   rw[← hJ,bldH_len,qo,lG]
   rfl
  have kJ:∀ k,k<G.length→k≠rid→J[k]? = G[k]?:=by
   intro k hk hkr
   rw[← hJ,bldH]
   split
   ·rw[qV,qm hk]
   ·rw[qm (by simp; omega),qv (Ne.symm hkr),qm hk]
  have bJ:J[b]? = some (some (.row 87 [bld rid rows.length 1])):=by rw[kJ b (by omega) (Ne.symm nrb)]; exact bG
  have lG2:(G++[some (Blk.row 28 [encI.S l])]).length=hp.length+2:=by simp[lG]
  rw[lG2] at happ hat
  have hstb:storeA J 1 (.ptr b 0) (bld (hp.length+2) (rows++[l]).length 1)=some (J.set b (some (.row 87 [bld (hp.length+2) (rows++[l]).length 1]))):=by
   have hc:=bld_cells (hp.length+2) (rows++[l]).length 1
   have hnt:=bld_notTup (hp.length+2) (rows++[l]).length 1
   generalize bld (hp.length+2) (rows++[l]).length 1=w at *
   cases w<;>first|exact absurd rfl (hnt _)|(simp only[storeA,bJ,hc,qP,qY,qk,and_self,if_true]; rfl)
  generalize hK:J.set b (some (.row 87 [bld (hp.length+2) (rows++[l]).length 1]))=K at hstb
  have kK:∀ k,k≠b→K[k]? = J[k]?:=fun k hk=>by rw[← hK,qv (Ne.symm hk)]
  have qK:K[hp.length]? = some (some (.row 115 [.int .i64 (rows.length:Int)])):=by
   rw[kK _ (by omega)]
   by_cases hz:rows.length=0
   ·rw[← hJ,bldH,if_pos hz,qV,qm (by omega)]
    exact qG
   ·have hrl:rid<hp.length:=(qf.1 (hr.resolve_left (fun e=>hz (by rw[e]; rfl)))).1
    rw[kJ _ (by omega) (by omega)]
    exact qG
  have lJb:b<J.length:=by omega
  refine vcE.ex (by simp (disch:=first|assumption|omega) only[go_sem,↓reduceIte,qa,t2,bG,bld_one,reduceCtorEq,t0,↓happ,↓hstb]; rfl) ?_
  refine vcE.ex (by simp (disch:=first|assumption|omega) only[go_sem,↓reduceIte,qa,t5,qK,faddrA]; rfl) ?_
  refine⟨_,rfl,?_,hp.length+2,⟨?_,⟨bs++[c],c+1,?_⟩,?_,?_,nab,nam,nbm,by omega,by omega,by omega⟩,.inr (by omega),?_,?_⟩
  ·simp only[upd_app,↓reduceIte]
  ·rw[kK a nab,kJ a (by omega) (Ne.symm nra)]
   exact aG
  ·rw[kK mid (Ne.symm nbm),kJ mid (by omega) (Ne.symm nrm)]
   exact mG
  ·rw[← hK]
   exact xf lJb
  ·exact hat.imp (fun h=>h) fun h=>by rw[kK _ (by omega)]; exact h
  ·intro k hk h1 h2 h3 h4
   rw[kK k h2,kJ k (by omega) h4,kG k h3,kH k hk]
  ·rw[← hK,xU]
   omega
end
section
set_option linter.unusedSectionVars false
variable [Mx]
open Go
def FrzNL (hp:HP) (zs zs':List AV):Prop:=∀ (Δ Δ':Cx) (vs:List Value),HSim Δ hp→VRels Δ zs vs→Δ'.w=Δ.w→(∀ b,Live Δ hp b→Δ'.Fz b)→VRels Δ' zs' vs
theorem FrzNL.nil (hp:HP):FrzNL hp [] []:=fun Δ Δ' vs _ h2 _ _=>by simpa only[VRels] using h2
theorem FrzNL.cons {hp:HP} {a a':AV} {zs zs':List AV} (h1:FrzN hp a a') (h2:FrzNL hp zs zs'):FrzNL hp (a :: zs) (a' :: zs'):=by
 intro Δ Δ' vs k1 k2 k3 k5
 simp only[VRels] at k2 ⊢
 obtain⟨u,us,rfl,h6,h7⟩:=k2
 exact⟨u,us,rfl,h1 Δ Δ' u k1 h6 k3 k5,h2 Δ Δ' us k1 h7 k3 k5⟩
theorem FrzN.agg {hp:HP} {zs zs':List AV} (h:FrzNL hp zs zs'):FrzN hp (.agg zs) (.agg zs'):=by
 intro Δ Δ' v h1 h2 h3 h5
 simp only[VRel] at h2 ⊢
 obtain⟨us,rfl,h6,h7⟩:=h2
 exact⟨us,rfl,h Δ Δ' us h1 h6 h3 h5,h7⟩
theorem FrzN.tup {hp:HP} {zs zs':List AV} (h:FrzNL hp zs zs'):FrzN hp (.tup zs) (.tup zs'):=by
 intro Δ Δ' v h1 h2 h3 h5
 simp only[VRel] at h2 ⊢
 obtain⟨us,rfl,h6⟩:=h2
 exact⟨us,rfl,h Δ Δ' us h1 h6 h3 h5⟩
theorem FrzN.bool (hp:HP) (b:Bool):FrzN hp (.bool b) (.bool b):=fresh_ok rfl
inductive FrzNs (hp:HP):List AV→List AV→Prop where
 | nil:FrzNs hp [] []
 | cons {a a':AV} {zs zs':List AV}:FrzN hp a a'→FrzNs hp zs zs'→FrzNs hp (a :: zs) (a' :: zs')
theorem FrzNs.len {hp:HP} {zs zs':List AV} (h:FrzNs hp zs zs'):zs'.length=zs.length:=by
 induction h with
 | nil=>rfl
 | cons _ _ ih=>rw[qr,qr,ih]
theorem FrzNs.cells {hp:HP} {zs zs':List AV} (h:FrzNs hp zs zs') {Δ Δ':Cx} (h1:HSim Δ hp) (hw:Δ'.w=Δ.w) (h5:∀ b,Live Δ hp b→Δ'.Fz b):∀ {b o:Nat},CellsAt Δ zs b o→CellsAt Δ' zs' b o:=by
 induction h with
 | nil=>intro b o _; simp[CellsAt]
 | cons ha _ ih =>
  intro b o hc
  simp only[CellsAt] at hc ⊢
  obtain⟨⟨v,k1,k2,k3⟩,k4⟩:=hc
  exact⟨⟨v,by rw[hw]; exact k1,k2,ha Δ Δ' v h1 k3 hw h5⟩,ih k4⟩
theorem FrzN.sl {hp:HP} {id len lo:Nat} {ex:Bool} {e:TypeId} {cs cs':List AV} (hx:hp[id]? = some (some (.row e cs))) (hl:cs.length=len) (h:FrzNs hp cs cs'):FrzN hp (.sl id 0 len 1 lo ex) (.fsl cs' len):=by
 intro Δ Δ' v h1 h2 h3 h5
 simp only[VRel] at h2 ⊢
 obtain⟨hi,o,c,e',m,rfl,ho,k1,k2,k3,k4,k5⟩:=h2
 refine .inr ⟨_,o,c,rfl,by omega,.inr (h5 _ ⟨id,_,hx,rfl⟩),?_⟩
 have:=sl_cells h1 hx ho (by omega) (by omega:0+len*1≤cs.length)
 rw[xJ,xg (by omega)] at this
 exact h.cells h1 h3 h5 this
theorem app_raw {hp:HP} {id:Nat} {e:TypeId} {cs ms:List AV} {bytes:Nat} {x:AV} (h:cs=[]∨hp[id]? = some (some (.row e cs))) (hx:srcA hp 1 x=some (ms,ms.length)) (hm:0<ms.length) (hb:(cs.length+ms.length)*bytes≤140737488355328) (hn:cs.length+ms.length≤9223372036854775807) :
  ∃ hp',appA e 1 bytes hp (bld id cs.length 1) x=some (bld hp.length (cs++ms).length 1,hp')∧hp'[hp.length]? = some (some (.row e (cs++ms)))∧(∀ k,k<hp.length→(cs=[]∨k≠id)→hp'[k]? = hp[k]?)∧hp'.length=hp.length+1:=by
 have hpos:0<(cs++ms).length:=by simp; omega
 rw[bld_pos hpos]
 by_cases h0:cs.length=0
 ·have:=List.eq_nil_of_length_eq_zero h0
  subst this
  refine⟨hp++[some (.row e ms)],?_,?_,?_,?_⟩
  ·simp only[bld,List.length_nil,if_true,appA,hx]
   rw[if_neg (by omega),if_pos ⟨by simpa using hb,by simpa using hn⟩]
   simp
  ·simp
  ·intro k hk _
   rw[qm hk]
  ·simp
 ·have hr:=h.resolve_left (fun e=>h0 (by rw[e]; rfl))
  rw[bld_pos (by omega)]
  refine⟨hp.set id none++[some (.row e (cs++ms))],?_,?_,?_,?_⟩
  ·simp only[appA,hx,hr]
   rw[if_neg (by omega),if_pos ⟨trivial,by omega⟩,if_neg (by omega),if_pos ⟨hb,hn⟩]
   simp only[qA,if_false,xJ]
   rw[if_pos ⟨by omega,trivial⟩,qo]
  ·rw[xh (by simp)]
   simp
  ·intro k hk hne
   have hne:k≠id:=hne.resolve_left (fun e=>h0 (by rw[e]; rfl))
   rw[qm (by simpa using hk),qv (Ne.symm hne)]
  ·simp
theorem src_cell {hp:HP} {e:TypeId} {a:AV} {ex:Bool}:srcA (hp++[some (.row e [a])]) 1 (.sl hp.length 0 1 1 1 ex)=some ([a],1):=by
 simp[srcA]
end
end Go.Gi
