/- One of each byte, and where a byte is: slices.Compact, slices.BinarySearch. -/
/- Where a byte is among rising ones: slices.BinarySearch. -/
/- slices.IndexFunc for elements that lie in one cell, as compiled. -/
/- Tables as plain data: which may be, where a text leads; bytes of one class lead to the same state. No condition. -/
/- Tables in memory: dfa.Check, Run: what they give. -/
/- The classes of bytes: dfa.classes. -/
/- bytes.Repeat of one byte, walked; bytealg.MakeNoZero, bits.Mul. -/
import Derived.Test.YtakdhioafodhcaaGreatDoorGiDfE
import Derived.Test.YtakdhioafodhcaaGreatDoorGiSL
import Derived.Test.YtakdhioafodhcaaGreatDoorGiXB
set_option linter.unusedVariables false
set_option linter.unusedSimpArgs false
namespace Go.Gi
open _root_.Bool renaming false_eq_true → qA, not_eq_true' → zg, and_eq_true → qp, and_self → xb, true_or → zj
open _root_.Go.Gi.Enc renaming S_nid → xu
open _root_.Go.Proofs.Tryz renaming prog → qi
open _root_.Int renaming toNat_natCast → xk, ofNat_lt → qT
open _root_.List renaming getElem?_eq_some_iff → qf, pairwise_iff_getElem → zn, getElem?_eq_getElem → qg, getElem?_cons_zero → ql, getElem?_set_self → xf, take_of_length_le → xg, length_singleton → qP, getElem?_eq_none → xt, length_replicate → xD, take_append_drop → xE, mem_iff_getElem? → zw, getElem?_set_ne → qv, length_append → qo, mem_singleton → qQ, take_add_one → xn, length_take → xd, all_eq_true → xr, append_nil → qt, map_append → qC, length_map → qL, length_set → xU, drop_zero → xJ
open _root_.Nat renaming reduceEqDiff → qa, zero_add → qY, le_refl → qk, mul_one → xC
open _root_.Go.Gi.Tab renaming addO_self → xe, addR_self → xL, addO_ne → qS, addR_ne → zo
open _root_.Go.Gi.TabOk renaming none → qJ, addO → xp, addR → xY
section
set_option linter.unusedSectionVars false
variable [Mx]
open Go Go.Proofs
def cmpTo (d:Array UInt8):Nat→List UInt8
 | 0=>[]
 | n+1=>if n=0∨d[n]! ≠ d[n - 1]! then cmpTo d n++[d[n]!] else cmpTo d n
theorem cmpTo_len (d:Array UInt8):∀ n,(cmpTo d n).length≤n
 | 0=>qk _
 | n+1=>by
  have:=cmpTo_len d n
  rw[cmpTo]
  split
  ·rw[qo,qP]
   omega
  ·omega
theorem cmpTo_pos (d:Array UInt8):∀ n,0<n→0<(cmpTo d n).length
 | 0,h=>by omega
 | n+1,_=>by
  rw[cmpTo]
  split
  ·rw[qo,qP]
   omega
  ·rename_i h
   exact cmpTo_pos d n (by omega)
theorem cmpTo_all {d:Array UInt8}:∀ {n:Nat},n≤d.size→(∀ i,1≤i→i<n→d[i]! ≠ d[i - 1]!)→cmpTo d n=d.toList.take n
 | 0,_,_=>by simp[cmpTo]
 | n+1,hn,h=>by
  rw[cmpTo,if_pos,cmpTo_all (n:=n) (by omega) (fun i h1 h2=>h i h1 (by omega)),xn,arr_get (by omega)]
  ·rfl
  ·rcases Nat.eq_zero_or_pos n with h0|h0
   ·exact .inl h0
   ·exact .inr (h n h0 (by omega))
theorem take_set {l:List UInt8} {k:Nat} {x:UInt8} (h:k<l.length):(l.set k x).take (k+1)=l.take k++[x]:=by
 rw[xn,xf h,List.take_set_of_le (qk _)]
 rfl
theorem clr (l:List UInt8) (k m:Nat) (h:k+m=l.length):over (encB.cs l) k (List.replicate m (.int .u8 0))=encB.cs (l.take k++List.replicate m 0):=by
 rw[over,encB_cs,encB_cs,List.drop_eq_nil_of_le (by simp; omega),qt,qC,List.map_take,List.map_replicate]
 rfl
def LiveB (hp:HP) (v:AV) (l:List UInt8):Prop:=(l=[]∧v=.nils)∨∃ (id lo:Nat) (ex:Bool) (e:TypeId) (z:List UInt8),v=.sl id 0 l.length 1 lo ex∧hp[id]? = some (some (.row e (encB.cs (l++z))))
theorem LiveB.frz {hp:HP} {v:AV} {l:List UInt8} (h:LiveB hp v l):frz hp v=some (encB.S l):=by
 rcases h with ⟨rfl,rfl⟩|⟨id,lo,ex,e,z,rfl,h⟩
 ·rfl
 ·have hn:nidL (encB.cs (l++z))=true:=encB.cs_nid _
  have h1:(encB.cs (l++z)).length=l.length+z.length:=by rw[encB_cs,qL,qo]
  simp only[Gi.frz,h,hn,Bool.and_true,h1]
  rw[if_pos (by simp)]
  rw[encB_cs,xJ,xC,qC,List.take_append_of_le_length (by simp),xg (by simp),Enc.S,encB_cs]
theorem LiveB.len {hp hp':HP} {v:AV} {l:List UInt8} (h:LiveB hp v l):lenA hp' v=some (.int .i64 (l.length:Int)):=by
 rcases h with ⟨rfl,rfl⟩|⟨id,lo,ex,e,z,rfl,h⟩
 ·rfl
 ·rfl
theorem LiveB.at_ {hp:HP} {v:AV} {l:List UInt8} (h:LiveB hp v l) {i:Nat} {c:UInt8} (hi:l[i]? = some c):∃ p,iaddrA 1 v (.int .i64 (i:Int))=some p∧loadA hp none p=some (.int .u8 c.toNat):=by
 have hlt:=(qf.1 hi).1
 rcases h with ⟨rfl,rfl⟩|⟨id,lo,ex,e,z,rfl,h⟩
 ·simp at hlt
 ·refine⟨.ptr id i,?_,?_⟩
  ·simp only[iaddrA]
   rw[if_pos ⟨trivial,by omega,by omega⟩]
   simp
  ·simp only[loadA,rowA,h]
   exact encB.pick1 (l:=l++z) rfl (by rw[List.getElem?_append_left hlt]; exact hi) (v:=.int .u8 c.toNat) rfl rfl
theorem cmp_calls {hp:HP} {id N:Nat} {e:TypeId} {d:Array UInt8} {v:AV} (hN:d.size=N) (hv:v=bld id N 1) (hs:Srt elB e id hp hp d) (hsz:N≤1000000000000000000) :
  ACalls qi 89 [v] hp fun r hp'=>LiveB hp' r (cmpTo d N)∧(∀ k,k≠id→hp'[k]? = hp[k]?)∧hp'.length=hp.length:=by
 refine calls_e hmG (qJ _) comp89 (by rfl) (by simp) ?_
 by_cases h0:N=0
 ·subst h0
  have:v=.nils:=by rw[hv]; rfl
  subst this
  refine vcE.e0 ?_
  exact⟨_,rfl,.inl ⟨rfl,rfl⟩,fun k _=>rfl,rfl⟩
 have hvv:v=.sl id 0 N 1 N false:=by rw[hv,bld,if_neg h0]
 subst hvv
 clear hv
 have hid:id<hp.length:=(qf.1 (hs.get (i:=0) (by omega))).1
 have ia:∀ i:Nat,i<N→iaddrA 1 (.sl id 0 N 1 N false) (.int .i64 (i:Int))=some (.ptr id i):=by
  intro i hi
  simp only[iaddrA]
  rw[if_pos ⟨trivial,by omega,by omega⟩]
  simp
 by_cases h1:N=1
 ·subst h1
  refine vcE.e0 ?_
  refine⟨_,rfl,.inr ⟨id,1,false,e,[],?_,?_⟩,fun k _=>rfl,rfl⟩
  ·rw[cmpTo_all (n:=1) (by omega) (fun i h1 h2=>by omega),xd]
   simp only[upd_app,↓reduceIte,Array.length_toList,hN,Nat.min_self]
  ·rw[cmpTo_all (n:=1) (by omega) (fun i h1 h2=>by omega),qt,hs.get (i:=0) (by omega),xg (by simp[hN])]
   rfl
 have h2:¬ (N:Int)<2:=by omega
 refine vcE.s1 (k:=vcE.step (by simp (disch:=first|assumption|omega) only[go_sem,↓reduceIte,reduceCtorEq,h2,decide_false]; rfl) ?_)
 refine vcE.then (fun e' tm' hp'=>e'=.ret∧RetE [.t 2] (fun r hp'=>LiveB hp' r (cmpTo d N)∧(∀ k,k≠id→hp'[k]? = hp[k]?)∧hp'.length=hp.length) .ret tm' hp'∨e'=.normal∧hp'=hp∧tm' 0=.sl id 0 N 1 N false∧cmpTo d N=d.toList.take N) ?_ ?_
 rotate_left
 ·rintro e' tm hp' (⟨rfl,h⟩|⟨rfl,rfl,t0,hall⟩)
  ·exact h
  ·refine vcE.ex (by simp (disch:=first|assumption|omega) only[go_sem,↓reduceIte,t0]; rfl) ?_
   refine⟨_,rfl,.inr ⟨id,N,false,e,[],?_,?_⟩,fun k _=>rfl,rfl⟩
   ·rw[hall,xd]
    simp only[upd_app,↓reduceIte,Array.length_toList,hN,Nat.min_self]
   ·rw[hall,qt,hs.get (i:=0) (by omega),xg (by simp[hN])]
    rfl
 refine vcE.s1 (k:=vcE.block (vcE.loop (by intro l tm hp h; simp[RetE] at h) (fun k tm' hp' => ∃ i:Nat,k=N - i∧1≤i∧i≤N∧hp=hp'∧(∀ j,1≤j→j<i→d[j]! ≠ d[j - 1]!)∧tm' 0=.sl id 0 N 1 N false∧tm' 3=.int .i64 (i:Int)) (N - 1) ⟨1,rfl,by omega,by omega,rfl,fun j h1 h2=>by omega,rfl,rfl⟩ ?_))
 rintro k tm hp' ⟨i,rfl,hi1,hiN,rfl,hne,t0,t3⟩
 by_cases hlt:i<N
 rotate_left
 ·have:i=N:=by omega
  subst this
  refine vcE.ex (by simp (disch:=first|assumption|omega) only[go_sem,↓reduceIte,t3,reduceCtorEq,t0,qa,qT,hlt,decide_false]; rfl) ?_
  refine .inr ⟨rfl,rfl,?_,cmpTo_all (by omega) hne⟩
  simp only[upd_app,qa,↓reduceIte,t0]
 have g1:i<d.size:=by omega
 have g2:i - 1<d.size:=by omega
 have x1:=hs.get g1
 have y1:=ia i hlt
 have y2:=ia (i - 1) (by omega)
 have p1:=pick_at (L:=elB) g1
 have p2:=pick_at (L:=elB) g2
 have w1:=natW (x:=(i:Int) - 1) (i - 1) (by omega) (by omega)
 have w2:=natW (x:=(i:Int)+1) (i+1) (by omega) (by omega)
 have qe:binA .eql .prim (elB.v d[i]!) (elB.v d[i - 1]!)=some (.bool (decide (d[i]! = d[i - 1]!))):=by
  simp only[binA,intA,elB,if_true]
  congr 2
  simp only[Int.natCast_inj,UInt8.toNat_inj]
 have hf:∀ x,oneA (elB.v x)=true:=fun x=>rfl
 by_cases heq:d[i]! = d[i - 1]!
 rotate_left
 ·rw[decide_eq_false heq] at qe
  refine vcE.ex (by simp (disch:=first|assumption|omega) only[go_sem,↓reduceIte,t3,reduceCtorEq,t0,qa,qT,hlt,exOps.eq_2,y1,x1,↓p1,w1,y2,↓p2,↓qe,w2]; rfl) ?_
  refine⟨N - (i+1),by omega,i+1,rfl,by omega,by omega,rfl,?_,?_,?_⟩
  ·intro j h1 h2
   by_cases hj:j=i
   ·rw[hj]
    exact heq
   ·exact hne j h1 (by omega)
  all_goals simp only[upd_app,qa,↓reduceIte,t0]
 rw[decide_eq_true heq] at qe
 have hc0:cmpTo d (i+1)=d.toList.take i:=by
  rw[cmpTo,if_neg,cmpTo_all (by omega) hne]
  rintro (h|h)
  ·omega
  ·exact h heq
 have hsl2:sliceA 1 (.sl id 0 N 1 N false) (some (.int .i64 (i:Int))) none none=some (.sl id i (N - i) 1 (N - i) false):=by
  simp[sliceA,bndA,cutA]
  omega
 refine vcE.step (by simp (disch:=first|assumption|omega) only[go_sem,↓reduceIte,t3,reduceCtorEq,t0,qa,qT,hlt]; rfl) ?_
 refine vcE.seq (vcE.block (vcE.step (by simp (disch:=first|assumption|omega) only[go_sem,exOps.eq_2,↓reduceIte,reduceCtorEq,t0,qa,t3,y1,x1,↓p1,w1,y2,↓p2,↓qe]; rfl) (vcE.condTrue (by simp only[evE,upd_app,↓reduceIte]) (vcE.step (by simp (disch:=first|assumption|omega) only[go_sem,↓reduceIte,qa,reduceCtorEq,t0,t3,↓hsl2]; rfl) ?_))))
 -- the others,one after the other
 refine vcE.then (fun e' tm' hp'=>e'=.normal∧∃ (d':Array UInt8) (k:Nat),k=(cmpTo d N).length∧d'.size=N∧k≤N∧Srt elB e id hp hp' d'∧hp'.length=hp.length∧(∀ k,k≠id→hp'[k]? = hp[k]?)∧d'.toList.take k=cmpTo d N∧tm' 0=.sl id 0 N 1 N false∧tm' 3=.int .i64 (k:Int)) ?_ ?_
 rotate_left
 ·rintro e' tm' hp' ⟨rfl,d',k,hk,hd',hkN,s',hl',ho',htk,u0,u3⟩
  have hk0:0<k:=by
   rw[hk]
   exact cmpTo_pos d N (by omega)
  have hs3:sliceA 1 (.sl id 0 N 1 N false) (some (.int .i64 (k:Int))) none none=some (.sl id k (N - k) 1 (N - k) false):=by
   simp[sliceA,bndA,cutA]
   omega
  have hs4:sliceA 1 (.sl id 0 N 1 N false) none (some (.int .i64 (k:Int))) none=some (.sl id 0 k 1 N false):=by
   simp[sliceA,bndA,cutA]
   omega
  have hrow:=s'.get (i:=0) (by omega)
  have hcl:clearA hp' [.int .u8 0] (.sl id k (N - k) 1 (N - k) false)=some (hp'.set id (some (.row e (encB.cs (d'.toList.take k++List.replicate (N - k) 0)))))∨N - k=0:=by
   by_cases hz:N - k=0
   ·exact .inr hz
   ·left
    have hlen:(elB.E.cs d'.toList).length=N:=by
     show (encB.cs d'.toList).length=N
     rw[encB_cs,qL,Array.length_toList,hd']
    simp only[clearA,hrow]
    rw[if_neg hz,if_pos ⟨rfl,by rw[hlen]; omega⟩,← clr d'.toList k (N - k) (by rw[Array.length_toList,hd']; omega)]
    rfl
  rcases hcl with hcl|hz
  ·refine vcE.ex (by simp (disch:=first|assumption|omega) only[go_sem,↓reduceIte,qa,reduceCtorEq,u0,u3,↓hs3,↓hs4,↓hcl]; rfl) ?_
   refine .inl ⟨rfl,_,rfl,.inr ⟨id,N,false,e,List.replicate (N - k) 0,?_,?_⟩,?_,?_⟩
   ·rw[← hk]
    simp only[upd_app,↓reduceIte]
   ·rw[xf (by omega),htk]
   ·intro k' hk'
    rw[qv (Ne.symm hk')]
    exact ho' k' hk'
   ·rw[xU,hl']
  ·have hcl:clearA hp' [.int .u8 0] (.sl id k (N - k) 1 (N - k) false)=some hp':=by
    simp only[clearA,if_pos hz]
   refine vcE.ex (by simp (disch:=first|assumption|omega) only[go_sem,↓reduceIte,qa,reduceCtorEq,u0,u3,↓hs3,↓hs4,↓hcl]; rfl) ?_
   refine .inl ⟨rfl,_,rfl,.inr ⟨id,N,false,e,[],?_,?_⟩,ho',hl'⟩
   ·rw[← hk]
    simp only[upd_app,↓reduceIte]
   ·rw[hrow,qt,← htk,xg (by rw[Array.length_toList,hd']; omega)]
    rfl
 have hl2:∀ hp:HP,lenA hp (.sl id i (N - i) 1 (N - i) false)=some (.int .i64 ((N - i:Nat):Int)):=fun _=>rfl
 refine vcE.s1 (k:=vcE.block (vcE.loop (by intro l tm hp h; simp at h) (fun m tm' hp' => ∃ (j k:Nat) (d':Array UInt8),m=N - i - j∧1≤j∧i+j≤N∧k=(cmpTo d (i+j)).length∧k+1≤i+j∧d'.size=N∧Srt elB e id hp hp' d'∧hp'.length=hp.length∧(∀ k,k≠id→hp'[k]? = hp[k]?)∧d'.toList.take k=cmpTo d (i+j)∧(∀ q,i+j - 1≤q→q<N→d'[q]! = d[q]!)∧tm' 0=.sl id 0 N 1 N false∧tm' 3=.int .i64 (k:Int)∧tm' 4=.sl id i (N - i) 1 (N - i) false∧tm' 5=.int .i64 (j:Int)) (N - i - 1) ⟨1,i,d,rfl,by omega,by omega,?_,by omega,hN,hs,rfl,fun _ _=>rfl,hc0.symm,fun _ _ _=>rfl,?_,?_,?_,?_⟩ ?_))
 ·rw[hc0,xd,Array.length_toList]
  omega
 ·simp only[upd_app,qa,↓reduceIte,t0]
 ·simp only[upd_app,qa,↓reduceIte,t3]
 ·simp only[upd_app,qa,↓reduceIte]
 ·simp only[upd_app,↓reduceIte]
  rfl
 clear t0 t3 y1 y2 x1 p1 p2 w1 w2 qe
 rintro m tm hp' ⟨j,k,d',rfl,hj1,hjN,hk,hkj,hd',s',hl',ho',htk,hsame,t0,t3,t4,t5⟩
 by_cases hlj:j<N - i
 rotate_left
 ·have hjj:i+j=N:=by omega
  refine vcE.ex (by simp (disch:=first|assumption|omega) only[go_sem,↓reduceIte,t5,qa,t4,hl2,qT,hlj,decide_false]; rfl) ?_
  refine⟨rfl,d',k,by rw[hk,hjj],hd',by omega,s',hl',ho',by rw[htk,hjj],?_,?_⟩
  all_goals simp only[upd_app,qa,↓reduceIte,t0,t3]
 have g1:i+j<d'.size:=by omega
 have g2:i+j - 1<d'.size:=by omega
 have x1:=s'.get g1
 have ib:∀ q:Nat,q<N - i→iaddrA 1 (.sl id i (N - i) 1 (N - i) false) (.int .i64 (q:Int))=some (.ptr id (i+q)):=by
  intro q hq
  simp only[iaddrA]
  rw[if_pos ⟨trivial,by omega,by omega⟩]
  simp
 have y1:=ib j hlj
 have y2:=ib (j - 1) (by omega)
 rw[show i+(j - 1)=i+j - 1 by omega] at y2
 have p1:=pick_at (L:=elB) g1
 have p2:=pick_at (L:=elB) g2
 rw[hsame (i+j) (by omega) (by omega)] at p1
 rw[hsame (i+j - 1) (by omega) (by omega)] at p2
 have w1:=natW (x:=(j:Int) - 1) (j - 1) (by omega) (by omega)
 have w2:=natW (x:=(j:Int)+1) (j+1) (by omega) (by omega)
 have w3:=natW (x:=(k:Int)+1) (k+1) (by omega) (by omega)
 have qn:binA .neq .prim (elB.v d[i+j]!) (elB.v d[i+j - 1]!)=some (.bool (!decide (d[i+j]! = d[i+j - 1]!))):=by
  simp only[binA,intA,elB,if_true]
  congr 3
  simp only[Int.natCast_inj,UInt8.toNat_inj]
 have hco:cmpTo d (i+(j+1))=if i+j=0∨d[i+j]! ≠ d[i+j - 1]! then cmpTo d (i+j)++[d[i+j]!] else cmpTo d (i+j):=rfl
 by_cases heq2:d[i+j]! = d[i+j - 1]!
 ·rw[decide_eq_true heq2,Bool.not_true] at qn
  rw[if_neg (by rintro (h|h); omega; exact h heq2)] at hco
  refine vcE.ex (by simp (disch:=first|assumption|omega) only[go_sem,↓reduceIte,t5,qa,t4,hl2,qT,hlj,exOps.eq_2,y1,x1,↓p1,w1,y2,↓p2,↓qn,w2]; rfl) ?_
  refine⟨N - i - (j+1),by omega,j+1,k,d',rfl,by omega,by omega,by rw[hco,hk],by omega,hd',s',hl',ho',by rw[hco,htk],fun q h1 h2=>hsame q (by omega) h2,?_,?_,?_,?_⟩
  all_goals simp only[upd_app,qa,↓reduceIte,t0,t3,t4]
 ·rw[decide_eq_false heq2,Bool.not_false] at qn
  rw[if_pos (.inr heq2)] at hco
  have gk:k<d'.size:=by omega
  have y3:=ia k (by omega)
  obtain⟨h1,s2⟩:=s'.set gk d[i+j]!
  refine vcE.ex (by simp (disch:=first|assumption|omega) only[go_sem,↓reduceIte,t5,qa,t4,hl2,qT,hlj,exOps.eq_2,y1,x1,↓p1,w1,y2,↓p2,↓qn,reduceCtorEq,t0,t3,y3,↓h1,w3,w2]; rfl) ?_
  refine⟨N - i - (j+1),by omega,j+1,k+1,_,rfl,by omega,by omega,by rw[hco,qo,hk]; rfl,by omega,by simpa using hd',s2,by rw[xU,hl'],?_,?_,?_,?_,?_,?_,?_⟩
  ·intro k' hk'
   rw[qv (Ne.symm hk')]
   exact ho' k' hk'
  ·rw[hco,Array.toList_setIfInBounds,take_set (by simpa using gk),htk]
  ·intro q h1 h2
   rw[← hsame q (by omega) h2]
   simp only[Array.getElem!_eq_getD,Array.getD_eq_getD_getElem?]
   rw[Array.getElem?_setIfInBounds_ne (by omega)]
  all_goals simp only[upd_app,qa,↓reduceIte,t0,t4]
end
section
set_option linter.unusedSectionVars false
variable [Mx]
open Go Go.Proofs
def lowB (ks:List UInt8) (c:UInt8):Nat:=(ks.filter (ltB · c)).length
def Rise (ks:List UInt8):Prop:=ks.Pairwise fun x y=>ltB x y=true
theorem rise_at {ks:List UInt8} (h:Rise ks) {i j:Nat} {x y:UInt8} (hi:ks[i]? = some x) (hj:ks[j]? = some y) (hij:i<j):ltB x y=true:=by
 obtain⟨h1,rfl⟩:=qf.1 hi
 obtain⟨h2,rfl⟩:=qf.1 hj
 exact zn.1 h i j h1 h2 hij
theorem low_eq {ks:List UInt8} {c:UInt8} {i:Nat} (hi:i≤ks.length) (h1:∀ k x,k<i→ks[k]? = some x→ltB x c=true) (h2:∀ k x,i≤k→ks[k]? = some x→ltB x c=false):lowB ks c=i:=by
 rw[lowB,← xE i ks,List.filter_append,List.filter_eq_self.2,List.filter_eq_nil_iff.2]
 ·simp[hi]
 ·intro a ha
  obtain⟨k,hk⟩:=zw.1 ha
  rw[List.getElem?_drop] at hk
  rw[h2 (i+k) a (by omega) hk]
  simp
 ·intro a ha
  obtain⟨k,hk⟩:=zw.1 ha
  have hlt:=(qf.1 hk).1
  rw[xd] at hlt
  rw[List.getElem?_take_of_lt (by omega)] at hk
  exact h1 k a (by omega) hk
theorem eqB (x y:UInt8):binA .eql .prim (.int .u8 (x.toNat:Int)) (.int .u8 (y.toNat:Int))=some (.bool (decide (x=y))):=by
 simp only[binA,intA,if_true]
 congr 2
 simp only[Int.natCast_inj,UInt8.toNat_inj]
def isB (ks:List UInt8) (c:UInt8):Bool:=decide (ks[lowB ks c]? = some c)
theorem pBin (ks:List UInt8) (c:UInt8) (hr:Rise ks) (hl:ks.length≤1000000):PCF qi 90 [encB.S ks,.int .u8 c.toNat] (.tup [.int .i64 (lowB ks c:Nat),.bool (isB ks c)]):=by
 refine pcf_e hmG B1_ok comp90 (by decide) (by simp) (nidL_ok (by simp only[nidL,nid,xu,xb])) ?_
 have hat:∀ (i:Nat) (x:UInt8),ks[i]? = some x→iaddrA 1 (encB.S ks) (.int .i64 (i:Int))=some (.fptr (encB.cs ks) i)∧pickA none (encB.cs ks) i=some (.int .u8 x.toNat):=by
  intro i x h
  have hlt:=(qf.1 h).1
  have hne:encB.cs ks≠[]:=by
   intro h0
   rw[encB_cs,List.map_eq_nil_iff] at h0
   rw[h0] at hlt
   simp at hlt
  refine⟨?_,encB.pick1 (l:=ks) rfl h (v:=.int .u8 x.toNat) rfl rfl⟩
  simp only[iaddrA,Enc.S]
  rw[if_pos ⟨hne,by omega,by omega⟩,xk,xC]
 refine vcE.s1 (k:=vcE.s1 (k:=vcE.s0 ?_))
 refine vcE.then (fun e' tm' hp'=>e'=.normal∧hp'=[]∧tm' 0=encB.S ks∧tm' 1=.int .u8 c.toNat∧tm' 6=.int .i64 (ks.length:Int)∧tm' 7=.int .i64 (lowB ks c:Nat)) ?_ ?_
 ·refine vcE.block (vcE.loop (by intro l tm hp h; simp at h) (fun k tm' hp' => ∃ i j:Nat,k=j - i∧i≤j∧j≤ks.length∧(∀ k x,k<i→ks[k]? = some x→ltB x c=true)∧(∀ k x,j≤k→ks[k]? = some x→ltB x c=false)∧hp'=[]∧tm' 0=encB.S ks∧tm' 1=.int .u8 c.toNat∧tm' 6=.int .i64 (ks.length:Int)∧tm' 7=.int .i64 (i:Int)∧tm' 8=.int .i64 (j:Int)) ks.length ⟨0,ks.length,rfl,Nat.zero_le _,qk _,fun k x h=>by omega,?_,rfl,?_,?_,?_,?_,?_⟩ ?_)
  ·intro k x h1 h2
   have:=(qf.1 h2).1
   omega
  iterate 5 first|rfl|(simp only[upd_app,qa,↓reduceIte]; done)|(simp only[upd_app,qa,↓reduceIte]; rfl)
  rintro k tm hp ⟨i,j,rfl,hij,hjl,h1,h2,rfl,t0,t1,t6,t7,t8⟩
  by_cases hlt:i<j
  rotate_left
  ·refine vcE.ex (by simp (disch:=first|assumption|omega) only[go_sem,↓reduceIte,t7,qa,t8,qT,hlt,decide_false]; rfl) ?_
   have hlow:lowB ks c=i:=low_eq (by omega) h1 (fun k x h=>h2 k x (by omega))
   refine⟨rfl,rfl,?_,?_,?_,?_⟩
   all_goals simp only[upd_app,qa,↓reduceIte,t0,t1,t6,t7,hlow]
  have w1:=natW (x:=(i:Int)+(j:Int)) (i+j) (by omega) (by omega)
  have w2:=wrapU (n:=i+j) (by omega)
  have s1:binA .shr .prim (.int .u64 ((i+j:Nat):Int)) (.int .u64 1)=some (.int .u64 (((i+j) / 2:Nat):Int)):=bshr (x:=i+j) (k:=1) (q:=.u64) (K:=.prim) (by omega)
  have w3:=natW (x:=(((i+j) / 2:Nat):Int)) ((i+j) / 2) rfl (by omega)
  generalize hm:(i+j) / 2=m at *
  have w4:=natW (x:=(m:Int)+1) (m+1) (by omega) (by omega)
  have hml:m<ks.length:=by omega
  obtain⟨y1,p1⟩:=hat m ks[m] (qg hml)
  have hc:=B1_less ks[m] c
  simp only[elB] at hc
  cases hl:ltB ks[m] c<;>rw[hl] at hc
  ·refine vcE.ex (by simp (disch:=first|assumption|omega) only[go_sem,↓reduceIte,t7,qa,t8,qT,hlt,w1,w2,↓s1,w3,reduceCtorEq,t0,y1,↓p1,t1,frzL.eq_2,hc]; rfl) ?_
   refine⟨m - i,by omega,i,m,rfl,by omega,by omega,h1,?_,rfl,?_,?_,?_,?_,?_⟩
   ·intro k x hk hx
    rcases Nat.lt_or_ge m k with h|h
    ·cases hq:ltB x c with
     | false=>rfl
     | true =>
      have:=swoB.trans _ _ _ (rise_at hr (qg hml) hx h) hq
      rw[hl] at this
      cases this
    ·have:k=m:=by omega
     subst this
     rw[qg hml] at hx
     cases hx
     exact hl
   all_goals simp only[upd_app,qa,↓reduceIte,t0,t1,t6,t7]
  ·refine vcE.ex (by simp (disch:=first|assumption|omega) only[go_sem,↓reduceIte,t7,qa,t8,qT,hlt,w1,w2,↓s1,w3,reduceCtorEq,t0,y1,↓p1,t1,frzL.eq_2,hc,w4]; rfl) ?_
   refine⟨j - (m+1),by omega,m+1,j,rfl,by omega,by omega,?_,h2,rfl,?_,?_,?_,?_,?_⟩
   ·intro k x hk hx
    rcases Nat.lt_or_ge k m with h|h
    ·exact swoB.trans _ _ _ (rise_at hr hx (qg hml) h) hl
    ·have:k=m:=by omega
     subst this
     rw[qg hml] at hx
     cases hx
     exact hl
   all_goals simp only[upd_app,qa,↓reduceIte,t0,t1,t6,t8]
 rintro e' tm hp' ⟨rfl,rfl,t0,t1,t6,t7⟩
 by_cases hlt:lowB ks c<ks.length
 rotate_left
 ·have hb:isB ks c=false:=by
   rw[isB,xt (by omega)]
   simp
  rw[hb]
  refine vcE.ex (by simp (disch:=first|assumption|omega) only[go_sem,↓reduceIte,t7,qa,t6,qT,hlt,decide_false]; rfl) ?_
  exact⟨_,rfl,rfl⟩
 have hg:=qg hlt
 obtain⟨y1,p1⟩:=hat _ _ hg
 have hb:isB ks c=decide (ks[lowB ks c]=c):=by
  simp only[isB,hg,Option.some.injEq]
 rw[hb]
 have hn:=B1_nan2 ks[lowB ks c]
 have qe:=eqB ks[lowB ks c] c
 generalize ks[lowB ks c]=y at *
 by_cases he:y=c
 ·rw[decide_eq_true he] at qe ⊢
  refine vcE.ex (by simp (disch:=first|assumption|omega) only[go_sem,↓reduceIte,t7,qa,t6,qT,hlt,reduceCtorEq,t0,y1,↓p1,t1,↓qe]; rfl) ?_
  exact⟨_,rfl,rfl⟩
 ·rw[decide_eq_false he] at qe ⊢
  refine vcE.ex (by simp (disch:=first|assumption|omega) only[go_sem,↓reduceIte,t7,qa,t6,qT,hlt,reduceCtorEq,t0,y1,↓p1,t1,↓qe,frzL.eq_2,hn]; rfl) ?_
  exact⟨_,rfl,rfl⟩
end
section
set_option linter.unusedSectionVars false
variable [Mx]
open Go
variable {α:Type} [DecidableEq α]
end
section
structure Dfa where
 cls:List Int
 nxt:List (List Int)
 acc:List Bool
 deriving DecidableEq
def inI (n:Nat) (c:Int):Bool:=decide (0≤c) && decide (c<n)
def Dfa.wide (d:Dfa):Nat:=(d.nxt.getD 0 []).length
def Dfa.sized (d:Dfa):Bool:=decide (d.cls.length=256) && (decide (1≤d.nxt.length) && (decide (d.nxt.length≤256) && (decide (d.acc.length=d.nxt.length) && decide (1≤d.wide))))
def okRow (w n:Nat) (r:List Int):Bool:=decide (r.length=w) && r.all (inI n)
def Dfa.ok (d:Dfa):Bool:=d.sized && (d.cls.all (inI d.wide) && d.nxt.all (okRow d.wide d.nxt.length))
def Dfa.go (d:Dfa) (s:Nat) (c:UInt8):Nat:=((d.nxt.getD s []).getD (d.cls.getD c.toNat 0).toNat 0).toNat
def Dfa.fin (d:Dfa) (t:List UInt8):Nat:=t.foldl d.go 0
def Dfa.takes (d:Dfa) (t:List UInt8):Bool:=d.acc.getD (d.fin t) false
def Dfa.run (d:Dfa) (t:List UInt8):Bool:=d.ok && d.takes t
theorem inI_iff {n:Nat} {c:Int}:inI n c=true↔0≤c∧c<n:=by simp[inI]
structure Dfa.Ok (d:Dfa):Prop where
 c:d.cls.length=256
 n1:1≤d.nxt.length
 n2:d.nxt.length≤256
 a:d.acc.length=d.nxt.length
 w:1≤d.wide
 cl:∀ x ∈ d.cls,0≤x∧x<d.wide
 row:∀ r ∈ d.nxt,r.length=d.wide∧∀ s ∈ r,0≤s∧s<d.nxt.length
theorem Dfa.ok_iff (d:Dfa):d.ok=true↔d.Ok:=by
 constructor
 ·intro h
  simp only[Dfa.ok,Dfa.sized,qp,decide_eq_true_eq,xr,okRow,inI_iff] at h
  obtain⟨⟨h1,h2,h3,h4,h5⟩,h6,h7⟩:=h
  exact⟨h1,h2,h3,h4,h5,h6,h7⟩
 ·rintro⟨h1,h2,h3,h4,h5,h6,h7⟩
  simp only[Dfa.ok,Dfa.sized,qp,decide_eq_true_eq,xr,okRow,inI_iff]
  exact⟨⟨h1,h2,h3,h4,h5⟩,h6,h7⟩
theorem getD_mem {α:Type} {l:List α} {i:Nat} {z:α} (h:i<l.length):l.getD i z ∈ l:=by
 rw[List.getD_eq_getElem?_getD,qg h]
 exact List.getElem_mem h
theorem Dfa.Ok.cls_lt {d:Dfa} (h:d.Ok) (c:UInt8):0≤d.cls.getD c.toNat 0∧d.cls.getD c.toNat 0<d.wide:=h.cl _ (getD_mem (by rw[h.c]; exact c.toNat_lt))
theorem Dfa.Ok.go_at {d:Dfa} (h:d.Ok) {s:Nat} (hs:s<d.nxt.length) (c:UInt8):0≤(d.nxt.getD s []).getD (d.cls.getD c.toNat 0).toNat 0∧(d.nxt.getD s []).getD (d.cls.getD c.toNat 0).toNat 0<d.nxt.length:=by
 obtain⟨h1,h2⟩:=h.row (d.nxt.getD s []) (getD_mem hs)
 have h3:=h.cls_lt c
 exact h2 _ (getD_mem (by omega))
theorem Dfa.Ok.go_lt {d:Dfa} (h:d.Ok) {s:Nat} (hs:s<d.nxt.length) (c:UInt8):d.go s c<d.nxt.length:=by
 have:=h.go_at hs c
 unfold Dfa.go
 omega
theorem Dfa.Ok.fold_lt {d:Dfa} (h:d.Ok):∀ (t:List UInt8) {s:Nat},s<d.nxt.length→t.foldl d.go s<d.nxt.length
 | [],s,hs=>hs
 | c :: t,s,hs=>h.fold_lt t (h.go_lt hs c)
theorem Dfa.Ok.fin_lt {d:Dfa} (h:d.Ok) (t:List UInt8):d.fin t<d.nxt.length:=h.fold_lt t h.n1
def Dfa.mix (d:Dfa):List UInt8→List UInt8→List UInt8
 | x :: a,y :: b=>(if d.cls.getD x.toNat 0=d.cls.getD y.toNat 0 then y else x) :: d.mix a b
 | a,_=>a
end
section
set_option linter.unusedSectionVars false
variable [Mx]
open Go Go.Proofs
theorem hmM:qi.follows .mixedOrders=true:=hmG
def encR:Enc (List Int) where
 c l:=[encI.S l]
 sz:=1
 pos:=by omega
 len _:=rfl
 nd l:=by simp only[nidL,xu,xb]
 ip:=false
 pl h:=by cases h
 fz hp l:=by simp only[frzL,Enc.S_frz]
 dec:=fun
  | [x]=>encI.un x
  | _=>none
 dec_c l:=encI.un_S l
 dec_some cs a h:=by
  split at h
  ·rw[encI.un_some h]
  ·cases h
def elI:El Int where
 E:=encI
 v n:=.int .i64 n
 sh:=none
 K:=.prim
 pk:=fun {l i a} h=>by
  have:=encI.pick1 (l:=l) rfl h (v:=.int .i64 a) rfl rfl
  simpa[encI] using this
 nt _:=rfl
 ce _:=rfl
 nv _:=rfl
 fz _ _:=rfl
 eq a b:=by simp[binA,intA]
 ne a b:=by simp[binA,intA]
theorem encI_at {l:List Int} {i:Nat} {n:Int} (h:l[i]? = some n):pickA none (encI.cs l) i=some (.int .i64 n):=
 encI.pick1 (l:=l) rfl h (v:=.int .i64 n) rfl rfl
theorem encR_at {l:List (List Int)} {i:Nat} {r:List Int} (h:l[i]? = some r):pickA none (encR.cs l) i=some (encI.S r):=
 encR.pick1 (l:=l) rfl h (v:=encI.S r) rfl rfl
theorem encT_at {l:List Bool} {i:Nat} {r:Bool} (h:l[i]? = some r):pickA none (encT.cs l) i=some (.bool r):=
 encT.pick1 (l:=l) rfl h (v:=.bool r) rfl rfl
def Dfa.c (d:Dfa):List AV:=[encI.S d.cls,encR.S d.nxt,encT.S d.acc]
theorem Dfa.c_nid (d:Dfa):nidL d.c=true:=by simp only[Dfa.c,nidL,xu,xb]
theorem Dfa.c_frz (d:Dfa) (hp:HP):frzL hp d.c=some d.c:=by simp only[Dfa.c,frzL,Enc.S_frz]
def R1.dfa:R1 Dfa where
 v d:=.agg d.c
 un:=fun
  | .agg [x,y,z]=>match encI.un x,encR.un y,encT.un z with
   | some a,some b,some c=>some ⟨a,b,c⟩
   | _,_,_=>none
  | _=>none
 un_v d:=by simp only[Dfa.c,Enc.un_S]
 un_some x d h:=by
  split at h
  ·split at h
   ·rename_i h1 h2 h3
    cases h
    rw[encI.un_some h1,encR.un_some h2,encT.un_some h3]
    rfl
   ·cases h
  ·cases h
end
section
set_option linter.unusedSectionVars false
variable [Mx]
open Go Go.Proofs
def ofB (f:Bool) (c:UInt8):UInt8:=if f then foldB c else c
def keepB (c:UInt8):Bool:=!decide (c=42) && !decide (c=63)
def namedB (p:List UInt8) (f:Bool):List UInt8:=(p.filter keepB).map (ofB f)
theorem namedB_len (p:List UInt8) (f:Bool):(namedB p f).length≤p.length:=by
 simp only[namedB,qL]
 exact List.length_filter_le _ _
def sortB (l:List UInt8):List UInt8:=l.mergeSort fun x y => !ltB y x
theorem sortB_len (l:List UInt8):(sortB l).length=l.length:=List.length_mergeSort _
theorem sortB_rise (l:List UInt8):(sortB l).Pairwise fun x y=>(!ltB y x)=true:=by
 refine List.pairwise_mergeSort ?_ ?_ l
 ·intro a b c h1 h2
  simp only[ltB,zg,decide_eq_false_iff_not] at *
  omega
 ·intro a b
  simp only[ltB,Bool.or_eq_true,zg,decide_eq_false_iff_not]
  omega
def keysB (p:List UInt8) (f:Bool):List UInt8:=cmpTo (sortB (namedB p f)).toArray (namedB p f).length
theorem cmpTo_mem (d:Array UInt8):∀ n x,x ∈ cmpTo d n↔∃ i,i<n∧d[i]! = x
 | 0,x=>by simp[cmpTo]
 | n+1,x=>by
  have ih:=cmpTo_mem d n
  rw[cmpTo]
  split
  ·rw[List.mem_append,ih,qQ]
   constructor
   ·rintro (⟨i,h1,h2⟩|h)
    ·exact⟨i,by omega,h2⟩
    ·exact⟨n,by omega,h.symm⟩
   ·rintro⟨i,h1,h2⟩
    by_cases hi:i=n
    ·subst hi
     exact .inr h2.symm
    ·exact .inl ⟨i,by omega,h2⟩
  ·rename_i h
   have h0:n≠0:=fun e=>h (.inl e)
   have h1:d[n]! = d[n - 1]!:=Decidable.byContradiction fun e=>h (.inr e)
   rw[ih]
   constructor
   ·rintro⟨i,h1,h2⟩
    exact⟨i,by omega,h2⟩
   ·rintro⟨i,h2,h3⟩
    by_cases hi:i=n
    ·subst hi
     exact⟨i - 1,by omega,by rw[← h1]; exact h3⟩
    ·exact⟨i,by omega,h3⟩
theorem cmpTo_rise {d:Array UInt8} (h:∀ i j,i<j→j<d.size→ltB d[j]! d[i]! = false):∀ n,n≤d.size→Rise (cmpTo d n)
 | 0,_=>List.Pairwise.nil
 | n+1,hn=>by
  have ih:=cmpTo_rise h n (by omega)
  rw[cmpTo]
  split
  ·rename_i hc
   refine List.pairwise_append.2 ⟨ih,List.pairwise_singleton _ _,?_⟩
   intro x hx y hy
   rw[qQ] at hy
   subst hy
   obtain⟨i,h1,rfl⟩:=(cmpTo_mem d n x).1 hx
   rcases hc with h0|hc
   ·omega
   have a1:ltB d[n]! d[n - 1]! = false:=h (n - 1) n (by omega) (by omega)
   have a2:ltB d[n - 1]! d[i]! = false:=by
    by_cases hi:i=n - 1
    ·rw[hi]
     exact swoB.irrefl _
    ·exact h i (n - 1) (by omega) (by omega)
   have a3:d[n]!.toNat≠d[n - 1]!.toNat:=fun e=>hc (UInt8.toNat_inj.1 e)
   simp only[ltB,decide_eq_false_iff_not,decide_eq_true_eq] at *
   omega
  ·exact ih
theorem keysB_rise (p:List UInt8) (f:Bool):Rise (keysB p f):=by
 have hs:=sortB_len (namedB p f)
 refine cmpTo_rise ?_ _ (by rw[List.size_toArray,hs]; exact qk _)
 intro i j hij hj
 rw[List.size_toArray] at hj
 have:=zn.1 (sortB_rise (namedB p f)) i j (by omega) hj hij
 rw[getElem!_pos _ j (by simpa using hj),getElem!_pos _ i (by simp; omega)]
 simpa using this
theorem keysB_mem (p:List UInt8) (f:Bool) (x:UInt8):x ∈ keysB p f↔x ∈ namedB p f:=by
 have hs:=sortB_len (namedB p f)
 rw[keysB,cmpTo_mem,← (List.mergeSort_perm (namedB p f) fun x y => !ltB y x).mem_iff,List.mem_iff_getElem]
 constructor
 ·rintro⟨i,h1,h2⟩
  have hi:i<(sortB (namedB p f)).length:=by omega
  refine⟨i,hi,?_⟩
  rw[getElem!_pos _ i (by simpa using hi),List.getElem_toArray] at h2
  exact h2
 ·rintro⟨i,h1,h2⟩
  have hi:i<(sortB (namedB p f)).length:=h1
  refine⟨i,by omega,?_⟩
  rw[getElem!_pos _ i (by simpa using hi),List.getElem_toArray]
  exact h2
theorem keysB_len (p:List UInt8) (f:Bool):(keysB p f).length≤p.length:=Nat.le_trans (cmpTo_len _ _) (namedB_len p f)
def clsOf (ks:List UInt8) (f:Bool) (c:UInt8):Nat:=if isB ks (ofB f c) then lowB ks (ofB f c)+1 else 0
def zeroTo (ks:List UInt8) (f:Bool):Nat→Int
 | 0 => -1
 | n+1=>if isB ks (ofB f (UInt8.ofNat n)) then zeroTo ks f n else n
def clsTo (ks:List UInt8) (f:Bool) (n:Nat):List Int:=(List.range 256).map fun c=>if c<n then ((clsOf ks f (UInt8.ofNat c):Nat):Int) else 0
theorem clsTo_len (ks:List UInt8) (f:Bool) (n:Nat):(clsTo ks f n).length=256:=by simp[clsTo]
theorem clsTo_zero (ks:List UInt8) (f:Bool):clsTo ks f 0=List.replicate 256 0:=by
 rw[List.eq_replicate_iff]
 refine⟨clsTo_len _ _ _,fun b hb=>?_⟩
 simp only[clsTo,List.mem_map,Nat.not_lt_zero,if_false] at hb
 obtain⟨_,_,h⟩:=hb
 exact h.symm
theorem clsTo_set (ks:List UInt8) (f:Bool) (n:Nat):(clsTo ks f n).set n ((clsOf ks f (UInt8.ofNat n):Nat):Int)=clsTo ks f (n+1):=by
 apply List.ext_getElem?
 intro j
 by_cases hj:j<256
 ·rw[List.getElem?_set]
  by_cases hjn:n=j
  ·subst hjn
   rw[if_pos rfl,if_pos (by rw[clsTo_len]; exact hj)]
   simp[clsTo,hj]
  ·rw[if_neg hjn]
   simp only[clsTo,List.getElem?_map,List.getElem?_range hj,Option.map_some]
   congr 1
   by_cases h:j<n
   ·rw[if_pos h,if_pos (by omega)]
   ·rw[if_neg h,if_neg (by omega)]
 ·rw[xt (by rw[xU,clsTo_len]; omega),xt (by rw[clsTo_len]; omega)]
theorem clsTo_same (ks:List UInt8) (f:Bool) (n:Nat) (h:isB ks (ofB f (UInt8.ofNat n))=false):clsTo ks f n=clsTo ks f (n+1):=by
 apply List.map_congr_left
 intro j _
 by_cases hj:j<n
 ·rw[if_pos hj,if_pos (by omega)]
 ·rw[if_neg hj]
  by_cases hjn:j=n
  ·subst hjn
   rw[if_pos (by omega),clsOf,h]
   rfl
  ·rw[if_neg (by omega)]
def clsL (p:List UInt8) (f:Bool):List Int:=clsTo (keysB p f) f 256
def someL (p:List UInt8) (f:Bool):List Int:=zeroTo (keysB p f) f 256 :: (keysB p f).map fun c=>(c.toNat:Int)
theorem pOf1 (c:UInt8):PCF qi 86 [.int .u8 c.toNat] (.int .u8 c.toNat):=by
 refine pcf_e hmG (qJ _) comp86 (by decide) (by simp) (nidL_ok rfl) ?_
 refine vcE.e0 ?_
 exact⟨_,rfl,rfl⟩
def C0:Tab:=Tab.none.addO 33 (.cons .str .nil) fun p=>if p.1.length≤1000 then some (.rd true (.str (p.1.map foldB))) else none
theorem C0_ok:TabOk qi C0:=by
 refine xp (qJ _) ?_
 intro p r h
 split at h
 ·rename_i hv; cases h; exact pFoldS p.1 (by omega)
 ·cases h
theorem C0_fold (c:UInt8):C0 33 [.str [c]]=some (.rd true (.str [foldB c])):=by
 refine (xe _ _ (.cons .str .nil) _ ([c],())).trans ?_
 rw[if_pos (by simp)]
 rfl
theorem idx_str {s:List UInt8} {i:Nat} {c:UInt8} {k:IntKind} (h:s[i]? = some c):indexSA (.str s) (.int k (i:Int))=some (.int .u8 c.toNat):=by
 simp only[indexSA]
 rw[if_pos (by omega),xk,h]
 rfl
theorem src_byte {hp:HP} {e:TypeId} {c:UInt8} {ex:Bool}:srcA (hp++[some (.row e [.int .u8 c.toNat])]) 1 (.sl hp.length 0 1 1 1 ex)=some (encB.cs [c],1):=by
 have:=encB.sl_src (hp:=hp++[some (.row e [.int .u8 c.toNat])]) (id:=hp.length) (e:=e) (l:=[c]) (lo:=1) (ex:=ex) (by simp; rfl)
 exact this
theorem neB (x y:UInt8):binA .neq .prim (.int .u8 (x.toNat:Int)) (.int .u8 (y.toNat:Int))=some (.bool (!decide (x=y))):=by
 simp only[binA,intA,if_true]
 congr 3
 simp only[Int.natCast_inj,UInt8.toNat_inj]
theorem pOf2 (c:UInt8):PCF qi 87 [.int .u8 c.toNat] (.int .u8 (foldB c).toNat):=by
 refine pcf_e hmG C0_ok comp87 (by decide) (by simp) (nidL_ok rfl) ?_
 have h1:=C0_fold c
 have hs:b2sA [some (.row 5 [.int .u8 c.toNat])] (.sl 0 0 1 1 1 true)=some (.str [c]):=by
  have h1:(0:Int)≤(c.toNat:Int)∧(c.toNat:Int)<256:=by
   have:=c.toNat_lt
   omega
  simp[b2sA,srcA,unbyte,h1]
 have h2:indexSA (.str [foldB c]) (.int .i64 0)=some (.int .u8 (foldB c).toNat):=idx_str (i:=0) rfl
 refine vcE.ex (by simp (disch:=first|assumption|omega) only[go_sem,↓reduceIte,reduceCtorEq,↓hs,h1,↓h2]; rfl) ?_
 exact⟨_,rfl,rfl⟩
instance (ks:List UInt8):Decidable (Rise ks):=inferInstanceAs (Decidable (List.Pairwise _ _))
def C1:Tab:=((B1.addR 86 (.cons .byte .nil) fun p=>.rd true (.int .u8 p.1.toNat)).addR 87 (.cons .byte .nil) fun p=>.rd true (.int .u8 (foldB p.1).toNat)).addO 90 (.cons (.S encB) (.cons .byte .nil)) fun p=>if Rise p.1∧p.1.length≤1000000 then some (.rd true (.tup [.int .i64 (lowB p.1 p.2.1:Nat),.bool (isB p.1 p.2.1)])) else none
theorem C1_ok:TabOk qi C1:=by
 refine xp (xY (xY B1_ok ?_) ?_) ?_
 ·exact fun p=>pOf1 p.1
 ·exact fun p=>pOf2 p.1
 ·intro p r h
  split at h
  ·rename_i hv; cases h; exact pBin p.1 p.2.1 hv.1 hv.2
  ·cases h
theorem C1_bin (ks:List UInt8) (c:UInt8) (h1:Rise ks) (h2:ks.length≤1000000):C1 90 [encB.S ks,.int .u8 c.toNat]=some (.rd true (.tup [.int .i64 (lowB ks c:Nat),.bool (isB ks c)])):=
 (xe _ _ (.cons (.S encB) (.cons .byte .nil)) _ (ks,c,())).trans (if_pos ⟨h1,h2⟩)
def fOf (f:Bool):FuncId:=if f then 87 else 86
theorem C1_of (f:Bool) (c:UInt8):C1 (fOf f) [.int .u8 c.toNat]=some (.rd true (.int .u8 (ofB f c).toNat)):=by
 cases f
 ·refine (qS _ _ _ _ rfl _).trans ((zo _ _ _ _ rfl _).trans ?_)
  exact xL _ _ (.cons .byte .nil) _ (c,())
 ·refine (qS _ _ _ _ rfl _).trans ?_
  exact xL _ _ (.cons .byte .nil) _ (c,())
theorem C1_less:Lss elB ltB C1 113:=fun x y=>(qS _ _ _ _ rfl _).trans ((zo _ _ _ _ rfl _).trans ((zo _ _ _ _ rfl _).trans (B1_less x y)))
end
section
set_option linter.unusedSectionVars false
variable [Mx]
open Go Go.Proofs
theorem digX:∀ (n t:Nat) (acc:Array Value),∃ l:List Value,(Extern.BytealgMakeNoZero.digits n t acc).toList=acc.toList++l∧l.length=n∧∀ v ∈ l,∃ x:Nat,v=.int .u8 (Int.ofNat x)
 | 0,t,acc=>⟨[],by simp[Extern.BytealgMakeNoZero.digits],rfl,by simp⟩
 | n+1,t,acc=>by
  obtain⟨l,h1,h2,h3⟩:=digX n (t / 256) (acc.push (.int .u8 (Int.ofNat (t % 256))))
  refine⟨.int .u8 (Int.ofNat (t % 256)) :: l,?_,by simp[h2],?_⟩
  ·simp only[Extern.BytealgMakeNoZero.digits,h1]
   simp
  ·intro v hv
   rcases List.mem_cons.1 hv with rfl|hv
   ·exact⟨_,rfl⟩
   ·exact h3 v hv
theorem mnzX {P : Program} {g : FuncId} {fn : Func} (hfn : P.funcs[g]? = some fn) (hname : (fn.name == "runtime.NumGoroutine") = false) (hb : fn.body.isNone = true) (hn : (Extern.findNext fn).isNone = true) (hf : Extern.find fn = some (Extern.BytealgMakeNoZero.makeNoZero fn.params fn.resultTypes)) {t e : TypeId} (ht : fn.resultTypes[0]? = some t) (hu : P.underlying t = some (.slice e)) {n : Int} {hp : HP} (h0 : 0 ≤ n) (hmax : n ≤ 1099511627776) : AExt P g [.int .i64 n] hp fun a b => a = .sl hp.length 0 n.toNat 1 n.toNat false ∧ b = hp ++ [some (.row e (List.replicate n.toNat .unk))] := by
 intro Γ vs hh hl hv
 have hb2:0≤n∧n≤1099511627776:=⟨h0,hmax⟩
 obtain⟨v,rfl,h1⟩:=hv.one'
 simp only[VRel] at h1
 subst h1
 have hh1:=hh.drewN 1
 -- what was drawn
 let cap:=grownCap Γ.w n.toNat 0 e
 let q : Question := .extern "internal/bytealg.MakeNoZero.bytes" 0
 let bytes:=q.cut (Γ.w.drew.tape Γ.w.drew.drawn q)
 obtain⟨l,d1,d2,d3⟩:=digX cap bytes #[]
 have hge:n.toNat≤cap:=grownCap_ge Γ.w n.toNat 0 e
 have hrel:∀ (k:Nat) (l:List Value),k≤l.length→(∀ v ∈ l,∃ x:Nat,v=.int .u8 (Int.ofNat x))→VRels (Γ.drewN 1) (List.replicate k .unk) (l.take k):=by
  intro k
  induction k with
  | zero=>intro l _ _; simp[VRels]
  | succ k ih =>
   intro l hk hl3
   cases l with
   | nil=>simp at hk
   | cons a l =>
    obtain⟨x,hx⟩:=hl3 a (by simp)
    simp only[List.replicate_succ,List.take_succ_cons,VRels]
    exact⟨_,_,rfl,by simp only[VRel]; exact⟨_,_,hx⟩,ih l (by simpa using hk) fun v hv=>hl3 v (by simp[hv])⟩
 have hone:∀ u ∈ l.take n.toNat,one u=true:=fun u hu'=>by
  obtain⟨x,rfl⟩:=d3 u (List.mem_of_mem_take hu')
  rfl
 obtain⟨Δ,p1,p2,p3,p4⟩:=grown_row (P:=P) hh1 e (hrel n.toNat l (by omega) d3) hone (l.drop n.toNat) cap n.toNat 1 (by rw[xE]; omega) hge
 refine⟨.slice (some ⟨Γ.w.heap.size,0,none⟩) n.toNat cap,_,_,Δ,?_,p2,p3,(Ev.drewN Γ hp 1).trans p4,rfl,rfl⟩
 refine run_extern hfn hname hb hn hf _ _ ?_
 have hlit:¬ (n<0∨n > 2 ^ 48):=by
  have:(2:Int) ^ 48=281474976710656:=by decide
  omega
 rw[xE] at p1
 have he:Extern.BytealgMakeNoZero.makeNoZero fn.params fn.resultTypes ⟨[.int .i64 n]⟩=(do
   let some t := fn.resultTypes[0]? | stuck "bytealg.MakeNoZero: no result type"
   let .slice elem ← underlying t | stuck "bytealg.MakeNoZero: slice type expected"
   if n < 0 || n > 2 ^ 48 then runtimePanic (.error "makeslice: len out of range")
   let cap ← choose (.appendCap n.toNat 0 elem)
   askRoom cap
   let bytes ← choose (.extern "internal/bytealg.MakeNoZero.bytes" 0)
   let a ← newRow elem (Extern.BytealgMakeNoZero.digits cap bytes #[])
   pure (.slice (some a) n.toNat cap)):=rfl
 rw[he]
 have hforced:(Question.appendCap n.toNat 0 e).forced=false:=rfl
 have hforced2 : (Question.extern "internal/bytealg.MakeNoZero.bytes" 0).forced = false := by simp [Question.forced]
 have hc1:(choose (.appendCap n.toNat 0 e)).run P Γ.w=.ok cap Γ.w.drew:=by
  rw[run_choose,hforced]
  rfl
 have hc2 : (choose (.extern "internal/bytealg.MakeNoZero.bytes" 0)).run P Γ.w.drew = .ok bytes Γ.w.drew.drew := by
  rw[run_choose,hforced2]
  rfl
 have hdig:Extern.BytealgMakeNoZero.digits cap bytes #[]=⟨l⟩:=by
  apply Array.ext'
  rw[d1]
  simp
 have hcond:(decide (n<0) || decide (n > 2 ^ 48))=false:=by
  simp only[not_or] at hlit
  simp only[decide_eq_false hlit.1,decide_eq_false hlit.2,Bool.or_self]
 simp only[ht,hcond,qA,newRow,if_false,Sem.run_bind,run_underlying hu,Result.andThen_ok,hc1,run_askRoom,Sem.run_pure,hc2,hdig]
 rw[p1]
 rfl
theorem extMnz (n:Int) {hp:HP} (h0:0≤n) (hmax:n≤1099511627776):AExt qi 111 [.int .i64 n] hp fun a b=>a=.sl hp.length 0 n.toNat 1 n.toNat false∧b=hp++[some (.row 5 (List.replicate n.toNat .unk))]:=
 mnzX (fn:=Tryz.f111) (t:=83) (by kernel_rfl) (by kernel_rfl) (by kernel_rfl) (by kernel_rfl) (by kernel_rfl) (by kernel_rfl) (by kernel_rfl) h0 hmax
theorem pMul64 (n:Nat) (hn:n≤300):PCF qi 125 [.int .u64 1,.int .u64 (n:Int)] (.tup [.int .u64 0,.int .u64 (n:Int)]):=by
 refine pcf_e hmG (qJ _) comp125 (by decide) (by simp) (nidL_ok rfl) ?_
 have hm:∀ k:Fin 301,k.val &&& 4294967295=k.val:=by decide +kernel
 have a1:binA .and .prim (.int .u64 1) (.int .u64 4294967295)=some (.int .u64 1):=band (x:=1) (y:=4294967295) (by omega) (by omega)
 have a2:binA .and .prim (.int .u64 (n:Int)) (.int .u64 4294967295)=some (.int .u64 (n:Int)):=by
  have:=band (x:=n) (y:=4294967295) (K:=.prim) (by omega) (by omega)
  rw[hm ⟨n,by omega⟩] at this
  exact this
 have a3:binA .and .prim (.int .u64 0) (.int .u64 4294967295)=some (.int .u64 0):=band (x:=0) (y:=4294967295) (by omega) (by omega)
 have s1:binA .shr .prim (.int .u64 1) (.int .u64 32)=some (.int .u64 0):=bshr (x:=1) (k:=32) (q:=.u64) (by omega)
 have s2:binA .shr .prim (.int .u64 (n:Int)) (.int .u64 32)=some (.int .u64 0):=by
  have:=bshr (x:=n) (k:=32) (q:=.u64) (K:=.prim) (by omega)
  rw[show n / 2 ^ 32=0 from Nat.div_eq_of_lt (by omega)] at this
  exact this
 have s3:binA .shr .prim (.int .u64 0) (.int .u64 32)=some (.int .u64 0):=bshr (x:=0) (k:=32) (q:=.u64) (by omega)
 have m1:binA .mul .prim (.int .u64 1) (.int .u64 (n:Int))=some (.int .u64 (n:Int)):=by
  simp only[binA,intA,if_true,Int.one_mul]
  rw[wrapU (by omega)]
 have m2:binA .mul .prim (.int .u64 0) (.int .u64 (n:Int))=some (.int .u64 0):=by
  simp only[binA,intA,if_true,Int.zero_mul]
  rfl
 have m3:binA .mul .prim (.int .u64 1) (.int .u64 0)=some (.int .u64 0):=rfl
 have m4:binA .mul .prim (.int .u64 0) (.int .u64 0)=some (.int .u64 0):=rfl
 have d1:binA .add .prim (.int .u64 0) (.int .u64 0)=some (.int .u64 0):=rfl
 refine vcE.ex (by simp (disch:=first|assumption|omega) only[go_sem,↓reduceIte,reduceCtorEq,↓a1,↓s1,qa,↓a2,↓s2,↓m1,↓m2,↓d1,↓a3,↓s3,↓m3,↓m4]; rfl) ?_
 exact⟨_,rfl,rfl⟩
def U0:Tab:=Tab.none.add 125 fun
 | [.int .u64 1,.int .u64 n]=>if 0≤n∧n≤300 then some (.rd true (.tup [.int .u64 0,.int .u64 n])) else none
 | _=>none
theorem U0_ok:TabOk qi U0:=by
 refine TabOk.add (qJ _) ?_
 intro xs r h
 split at h
 ·rename_i n
  split at h
  ·rename_i hv
   cases h
   have:=pMul64 n.toNat (by omega)
   rw[Int.toNat_of_nonneg hv.1] at this
   exact this
  ·cases h
 ·cases h
theorem pMul (n:Nat) (hn:n≤300):PCF qi 110 [.int .u64 1,.int .u64 (n:Int)] (.tup [.int .u64 0,.int .u64 (n:Int)]):=by
 refine pcf_e hmG U0_ok comp110 (by decide) (by simp) (nidL_ok rfl) ?_
 have h0:U0 125 [.int .u64 1,.int .u64 (n:Int)]=some (.rd true (.tup [.int .u64 0,.int .u64 (n:Int)])):=by
  show (if (0:Int)≤(n:Int)∧(n:Int)≤300 then _ else _)=_
  rw[if_pos ⟨by omega,by omega⟩]
 refine vcE.ex (by simp (disch:=first|assumption|omega) only[go_sem,↓reduceIte,qa,reduceCtorEq,h0,zj]; rfl) ?_
 exact⟨_,rfl,rfl⟩
def U1:Tab:=Tab.none.add 110 fun
 | [.int .u64 1,.int .u64 n]=>if 0≤n∧n≤300 then some (.rd true (.tup [.int .u64 0,.int .u64 n])) else none
 | _=>none
theorem U1_ok:TabOk qi U1:=by
 refine TabOk.add (qJ _) ?_
 intro xs r h
 split at h
 ·rename_i n
  split at h
  ·rename_i hv
   cases h
   have:=pMul n.toNat (by omega)
   rw[Int.toNat_of_nonneg hv.1] at this
   exact this
  ·cases h
 ·cases h
def rq (k m:Nat):List AV:=List.replicate k (.int .u8 63)++List.replicate m .unk
theorem rq_len (k m:Nat):(rq k m).length=k+m:=by simp[rq]
theorem rq_over {k m j:Nat} (h:j≤m):over (rq k m) k (List.replicate j (.int .u8 63))=rq (k+j) (m - j):=by
 rw[over,rq,List.take_append_of_le_length (by simp),xg (by simp),xD,List.drop_append,xD,List.drop_eq_nil_of_le (by simp),List.nil_append,List.drop_replicate,List.replicate_append_replicate,show m - (k+j - k)=m - j by omega]
 rfl
theorem rq_copy {n k lo1 lo2:Nat} {b1 b2:Bool} (h0:1≤k) (h:k<n):copyA [some (.row 5 (rq k (n - k)))] 1 (.sl 0 k (n - k) 1 lo1 b1) (.sl 0 0 k 1 lo2 b2)=some (.int .i64 ((min k (n - k):Nat):Int),[some (.row 5 (rq (k+min k (n - k)) (n - (k+min k (n - k)))))]):=by
 have hl:(rq k (n - k)).length=n:=by rw[rq_len]; omega
 have ht:∀ j,j≤k→(rq k (n - k)).take j=List.replicate j (.int .u8 63):=by
  intro j hj
  rw[rq,List.take_append_of_le_length (by simpa using hj),List.take_replicate,Nat.min_eq_left hj]
 simp only[copyA,srcA,shortA,ql,hl,xC,qY,xJ]
 rw[if_pos ⟨trivial,by omega⟩]
 simp only[Nat.min_le_left,if_true,ql,hl,qY,xJ]
 rw[if_pos ⟨trivial,by omega⟩]
 simp only
 rw[if_pos ⟨⟨trivial,by omega⟩,trivial⟩,ht _ (Nat.min_le_left _ _),rq_over (Nat.min_le_right _ _)]
 rw[show n - k - min k (n - k)=n - (k+min k (n - k)) by omega]
 rfl
theorem pRepeat (n:Nat) (h:n≤300):PCF qi 85 [.fsl [.int .u8 63] 1,.int .i64 n] (.fsl (List.replicate n (.int .u8 63)) n):=by
 refine pcf_e hmG U1_ok comp85 (by decide) (by simp) (nidL_ok rfl) ?_
 refine vcE.s0 ?_
 by_cases h0:n=0
 ·subst h0
  refine vcE.e0 ?_
  exact⟨_,rfl,rfl⟩
 have h0':¬ (n:Int)=0:=by omega
 have hneg:¬ (n:Int)<0:=by omega
 have w1:=wrapU (n:=n) (by omega)
 have w2:IntKind.wrap .u64 1=1:=rfl
 have c1:((1:Nat):Int)=1:=rfl
 have c0:¬ (1:Int)=0:=by omega
 have w3:=natW (x:=(n:Int)) n rfl (by omega)
 have hmul:U1 110 [.int .u64 1,.int .u64 (n:Int)]=some (.rd true (.tup [.int .u64 0,.int .u64 (n:Int)])):=by
  show (if (0:Int)≤(n:Int)∧(n:Int)≤300 then _ else _)=_
  rw[if_pos ⟨by omega,by omega⟩]
 have hbig:¬ (9223372036854775807:Int)<(n:Int):=by omega
 have hch:¬ (8192:Int)<(n:Int):=by omega
 refine vcE.step (by simp (disch:=first|assumption|omega) only[go_sem,↓reduceIte,qa,h0',decide_false]; rfl) (vcE.step (by simp (disch:=first|assumption|omega) only[go_sem,↓reduceIte,qa,hneg,decide_false]; rfl) (vcE.step (by simp (disch:=first|assumption|omega) only[go_sem,↓reduceIte,qa,reduceCtorEq,w1,w2,c1,hmul,zj]; rfl) (vcE.step (by simp (disch:=first|assumption|omega) only[go_sem,↓reduceIte,qa,hbig,gt_iff_lt,decide_false]; rfl) (vcE.step (by simp (disch:=first|assumption|omega) only[go_sem,↓reduceIte,qa,w3]; rfl) (vcE.step (by simp (disch:=first|assumption|omega) only[go_sem,↓reduceIte,reduceCtorEq,c1,c0,decide_false]; rfl) (vcE.s1 (k:=vcE.step (by simp (disch:=first|assumption|omega) only[go_sem,↓reduceIte,hch,decide_false]; rfl) ?_)))))))
 have hsl:sliceA 1 (.sl 0 0 n 1 n false) none (some (.int .i64 (n:Int))) (some (.int .i64 (n:Int)))=some (.sl 0 0 n 1 n true):=by
  simp[sliceA,bndA,cutA]
 refine vcE.then (fun e' tm' hp'=>e'=.normal∧hp'=[some (.row 5 (rq 0 n))]∧tm' 0=.fsl [.int .u8 63] 1∧tm' 7=.int .i64 (n:Int)∧tm' 8=.int .i64 (n:Int)∧tm' 9=.sl 0 0 n 1 n true) ?_ ?_
 ·rw[show r85_16=r85_16.take 1++(r85_16.drop 1).take 1++r85_16.drop 2 from rfl]
  refine vcE.app (vcE.app (vcE.e1 (k:=⟨rfl,vcE.ext (f:=111) (caps:=[]) (ys:=[.int .i64 (n:Int)]) rfl ?_ (extMnz (n:Int) (by omega) (by omega)) ?_⟩)))
  ·simp only[evsE,evE,upd_app,↓reduceIte]
  rintro r hp' ⟨rfl,rfl⟩
  rw[xk]
  refine⟨rfl,vcE.ex (by simp (disch:=first|assumption|omega) only[go_sem,↓reduceIte,qa,putE,↓hsl]; rfl) ?_⟩
  refine⟨rfl,rfl,?_,?_,?_,?_⟩
  all_goals first|(simp only[upd_app,qa,↓reduceIte]; done)|(simp only[upd_app,qa,↓reduceIte]; rfl)
 rintro e' tm hp ⟨rfl,rfl,t0,t7,t8,t9⟩
 have hc0:copyA [some (.row 5 (rq 0 n))] 1 (.sl 0 0 n 1 n true) (.fsl [.int .u8 63] 1)=some (.int .i64 1,[some (.row 5 (rq 1 (n - 1)))]):=by
  have hmin:min 1 n=1:=by omega
  have ho:=rq_over (k:=0) (m:=n) (j:=1) (by omega)
  have hl:=rq_len 0 n
  have hmin2:Nat.min 1 n=1:=hmin
  simp only[copyA,srcA,shortA,ql,qP,if_true,xC,qY,hl]
  have hm1:min 1 n≤1:=by omega
  rw[if_pos hm1]
  simp only[show min 1 n=1 from hmin,List.take_succ_cons,List.take_zero,qP,if_true,and_self,qk]
  refine congrArg some (congrArg _ ?_)
  exact congrArg (fun x=>[some (Blk.row 5 x)]) ho
 refine vcE.step (by simp (disch:=first|assumption|omega) only[go_sem,↓reduceIte,qa,reduceCtorEq,t0,t9,↓hc0]; rfl) ?_
 refine vcE.then (fun e' tm' hp'=>e'=.normal∧hp'=[some (.row 5 (rq n 0))]∧tm' 9=.sl 0 0 n 1 n true) ?_ ?_
 ·refine vcE.block (vcE.loop (by intro l tm hp h; simp at h) (fun k tm' hp' => ∃ j:Nat,k=n - j∧1≤j∧j≤n∧hp'=[some (.row 5 (rq j (n - j)))]∧tm' 7=.int .i64 (n:Int)∧tm' 8=.int .i64 (n:Int)∧tm' 9=.sl 0 0 n 1 n true∧tm' 10=.int .i64 (j:Int)) (n - 1) ⟨1,rfl,qk _,by omega,rfl,?_,?_,?_,?_⟩ ?_)
  ·simp only[upd_app,qa,↓reduceIte,t7]
  ·simp only[upd_app,qa,↓reduceIte,t8]
  ·simp only[upd_app,qa,↓reduceIte,t9]
  ·simp only[upd_app,↓reduceIte]
   rfl
  clear t0 t7 t8 t9 hc0
  rintro k tm hp ⟨j,rfl,hj1,hjn,rfl,t7,t8,t9,t10⟩
  by_cases hlt:j<n
  rotate_left
  ·have:j=n:=by omega
   subst this
   refine vcE.ex (by simp (disch:=first|assumption|omega) only[go_sem,↓reduceIte,t10,qa,t7,qT,hlt,decide_false]; rfl) ?_
   refine⟨rfl,by rw[Nat.sub_self],?_⟩
   simp only[upd_app,qa,↓reduceIte,t9]
  have hmn:minmaxA false [.int .i64 (j:Int),.int .i64 (n:Int)]=some (.int .i64 (j:Int)):=by
   simp only[minmaxA,minmaxA.go,qA,if_false]
   rw[if_neg (by omega)]
  have s1:sliceA 1 (.sl 0 0 n 1 n true) (some (.int .i64 (j:Int))) none none=some (.sl 0 j (n - j) 1 (n - j) true):=by
   simp[sliceA,bndA,cutA]
   omega
  have s2:sliceA 1 (.sl 0 0 n 1 n true) none (some (.int .i64 (j:Int))) none=some (.sl 0 0 j 1 n true):=by
   simp[sliceA,bndA,cutA]
   omega
  have hc:=rq_copy (n:=n) (k:=j) (lo1:=n - j) (lo2:=n) (b1:=true) (b2:=true) hj1 hlt
  have wj:=natW (x:=(j:Int)+((min j (n - j):Nat):Int)) (j+min j (n - j)) (by omega) (by omega)
  refine vcE.ex (by simp (disch:=first|assumption|omega) only[go_sem,↓reduceIte,t10,qa,t7,qT,hlt,t8,↓hmn,exOps.eq_2,t9,↓s1,↓s2,↓hc,wj]; rfl) ?_
  refine⟨n - (j+min j (n - j)),by omega,j+min j (n - j),rfl,by omega,by omega,rfl,?_,?_,?_,?_⟩
  all_goals simp only[upd_app,qa,↓reduceIte,t7,t8,t9]
 rintro e' tm hp ⟨rfl,rfl,t9⟩
 refine vcE.ex (by simp (disch:=first|assumption|omega) only[go_sem,↓reduceIte,t9]; rfl) ?_
 refine⟨.sl 0 0 n 1 n true,?_,?_⟩
 ·simp only[resE,resEL,resE1,upd_app,↓reduceIte]
 ·have he:rq n 0=encB.cs (List.replicate n 63):=by
   rw[encB_cs,rq,List.replicate_zero,qt,List.map_replicate]
   rfl
  have:=encB.sl_fresh (hp:=[some (.row 5 (encB.cs (List.replicate n 63)))]) (id:=0) (e:=5) (l:=List.replicate n 63) (lo:=n) (ex:=true) rfl
  rw[xD] at this
  rw[he]
  refine this.trans ?_
  rw[Enc.S,encB_cs,List.map_replicate,xD]
  rfl
end
end Go.Gi
