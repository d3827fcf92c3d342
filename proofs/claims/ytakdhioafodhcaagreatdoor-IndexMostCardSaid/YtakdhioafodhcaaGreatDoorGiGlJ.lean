/- Tables built: the bound does not matter, if it allows the table. -/
/- States: a row as a list. -/
/- Tables built run as the states do: the plain law. -/
/- States: Run: what it gives. -/
/- Automata: a table, or states: what their methods give. -/
/- unicode/utf8.DecodeRune at a byte that is not ASCII: what is needed of it. -/
/- unicode/utf8.DecodeRune, bytes.IndexAny of * and ?: what they give. -/
import Derived.Test.YtakdhioafodhcaaGreatDoorGiDfC
import Derived.Test.YtakdhioafodhcaaGreatDoorGiNfN
import Derived.Test.YtakdhioafodhcaaGreatDoorGiSL
set_option linter.unusedVariables false
set_option linter.unusedSimpArgs false
namespace Go.Gi
open _root_.Bool renaming and_self → xb
open _root_.Go.Gi.Enc renaming S_nid → xu
open _root_.Go.Proofs.Tryz renaming prog → qi
open _root_.Go.IntKind renaming wrap → qU, bits → za
open _root_.List renaming getD_eq_getElem?_getD → qX, getElem?_append_right → xh, getElem?_eq_some_iff → qf, getElem?_eq_none_iff → zm, getElem?_eq_getElem → qg, getElem?_cons_zero → ql, getElem?_cons_succ → qw, mem_iff_getElem? → zw, mem_cons_of_mem → qI, mem_of_getElem? → xa, getD_cons_zero → qF, getD_cons_succ → xF, length_append → qo, mem_cons_self → qD, mem_singleton → qQ, set_cons_zero → xA, append_assoc → qV, length_cons → qr, cons_append → qZ, append_nil → qt, length_nil → qx, nil_append → qz, mem_filter → xI, take_zero → xi, map_cons → qB, mem_map → xw
open _root_.List.cons renaming injEq → xc
open _root_.Nat renaming reduceEqDiff → qa, reduceLeDiff → qu, reduceAdd → qs, zero_add → qY, sub_self → xX, le_refl → qk
open _root_.Option renaming map_some → qh
open _root_.Option.some renaming injEq → qd
open _root_.Go.Sem renaming run_bind → qN
open _root_.Go.Gi.Tab renaming addO_self → xe
open _root_.Go.Gi.TabOk renaming none → qJ, addO → xp
section
set_option linter.unusedSectionVars false
variable [Mx]
open Go Go.Proofs
theorem nextF_len (st:List Int→Int→List Int) (row:List Int):∀ (sm:List Int) (s:List Int × List (List Int)),s.2.length≤(sm.foldl (nxF st row) s).2.length
 | [],s=>qk _
 | c :: sm,s=>by
  refine Nat.le_trans ?_ (nextF_len st row sm (nxF st row s c))
  unfold nxF
  split
  ·exact qk _
  ·exact (numF_len _ _).2
section
variable {st:List Int→Int→List Int} {ac:List Int→Bool} {sm:List Int}
theorem bldF_le {most:Nat}:∀ {k i:Nat} {rows nx:List (List Int)} {acs:List Bool} {r:List (List Int) × List Bool},bldF st ac sm most k i rows nx acs=some r→nx.length=i→acs.length=i→i≤rows.length→i≤most→r.1.length≤most∧rows.length≤r.1.length∧r.2.length=r.1.length
 | 0,i,rows,nx,acs,r,h,_,_,_,_=>by cases h
 | k+1,i,rows,nx,acs,r,h,hn,ha,hi,hm=>by
  rw[bldF] at h
  cases hg:rows[i]? with
  | none =>
   rw[hg] at h
   cases h
   have:=zm.1 hg
   simp only
   omega
  | some row =>
   rw[hg] at h
   have hlt:=(qf.1 hg).1
   by_cases hc:rows.length > most
   ·simp only[if_pos hc] at h
    cases h
   ·simp only[if_neg hc] at h
    have hl:=nextF_len st row sm ([],rows)
    have:=bldF_le h (by simp[hn]) (by simp[ha]) (by simp only[nextF]; simp only at hl; omega) (by omega)
    simp only[nextF] at this
    simp only at hl
    exact⟨this.1,by omega,this.2.2⟩
end
theorem buildF_yes {p:List UInt8} {f:Bool} {most:Int} (h:(buildF p f most).2=true):∃ r,checkG p=0∧1≤most∧most≤256∧buildR p f most.toNat=some r∧(buildF p f most).1=⟨clsL (patP (newV p f)) f,r.1,r.2⟩:=by
 unfold buildF at h ⊢
 by_cases hb:checkG p≠0∨most<1∨256<most
 ·rw[if_pos hb] at h
  cases h
 ·rw[if_neg hb] at h ⊢
  cases hr:buildR p f most.toNat with
  | none =>
   rw[hr] at h
   cases h
  | some r =>
   refine⟨r,Decidable.byContradiction fun h=>hb (.inl h),?_,?_,rfl,rfl⟩
   ·have:¬ most<1:=fun h=>hb (.inr (.inl h))
    omega
   ·have:¬ 256<most:=fun h=>hb (.inr (.inr h))
    omega
end
section
set_option linter.unusedSectionVars false
variable [Mx]
open Go Go.Proofs
theorem lst_eq (N:Nat) (b:Nat→Bool):lst N b=((List.range N).filter b).map fun (i:Nat)=>(i:Int):=by
 unfold lst listB listTo
 rw[rowB_len]
 congr 1
 refine List.filter_congr fun i hi=>?_
 rw[rowB_get (List.mem_range.1 hi)]
 cases b i<;>simp
theorem lst_mem {N:Nat} {b:Nat→Bool} {v:Int}:v ∈ lst N b↔∃ i:Nat,i<N∧b i=true∧v=i:=by
 rw[lst_eq,xw]
 constructor
 ·rintro⟨i,hi,rfl⟩
  rw[xI,List.mem_range] at hi
  exact⟨i,hi.1,hi.2,rfl⟩
 ·rintro⟨i,h1,h2,rfl⟩
  exact⟨i,xI.2 ⟨List.mem_range.2 h1,h2⟩,rfl⟩
theorem ofS_lst {N:Nat} {b:Nat→Bool} {j:Nat} (h:j<N):ofS (lst N b) j=b j:=by
 rw[Bool.eq_iff_iff,ofS,decide_eq_true_eq,lst_mem]
 constructor
 ·rintro⟨i,_,h2,h3⟩
  have:j=i:=by omega
  subst this
  exact h2
 ·exact fun h2=>⟨j,h,h2,rfl⟩
theorem lst_step {x:Option (List UInt8 × Bool)} (h:okV x) {r:Nat→Bool} {c:UInt8}:lst (nN x) (stepV x (ofS (lst (nN x) r)) c)=lst (nN x) (stepV x r c):=by
 have:=stepV_congr h (c:=c) (ofS (lst (nN x) r)) r fun i hi=>ofS_lst hi
 show listB _=listB _
 rw[this]
theorem acc_lst {x:Option (List UInt8 × Bool)} (h:okV x) {r:Nat→Bool}:accV x (ofS (lst (nN x) r))=accV x r:=by
 cases x with
 | none=>rfl
 | some a =>
  obtain⟨p,f⟩:=a
  simp only[accV]
  rw[nN_some h.1]
  exact ofS_lst (by omega)
theorem acc_run {p:List UInt8} {f:Bool} (h:checkG p=0) (t:List UInt8):accV (newV p f) (runV (newV p f) t (startV (newV p f)))=gm (sameB f) p t:=by
 unfold newV
 rw[if_pos h]
 simp only[accV,runV_some,startV]
 rw[run_at t (t:=[]) (fun i hi=>start_at hi) _ (qk _),qz,at_end,gm_norm]
end
section
set_option linter.unusedSectionVars false
variable [Mx]
open Go Go.Proofs
def row8 (l:List Int):Prop:=∀ v ∈ l,0≤v∧v<256
theorem ofI8 {n:Int} (h:0≤n∧n<256):((UInt8.ofNat (n % 256).toNat).toNat:Int)=n:=by
 rw[UInt8.toNat_ofNat']
 omega
theorem keyI_inj:∀ {l m:List Int},row8 l→row8 m→keyI l=keyI m→l=m
 | [],[],_,_,_=>rfl
 | [],b :: m,_,_,h=>by cases h
 | a :: l,[],_,_,h=>by cases h
 | a :: l,b :: m,hl,hm,h=>by
  rw[keyI,keyI,qB,qB,xc] at h
  have h1:=ofI8 (hl a (qD ..))
  have h2:=ofI8 (hm b (qD ..))
  rw[h.1,h2] at h1
  rw[h1,keyI_inj (fun v hv=>hl v (qI _ hv)) (fun v hv=>hm v (qI _ hv)) h.2]
theorem findK_some {s:List UInt8}:∀ {rows:List (List Int)} {j:Nat},findK s rows=some j→∃ r,rows[j]? = some r∧s=keyI r
 | [],j,h=>by cases h
 | r :: rs,j,h=>by
  rw[findK] at h
  by_cases hs:s=keyI r
  ·rw[if_pos hs] at h
   cases h
   exact⟨r,rfl,hs⟩
  ·rw[if_neg hs] at h
   cases hf:findK s rs with
   | none =>
    rw[hf] at h
    cases h
   | some i =>
    rw[hf] at h
    cases h
    obtain⟨r',h1,h2⟩:=findK_some hf
    exact⟨r',by simpa using h1,h2⟩
theorem numF_at {rows:List (List Int)} {l:List Int} (hg:∀ r ∈ rows,row8 r) (hl:row8 l):∃ (v:Nat) (tl:List (List Int)),numF rows l=(v,rows++tl)∧(rows++tl)[v]? = some l∧∀ r ∈ rows++tl,row8 r:=by
 unfold numF
 cases hf:findK (keyI l) rows with
 | some j =>
  obtain⟨r,h1,h2⟩:=findK_some hf
  have hr:=xa h1
  refine⟨j,[],by simp,?_,by simpa using hg⟩
  rw[qt,h1,keyI_inj hl (hg r hr) h2]
 | none =>
  refine⟨rows.length,[l],rfl,by simp,?_⟩
  intro r hr
  rcases List.mem_append.1 hr with h|h
  ·exact hg r h
  ·rw[qQ] at h
   rw[h]
   exact hl
section
variable {st:List Int→Int→List Int} {ac:List Int→Bool} {sm:List Int}
def leadsTo (st:List Int→Int→List Int) (sm:List Int) (R:List (List Int)) (row nr:List Int):Prop:=
 nr.length=sm.length∧∀ (k:Nat) (c:Int),sm[k]? = some c→∃ v:Nat,nr[k]? = some (v:Int)∧v<R.length∧(0≤c→R[v]? = some (st row c))
theorem get_more {α:Type} {l m:List α} {i:Nat} {a:α} (h:l[i]? = some a):(l++m)[i]? = some a:=by
 rw[List.getElem?_append_left (qf.1 h).1]
 exact h
theorem leadsTo.more {R tl:List (List Int)} {row nr:List Int} (h:leadsTo st sm R row nr):leadsTo st sm (R++tl) row nr:=by
 refine⟨h.1,fun k c hk=>?_⟩
 obtain⟨v,h1,h2,h3⟩:=h.2 k c hk
 refine⟨v,h1,by rw[qo]; omega,fun hc=>get_more (h3 hc)⟩
theorem next_at {row:List Int} (hst:∀ c,row8 (st row c)):∀ (sm acc:List Int) (rows:List (List Int)),rows≠[]→(∀ r ∈ rows,row8 r)→∃ (nr:List Int) (tl:List (List Int)),sm.foldl (nxF st row) (acc,rows)=(acc++nr,rows++tl)∧(∀ r ∈ rows++tl,row8 r)∧leadsTo st sm (rows++tl) row nr
 | [],acc,rows,hne,hg=>⟨[],[],by simp,by simpa using hg,rfl,fun k c h=>by simp at h⟩
 | c :: sm,acc,rows,hne,hg=>by
  rw[List.foldl_cons]
  have hpos:0<rows.length:=List.length_pos_iff.2 hne
  by_cases hc:c<0
  ·have hn:nxF st row (acc,rows) c=(acc++[0],rows):=by simp only[nxF,if_pos hc]
   obtain⟨nr,tl,h1,h2,h3⟩:=next_at hst sm (acc++[0]) rows hne hg
   refine⟨0 :: nr,tl,by rw[hn,h1,qV]; rfl,h2,by rw[qr,qr,h3.1],?_⟩
   intro k d hk
   cases k with
   | zero =>
    simp only[ql,qd] at hk
    subst hk
    exact⟨0,rfl,by rw[qo]; omega,fun h=>by omega⟩
   | succ k=>exact h3.2 k d (by simpa using hk)
  ·obtain⟨v,t1,e1,e2,e3⟩:=numF_at hg (hst c)
   have hn:nxF st row (acc,rows) c=(acc++[(v:Int)],rows++t1):=by simp only[nxF,if_neg hc,e1]
   obtain⟨nr,tl,h1,h2,h3⟩:=next_at hst sm (acc++[(v:Int)]) (rows++t1) (by simp[hne]) e3
   refine⟨(v:Int) :: nr,t1++tl,by rw[hn,h1,qV,qV]; rfl,by rw[← qV]; exact h2,by rw[qr,qr,h3.1],?_⟩
   rw[← qV]
   intro k d hk
   cases k with
   | zero =>
    simp only[ql,qd] at hk
    subst hk
    have hv:=(qf.1 e2).1
    exact⟨v,rfl,by rw[qo]; omega,fun _=>get_more e2⟩
   | succ k=>exact h3.2 k d (by simpa using hk)
def BInv (st:List Int→Int→List Int) (ac:List Int→Bool) (sm:List Int) (i:Nat) (R nx:List (List Int)) (acs:List Bool):Prop:=
 ∀ j,j<i→∃ row nr,R[j]? = some row∧nx[j]? = some nr∧acs[j]? = some (ac row)∧leadsTo st sm R row nr
theorem bldF_inv (hst:∀ row c,row8 (st row c)) {most:Nat}:∀ {k i:Nat} {rows nx:List (List Int)} {acs:List Bool} {r:List (List Int) × List Bool},bldF st ac sm most k i rows nx acs=some r→rows≠[]→(∀ x ∈ rows,row8 x)→nx.length=i→acs.length=i→i≤rows.length→BInv st ac sm i rows nx acs→∃ tl,BInv st ac sm r.1.length (rows++tl) r.1 r.2∧(rows++tl).length=r.1.length
 | 0,i,rows,nx,acs,r,h,_,_,_,_,_,_=>by cases h
 | k+1,i,rows,nx,acs,r,h,hne,hg,hn,ha,hi,hb=>by
  rw[bldF] at h
  cases hr:rows[i]? with
  | none =>
   rw[hr] at h
   cases h
   have:=zm.1 hr
   refine⟨[],?_,?_⟩
   ·rw[qt]
    simp only[hn]
    exact hb
   ·rw[qt]
    simp only
    omega
  | some row =>
   rw[hr] at h
   have hlt:=(qf.1 hr).1
   by_cases hc:rows.length > most
   ·simp only[if_pos hc] at h
    cases h
   ·simp only[if_neg hc] at h
    obtain⟨nr,tl,h1,h2,h3⟩:=next_at (hst row) sm [] rows hne hg
    rw[nextF,h1,qz] at h
    simp only at h
    obtain⟨tl',g1,g2⟩:=bldF_inv hst h (by simp[hne]) h2 (by simp[hn]) (by simp[ha]) (by rw[qo]; omega) (by
     intro j hj
     by_cases hji:j<i
     ·obtain⟨row',nr',i1,i2,i3,i4⟩:=hb j hji
      exact⟨row',nr',get_more i1,get_more i2,get_more i3,i4.more⟩
     ·have:j=i:=by omega
      subst this
      refine⟨row,nr,get_more hr,?_,?_,h3⟩
      ·rw[← hn,xh (qk _),xX]
       rfl
      ·rw[← ha,xh (qk _),xX]
       rfl)
    rw[qV] at g1 g2
    exact⟨tl++tl',g1,g2⟩
end
theorem foldB_two (c:UInt8):foldB (foldB c)=foldB c:=by
 by_cases h:65≤c.toNat∧c.toNat≤90
 ·have:=foldB_up h.1 h.2
  exact foldB_lo (by omega)
 ·have:c.toNat<65∨90<c.toNat:=by omega
  rw[foldB_lo this,foldB_lo this]
theorem ofB_two (f:Bool) (c:UInt8):ofB f (ofB f c)=ofB f c:=by
 cases f
 ·rfl
 ·exact foldB_two c
theorem sameB_of (f:Bool) (a b:UInt8):sameB f a b=decide (ofB f a=ofB f b):=by cases f<;>rfl
theorem isB_mem {ks:List UInt8} (hr:Rise ks) {x:UInt8} (h:x ∈ ks):isB ks x=true:=by
 obtain⟨i,hi⟩:=zw.1 h
 have hl:=(qf.1 hi).1
 have:lowB ks x=i:=by
  refine low_eq (by omega) (fun k y hk hy=>rise_at hr hy hi hk) fun k y hk hy=>?_
  by_cases hki:k=i
  ·subst hki
   rw[hi] at hy
   cases hy
   simp[ltB]
  ·have:=rise_at hr hi hy (by omega)
   simp only[ltB,decide_eq_true_eq,decide_eq_false_iff_not] at *
   omega
 rw[isB,this,hi]
 simp
theorem zeroTo_at {ks:List UInt8} {f:Bool} {c:UInt8} (h:isB ks (ofB f c)=false):∀ {n:Nat},c.toNat<n→n≤256→∃ b:UInt8,zeroTo ks f n=(b.toNat:Int)∧isB ks (ofB f b)=false
 | 0,hn,_=>by omega
 | n+1,hn,h2=>by
  rw[zeroTo]
  cases hb:isB ks (ofB f (UInt8.ofNat n)) with
  | false =>
   refine⟨UInt8.ofNat n,?_,hb⟩
   rw[if_neg (by simp),UInt8.toNat_ofNat']
   omega
  | true =>
   rw[if_pos rfl]
   refine zeroTo_at h ?_ (by omega)
   rcases Nat.lt_or_ge c.toNat n with h1|h1
   ·exact h1
   ·have:c.toNat=n:=by omega
    rw[← this,UInt8.ofNat_toNat,h] at hb
    cases hb
theorem takes_of {f:Bool} {q:List UInt8} {b c:UInt8} (h:∀ a ∈ q,keepB a=true→(ofB f a=ofB f b↔ofB f a=ofB f c)) (i:Nat):Gi.takes (sameB f) q i b=Gi.takes (sameB f) q i c:=by
 unfold Gi.takes
 cases hq:q[i]? with
 | none=>rfl
 | some a =>
  have ha:=xa hq
  simp only
  by_cases h42:a=42
  ·simp[h42]
  by_cases h63:a=63
  ·simp[h63]
  have:=h a ha (by simp[keepB,h42,h63])
  rw[sameB_of,sameB_of]
  simp only[this]
theorem class_rep (q:List UInt8) (f:Bool) (c:UInt8):∃ b:UInt8,(someL q f)[clsOf (keysB q f) f c]? = some (b.toNat:Int)∧∀ i,Gi.takes (sameB f) q i b=Gi.takes (sameB f) q i c:=by
 have hr:=keysB_rise q f
 have hin:∀ a ∈ q,keepB a=true→isB (keysB q f) (ofB f a)=true:=fun a ha hk=>isB_mem hr ((keysB_mem q f _).2 (xw.2 ⟨a,xI.2 ⟨ha,hk⟩,rfl⟩))
 cases hc:isB (keysB q f) (ofB f c) with
 | true =>
  refine⟨ofB f c,?_,takes_of fun a _ _=>by rw[ofB_two]⟩
  rw[clsOf,if_pos hc,someL,qw,List.getElem?_map]
  have:=of_decide_eq_true hc
  rw[this]
  rfl
 | false =>
  obtain⟨b,h1,h2⟩:=zeroTo_at hc c.toNat_lt (qk 256)
  refine⟨b,?_,takes_of fun a ha hk=>?_⟩
  ·rw[clsOf,if_neg (by simp[hc]),someL,ql,h1]
  ·have h3:=hin a ha hk
   constructor
   ·intro e
    rw[e,h2] at h3
    cases h3
   ·intro e
    rw[e,hc] at h3
    cases h3
theorem clsL_at (q:List UInt8) (f:Bool) (c:UInt8):(clsL q f).getD c.toNat 0=((clsOf (keysB q f) f c:Nat):Int):=by
 have:=c.toNat_lt
 rw[qX,clsL,clsTo,List.getElem?_map,List.getElem?_range this]
 simp only[qh,Option.getD_some]
 rw[if_pos this,UInt8.ofNat_toNat]
theorem leads_takes {s:UInt8→UInt8→Bool} {q:List UInt8} {r:Nat→Bool} {b c:UInt8} (h:∀ i,Gi.takes s q i b=Gi.takes s q i c):stepS s q r b=stepS s q r c:=by
 unfold stepS
 congr 1
 funext j
 cases j with
 | zero=>rfl
 | succ j=>simp only[leads,h]
theorem clsOf_lt (q:List UInt8) (f:Bool) (c:UInt8):clsOf (keysB q f) f c<(someL q f).length:=by
 obtain⟨b,h,_⟩:=class_rep q f c
 exact (qf.1 h).1
theorem checkG_len {p:List UInt8} (h:checkG p=0):p.length≤255∧p≠[]:=by
 unfold checkG at h
 split at h
 ·omega
 ·split at h
  ·omega
  ·exact⟨by omega,by assumption⟩
theorem lst8 {N:Nat} {b:Nat→Bool} (h:N≤256):row8 (lst N b):=by
 intro v hv
 obtain⟨i,h1,_,rfl⟩:=lst_mem.1 hv
 omega
theorem newV_yes {p:List UInt8} {f:Bool} (h:checkG p=0):newV p f=some (normB p,f):=if_pos h
theorem newV_n {p:List UInt8} {f:Bool} (h:checkG p=0):nN (newV p f)≤256:=by
 have h1:=checkG_len h
 have h2:=normB_len p
 rw[newV_yes h,nN_some (normB_ne h1.2)]
 omega
theorem build_inv {p:List UInt8} {f:Bool} {most:Int} (h:(buildF p f most).2=true):∃ R,R[0]? = some (startI (newV p f))∧R.length=(buildF p f most).1.nxt.length∧BInv (stepI (newV p f)) (accI (newV p f)) (someL (patP (newV p f)) f) R.length R (buildF p f most).1.nxt (buildF p f most).1.acc∧(buildF p f most).1.cls=clsL (patP (newV p f)) f:=by
 obtain⟨r,h1,h2,h3,h4,h5⟩:=buildF_yes h
 have hn:=newV_n (f:=f) h1
 obtain⟨tl,g1,g2⟩:=bldF_inv (fun row c=>lst8 hn) h4 (by simp) (by
  intro x hx
  rw[qQ] at hx
  rw[hx]
  exact lst8 hn) rfl rfl (Nat.zero_le _) (fun j hj=>by omega)
 rw[h5]
 refine⟨_,?_,g2,?_,rfl⟩
 ·rfl
 ·rw[g2]
  exact g1
theorem build_isok {p:List UInt8} {f:Bool} {most:Int} (h:(buildF p f most).2=true):(buildF p f most).1.ok=true:=by
 obtain⟨R,h1,h2,h3,h4⟩:=build_inv h
 obtain⟨r,g1,g2,g3,g4,g5⟩:=buildF_yes h
 have hle:=bldF_le g4 rfl rfl (Nat.zero_le _) (Nat.zero_le _)
 have hn:(buildF p f most).1.nxt.length=r.1.length:=by rw[g5]
 have ha:(buildF p f most).1.acc.length=r.2.length:=by rw[g5]
 have hl1:=hle.2.1
 simp only[List.length_singleton] at hl1
 have hrow:∀ nr ∈ (buildF p f most).1.nxt,nr.length=(someL (patP (newV p f)) f).length∧∀ s ∈ nr,0≤s∧s<((buildF p f most).1.nxt.length:Int):=by
  intro nr hnr
  obtain⟨j,hj⟩:=zw.1 hnr
  have hjl:=(qf.1 hj).1
  obtain⟨row,nr',i1,i2,i3,i4⟩:=h3 j (by omega)
  rw[hj] at i2
  cases i2
  refine⟨i4.1,fun s hs=>?_⟩
  obtain⟨k,hk⟩:=zw.1 hs
  have hkl:=(qf.1 hk).1
  rw[i4.1] at hkl
  obtain⟨v,j1,j2,_⟩:=i4.2 k _ (qg hkl)
  rw[hk] at j1
  cases j1
  omega
 have hw:(buildF p f most).1.wide=(someL (patP (newV p f)) f).length:=(hrow _ (getD_mem (by omega))).1
 rw[Dfa.ok_iff]
 refine⟨?_,by omega,by omega,by omega,?_,?_,?_⟩
 ·rw[h4]
  exact clsTo_len _ _ _
 ·rw[hw]
  simp[someL]
 ·intro x hx
  rw[h4,clsL,clsTo,xw] at hx
  obtain⟨c,hc,rfl⟩:=hx
  rw[List.mem_range] at hc
  rw[if_pos hc,hw]
  have:=clsOf_lt (patP (newV p f)) f (UInt8.ofNat c)
  omega
 ·intro nr hnr
  rw[hw]
  exact hrow nr hnr
theorem build_takes {p:List UInt8} {f:Bool} {most:Int} (h:(buildF p f most).2=true) (t:List UInt8):(buildF p f most).1.takes t=gm (sameB f) p t:=by
 obtain⟨R,h1,h2,h3,h4⟩:=build_inv h
 obtain⟨r,g1,g2,g3,g4,g5⟩:=buildF_yes h
 have hx:okV (newV p f):=by
  have h1:=checkG_len g1
  have h2:=normB_len p
  rw[newV_yes g1]
  exact⟨normB_ne h1.2,by omega⟩
 have hpat:patP (newV p f)=normB p:=by rw[newV_yes g1]; rfl
 have hrun:∀ (t:List UInt8) (s:Nat) (b:Nat→Bool),R[s]? = some (lst (nN (newV p f)) b)→R[t.foldl (buildF p f most).1.go s]? = some (lst (nN (newV p f)) (runV (newV p f) t b)):=by
  intro t
  induction t with
  | nil=>exact fun s b hs=>hs
  | cons c t ih =>
   intro s b hs
   have hsl:=(qf.1 hs).1
   obtain⟨row,nr,i1,i2,i3,i4⟩:=h3 s hsl
   rw[hs] at i1
   cases i1
   obtain⟨b0,e1,e2⟩:=class_rep (patP (newV p f)) f c
   obtain⟨v,j1,j2,j3⟩:=i4.2 _ _ e1
   have hgo:(buildF p f most).1.go s c=v:=by
    unfold Dfa.go
    rw[h4,clsL_at,qX,qX,i2,Option.getD_some,Int.toNat_natCast,j1]
    rfl
   rw[List.foldl_cons,hgo,runV]
   refine ih v _ ?_
   rw[j3 (by omega),stepI]
   have hb0:UInt8.ofNat (((b0.toNat:Int) % 256).toNat)=b0:=by
    have:=b0.toNat_lt
    rw[show (((b0.toNat:Int) % 256).toNat)=b0.toNat by omega,UInt8.ofNat_toNat]
   rw[hb0,lst_step hx]
   congr 2
   rw[newV_yes g1]
   simp only[stepV]
   rw[← hpat]
   exact leads_takes e2
 have hend:=hrun t 0 _ h1
 have hfl:=(qf.1 hend).1
 obtain⟨row,nr,i1,i2,i3,i4⟩:=h3 _ hfl
 rw[hend] at i1
 cases i1
 unfold Dfa.takes Dfa.fin
 rw[qX,i3,Option.getD_some,accI,acc_lst hx,acc_run g1]
end
section
set_option linter.unusedSectionVars false
variable [Mx]
open Go Go.Proofs
theorem pRun (x:Option (List UInt8 × Bool)) (h:okW x) (t:List UInt8) (ht:t.length≤1000000):PCF qi 162 [nV x,.str t] (.bool (accV x (runV x t (startV x)))):=by
 refine pcf_e hmG H3_ok comp162 (by decide) (by simp) (nidL_ok (by simp only[nidL,nV_nid,nid_str,xb])) ?_
 have h1:=H3_start x h.1
 have hn:=h.2
 refine vcE.s1 (k:=vcE.s1 (k:=vcE.step (by simp only[go_sem,↓reduceIte,reduceCtorEq,nV_frz,h1]; rfl) (vcE.then (fun e tm hp=>e=.normal∧tm 6=encT.S (rowB (nN x) (runV x t (startV x)))) ?_ ?_)))
 ·refine vcE.s1 (k:=vcE.block (vcE.count (by intro l tm hp h; simp at h)
   (fun i tm hp=>tm 1=.str t∧tm 5=.bound 93 [nV x]∧tm 13=.int .i64 t.length∧tm 14=.int .i64 i∧tm 6=encT.S (rowB (nN x) (runV x (t.take i) (startV x)))) t.length ⟨?_,?_,?_,?_,?_⟩ ?_ ?_))
  ·rfl
  ·rfl
  ·rfl
  ·rfl
  ·rfl
  ·rintro i tm hp hi ⟨e1,e5,e13,e14,e6⟩
   obtain⟨c,hc⟩:∃ c,t[i]? = some c:=⟨_,qg hi⟩
   have htk:t.take (i+1)=t.take i++[c]:=by rw[List.take_add_one,hc]; rfl
   refine vcE.step (by simp (disch:=omega) only[go_sem,↓reduceIte,e13,e14]; rfl) (vcE.s1 (k:=vcE.seq (vcE.block (vcE.step (by simp only[go_sem,↓reduceIte,qa,e14]; rfl) ?_))))
   rw[show r162_6=r162_6.take 5++((r162_6.drop 5).take 1++r162_6.drop 6) from rfl]
   refine vcE.app (vcE.ex (by simp (disch:=omega) only[go_sem,↓reduceIte,qa,e1,e5,e6,hc]; rfl) ⟨rfl,vcE.app (vcE.callB (f:=93) (first:=[nV x]) (ys:=[encT.S (rowB (nN x) (runV x (t.take i) (startV x))),.int .u8 c.toNat]) rfl ?_ ((pStepV x h.1 _ c).pc hp) ?_)⟩)
   ·simp only[evsE,evE,upd_app,qa,↓reduceIte]
   ·rintro rv hp' ⟨rfl,rfl⟩
    refine⟨rfl,vcE.e0 ?_⟩
    refine vcE.ex (by simp (disch:=omega) only[go_sem,↓reduceIte,qa,e14]; rfl) ?_
    refine⟨?_,?_,?_,?_,?_⟩
    ·simp only[upd_app,qa,↓reduceIte,e1]
    ·simp only[upd_app,qa,↓reduceIte,e5]
    ·simp only[upd_app,qa,↓reduceIte,e13]
    ·simp only[upd_app,↓reduceIte]; rfl
    ·simp only[upd_app,qa,↓reduceIte]
     rw[htk,runV_snoc]
  ·rintro tm hp ⟨e1,e5,e13,e14,e6⟩
   refine vcE.ex (by simp (disch:=omega) only[go_sem,↓reduceIte,e13,e14]; rfl) ?_
   refine⟨rfl,?_⟩
   simp only[upd_app,qa,↓reduceIte,e6,List.take_length]
 ·rintro e tm hp ⟨rfl,h6⟩
  cases x with
  | none =>
   refine vcE.ex (by simp (disch:=omega) only[go_sem,↓reduceIte,qa,h6,nN,Enc.S_len,rowB_len]; rfl) ?_
   exact⟨_,rfl,rfl⟩
  | some a =>
   obtain⟨p,f⟩:=a
   rw[nN_some h.1.1] at h6 hn
   generalize hb:runV (some (p,f)) t (startV (some (p,f)))=b at h6 ⊢
   have hia:=acc_region (N:=p.length+1) (b:=b) (by omega) (k:=.i64)
   have hpick:=encT.pick1 (l:=rowB (p.length+1) b) rfl (rowB_get (i:=p.length) (by omega)) (v:=.bool (b p.length)) rfl rfl
   rw[show p.length+1 - 1=p.length by omega] at hia
   have hlen:∀ hp,lenA hp (encT.S (rowB (p.length+1) b))=some (.int .i64 ((p.length+1:Nat):Int)):=fun hp=>by rw[encT.S_len,rowB_len]
   refine vcE.ex (by simp (disch:=omega) only[go_sem,↓reduceIte,qa,h6,↓hlen,hia,↓hpick]; rfl) ?_
   exact⟨_,rfl,rfl⟩
end
section
set_option linter.unusedSectionVars false
variable [Mx]
open Go Go.Proofs
theorem vcE.callM {P:Program} {hint:Nat→Nat} {T:Tab} {n:Nat} {d:Option Nat} {xs:List Opd} {g:Option (Nat × Bool)} {tm:Env} {hp:HP} {Q:Exit→Env→HP→Prop} {ms:List (Nat × Nat)} {t:TypeId} {v:AV} {f:FuncId} {ys:List AV} {K:AV→HP→Prop} (hw:wantedE tm g=true) (he:evsE tm xs=.iface t v :: ys) (hf:mfind ms t=some f) (hc:ACalls P f (v :: ys) hp K) (hk:∀ r hp',K r hp'→Q .normal (putE tm d r) hp'):vcE P hint T n (.reg [⟨d,.call (some ms),xs,g⟩]) tm hp Q:=by
 intro hm hT hs l Q' hl hq
 simp only[okS,List.all_cons,List.all_nil,Bool.and_true,IOp.inR,Bool.and_eq_true] at hs
 obtain⟨⟨h1,h2⟩,h3⟩:=hs
 show vop P _ _ _
 unfold vop
 rw[if_pos (by rw[hl.wanted h3]; exact hw)]
 simp only
 rw[hl.evs h1,he]
 simp only[meth,hf]
 exact hc.mono fun r hp' hr=>hq _ _ _ _ hl.put (hk r hp' hr)
inductive Aut where
 | no
 | tab (d:Dfa)
 | st (x:Option (List UInt8 × Bool))
def Aut.v:Aut→AV
 | .no=>.nilp
 | .tab d=>.fptr [.iface 94 (.agg d.c)] 0
 | .st x=>.fptr [.iface 100 (.agg [nV x])] 0
theorem Aut.v_nid (a:Aut):nid a.v=true:=by
 cases a with
 | no=>rfl
 | tab d=>simp only[Aut.v,nid,nidL,d.c_nid,xb]
 | st x=>simp only[Aut.v,nid,nidL,nV_nid,xb]
def DT:Tab:=Tab.none.addO 159 (.cons .dfa (.cons .str .nil)) fun p=>if p.1.ok=true∧p.2.1.length≤roomy then some (.rd true (.bool (p.1.takes p.2.1))) else none
theorem DT_ok:TabOk qi DT:=by
 refine xp (qJ _) ?_
 intro p r h
 split at h
 ·rename_i hv; cases h; exact pThrough p.1 (p.1.ok_iff.1 hv.1) p.2.1 hv.2
 ·cases h
theorem DT_through {d:Dfa} (h:d.ok=true) {t:List UInt8} (ht:t.length≤roomy):DT 159 [.agg d.c,.str t]=some (.rd true (.bool (d.takes t))):=
 (xe _ _ (.cons .dfa (.cons .str .nil)) _ (d,t,())).trans (if_pos ⟨h,ht⟩)
theorem pTabMatch (d:Dfa) (h:d.ok=true) (t:List UInt8) (ht:t.length≤roomy):PCF qi 157 [.agg d.c,.str t] (.bool (d.takes t)):=by
 refine pcf_e hmM DT_ok comp157 (by decide) (by simp) (nidL_ok (by simp only[nidL,nid,d.c_nid,xb])) ?_
 have q0:pickA (some 3) d.c 0=some (.agg d.c):=rfl
 have qc:cellsA (.agg d.c)=d.c:=rfl
 have k2:=DT_through h ht
 refine vcE.ex (by simp (disch:=first|assumption|omega) only[exC,exOps,exOp,wantedE,↓reduceIte,ROp.run,evsE,evE,ty,qF,tz,qx,qc,qz,putE,qa,same,faddrA,qh,loadA,rowA,ql,↓q0,xF,qt,frzL.eq_2,frz_agg,Dfa.c_frz,frzL,k2,Cls.isFree,callCls,nidL,Dfa.c_nid]; rfl) ?_
 exact⟨_,rfl,rfl⟩
def Y0:Tab:=Tab.none.addO 162 (.cons .nfa (.cons .str .nil)) fun p=>if okW p.1∧p.2.1.length≤1000000 then some (.rd true (.bool (accV p.1 (runV p.1 p.2.1 (startV p.1))))) else none
theorem Y0_ok:TabOk qi Y0:=by
 refine xp (qJ _) ?_
 intro p r h
 split at h
 ·rename_i hv; cases h; exact pRun p.1 hv.1 p.2.1 hv.2
 ·cases h
theorem Y0_run {x:Option (List UInt8 × Bool)} (h:okW x) {t:List UInt8} (ht:t.length≤1000000):Y0 162 [nV x,.str t]=some (.rd true (.bool (accV x (runV x t (startV x))))):=
 (xe _ _ (.cons .nfa (.cons .str .nil)) _ (x,t,())).trans (if_pos ⟨h,ht⟩)
theorem pRowsMatch (x:Option (List UInt8 × Bool)) (h:okW x) (t:List UInt8) (ht:t.length≤1000000):PCF qi 160 [.agg [nV x],.str t] (.bool (accV x (runV x t (startV x)))):=by
 refine pcf_e hmM Y0_ok comp160 (by decide) (by simp) (nidL_ok (by simp only[nidL,nid,nV_nid,xb])) ?_
 have k2:=Y0_run h ht
 have q0:pickA none [nV x] 0=some (nV x):=by cases x<;>rfl
 have qc:cellsA (.agg [nV x])=[nV x]:=rfl
 refine vcE.ex (by simp (disch:=first|assumption|omega) only[exC,exOps,exOp,wantedE,↓reduceIte,ROp.run,evsE,evE,ty,qF,tz,qx,qc,qz,putE,qa,same,faddrA,qh,loadA,rowA,ql,↓q0,xF,qt,frzL.eq_2,nV_frz,frzL,k2,Cls.isFree,callCls,nidL,nV_nid]; rfl) ?_
 exact⟨_,rfl,rfl⟩
def Aut.ok:Aut→Prop
 | .no=>False
 | .tab d=>d.ok=true
 | .st x=>okW x
instance (a:Aut):Decidable a.ok:=by
 cases a with
 | no=>exact isFalse id
 | tab d=>exact inferInstanceAs (Decidable (d.ok=true))
 | st x=>exact inferInstanceAs (Decidable (okW x))
def Aut.takes (a:Aut) (t:List UInt8):Bool:=match a with
 | .no=>false
 | .tab d=>d.takes t
 | .st x=>accV x (runV x t (startV x))
theorem pAMatch (a:Aut) (h:a.ok) (t:List UInt8) (ht:t.length≤1000):PCF qi 36 [a.v,.str t] (.bool (a.takes t)):=by
 refine pcf_e hmM (qJ _) comp36 (by decide) (by simp) (nidL_ok (by simp only[nidL,a.v_nid,nid,xb])) ?_
 cases a with
 | no=>cases h
 | tab d =>
  refine vcE.step (by simp (disch:=first|assumption|omega) only[go_sem,↓reduceIte,Aut.v]; rfl) ?_
  rw[show r36_1=r36_1.take 15++((r36_1.drop 15).take 1++r36_1.drop 16) from rfl]
  refine vcE.seq (vcE.app (vcE.ex (by simp (disch:=first|assumption|omega) only[go_sem,↓reduceIte,qa,reduceCtorEq,isNilA,faddrA]; rfl) ⟨rfl,vcE.app (vcE.callM (t:=94) (v:=.agg d.c) (f:=157) (ys:=[.str t]) rfl rfl rfl ((pTabMatch d h t (by simp only[roomy]; omega)).pc _) ?_)⟩))
  rintro rv hp' ⟨rfl,rfl⟩
  refine⟨rfl,vcE.e0 ?_⟩
  refine vcE.e0 ?_
  exact⟨_,rfl,rfl⟩
 | st x =>
  refine vcE.step (by simp (disch:=first|assumption|omega) only[go_sem,↓reduceIte,Aut.v]; rfl) ?_
  rw[show r36_1=r36_1.take 15++((r36_1.drop 15).take 1++r36_1.drop 16) from rfl]
  refine vcE.seq (vcE.app (vcE.ex (by simp (disch:=first|assumption|omega) only[go_sem,↓reduceIte,qa,reduceCtorEq,isNilA,faddrA]; rfl) ⟨rfl,vcE.app (vcE.callM (t:=100) (v:=.agg [nV x]) (f:=160) (ys:=[.str t]) rfl rfl rfl ((pRowsMatch x h t (by omega)).pc _) ?_)⟩))
  rintro rv hp' ⟨rfl,rfl⟩
  refine⟨rfl,vcE.e0 ?_⟩
  refine vcE.e0 ?_
  exact⟨_,rfl,rfl⟩
theorem pat_le {p:List UInt8} {f:Bool} (h:p.length≤300):(patP (newV p f)).length≤1000:=by
 unfold newV
 split
 ·have:=normB_len p
  simp only[patP]
  omega
 ·exact Nat.zero_le _
def errA (p:List UInt8) (most:Int):Int:=if checkG p≠0 then checkG p else if most<1∨256<most then 2 else 0
def newA (p:List UInt8) (f:Bool) (most:Int):Aut:=if errA p most≠0 then .no else if (buildF p f most).2 then .tab (buildF p f most).1 else .st (newV p f)
def Z0:Tab:=(Tab.none.addO 47 (.cons .str (.cons .bool .nil)) fun p=>if p.1.length≤300 then some (.rd true (.tup [nV (newV p.1 p.2.1),.int .i64 (checkG p.1)])) else none).addO 48 (.cons .str (.cons .bool (.cons .i64 .nil))) fun p=>if p.1.length≤300 then some (.rd true (.tup [.agg (buildF p.1 p.2.1 p.2.2.1).1.c,.bool (buildF p.1 p.2.1 p.2.2.1).2])) else none
theorem Z0_ok:TabOk qi Z0:=by
 refine xp (xp (qJ _) ?_) ?_
 ·intro p r h
  split at h
  ·rename_i hv; cases h; exact pNew p.1 p.2.1 hv
  ·cases h
 ·intro p r h
  split at h
  ·rename_i hv; cases h; exact pBuild p.1 p.2.1 p.2.2.1 hv (pat_le hv)
  ·cases h
theorem Z0_build {p:List UInt8} (f:Bool) (most:Int) (h:p.length≤300):Z0 48 [.str p,.bool f,.int .i64 most]=some (.rd true (.tup [.agg (buildF p f most).1.c,.bool (buildF p f most).2])):=
 (xe _ _ (.cons .str (.cons .bool (.cons .i64 .nil))) _ (p,f,most,())).trans (if_pos h)
theorem Z0_new {p:List UInt8} (f:Bool) (h:p.length≤300):Z0 47 [.str p,.bool f]=some (.rd true (.tup [nV (newV p f),.int .i64 (checkG p)])):=
 (Tab.addO_ne _ _ _ _ rfl _).trans ((xe _ _ (.cons .str (.cons .bool .nil)) _ (p,f,())).trans (if_pos h))
theorem cA_store {H:HP} {k:Nat} {d:Dfa} (hk:H.length=k):storeA (H++[some (.row 90 [.nils,.nils,.nils])]) 3 (.ptr k 0) (.agg d.c)=some (H++[some (.row 90 d.c)]):=by
 subst hk
 have hl:d.c.length=3:=rfl
 have ho:over [.nils,.nils,.nils] 0 d.c=d.c:=rfl
 simp only[storeA,xh (qk _),xX,ql,cellsA,hl,qY,qr,qx,qs,qk,and_self,ho,if_true]
 rw[List.set_append_right _ _ (qk _),xX]
 rfl
theorem pNewA (p:List UInt8) (f:Bool) (most:Int) (hl:p.length≤300):PC qi 31 [.str p,.bool f,.int .i64 most] (.tup [(newA p f most).v,.int .i64 (errA p most)]):=by
 refine pc_e hmG Z0_ok comp31 (by decide) (by simp) (nidL_ok rfl) ?_
 have e1:=Z0_new f hl
 have e2:=Z0_build f most hl
 by_cases hc:checkG p=0
 rotate_left
 ·refine vcE.ex (by simp (disch:=first|assumption|omega) only[go_sem,↓reduceIte,qa,reduceCtorEq,e1,hc]; rfl) ?_
  refine⟨_,rfl,?_⟩
  have:errA p most=checkG p:=if_pos hc
  rw[newA,if_pos (by rw[this]; exact hc),this]
  rfl
 by_cases h1:most<1
 ·refine vcE.ex (by simp (disch:=first|assumption|omega) only[go_sem,↓reduceIte,qa,reduceCtorEq,e1,hc,h1]; rfl) ?_
  refine⟨_,rfl,?_⟩
  have:errA p most=2:=by rw[errA,if_neg (by simp[hc]),if_pos (.inl h1)]
  rw[newA,if_pos (by rw[this]; decide),this]
  rfl
 by_cases h2:most > 256
 ·refine vcE.ex (by simp (disch:=first|assumption|omega) only[go_sem,↓reduceIte,qa,reduceCtorEq,e1,hc,h1,h2,decide_false]; rfl) ?_
  refine⟨_,rfl,?_⟩
  have:errA p most=2:=by rw[errA,if_neg (by simp[hc]),if_pos (.inr h2)]
  rw[newA,if_pos (by rw[this]; decide),this]
  rfl
 have he:errA p most=0:=by rw[errA,if_neg (by simp[hc]),if_neg (by omega)]
 have st1:storeA [some (.row 90 [.nils,.nils,.nils])] 3 (.ptr 0 0) (.agg (buildF p f most).1.c)=some [some (.row 90 (buildF p f most).1.c)]:=cA_store (H:=[]) rfl
 rw[newA,he,if_neg (by decide)]
 cases his:(buildF p f most).2 with
 | true =>
  rw[his] at e2
  rw[if_pos rfl]
  generalize (buildF p f most).1=d at *
  have q0:pickA (some 3) d.c 0=some (.agg d.c):=rfl
  have hf:fillA [(0,3)] [.nils,.nils,.nils] (([0]:List Nat).zip [.agg d.c])=some d.c:=rfl
  refine vcE.s1 (k:=vcE.step (by simp (disch:=first|assumption|omega) only[go_sem,↓reduceIte,qa,reduceCtorEq,e1]; rfl) (vcE.step (by simp (disch:=first|assumption|omega) only[go_sem,↓reduceIte,hc]; rfl) (vcE.step (by simp (disch:=first|assumption|omega) only[go_sem,↓reduceIte,qa,h1,h2,decide_false]; rfl) ?_)))
  refine vcE.ex (by simp (disch:=first|assumption|omega) only[go_sem,↓reduceIte,qa,reduceCtorEq,e2,allocA,↓st1,↓q0,↓hf]; rfl) ?_
  refine⟨_,rfl,?_⟩
  have ho:over [AV.nili] 0 [AV.iface 94 (.agg d.c)]=[AV.iface 94 (.agg d.c)]:=rfl
  have hn:nidL [.iface 94 (.agg d.c)]=true:=by simp only[nidL,nid,d.c_nid,xb]
  simp only[frz,frzL,cellsA,ho,upd_app,↓reduceIte,qZ,qz,qr,qx,qY,qa,qw,ql,hn,Aut.v]
 | false =>
  rw[his] at e2
  rw[if_neg (by decide)]
  generalize (buildF p f most).1=d at *
  have hf:fillA [(0,1)] [.nilp] (([0]:List Nat).zip [nV (newV p f)])=some [nV (newV p f)]:=by cases newV p f<;>rfl
  refine vcE.s1 (k:=vcE.step (by simp (disch:=first|assumption|omega) only[go_sem,↓reduceIte,qa,reduceCtorEq,e1]; rfl) (vcE.step (by simp (disch:=first|assumption|omega) only[go_sem,↓reduceIte,hc]; rfl) (vcE.step (by simp (disch:=first|assumption|omega) only[go_sem,↓reduceIte,qa,h1,h2,decide_false]; rfl) ?_)))
  refine vcE.ex (by simp (disch:=first|assumption|omega) only[go_sem,↓reduceIte,qa,reduceCtorEq,e2,allocA,↓st1,↓hf]; rfl) ?_
  refine⟨_,rfl,?_⟩
  have ho:over [AV.nili] 0 [AV.iface 100 (.agg [nV (newV p f)])]=[AV.iface 100 (.agg [nV (newV p f)])]:=rfl
  have hn:nidL [.iface 100 (.agg [nV (newV p f)])]=true:=by simp only[nidL,nid,nV_nid,xb]
  simp only[frz,frzL,cellsA,ho,upd_app,↓reduceIte,qZ,qz,qr,qx,qY,qa,qw,ql,hn,Aut.v]
theorem newA_yes {p:List UInt8} (f:Bool) {most:Int} (hp:p.length≤300) (he:errA p most=0):(newA p f most).ok∧∀ t,(newA p f most).takes t=gm (sameB f) p t:=by
 have hck:checkG p=0:=Decidable.byContradiction fun h=>h (by rw[errA,if_pos h] at he; exact he)
 cases his:(buildF p f most).2 with
 | true =>
  rw[show newA p f most=.tab (buildF p f most).1 by rw[newA,if_neg (by simp[he]),if_pos his]]
  exact⟨build_isok his,fun t=>build_takes his t⟩
 | false =>
  rw[show newA p f most=.st (newV p f) by rw[newA,if_neg (by simp[he]),if_neg (by simp[his])]]
  exact⟨newV_ok hp,fun t=>acc_run hck t⟩
end
section
set_option linter.unusedSectionVars false
variable [Mx]
open Go Go.Proofs
theorem wrap_i32 {n:Int} (h1 : -2147483648≤n) (h2:n≤2147483647):qU .i32 n=n:=by
 have e:(2:Int) ^ 32=4294967296:=by decide
 have e':(2:Int) ^ (32 - 1)=2147483648:=by decide
 simp only[qU,za,IntKind.signed,Bool.true_and,decide_eq_true_eq,e,e']
 split<;>omega
def firstN (n:Nat):Int:=if n<128 then 240 else if n<194 then 241 else if n<224 then 2 else if n=224 then 19 else if n<237 then 3 else if n=237 then 35 else if n<240 then 3 else if n=240 then 52 else if n<244 then 4 else if n=244 then 68 else 241
set_option maxRecDepth 20000 in
theorem gv1:gv 1=(List.range 256).map fun n=>AV.int .u8 (firstN n):=by kernel_rfl
theorem first_at (c:UInt8):pickA none (gv 1) c.toNat=some (.int .u8 (firstN c.toNat)):=by
 have:=c.toNat_lt
 simp only[pickA,gv1,List.getElem?_map]
 rw[List.getElem?_range (by omega)]
 rfl
theorem first_addr (c:UInt8):aaddrA 256 1 (.fptr (gv 1) 0) (.int .u8 c.toNat)=some (.fptr (gv 1) c.toNat):=by
 have:=c.toNat_lt
 simp only[aaddrA]
 rw[if_pos (by omega)]
 simp[faddrA]
theorem enc_pick {l:List UInt8} {i:Nat} {c:UInt8} (h:l[i]? = some c):pickA none (encB.cs l) i=some (.int .u8 c.toNat):=by
 simp[pickA,encB_cs,h,oneA,byteA]
theorem enc_addr {l:List UInt8} {i:Nat} {c:UInt8} (h:l[i]? = some c):iaddrA 1 (encB.S l) (.int .i64 i)=some (.fptr (encB.cs l) i):=by
 have:=encB.S_iaddr (l:=l) (i:=i) (k:=.i64) ((qf.1 h).1)
 simpa[show encB.sz=1 from rfl] using this
def orI (a b:Int):Int:=qU .i32 ((BitVec.ofInt 32 a ||| BitVec.ofInt 32 b).toNat)
theorem or_at (a b:Int):bitsA .or .i32 a b=some (orI a b):=rfl
theorem orI_add {a b:Int} (k:Nat) (hk:k≤18) (x:Nat) (hx:a=x*(2 ^ k:Nat)) (h2:a<2097152) (h3:0≤b) (h4:b<(2 ^ k:Nat)):orI a b=a+b:=by
 have hp:(2:Nat) ^ k≤2 ^ 18:=Nat.pow_le_pow_right (by omega) hk
 have hp':(2:Nat) ^ 18=262144:=by decide
 obtain⟨n,rfl⟩:∃ n:Nat,b=n:=⟨b.toNat,by omega⟩
 have hx':a=((2 ^ k*x:Nat):Int):=by rw[hx,Nat.mul_comm]; simp
 generalize hm:2 ^ k*x=m at hx'
 subst hx'
 have e1:(BitVec.ofInt 32 (m:Int)).toNat=m:=by
  rw[BitVec.ofInt_natCast,BitVec.toNat_ofNat]; omega
 have e2:(BitVec.ofInt 32 (n:Int)).toNat=n:=by
  rw[BitVec.ofInt_natCast,BitVec.toNat_ofNat]; omega
 have e3:m+n=m ||| n:=by rw[← hm]; exact Nat.two_pow_add_eq_or_of_lt (by omega) x
 unfold orI
 rw[BitVec.toNat_or,e1,e2,← e3,wrap_i32 (by omega) (by omega)]
 omega
theorem and15 (c:UInt8):bitsA .and .u8 c.toNat 15=some ((c.toNat % 16:Nat):Int):=by
 have:∀ n:Fin 256,bitsA .and .u8 (n.val:Int) 15=some ((n.val % 16:Nat):Int):=by decide +kernel
 exact this ⟨c.toNat,c.toNat_lt⟩
theorem and31 (c:UInt8):bitsA .and .u8 c.toNat 31=some ((c.toNat % 32:Nat):Int):=by
 have:∀ n:Fin 256,bitsA .and .u8 (n.val:Int) 31=some ((n.val % 32:Nat):Int):=by decide +kernel
 exact this ⟨c.toNat,c.toNat_lt⟩
theorem and63 (c:UInt8):bitsA .and .u8 c.toNat 63=some ((c.toNat % 64:Nat):Int):=by
 have:∀ n:Fin 256,bitsA .and .u8 (n.val:Int) 63=some ((n.val % 64:Nat):Int):=by decide +kernel
 exact this ⟨c.toNat,c.toNat_lt⟩
theorem and7 (c:UInt8):bitsA .and .u8 c.toNat 7=some ((c.toNat % 8:Nat):Int):=by
 have:∀ n:Fin 256,bitsA .and .u8 (n.val:Int) 7=some ((n.val % 8:Nat):Int):=by decide +kernel
 exact this ⟨c.toNat,c.toNat_lt⟩
theorem andNot_all (x:Int):bitsA .andNot .i32 x (-1)=some 0:=by
 have h:BitVec.ofInt 32 x &&& ~~~(BitVec.ofInt 32 (-1))=0#32:=by
  have : ~~~(BitVec.ofInt 32 (-1))=0#32:=by decide
  rw[this,BitVec.and_zero]
 show some (qU .i32 ((BitVec.ofInt 32 x &&& ~~~(BitVec.ofInt 32 (-1))).toNat))=_
 rw[h]
 rfl
def DecP (l:List UInt8) (rr:Int) (w:Nat):Prop:=1≤w∧w≤l.length∧(∀ j c,j<w→l[j]? = some c→128≤c.toNat)∧(rr=65533∨2≤w)∧(3≤w→(w=3∧2048≤rr∧rr<65536∧(rr<55296∨57344≤rr))∨(w=4∧65536≤rr∧rr≤1114111))
theorem decP_one {l:List UInt8} {c:UInt8} (h:l[0]? = some c) (hc:128≤c.toNat):DecP l 65533 1:=by
 refine⟨qk _,(qf.1 h).1,fun j d hj hd=>?_,.inl rfl,fun h3=>by omega⟩
 obtain rfl:j=0:=by omega
 rw[h] at hd
 cases hd
 exact hc
theorem dec_bad {l:List UInt8} {c:UInt8} (h:l[0]? = some c) (hc:128≤c.toNat) (hx:firstN c.toNat=241):PCF qi 106 [encB.S l] (.tup [.int .i32 65533,.int .i64 1]):=by
 have hl:=(qf.1 h).1
 have ha:iaddrA 1 (encB.S l) (.int .i64 0)=some (.fptr (encB.cs l) 0):=enc_addr h
 have hp:=enc_pick h
 have hf:=first_at c
 have hfa:=first_addr c
 rw[hx] at hf
 have hcl:=c.toNat_lt
 have e1:qU .i32 (241*2 ^ (min (Int.toNat 31) (za .i32))) = -2147483648:=by decide
 have e2:Int.fdiv (-2147483648) (2 ^ (min (Int.toNat 31) (za .i32))) = -1:=by decide
 have e3:bitsA .and .i32 65533 (-1)=some 65533:=by decide
 have e4:bitsA .or .i32 0 65533=some 65533:=by decide
 refine pcf_e hmG (qJ _) comp106 (by rfl) (by simp) (nidL_ok (by simp only[nidL,xu]; rfl)) ?_
 refine vcE.ex (by simp (disch:=omega) only[exC,exOps,exOp,wantedE,↓reduceIte,ROp.run,evsE,evE,putE,ty,reduceCtorEq,qF,same,qh,binA,intA,dec_false,ha,loadA,rowA,↓hp,hfa,↓hf,dec_true,qa,wrap_i32,e1,if_neg,e2,andNot_all,e3,e4]; rfl) ?_
 exact⟨_,rfl,rfl⟩
set_option maxHeartbeats 2000000 in
theorem dec_class {l:List UInt8} {c:UInt8} {X Y lo hi:Int} {q:Nat} (sz:Nat) (h:l[0]? = some c) (hc:128≤c.toNat) (hx:firstN c.toNat=X) (hX:0≤X∧X<240) (hsz:bitsA .and .u8 X 7=some (sz:Int)) (hs:sz=2∨sz=3∨sz=4)
  (hY:X.fdiv (2 ^ (min (Int.toNat 4) (za .u8)))=Y) (hA:aaddrA 16 2 (.fptr (gv 2) 0) (.int .u8 Y)=some (.fptr (gv 2) q)) (hacc:pickA (some 2) (gv 2) q=some (.agg [.int .u8 lo,.int .u8 hi])) (hlo:128≤lo)
  (h3:∀ b:Nat,lo≤b→(b:Int)≤hi→sz=3→(1≤c.toNat % 16∨32≤b % 64)∧(c.toNat % 16=13→b % 64<32)) (h4:∀ b:Nat,lo≤b→(b:Int)≤hi→sz=4→(1≤c.toNat % 8∨16≤b % 64)∧c.toNat % 8≤4∧(c.toNat % 8=4→b % 64<16)) :
  ∃ (rr:Int) (w:Nat),PCF qi 106 [encB.S l] (.tup [.int .i32 rr,.int .i64 w])∧DecP l rr w:=by
 have hl:=(qf.1 h).1
 have ha:iaddrA 1 (encB.S l) (.int .i64 0)=some (.fptr (encB.cs l) 0):=enc_addr h
 have hp:=enc_pick h
 have hf:=first_at c
 have hfa:=first_addr c
 rw[hx] at hf
 have hcl:=c.toNat_lt
 have one_:=decP_one h hc
 have u6:(2:Int) ^ (min (Int.toNat 6) (za .i32))=64:=by decide
 have u12:(2:Int) ^ (min (Int.toNat 12) (za .i32))=4096:=by decide
 have u18:(2:Int) ^ (min (Int.toNat 18) (za .i32))=262144:=by decide
 have step:∀ {r:AV},vcE qi (fun _=>0) Tab.none 122 c106 (start [encB.S l]) [] (RetE [.t 2,.t 3] fun a hp'=>fresh hp' a=some r)→PCF qi 106 [encB.S l] r:=fun hv=>pcf_e hmG (qJ _) comp106 (by rfl) (by simp) (nidL_ok (by simp only[nidL,xu]; rfl)) hv
 by_cases hn:l.length<sz
 ·refine⟨65533,1,step ?_,one_⟩
  refine vcE.ex (by simp (disch:=omega) only[exC,exOps,exOp,wantedE,↓reduceIte,ROp.run,evsE,evE,putE,ty,reduceCtorEq,qF,same,qh,binA,intA,dec_false,ha,loadA,rowA,↓hp,hfa,↓hf,qa,hsz,hY,if_neg,hA,↓hacc,allocA,qx,qz,storeA_eq,ql,tz,qr,qs,qu,decide_true,over,xi,List.drop_succ_cons,List.drop_nil,qt,xA,dec_true]; rfl) ?_
  exact⟨_,rfl,rfl⟩
 obtain⟨d,h1⟩:∃ d,l[1]? = some d:=⟨_,qg (by omega)⟩
 have ha1:iaddrA 1 (encB.S l) (.int .i64 1)=some (.fptr (encB.cs l) 1):=enc_addr h1
 have hp1:=enc_pick h1
 have hdl:=d.toNat_lt
 by_cases hd1:(d.toNat:Int)<lo
 ·refine⟨65533,1,step ?_,one_⟩
  refine vcE.ex (by simp (disch:=omega) only[exC,exOps,exOp,wantedE,↓reduceIte,ROp.run,evsE,evE,putE,ty,reduceCtorEq,qF,same,qh,binA,intA,dec_false,ha,loadA,rowA,↓hp,hfa,↓hf,qa,hsz,hY,if_neg,hA,↓hacc,allocA,qx,qz,storeA_eq,ql,tz,qr,qs,qu,decide_true,over,xi,List.drop_succ_cons,List.drop_nil,qt,xA,ha1,↓hp1,faddrA,pickA,dec_true,beq_iff_eq]; rfl) ?_
  exact⟨_,rfl,rfl⟩
 by_cases hd2:hi<(d.toNat:Int)
 ·refine⟨65533,1,step ?_,one_⟩
  refine vcE.ex (by simp (disch:=omega) only[exC,exOps,exOp,wantedE,↓reduceIte,ROp.run,evsE,evE,putE,ty,reduceCtorEq,qF,same,qh,binA,intA,dec_false,ha,loadA,rowA,↓hp,hfa,↓hf,qa,hsz,hY,if_neg,hA,↓hacc,allocA,qx,qz,storeA_eq,ql,tz,qr,qs,qu,decide_true,over,xi,List.drop_succ_cons,List.drop_nil,qt,xA,ha1,↓hp1,faddrA,pickA,beq_self_eq_true,qw,dec_true]; rfl) ?_
  exact⟨_,rfl,rfl⟩
 have hd:=h3 d.toNat (by omega) (by omega)
 have hd':=h4 d.toNat (by omega) (by omega)
 have hi0:∀ j b,j<2→l[j]? = some b→128≤b.toNat:=by
  intro j b hj hb
  match j,hj with
  | 0,_=>rw[h] at hb; cases hb; exact hc
  | 1,_=>rw[h1] at hb; cases hb; omega
 by_cases s2:sz=2
 ·subst s2
  refine⟨orI ((c.toNat % 32:Nat)*64) (d.toNat % 64:Nat),2,step ?_,by omega,by omega,hi0,.inr (qk _),fun h=>by omega⟩
  refine vcE.ex (by simp (disch:=omega) only[exC,exOps,exOp,wantedE,↓reduceIte,ROp.run,evsE,evE,putE,ty,reduceCtorEq,qF,same,qh,binA,intA,dec_false,ha,loadA,rowA,↓hp,hfa,↓hf,qa,hsz,hY,if_neg,hA,↓hacc,allocA,qx,qz,storeA_eq,ql,tz,qr,qs,qu,decide_true,over,xi,List.drop_succ_cons,List.drop_nil,qt,xA,ha1,↓hp1,faddrA,pickA,beq_self_eq_true,qw,dec_true,and31,wrap_i32,u6,and63,or_at]; rfl) ?_
  exact⟨_,rfl,rfl⟩
 obtain⟨e,h2⟩:∃ e,l[2]? = some e:=⟨_,qg (by omega)⟩
 have ha2:iaddrA 1 (encB.S l) (.int .i64 2)=some (.fptr (encB.cs l) 2):=enc_addr h2
 have hp2:=enc_pick h2
 have hel:=e.toNat_lt
 by_cases he1:e.toNat<128
 ·refine⟨65533,1,step ?_,one_⟩
  refine vcE.ex (by simp (disch:=omega) only[exC,exOps,exOp,wantedE,↓reduceIte,ROp.run,evsE,evE,putE,ty,reduceCtorEq,qF,same,qh,binA,intA,dec_false,ha,loadA,rowA,↓hp,hfa,↓hf,qa,hsz,hY,if_neg,hA,↓hacc,allocA,qx,qz,storeA_eq,ql,tz,qr,qs,qu,decide_true,over,xi,List.drop_succ_cons,List.drop_nil,qt,xA,ha1,↓hp1,faddrA,pickA,beq_self_eq_true,qw,ha2,↓hp2,dec_true,beq_iff_eq]; rfl) ?_
  exact⟨_,rfl,rfl⟩
 by_cases he2:191<e.toNat
 ·refine⟨65533,1,step ?_,one_⟩
  refine vcE.ex (by simp (disch:=omega) only[exC,exOps,exOp,wantedE,↓reduceIte,ROp.run,evsE,evE,putE,ty,reduceCtorEq,qF,same,qh,binA,intA,dec_false,ha,loadA,rowA,↓hp,hfa,↓hf,qa,hsz,hY,if_neg,hA,↓hacc,allocA,qx,qz,storeA_eq,ql,tz,qr,qs,qu,decide_true,over,xi,List.drop_succ_cons,List.drop_nil,qt,xA,ha1,↓hp1,faddrA,pickA,beq_self_eq_true,qw,ha2,↓hp2,dec_true]; rfl) ?_
  exact⟨_,rfl,rfl⟩
 have hi1:∀ j b,j<3→l[j]? = some b→128≤b.toNat:=by
  intro j b hj hb
  by_cases hj2:j<2
  ·exact hi0 j b hj2 hb
  ·obtain rfl:j=2:=by omega
   rw[h2] at hb
   cases hb
   omega
 by_cases s3:sz=3
 ·subst s3
  have q1:=orI_add (a:=(c.toNat % 16:Nat)*4096) (b:=(d.toNat % 64:Nat)*64) 12 (by omega) (c.toNat % 16) rfl (by omega) (by omega) (by simp; omega)
  have q2:=orI_add (a:=orI ((c.toNat % 16:Nat)*4096) ((d.toNat % 64:Nat)*64)) (b:=(e.toNat % 64:Nat)) 6 (by omega) (c.toNat % 16*64+d.toNat % 64) (by rw[q1]; simp; omega) (by omega) (by omega) (by simp; omega)
  refine⟨orI (orI ((c.toNat % 16:Nat)*4096) ((d.toNat % 64:Nat)*64)) (e.toNat % 64:Nat),3,step ?_,by omega,by omega,hi1,.inr (by omega),fun _=>.inl ⟨rfl,by have:=hd rfl; omega,by omega,by have:=hd rfl; omega⟩⟩
  refine vcE.ex (by simp (disch:=omega) only[exC,exOps,exOp,wantedE,↓reduceIte,ROp.run,evsE,evE,putE,ty,reduceCtorEq,qF,same,qh,binA,intA,dec_false,ha,loadA,rowA,↓hp,hfa,↓hf,qa,hsz,hY,if_neg,hA,↓hacc,allocA,qx,qz,storeA_eq,ql,tz,qr,qs,qu,decide_true,over,xi,List.drop_succ_cons,List.drop_nil,qt,xA,ha1,↓hp1,faddrA,pickA,beq_self_eq_true,qw,ha2,↓hp2,dec_true,and15,wrap_i32,u12,and63,u6,or_at]; rfl) ?_
  exact⟨_,rfl,rfl⟩
 obtain rfl:sz=4:=by omega
 obtain⟨g,h5⟩:∃ g,l[3]? = some g:=⟨_,qg (by omega)⟩
 have ha3:iaddrA 1 (encB.S l) (.int .i64 3)=some (.fptr (encB.cs l) 3):=enc_addr h5
 have hp3:=enc_pick h5
 have hgl:=g.toNat_lt
 by_cases hg1:g.toNat<128
 ·refine⟨65533,1,step ?_,one_⟩
  refine vcE.ex (by simp (disch:=omega) only[exC,exOps,exOp,wantedE,↓reduceIte,ROp.run,evsE,evE,putE,ty,reduceCtorEq,qF,same,qh,binA,intA,dec_false,ha,loadA,rowA,↓hp,hfa,↓hf,qa,hsz,hY,if_neg,hA,↓hacc,allocA,qx,qz,storeA_eq,ql,tz,qr,qs,qu,decide_true,over,xi,List.drop_succ_cons,List.drop_nil,qt,xA,ha1,↓hp1,faddrA,pickA,beq_self_eq_true,qw,ha2,↓hp2,ha3,↓hp3,dec_true,beq_iff_eq]; rfl) ?_
  exact⟨_,rfl,rfl⟩
 by_cases hg2:191<g.toNat
 ·refine⟨65533,1,step ?_,one_⟩
  refine vcE.ex (by simp (disch:=omega) only[exC,exOps,exOp,wantedE,↓reduceIte,ROp.run,evsE,evE,putE,ty,reduceCtorEq,qF,same,qh,binA,intA,dec_false,ha,loadA,rowA,↓hp,hfa,↓hf,qa,hsz,hY,if_neg,hA,↓hacc,allocA,qx,qz,storeA_eq,ql,tz,qr,qs,qu,decide_true,over,xi,List.drop_succ_cons,List.drop_nil,qt,xA,ha1,↓hp1,faddrA,pickA,beq_self_eq_true,qw,ha2,↓hp2,ha3,↓hp3,dec_true]; rfl) ?_
  exact⟨_,rfl,rfl⟩
 have q1:=orI_add (a:=(c.toNat % 8:Nat)*262144) (b:=(d.toNat % 64:Nat)*4096) 18 (by omega) (c.toNat % 8) rfl (by omega) (by omega) (by simp; omega)
 have q2:=orI_add (a:=orI ((c.toNat % 8:Nat)*262144) ((d.toNat % 64:Nat)*4096)) (b:=(e.toNat % 64:Nat)*64) 12 (by omega) (c.toNat % 8*64+d.toNat % 64) (by rw[q1]; simp; omega) (by omega) (by omega) (by simp; omega)
 have q3:=orI_add (a:=orI (orI ((c.toNat % 8:Nat)*262144) ((d.toNat % 64:Nat)*4096)) ((e.toNat % 64:Nat)*64)) (b:=(g.toNat % 64:Nat)) 6 (by omega) (c.toNat % 8*4096+d.toNat % 64*64+e.toNat % 64) (by rw[q2,q1]; simp; omega) (by omega) (by omega) (by simp; omega)
 refine⟨orI (orI (orI ((c.toNat % 8:Nat)*262144) ((d.toNat % 64:Nat)*4096)) ((e.toNat % 64:Nat)*64)) (g.toNat % 64:Nat),4,step ?_,by omega,by omega,?_,.inr (by omega),fun _=>.inr ⟨rfl,by have:=hd' rfl; omega,by have:=hd' rfl; omega⟩⟩
 ·refine vcE.ex (by simp (disch:=omega) only[exC,exOps,exOp,wantedE,↓reduceIte,ROp.run,evsE,evE,putE,ty,reduceCtorEq,qF,same,qh,binA,intA,dec_false,ha,loadA,rowA,↓hp,hfa,↓hf,qa,hsz,hY,if_neg,hA,↓hacc,allocA,qx,qz,storeA_eq,ql,tz,qr,qs,qu,decide_true,over,xi,List.drop_succ_cons,List.drop_nil,qt,xA,ha1,↓hp1,faddrA,pickA,beq_self_eq_true,qw,ha2,↓hp2,ha3,↓hp3,and7,wrap_i32,u18,and63,u12,or_at,u6]; rfl) ?_
  exact⟨_,rfl,rfl⟩
 ·intro j b hj hb
  by_cases hj2:j<3
  ·exact hi1 j b hj2 hb
  ·obtain rfl:j=3:=by omega
   rw[h5] at hb
   cases hb
   omega
theorem pDecode {l:List UInt8} {c:UInt8} (h:l[0]? = some c) (hc:128≤c.toNat):∃ (rr:Int) (w:Nat),PCF qi 106 [encB.S l] (.tup [.int .i32 rr,.int .i64 w])∧DecP l rr w:=by
 have hcl:=c.toNat_lt
 by_cases k1:c.toNat<194
 ·exact⟨_,_,dec_bad h hc (by simp only[firstN]; rw[if_neg (by omega),if_pos k1]),decP_one h hc⟩
 by_cases k2:c.toNat<224
 ·exact dec_class (X:=2) (Y:=0) (lo:=128) (hi:=191) (q:=0) 2 h hc (by simp only[firstN]; rw[if_neg (by omega),if_neg k1,if_pos k2]) (by omega) (by decide) (by omega) (by decide) rfl (by kernel_rfl) (by omega) (fun b _ _ hs=>by omega) (fun b _ _ hs=>by omega)
 by_cases k3:c.toNat=224
 ·exact dec_class (X:=19) (Y:=1) (lo:=160) (hi:=191) (q:=2) 3 h hc (by rw[k3]; rfl) (by omega) (by decide) (by omega) (by decide) rfl (by kernel_rfl) (by omega) (fun b _ _ hs=>by omega) (fun b _ _ hs=>by omega)
 by_cases k4:c.toNat<237
 ·exact dec_class (X:=3) (Y:=0) (lo:=128) (hi:=191) (q:=0) 3 h hc (by simp only[firstN]; rw[if_neg (by omega),if_neg k1,if_neg k2,if_neg k3,if_pos k4]) (by omega) (by decide) (by omega) (by decide) rfl (by kernel_rfl) (by omega) (fun b _ _ hs=>by omega) (fun b _ _ hs=>by omega)
 by_cases k5:c.toNat=237
 ·exact dec_class (X:=35) (Y:=2) (lo:=128) (hi:=159) (q:=4) 3 h hc (by rw[k5]; rfl) (by omega) (by decide) (by omega) (by decide) rfl (by kernel_rfl) (by omega) (fun b _ _ hs=>by omega) (fun b _ _ hs=>by omega)
 by_cases k6:c.toNat<240
 ·exact dec_class (X:=3) (Y:=0) (lo:=128) (hi:=191) (q:=0) 3 h hc (by simp only[firstN]; rw[if_neg (by omega),if_neg k1,if_neg k2,if_neg k3,if_neg k4,if_neg k5,if_pos k6]) (by omega) (by decide) (by omega) (by decide) rfl (by kernel_rfl) (by omega) (fun b _ _ hs=>by omega) (fun b _ _ hs=>by omega)
 by_cases k7:c.toNat=240
 ·exact dec_class (X:=52) (Y:=3) (lo:=144) (hi:=191) (q:=6) 4 h hc (by rw[k7]; rfl) (by omega) (by decide) (by omega) (by decide) rfl (by kernel_rfl) (by omega) (fun b _ _ hs=>by omega) (fun b _ _ hs=>by omega)
 by_cases k8:c.toNat<244
 ·exact dec_class (X:=4) (Y:=0) (lo:=128) (hi:=191) (q:=0) 4 h hc (by simp only[firstN]; rw[if_neg (by omega),if_neg k1,if_neg k2,if_neg k3,if_neg k4,if_neg k5,if_neg k6,if_neg k7,if_pos k8]) (by omega) (by decide) (by omega) (by decide) rfl (by kernel_rfl) (by omega) (fun b _ _ hs=>by omega) (fun b _ _ hs=>by omega)
 by_cases k9:c.toNat=244
 ·exact dec_class (X:=68) (Y:=4) (lo:=128) (hi:=143) (q:=8) 4 h hc (by rw[k9]; rfl) (by omega) (by decide) (by omega) (by decide) rfl (by kernel_rfl) (by omega) (fun b _ _ hs=>by omega) (fun b _ _ hs=>by omega)
 ·exact⟨_,_,dec_bad h hc (by simp only[firstN]; rw[if_neg (by omega),if_neg k1,if_neg k2,if_neg k3,if_neg k4,if_neg k5,if_neg k6,if_neg k7,if_neg k8,if_neg k9]),decP_one h hc⟩
end
section
set_option linter.unusedSectionVars false
variable [Mx]
open Go Go.Proofs
theorem pDecodeRune {l:List UInt8} {c:UInt8} (h:l[0]? = some c) (hc:128≤c.toNat):∃ (rr:Int) (w:Nat),PCF qi 82 [encB.S l] (.tup [.int .i32 rr,.int .i64 w])∧DecP l rr w:=by
 obtain⟨rr,w,h1,h2⟩:=pDecode h hc
 refine⟨rr,w,?_,h2⟩
 have hl:=(qf.1 h).1
 have ha:iaddrA 1 (encB.S l) (.int .i64 0)=some (.fptr (encB.cs l) 0):=enc_addr h
 have hp:=enc_pick h
 have hT:TabOk qi (Tab.none.addO 106 (.cons (.S encB) .nil) fun p=>if p.1=l then some (.rd true (.tup [.int .i32 rr,.int .i64 w])) else none):=by
  refine xp (qJ _) fun p r hr=>?_
  split at hr
  ·rename_i hx
   cases hr
   show PCF _ _ [encB.S p.1] _
   rw[hx]
   exact h1
  ·cases hr
 have hcall:(Tab.none.addO 106 (.cons (.S encB) .nil) fun p=>if p.1=l then some (.rd true (.tup [.int .i32 rr,.int .i64 w])) else none) 106 [encB.S l]=some (.rd true (.tup [.int .i32 rr,.int .i64 w])):=by
  refine (xe _ _ (.cons (.S encB) .nil) _ (l,())).trans ?_
  rw[if_pos rfl]
 generalize (Tab.none.addO 106 (.cons (.S encB) .nil) fun p=>if p.1=l then some (.rd true (.tup [.int .i32 rr,.int .i64 w])) else none)=T at hT hcall
 refine pcf_e hmG hT comp82 (by decide) (by simp) (nidL_ok (by simp only[nidL,xu]; rfl)) ?_
 refine vcE.step (by simp only[exC,exOps,exOp,wantedE,↓reduceIte,ROp.run,evsE,evE,putE]; rfl) (vcE.then (fun e tm hp=>e=.normal∧hp=[]∧tm 0=encB.S l) ?_ ?_)
 ·refine vcE.step (by simp only[exC,exOps,exOp,wantedE,↓reduceIte,ROp.run,evsE,evE,ty,reduceCtorEq,qF,putE,same,qh]; rfl) (vcE.block (vcE.loop (by intro l tm hp h; simp at h) (fun m tm hp=>hp=[]∧tm 0=encB.S l∧tm 6=encB.S l∧tm 7=.int .i64 l.length∧tm 8=.int .i64 0∧m=0) 0 ⟨rfl,rfl,rfl,rfl,rfl,rfl⟩ ?_))
  rintro m tm hp' ⟨rfl,e0,e6,e7,e8,rfl⟩
  refine vcE.ex (by simp (disch:=omega) only[exC,exOps,exOp,wantedE,↓reduceIte,ROp.run,evsE,evE,e8,e7,same,binA,intA,dec_true,qh,putE,ty,qa,e6,ha,loadA,rowA,↓hp,dec_false,reduceCtorEq]; rfl) ?_
  refine⟨rfl,rfl,?_⟩
  simp only[upd_app,qa,↓reduceIte,e0]
 ·rintro e tm hp' ⟨rfl,rfl,e0⟩
  refine vcE.ex (by simp (disch:=omega) only[exC,exOps,exOp,wantedE,↓reduceIte,ROp.run,evsE,evE,e0,putE,ty,qt,frzL,hcall,Cls.isFree,callCls,nidL,same,ql,qh,qa,qw]; rfl) ?_
  exact⟨_,rfl,rfl⟩
theorem enc_long {rr:Int} {w:Nat} (h:(w=3∧2048≤rr∧rr<65536∧(rr<55296∨57344≤rr))∨(w=4∧65536≤rr∧rr≤1114111)):(Utf8.encode rr).data.toList.length=w:=by
 rcases h with ⟨rfl,h1,h2,h3⟩|⟨rfl,h1,h2⟩
 ·have hv:Utf8.valid rr=true:=by simp[Utf8.valid]; omega
  simp only[Utf8.encode,hv,if_true]
  rw[if_neg (by omega),if_neg (by omega),if_pos (by omega)]
  rfl
 ·have hv:Utf8.valid rr=true:=by simp[Utf8.valid]; omega
  simp only[Utf8.encode,hv,if_true]
  rw[if_neg (by omega),if_neg (by omega),if_neg (by omega)]
  rfl
theorem enc_ne (rr:Int):(Utf8.encode rr).data.toList≠[42,63]:=by
 intro h
 unfold Utf8.encode at h
 simp only at h
 generalize (if Utf8.valid rr=true then rr.toNat else Utf8.runeError)=c at h
 split at h
 ·simp at h
 split at h
 ·rename_i h1 h2
  simp only[xc] at h
  have:=congrArg UInt8.toNat h.1
  rw[UInt8.toNat_ofNat_of_lt' (show 192+c / 64<256 by omega)] at this
  have e:(42:UInt8).toNat=42:=rfl
  omega
 split at h<;>simp at h
theorem glob0:gv 0=[.int .i64 Mx.m]:=rfl
theorem ext_index {s:List UInt8} (h1:3≤s.length) (h2:(s.length:Int)≤Mx.m) (h3:s.length≤4) {hp:HP}:AExt qi 83 [.str [42,63],.str s] hp fun r hp'=>r=.int .i64 (-1)∧hp'=hp:=by
 intro Γ vs hh hl hv
 obtain⟨v,u,rfl,hv1,hv2⟩:=hv.two'
 simp only[VRel] at hv1 hv2
 subst hv1 hv2
 refine⟨.int .i64 (-1),_,hp,Γ,?_,by simp only[VRel],hh,Ev.refl _ _,rfl,rfl⟩
 refine run_extern (fn:=Tryz.f83) (by kernel_rfl) (by kernel_rfl) (by kernel_rfl) (by kernel_rfl) (f:=Extern.BytealgIndex.index) (by kernel_rfl) _ _ ?_
 have hg:=hh.gl.at_ (0,[.int .i64 Mx.m]) (by unfold globals; exact qD)
 simp only[VRel] at hg
 obtain⟨b,o,hb,_,hc⟩:=hg
 simp only[Value.pointer.injEq,qd,Addr.mk.injEq,Nat.add_zero,and_true] at hb
 obtain⟨rfl,rfl⟩:=hb
 simp only[CellsAt,VRel,and_true] at hc
 obtain⟨v,hc1,_,rfl⟩:=hc
 have hgi : qi.globals.findIdx? (fun g => g.name == "internal/bytealg.MaxLen") = some 0 := by kernel_rfl
 have hmax:Extern.BytealgIndex.maxLen.run qi Γ.w=.ok Mx.m Γ.w:=by
  simp[Extern.BytealgIndex.maxLen,globalAddr,hgi,asInt,asIntOf,qN,run_load,hc1]
 have hba:∀ l:List UInt8,(Extern.Bytes.bytesOf (.string ⟨l.toArray⟩)).run qi Γ.w=.ok ⟨l.toArray⟩ Γ.w:=fun _=>rfl
 have hs:(⟨s.toArray⟩:ByteArray).size=s.length:=rfl
 have ha:(⟨[42,63].toArray⟩:ByteArray).size=2:=rfl
 have hcond:(decide (s.length<2) || decide ((s.length:Int) > Mx.m))=false:=by simp; omega
 have he:Extern.BytealgIndex.index ⟨[.string ⟨[42,63].toArray⟩,.string ⟨s.toArray⟩]⟩=(do
   let a ← Extern.Bytes.bytesOf (.string ⟨[42,63].toArray⟩)
   let b ← Extern.Bytes.bytesOf (.string ⟨s.toArray⟩)
   if b.size<2 || (b.size:Int) > (← Extern.BytealgIndex.maxLen) then
    unsupported (.noEntry "extern/internal/bytealg.Index.length")
   if a.size≥2 ^ 32 - 15 then
    unsupported (.noEntry "extern/internal/bytealg.Index: a haystack of 2^32 - 15 bytes or more")
   match (List.range (a.size+1 - b.size)).find? fun i=>a.extract i (i+b.size) == b with
   | some i=>pure (goInt i)
   | none=>pure (goInt (-1))):=rfl
 rw[he]
 simp only[qN,hba,Result.andThen_ok,hmax,hs,ha,hcond]
 have hr:2+1 - s.length=0:=by omega
 simp[hr,goInt]
end
end Go.Gi
