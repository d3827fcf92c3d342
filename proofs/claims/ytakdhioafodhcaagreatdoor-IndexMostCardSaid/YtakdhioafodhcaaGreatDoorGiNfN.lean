/- States: rows of places, and what the small methods give. -/
/- States: start, of, all, list: what they give. -/
/- States: a row as a list. -/
/- States: a step. -/
/- States: New, Start, Step, Accepts, Run: what they give. -/
/- States: New, Pattern. -/
import Derived.Test.YtakdhioafodhcaaGreatDoorGiYR
set_option linter.unusedVariables false
set_option linter.unusedSimpArgs false
namespace Go.Gi
open _root_.Bool renaming and_eq_true → qp, or_eq_true → xO, false_and → xR, and_self → xb, true_and → xQ, false_or → xZ, or_false → zl
open _root_.Go.Gi.Enc renaming S_nid → xu
open _root_.Go.Proofs.Tryz renaming prog → qi
open _root_.List renaming getElem?_eq_some_iff → qf, getElem?_eq_getElem → qg, getElem?_eq_none → xt, mem_singleton → qQ, filter_append → xz, mem_append → qM, map_cons → qB, map_nil → xW
open _root_.Nat renaming reduceEqDiff → qa, reduceLeDiff → qu, reduceAdd → qs
open _root_.Option.some renaming injEq → qd
open _root_.Go.Gi.Tab renaming addO_self → xe, addO_ne → qS
open _root_.Go.Gi.TabOk renaming none → qJ, addO → xp
section
set_option linter.unusedSectionVars false
variable [Mx]
section
open Go Go.Proofs
def rowB (N:Nat) (b:Nat→Bool):List Bool:=(List.range N).map b
theorem rowB_len (N:Nat) (b:Nat→Bool):(rowB N b).length=N:=by simp[rowB]
theorem rowB_get {N:Nat} {b:Nat→Bool} {i:Nat} (h:i<N):(rowB N b)[i]? = some (b i):=by simp[rowB,h]
theorem rowB_set {N:Nat} {b:Nat→Bool} {i:Nat} (h:i<N):(rowB N b).set i true=rowB N (fun j=>b j || decide (j=i)):=by
 apply List.ext_getElem?
 intro j
 rw[List.getElem?_set]
 by_cases hj:j<N
 ·rw[rowB_get hj]
  by_cases hij:i=j
  ·subst hij
   rw[if_pos rfl,if_pos (by rw[rowB_len]; exact h),rowB_get h]
   simp
  ·rw[if_neg hij,rowB_get hj,decide_eq_false (fun e=>hij e.symm),zl]
 ·rw[if_neg (by omega),xt (by rw[rowB_len]; omega),xt (by rw[rowB_len]; omega)]
theorem rowB_congr {N:Nat} {b b':Nat→Bool} (h:∀ i,i<N→b i=b' i):rowB N b=rowB N b':=by
 simp only[rowB]
 exact List.map_congr_left fun i hi=>h i (List.mem_range.1 hi)
theorem rowB_false (N:Nat):rowB N (fun _=>false)=List.replicate N false:=by
 rw[List.eq_replicate_iff]
 exact⟨rowB_len _ _,fun b hb=>by simp only[rowB,List.mem_map] at hb; obtain⟨_,_,h⟩:=hb; exact h.symm⟩
def nP (p:List UInt8) (f:Bool):AV:=.fptr [.str p,.bool f] 0
theorem nP_nid (p:List UInt8) (f:Bool):nid (nP p f)=true:=rfl
def nSt (p:List UInt8):Nat:=if p=[] then 0 else p.length+1
theorem pStates (p:List UInt8) (f:Bool) (hl:p.length≤4611686018427387904):PCF qi 115 [nP p f] (.int .i64 (nSt p)):=by
 refine pcf_e hmG (qJ _) comp115 (by decide) (by simp) (nidL_ok rfl) ?_
 unfold nSt
 by_cases h:p=[]
 ·refine vcE.ex (by simp (disch:=first|assumption|omega) only[go_sem,↓reduceIte,qa,reduceCtorEq,nP,nilchkA,isNilA]; rfl) ?_
  refine⟨_,rfl,?_⟩
  rw[if_pos h]
  rfl
 ·refine vcE.ex (by simp (disch:=first|assumption|omega) only[go_sem,↓reduceIte,qa,reduceCtorEq,nP,nilchkA,isNilA]; rfl) ?_
  refine⟨_,rfl,?_⟩
  rw[if_neg h]
  rfl
theorem pPattern (p:List UInt8) (f:Bool):PCF qi 58 [nP p f] (.tup [.str p,.bool f]):=by
 refine pcf_e hmG (qJ _) comp58 (by decide) (by simp) (nidL_ok rfl) ?_
 refine vcE.ex (by simp (disch:=omega) only[go_sem,↓reduceIte,qa,reduceCtorEq,nP,nilchkA,isNilA]; rfl) ?_
 exact⟨_,rfl,rfl⟩
def rch (p:List UInt8) (a:Nat):Nat→Bool:=clo p fun i=>decide (i=a)
theorem rch_iff {p:List UInt8} {a j:Nat}:rch p a j=true↔a≤j∧∀ m,a≤m→m<j→p[m]? = some 42:=by
 unfold rch
 rw[clo_iff]
 constructor
 ·rintro⟨i,h1,h2,h3⟩
  simp only[decide_eq_true_eq] at h2
  subst h2
  exact⟨h1,h3⟩
 ·rintro⟨h1,h2⟩
  exact⟨a,h1,by simp,h2⟩
def rowBlk (N:Nat) (b:Nat→Bool):Option Blk:=some (.row 4 (encT.cs (rowB N b)))
theorem cCome (p:List UInt8) (f:Bool) (hl:p.length≤4611686018427387904) {hp:HP} {id:Nat} {b:Nat→Bool} {lo:Nat} {ex:Bool} (h:hp[id]? = some (rowBlk (p.length+1) b)) {a:Nat} (ha:a≤p.length) :
  ACalls qi 116 [nP p f,.sl id 0 (p.length+1) 1 lo ex,.int .i64 a] hp fun r hp'=>hp'=hp.set id (rowBlk (p.length+1) fun j=>b j || rch p a j):=by
 refine calls_e hmG (qJ _) comp116 (by decide) (by simp) ?_
 have hst:∀ {hp:HP} {b:Nat→Bool} {i:Nat},hp[id]? = some (rowBlk (p.length+1) b)→i≤p.length→storeA hp 1 (.ptr id i) (.bool true)=some (hp.set id (rowBlk (p.length+1) fun j=>b j || decide (j=i))):=fun {hp b i} h hi=>by
  have:=encT.sl_store1 (l:=rowB (p.length+1) b) (e:=4) rfl h (i:=i) (by rw[rowB_len]; omega) (b:=true) (v:=.bool true) rfl (by simp)
  rw[rowB_set (by omega)] at this
  exact this
 have h1:=hst h ha
 refine vcE.step (by simp (disch:=omega) only[go_sem,↓reduceIte,qa,iaddr_sl1,↓h1]; rfl) (vcE.block (vcE.loop (by intro l tm hp h; simp[RetE] at h) (fun m tm hp' => ∃ k,a≤k∧k≤p.length∧m=p.length - k∧(∀ m,a≤m→m<k→p[m]? = some 42)∧tm 0=nP p f∧tm 1=.sl id 0 (p.length+1) 1 lo ex∧tm 2=.int .i64 k∧hp'=hp.set id (rowBlk (p.length+1) fun j=>b j || decide (a≤j∧j≤k))) (p.length - a) ⟨a,Nat.le_refl _,ha,rfl,fun m h1 h2=>by omega,?_,?_,?_,?_⟩ ?_))
 ·rfl
 ·rfl
 ·rfl
 ·congr 2
  funext j
  congr 1
  rw[decide_eq_decide]
  omega
 ·rintro m tm hp' ⟨k,hak,hkl,rfl,hstar,e0,e1,e2,rfl⟩
  have hh:(hp.set id (rowBlk (p.length+1) fun j=>b j || decide (a≤j∧j≤k)))[id]? = some (rowBlk (p.length+1) fun j=>b j || decide (a≤j∧j≤k)):=set_get h
  have fin:(p[k]?≠some 42)→hp.set id (rowBlk (p.length+1) fun j=>b j || decide (a≤j∧j≤k))=hp.set id (rowBlk (p.length+1) fun j=>b j || rch p a j):=fun hne=>by
   congr 2
   funext j
   congr 1
   rw[Bool.eq_iff_iff,rch_iff,decide_eq_true_eq]
   constructor
   ·rintro⟨h1,h2⟩
    exact⟨h1,fun m h3 h4=>hstar m h3 (by omega)⟩
   ·rintro⟨h1,h2⟩
    refine⟨h1,?_⟩
    by_cases hjk:j≤k
    ·exact hjk
    ·exact absurd (h2 k hak (by omega)) hne
  by_cases hk:k<p.length
  ·obtain⟨c,hc⟩:∃ c,p[k]? = some c:=⟨_,qg hk⟩
   by_cases h42:c.toNat=42
   ·have h2:=hst (i:=k+1) hh (by omega)
    have hk1:((k:Int)+1)=((k+1:Nat):Int):=rfl
    refine vcE.ex (by simp (disch:=omega) only[go_sem,↓reduceIte,e2,reduceCtorEq,e0,nP,nilchkA,qa,hc,h42,hk1,e1,iaddr_sl1,↓h2]; rfl) ?_
    refine⟨_,?_,k+1,by omega,hk,rfl,?_,?_,?_,?_,?_⟩
    ·omega
    ·intro m h3 h4
     by_cases hm:m=k
     ·subst hm
      rw[hc]
      congr
      exact UInt8.toNat_inj.1 h42
     ·exact hstar m h3 (by omega)
    ·simp only[upd_app,qa,↓reduceIte,e0,nP]
    ·simp only[upd_app,qa,↓reduceIte,e1]
    ·simp only[upd_app,qa,↓reduceIte]
    ·rw[List.set_set]
     congr 2
     funext j
     rw[Bool.or_assoc]
     congr 1
     rw[Bool.eq_iff_iff]
     simp
     omega
   ·refine vcE.ex (by simp (disch:=omega) only[go_sem,↓reduceIte,qa,reduceCtorEq,nP,nilchkA,e0,e2,hc]; rfl) ?_
    refine⟨_,rfl,fin ?_⟩
    rw[hc]
    simp only[ne_eq,qd]
    rintro rfl
    exact h42 rfl
  ·refine vcE.ex (by simp (disch:=omega) only[go_sem,↓reduceIte,qa,reduceCtorEq,nP,nilchkA,e0,e2]; rfl) ?_
   refine⟨_,rfl,fin ?_⟩
   rw[xt (by omega)]
   simp
end
section
open Go Go.Proofs
theorem make_row {hp:HP} {N:Nat} {k k':IntKind} (h:N≤140737488355328):makeA hp 4 [.bool false] 1 (.int k N) (.int k' N)=some (.sl hp.length 0 N 1 N true,hp++[rowBlk N (fun _=>false)]):=by
 simp only[makeA]
 rw[if_pos (by omega),Int.toNat_natCast,encT_zeros,rowBlk,rowB_false]
 rfl
theorem rowBlk_fresh {hp:HP} {id N lo:Nat} {b:Nat→Bool} {ex:Bool} (h:hp[id]? = some (rowBlk N b)):fresh hp (.sl id 0 N 1 lo ex)=some (encT.S (rowB N b)):=by
 have:=encT.sl_fresh (l:=rowB N b) (e:=4) (lo:=lo) (ex:=ex) h
 rw[rowB_len] at this
 exact this
theorem rowBlk_store {hp:HP} {id N i:Nat} {b:Nat→Bool} (h:hp[id]? = some (rowBlk N b)) (hi:i<N):storeA hp 1 (.ptr id i) (.bool true)=some (hp.set id (rowBlk N fun j=>b j || decide (j=i))):=by
 have:=encT.sl_store1 (l:=rowB N b) (e:=4) rfl h (i:=i) (by rw[rowB_len]; omega) (b:=true) (v:=.bool true) rfl (by simp)
 rw[rowB_set hi] at this
 exact this
theorem rowBlk_congr {N:Nat} {b b':Nat→Bool} (h:∀ i,i<N→b i=b' i):rowBlk N b=rowBlk N b':=by
 rw[rowBlk,rowB_congr h]
 rfl
def nV:Option (List UInt8 × Bool)→AV
 | none=>.nilp
 | some (p,f)=>nP p f
def nN:Option (List UInt8 × Bool)→Nat
 | none=>0
 | some (p,_)=>nSt p
def R1.nfa:R1 (Option (List UInt8 × Bool)) where
 v:=nV
 un:=fun
  | .nilp=>some none
  | .fptr [.str p,.bool f] 0=>some (some (p,f))
  | _=>none
 un_v a:=by
  cases a with
  | none=>rfl
  | some a=>rfl
 un_some x a h:=by
  split at h
  ·cases h; rfl
  ·cases h; rfl
  ·cases h
theorem nV_nid (x:Option (List UInt8 × Bool)):nid (nV x)=true:=by
 cases x with
 | none=>rfl
 | some a=>rfl
def nSmall:Option (List UInt8 × Bool)→Prop
 | none=>True
 | some (p,_)=>p.length≤1000000
theorem nN_small {x:Option (List UInt8 × Bool)} (h:nSmall x):nN x≤1000001:=by
 cases x with
 | none=>simp[nN]
 | some a =>
  obtain⟨p,f⟩:=a
  simp only[nSmall] at h
  simp only[nN,nSt]
  split<;>omega
instance (x:Option (List UInt8 × Bool)):Decidable (nSmall x):=by
 cases x with
 | none=>exact isTrue trivial
 | some a=>exact inferInstanceAs (Decidable (a.1.length≤1000000))
theorem pStatesV (x:Option (List UInt8 × Bool)) (h:nSmall x):PCF qi 115 [nV x] (.int .i64 (nN x)):=by
 cases x with
 | none =>
  refine pcf_e hmG (qJ _) comp115 (by decide) (by simp) (nidL_ok rfl) ?_
  refine vcE.ex (by simp (disch:=omega) only[go_sem,↓reduceIte,qa,reduceCtorEq,nV,isNilA]; rfl) ?_
  exact⟨_,rfl,rfl⟩
 | some a =>
  obtain⟨p,f⟩:=a
  simp only[nSmall] at h
  exact pStates p f (by omega)
def H0:Tab:=G1.addO 115 (.cons .nfa .nil) fun p=>if nSmall p.1 then some (.rd true (.int .i64 (nN p.1))) else none
theorem H0_ok:TabOk qi H0:=by
 refine xp G1_ok ?_
 intro p r h
 split at h
 ·rename_i hs
  cases h
  exact pStatesV p.1 hs
 ·cases h
theorem H0_states (x:Option (List UInt8 × Bool)) (h:nSmall x):H0 115 [nV x]=some (.rd true (.int .i64 (nN x))):=by
 refine (xe _ _ (.cons .nfa .nil) _ (x,())).trans ?_
 rw[if_pos h]
theorem pStart (p:List UInt8) (f:Bool) (h0:p≠[]) (hl:p.length≤1000000):PCF qi 91 [nP p f] (encT.S (rowB (p.length+1) (startS p))):=by
 refine pcf_e hmG H0_ok comp91 (by decide) (by simp) (nidL_ok rfl) ?_
 have hN:nN (some (p,f))=p.length+1:=by simp[nN,nSt,h0]
 have hS:=H0_states (some (p,f)) hl
 rw[hN] at hS
 simp only[nV] at hS
 refine vcE.s1 (k:=vcE.step (by simp (disch:=omega) only[go_sem,↓reduceIte,reduceCtorEq,frzL.eq_2,show ∀ hp,frz hp (nP p f)=some (nP p f) from fun _=>rfl,hS,nidL.eq_2,nP_nid,make_row]; rfl) ?_)
 refine vcE.seq (vcE.s1 (k:=vcE.condTrue (by simp (disch:=omega) only[go_sem,↓reduceIte]) ?_))
 rw[show r91_3=r91_3.take 2++r91_3.drop 2 from rfl]
 refine vcE.app (vcE.e1 (k:=⟨rfl,vcE.call (f:=116) (caps:=[]) (ys:=[nP p f,.sl 0 0 (p.length+1) 1 (p.length+1) true,.int .i64 0]) rfl ?_ (cCome p f (by omega) (hp:=[rowBlk (p.length+1) fun _=>false]) (id:=0) (a:=0) rfl (by omega)) ?_⟩))
 ·rfl
 ·rintro r hp' rfl
  refine vcE.e0 ?_
  refine⟨_,rfl,?_⟩
  refine (rowBlk_fresh (N:=p.length+1) (b:=fun j=>false || rch p 0 j) (by rfl)).trans ?_
  simp only[xZ,rch,startS]
def ofS (l:List Int) (j:Nat):Bool:=decide ((j:Int) ∈ l)
theorem pOf (x:Option (List UInt8 × Bool)) (hx:nSmall x) (l:List Int) (hl:l.length≤1000000):PCF qi 94 [nV x,encI.S l] (encT.S (rowB (nN x) (ofS l))):=by
 refine pcf_e hmG H0_ok comp94 (by decide) (by simp) (nidL_ok (by simp only[nidL,nV_nid,xu,xb])) ?_
 have hS:=H0_states x hx
 have hN:=nN_small hx
 have hnid:=nV_nid x
 have hfz:∀ hp,frz hp (nV x)=some (nV x):=fun hp=>by
  cases x with
  | none=>rfl
  | some a=>rfl
 refine vcE.s1 (k:=vcE.step (by simp (disch:=omega) only[go_sem,↓reduceIte,reduceCtorEq,hS,hnid,hfz,make_row]; rfl) (vcE.then (fun e tm hp=>e=.normal∧tm 5=.sl 0 0 (nN x) 1 (nN x) true∧hp=[rowBlk (nN x) (ofS l)]) ?_ ?_))
 ·refine vcE.s1 (k:=vcE.block (vcE.count (by intro l tm hp h; simp at h)
   (fun i tm hp=>tm 5=.sl 0 0 (nN x) 1 (nN x) true∧tm 11=encI.S l∧tm 12=.int .i64 l.length∧tm 13=.int .i64 i∧hp=[rowBlk (nN x) (ofS (l.take i))]) l.length ⟨?_,?_,?_,?_,?_⟩ ?_ ?_))
  ·rfl
  ·rfl
  ·rfl
  ·rfl
  ·rfl
  ·rintro i tm hp hi ⟨e5,e11,e12,e13,rfl⟩
   obtain⟨a,ha⟩:∃ a,l[i]? = some a:=⟨_,qg hi⟩
   have hia:iaddrA 1 (encI.S l) (.int .i64 i)=some (.fptr (encI.cs l) i):=by
    have:=encI.S_iaddr (k:=.i64) hi
    simpa[encI] using this
   have hpick:=encI.pick1 (l:=l) rfl ha (v:=.int .i64 a) rfl rfl
   have htk:l.take (i+1)=l.take i++[a]:=by rw[List.take_add_one,ha]; rfl
   have hsame:¬ (0≤a∧a<nN x)→rowBlk (nN x) (ofS (l.take (i+1)))=rowBlk (nN x) (ofS (l.take i)):=fun hn=>by
    refine rowBlk_congr fun j hj=>?_
    simp only[ofS,htk,qM,qQ]
    congr 1
    apply propext
    constructor
    ·rintro (h|h)
     ·exact h
     ·omega
    ·exact .inl
   by_cases h1:0≤a
   ·by_cases h2:a<nN x
    ·obtain⟨n,rfl⟩:∃ n:Nat,a=n:=⟨a.toNat,by omega⟩
     have hst:=rowBlk_store (hp:=[rowBlk (nN x) (ofS (l.take i))]) (id:=0) (N:=nN x) (i:=n) rfl (by omega)
     refine vcE.ex (by simp (disch:=omega) only[go_sem,↓reduceIte,e13,e12,qa,e11,hia,↓hpick,e5,iaddr_sl1,↓hst]; rfl) ?_
     refine⟨?_,?_,?_,?_,?_⟩
     ·simp only[upd_app,qa,↓reduceIte,e5]
     ·simp only[upd_app,qa,↓reduceIte,e11]
     ·simp only[upd_app,qa,↓reduceIte,e12]
     ·simp only[upd_app,↓reduceIte]; rfl
     ·refine congrArg (fun b=>[b]) (rowBlk_congr fun j hj=>?_)
      simp only[ofS,htk,qM,qQ]
      rw[Bool.eq_iff_iff]
      simp only[xO,decide_eq_true_eq]
      constructor
      ·rintro (h|h)
       ·exact .inl h
       ·exact .inr (by omega)
      ·rintro (h|h)
       ·exact .inl h
       ·exact .inr (by omega)
    ·refine vcE.ex (by simp (disch:=omega) only[go_sem,↓reduceIte,qa,e5,e11,e12,e13,hia,↓hpick]; rfl) ?_
     refine⟨?_,?_,?_,?_,?_⟩
     ·simp only[upd_app,qa,↓reduceIte,e5]
     ·simp only[upd_app,qa,↓reduceIte,e11]
     ·simp only[upd_app,qa,↓reduceIte,e12]
     ·simp only[upd_app,↓reduceIte]; rfl
     ·rw[hsame (by omega)]
   ·refine vcE.ex (by simp (disch:=omega) only[go_sem,↓reduceIte,qa,e11,e12,e13,hia,↓hpick]; rfl) ?_
    refine⟨?_,?_,?_,?_,?_⟩
    ·simp only[upd_app,qa,↓reduceIte,e5]
    ·simp only[upd_app,qa,↓reduceIte,e11]
    ·simp only[upd_app,qa,↓reduceIte,e12]
    ·simp only[upd_app,↓reduceIte]; rfl
    ·rw[hsame (by omega)]
  ·rintro tm hp ⟨e5,e11,e12,e13,rfl⟩
   refine vcE.ex (by simp (disch:=omega) only[go_sem,↓reduceIte,e12,e13]; rfl) ?_
   refine⟨rfl,?_,?_⟩
   ·simp only[upd_app,qa,↓reduceIte,e5]
   ·rw[List.take_length]
 ·rintro e tm hp ⟨rfl,h5,rfl⟩
  refine vcE.ex (by simp only[go_sem,↓reduceIte,h5]; rfl) ?_
  refine⟨_,rfl,?_⟩
  exact rowBlk_fresh (N:=nN x) (id:=0) rfl
theorem encT_iaddr {R:List Bool} {i:Nat} {k:IntKind} (h:i<R.length):iaddrA 1 (encT.S R) (.int k i)=some (.fptr (encT.cs R) i):=by
 have:=encT.S_iaddr (k:=k) h
 simpa[encT] using this
theorem encI_iaddr {R:List Int} {i:Nat} {k:IntKind} (h:i<R.length):iaddrA 1 (encI.S R) (.int k i)=some (.fptr (encI.cs R) i):=by
 have:=encI.S_iaddr (k:=k) h
 simpa[encI] using this
theorem cAll {R:List Bool} (hR:R.length≤4611686018427387904) {id:Nat} {J:Nat→HP→Prop} {S:HP→Prop} {hp0:HP} (h0:J 0 hp0)
  (hstep:∀ i hp,R[i]? = some true→J i hp→ARound qi id [.int .i64 i] hp fun r hp'=>(r=.bool true∧J (i+1) hp')∨(r=.bool false∧S hp')) (hskip:∀ i hp,R[i]? = some false→J i hp→J (i+1) hp) :
  ACalls qi 135 [.yld id,.fptr [encT.S R] 0] hp0 fun _ hp'=>J R.length hp'∨S hp':=by
 refine calls_e hmG (qJ _) comp135 (by decide) (by simp) ?_
 refine vcE.s1 (k:=vcE.block (vcE.count (by intro l tm hp h; simp[RetE] at h) (fun i tm hp=>J i hp∧tm 0=.yld id∧tm 5=encT.S R∧tm 6=.int .i64 R.length∧tm 7=.int .i64 i) R.length ⟨h0,?_,?_,?_,?_⟩ ?_ ?_))
 ·rfl
 ·rfl
 ·rfl
 ·rfl
 ·rintro i tm hp hi ⟨hJ,e0,e5,e6,e7⟩
  obtain⟨c,hc⟩:∃ c,R[i]? = some c:=⟨_,qg hi⟩
  have hpick:=encT.pick1 (l:=R) rfl hc (v:=.bool c) rfl rfl
  have hia:=encT_iaddr (k:=.i64) hi
  cases c
  ·refine vcE.ex (by simp (disch:=omega) only[go_sem,↓reduceIte,qa,e5,e6,e7,hia,↓hpick]; rfl) ?_
   refine⟨hskip i hp hc hJ,?_,?_,?_,?_⟩
   all_goals simp only[upd_app,qa,↓reduceIte,e0,e5,e6]
   rfl
  ·refine vcE.step (by simp (disch:=omega) only[go_sem,↓reduceIte,e6,e7]; rfl) (vcE.s0 ?_)
   refine vcE.seq (vcE.block (vcE.step (by simp (disch:=omega) only[go_sem,↓reduceIte,qa,e5,e7,hia,↓hpick]; rfl) (vcE.seq ?_)))
   rw[show r135_3=r135_3.take 4++((r135_3.drop 4).take 1++r135_3.drop 5) from rfl]
   refine vcE.app (vcE.e1 (k:=⟨rfl,vcE.app (vcE.callY (id:=id) (ys:=[.int .i64 i]) ?_ ?_ (hstep i hp hc hJ) ?_)⟩))
   ·simp only[wantedE,upd_app,qa,↓reduceIte]
    rfl
   ·simp only[evsE,evE,upd_app,qa,↓reduceIte,e0]
   ·rintro r hp' (⟨rfl,hJ'⟩|⟨rfl,hS⟩)
    ·refine⟨rfl,vcE.e0 ?_⟩
     refine vcE.e0 ?_
     refine vcE.ex (by simp (disch:=omega) only[go_sem,↓reduceIte,qa,e7]; rfl) ?_
     refine⟨hJ',?_,?_,?_,?_⟩
     all_goals simp only[upd_app,qa,↓reduceIte,e0,e5,e6]
     rfl
    ·refine⟨rfl,vcE.e0 ?_⟩
     refine vcE.e0 ?_
     exact⟨_,rfl,.inr hS⟩
 ·rintro tm hp ⟨hJ,e0,e5,e6,e7⟩
  refine vcE.ex (by simp (disch:=omega) only[go_sem,↓reduceIte,e6,e7]; rfl) ?_
  exact⟨_,rfl,.inl hJ⟩
theorem pAll (R:List Bool):PC qi 117 [encT.S R] (.func 135 [.fptr [encT.S R] 0]):=by
 refine pc_e hmG (qJ _) comp117 (by decide) (by simp) (nidL_ok (by simp only[nidL,xu,xb])) ?_
 refine vcE.e0 ?_
 refine⟨_,rfl,?_⟩
 simp[upd,frz,frzL,nidL,xu]
def H1:Tab:=H0.addR 117 (.cons (.S encT) .nil) fun p=>.rd false (.func 135 [.fptr [encT.S p.1] 0])
theorem H1_ok:TabOk qi H1:=TabOk.addR H0_ok fun p=>pAll p.1
theorem H1_all (R:List Bool):H1 117 [encT.S R]=some (.rd false (.func 135 [.fptr [encT.S R] 0])):=Tab.addR_self _ _ (.cons (.S encT) .nil) _ (R,())
end
section
open Go Go.Proofs
def listTo (R:List Bool) (k:Nat):List Int:=((List.range k).filter fun i=>decide (R[i]? = some true)).map fun (i:Nat)=>(i:Int)
theorem listTo_one {R:List Bool} {k:Nat} (h:R[k]? = some true):listTo R (k+1)=listTo R k++[(k:Int)]:=by
 simp[listTo,List.range_succ,xz,h]
theorem listTo_no {R:List Bool} {k:Nat} (h:R[k]? = some false):listTo R (k+1)=listTo R k:=by
 simp[listTo,List.range_succ,xz,h]
theorem listTo_len (R:List Bool) (k:Nat):(listTo R k).length≤k:=by
 simp only[listTo,List.length_map]
 exact Nat.le_trans (List.length_filter_le _ _) (by simp)
def listB (R:List Bool):List Int:=listTo R R.length
def LJ (R:List Bool) (l:List AV) (i:Nat) (hp:HP):Prop:=
 ∃ id,hp[0]? = some (some (.row 28 [bld id (listTo R i).length 1]))∧BldAt encI hp id 3 (listTo R i)∧(listTo R i=[]∨2≤id)∧hp[1]? = some (some (.loop l 92000 .ready none))∧i≤R.length
theorem src_int {hp:HP} {e:TypeId} {c:Int} {ex:Bool}:srcA (hp++[some (.row e [.int .i64 c])]) 1 (.sl hp.length 0 1 1 1 ex)=some (encI.cs [c],1):=by
 have:=encI.sl_src (hp:=hp++[some (.row e [.int .i64 c])]) (id:=hp.length) (e:=e) (l:=[c]) (lo:=1) (ex:=ex) (by simp; rfl)
 exact this
theorem list_round {R:List Bool} (hR:R.length≤1000000) {l:List AV} {tm0:Env} (hl:Is 13 tm0 l) (h3:tm0 3=.ptr 0 0) {i:Nat} {hp:HP} (hi:R[i]? = some true) (hJ:LJ R l i hp) :
  ARound qi 1 [.int .i64 i] hp fun r hp'=>(r=.bool true∧LJ R l (i+1) hp')∨(r=.bool false∧False):=by
 obtain⟨id,g0,hb,hid,g1,hir⟩:=hJ
 have hil:=(qf.1 hi).1
 have hlen:=listTo_len R i
 refine round_e hmG (qJ _) lok92000 g1 rfl (tm:=upd tm0 7 (.int .i64 i)) (hl.setP 7 _) ?_
 intro hint
 refine vcE.e0 ?_
 refine⟨rfl,l,_,none,g1,?_⟩
 have hb1:hp[1]? = some (some (.loop l 92000 .ready none)):=g1
 generalize hh:hp.set 1 (some (.loop l 92000 .busy none))=h1
 have k0:h1[0]? = some (some (.row 28 [bld id (listTo R i).length 1])):=by rw[← hh,set_get_ne (by omega)]; exact g0
 have k1:h1[1]? = some (some (.loop l 92000 .busy none)):=by rw[← hh]; exact set_get g1
 have kb:BldAt encI h1 id 3 (listTo R i):=by
  rcases hb with hb|hb
  ·exact .inl hb
  ·rcases hid with h|h
   ·exact .inl h
   ·exact .inr (by rw[← hh,set_get_ne (by omega)]; exact hb)
 have kl:2≤h1.length:=get_lt k1
 have happ:=(kb.app [some (.row 3 [.int .i64 (i:Int)])]).more (bytes:=8) (m:=[(i:Int)]) (src_int (ex:=true)) (by simp) (by simp; omega) (by simp; omega)
 simp only[show encI.sz=1 from rfl] at happ
 have hload:(h1)[0]? = some (some (.row 28 [bld id (listTo R i).length 1])):=k0
 have hother:∀ j y,(h1++[some (.row 3 [.int .i64 (i:Int)])])[j]? = some y→((listTo R i).length=0∨j≠id)→(bldH (h1++[some (.row 3 [.int .i64 (i:Int)])]) id (listTo R i).length (.row 3 (encI.cs (listTo R i++[(i:Int)]))))[j]? = some y:=fun j y h h'=>bldH_other h h'
 have hz:(listTo R i).length=0∨(0:Nat)≠id:=by
  rcases hid with h|h
  ·exact .inl (by rw[h]; rfl)
  ·exact .inr (by omega)
 have hz1:(listTo R i).length=0∨(1:Nat)≠id:=by
  rcases hid with h|h
  ·exact .inl (by rw[h]; rfl)
  ·exact .inr (by omega)
 have e0:=hother 0 _ (app_get k0) hz
 have e1:=hother 1 _ (app_get k1) hz1
 have hat:=BldAt.moreAt encI (h1++[some (.row 3 [.int .i64 (i:Int)])]) id (listTo R i).length 3 (listTo R i++[(i:Int)])
 have hlen2:(h1++[some (Blk.row 3 [.int .i64 (i:Int)])]).length=h1.length+1:=by simp
 refine vcE.ex (by simp (disch:=omega) only[go_sem,↓reduceIte,qa,h3,k0,bld_one,happ,e0,show ∀ a b c,notTup (bld a b c)=true from fun a b c=>by unfold bld; split<;>rfl,bld_cells,qu]; rfl) ?_
 refine⟨none,l,_,.busy,none,rfl,by rw[set_get_ne (by omega)]; exact e1,.inl ⟨rfl,(h1++[some (Blk.row 3 [.int .i64 (i:Int)])]).length,?_,?_,?_,?_,hil⟩⟩
 ·rw[set_get_ne (by omega),set_get e0,listTo_one hi]
 ·rw[listTo_one hi]
  rcases hat with h|h
  ·simp at h
  ·exact .inr (by rw[set_get_ne (by omega),set_get_ne (by omega)]; exact h)
 ·exact .inr (by omega)
 ·rw[set_get (y:=some (.loop l 92000 .busy none)) (by rw[set_get_ne (by omega)]; exact e1)]
  rfl
theorem cList (R:List Bool) (hR:R.length≤1000000):ACalls qi 92 [encT.S R] [] fun r' hp' => ∃ id,r'=bld id (listB R).length 1∧BldAt encI hp' id 3 (listB R):=by
 refine calls_k hmG H1_ok comp92 keys92 (by decide) (by simp) ?_
 refine vcE.s1 (k:=vcE.s1 (k:=vcE.then (fun e tm hp=>e=.normal∧tm 3=.ptr 0 0∧∃ id,hp[0]? = some (some (.row 28 [bld id (listB R).length 1]))∧BldAt encI hp id 3 (listB R)) ?_ ?_))
 ·refine vcE.step (by simp (disch:=omega) only[go_sem,↓reduceIte,reduceCtorEq,H1_all,xu]; rfl) (vcE.block (vcE.rangeF (g:=135) (caps:=[.fptr [encT.S R] 0]) ?_ ?_))
  ·simp only[evE,upd_app,↓reduceIte]
  ·intro l hl
   refine (cAll (R:=R) (by omega) (id:=1) (J:=LJ R l) (S:=fun _=>False) (hp0:=[some (.row 28 [.nils]),some (.loop l 92000 .ready none)]) ⟨0,rfl,.inl rfl,.inl rfl,rfl,Nat.zero_le _⟩ ?_ ?_).mono ?_
   ·intro i hp hi hJ
    exact list_round hR hl (by simp only[upd_app,qa,↓reduceIte]) hi hJ
   ·rintro i hp hi ⟨id,g0,hb,hid,g1,hir⟩
    have hil:=(qf.1 hi).1
    exact⟨id,by rw[listTo_no hi]; exact g0,by rw[listTo_no hi]; exact hb,by rw[listTo_no hi]; exact hid,g1,hil⟩
   ·rintro r hp' (⟨id,g0,hb,hid,g1,hir⟩|h)
    ·refine⟨l,_,.ready,none,g1,by simp,rfl,?_,id,?_,?_⟩
     ·simp only[upd_app,qa,↓reduceIte]
     ·rw[set_get_ne (by simp)]
      exact g0
     ·rcases hb with h|h
      ·exact .inl h
      ·rcases hid with h' | h'
       ·exact .inl h'
       ·exact .inr (by rw[set_get_ne (by simp; omega)]; exact h)
    ·exact h.elim
 ·rintro e tm hp ⟨rfl,h3,id,g0,hb⟩
  refine vcE.ex (by simp (disch:=omega) only[go_sem,↓reduceIte,h3,g0,bld_one]; rfl) ?_
  exact⟨_,rfl,id,rfl,hb⟩
theorem pList (R:List Bool) (hR:R.length≤1000000):PCF qi 92 [encT.S R] (encI.S (listB R)):=
 pcf_of (nidL_ok (by simp only[nidL,xu,xb])) ((cList R hR).mono fun r hp' ⟨id,h1,h2⟩=>by subst h1; exact fresh_ok h2.fresh)
end
end
section
set_option linter.unusedSectionVars false
variable [Mx]
open Go Go.Proofs
def accS (s:UInt8→UInt8→Bool) (p:List UInt8) (r:Nat→Bool) (c:UInt8):Nat→Nat→Bool
 | 0,_=>false
 | i+1,j=>accS s p r c i j || (r i && ((isStar p i && rch p i j) || (takes s p i c && rch p (i+1) j)))
theorem accS_iff {s:UInt8→UInt8→Bool} {p:List UInt8} {r:Nat→Bool} {c:UInt8} {j:Nat}:∀ {i:Nat},accS s p r c i j=true↔∃ k,k<i∧r k=true∧((isStar p k=true∧rch p k j=true)∨(takes s p k c=true∧rch p (k+1) j=true))
 | 0=>by simp[accS]
 | i+1=>by
  simp only[accS,xO,qp,accS_iff (i:=i)]
  constructor
  ·rintro (⟨k,h1,h2⟩|⟨h1,h2⟩)
   ·exact⟨k,by omega,h2⟩
   ·exact⟨i,by omega,h1,h2⟩
  ·rintro⟨k,h1,h2,h3⟩
   by_cases hk:k=i
   ·subst hk; exact .inr ⟨h2,h3⟩
   ·exact .inl ⟨k,by omega,h2,h3⟩
theorem isStar_end (p:List UInt8):isStar p p.length=false:=by simp[isStar]
theorem takes_end (s:UInt8→UInt8→Bool) (p:List UInt8) (c:UInt8):takes s p p.length c=false:=by simp[takes]
theorem accS_end {s:UInt8→UInt8→Bool} {p:List UInt8} {r:Nat→Bool} {c:UInt8} {j:Nat}:accS s p r c (p.length+1) j=accS s p r c p.length j:=by
 simp[accS,isStar_end,takes_end]
theorem accS_step {s:UInt8→UInt8→Bool} {p:List UInt8} {r:Nat→Bool} {c:UInt8} {j:Nat}:accS s p r c p.length j=stepS s p r c j:=by
 rw[Bool.eq_iff_iff,accS_iff,stepS,clo_iff]
 constructor
 ·rintro⟨k,h1,h2,⟨h3,h4⟩|⟨h3,h4⟩⟩
  ·rw[rch_iff] at h4
   refine⟨k,h4.1,?_,h4.2⟩
   cases k with
   | zero=>simp only[leads,h2,h3,xb]
   | succ k=>simp only[leads,h2,h3,xb,Bool.true_or]
  ·rw[rch_iff] at h4
   exact⟨k+1,h4.1,by simp only[leads,h2,h3,xb,Bool.or_true],h4.2⟩
 ·rintro⟨i,h1,h2,h3⟩
  have hs:isStar p i=true→i<p.length:=fun h=>by
   simp only[isStar,decide_eq_true_eq] at h
   exact (qf.1 h).1
  have ht:∀ i,takes s p i c=true→i<p.length:=fun i h=>by
   unfold takes at h
   split at h
   ·rename_i a ha
    exact (qf.1 ha).1
   ·cases h
  cases i with
  | zero =>
   simp only[leads,qp] at h2
   exact⟨0,hs h2.2,h2.1,.inl ⟨h2.2,rch_iff.2 ⟨h1,h3⟩⟩⟩
  | succ i =>
   simp only[leads,xO,qp] at h2
   rcases h2 with h2|h2
   ·exact⟨i+1,hs h2.2,h2.1,.inl ⟨h2.2,rch_iff.2 ⟨h1,h3⟩⟩⟩
   ·exact⟨i,ht i h2.2,h2.1,.inr ⟨h2.2,rch_iff.2 ⟨h1,h3⟩⟩⟩
def stepH (p:List UInt8) (f:Bool) (c:UInt8) (acc:Nat→Bool) (b:Option Blk):HP:=
 [some (.row 84 [nP p f]),some (.row 5 [.int .u8 c.toNat]),rowBlk (p.length+1) acc,some (.row 150 [.sl 2 0 (p.length+1) 1 (p.length+1) true]),b]
def H2:Tab:=H1.addO 33 (.cons .str .nil) fun p=>if p.1.length≤1000000 then some (.rd true (.str (p.1.map foldB))) else none
theorem H2_ok:TabOk qi H2:=by
 refine xp H1_ok ?_
 intro p r h
 split at h
 ·cases h
  exact pFoldS p.1 (by omega)
 ·cases h
theorem H2_fold (s:List UInt8) (h:s.length≤1000000):H2 33 [.str s]=some (.rd true (.str (s.map foldB))):=by
 refine (xe _ _ (.cons .str .nil) _ (s,())).trans ?_
 rw[if_pos h]
theorem H2_all (R:List Bool):H2 117 [encT.S R]=some (.rd false (.func 135 [.fptr [encT.S R] 0])):=by
 rw[H2,qS _ _ _ _ rfl]
 exact H1_all R
theorem b2s_one (hp:HP) (c:UInt8):b2sA hp (.fsl [.int .u8 c.toNat] 1)=some (.str [c]):=by
 have h:unbyte (encB.cs [c])=some [c]:=unbyte_encB [c]
 have h2:unbyte [.int .u8 (c.toNat:Int)]=some [c]:=h
 simp[b2sA,srcA,h2]
section
variable {p:List UInt8} {f:Bool} {c:UInt8} {r:Nat→Bool} {l:List AV} {tm0:Env}
def SK (p:List UInt8) (f:Bool) (c:UInt8) (r:Nat→Bool) (l:List AV) (i:Nat) (rv:AV) (hp':HP):Prop:=
 (rv=.bool true∧hp'=stepH p f c (accS (sameB f) p r c (i+1)) (some (.loop l 93000 .ready none))∧i<p.length)∨(rv=.bool false∧∃ l' st,st≠.busy∧hp'=stepH p f c (accS (sameB f) p r c p.length) (some (.loop l' 93000 st (some (some 0)))))
theorem step_tail {i:Nat} (hi:i<p.length) (ri:r i=true) {acc:Nat→Bool} (hacc:∀ j,acc j=accS (sameB f) p r c (i+1) j) {hp3:HP} (h3:hp3=stepH p f c acc (some (.loop l 93000 .busy none))) :
  ∃ pe tms3 key3 ls3 pd3,pendOf .normal=some pe∧hp3[4]? = some (some (.loop tms3 key3 ls3 pd3))∧SK p f c r l i (.bool pe.isNone) (hp3.set 4 (some (.loop tms3 key3 (if pe.isNone then .ready else .done) pe))):=by
 subst h3
 refine⟨none,l,_,.busy,none,rfl,rfl,.inl ⟨rfl,?_,hi⟩⟩
 rw[show acc=accS (sameB f) p r c (i+1) from funext hacc]
 rfl
theorem step_round (hl:p.length≤1000000) (hl0:Is 63 tm0 l) (t3:tm0 3=.ptr 0 0) (t5:tm0 5=.ptr 1 0) (t7:tm0 7=.ptr 3 0) {i:Nat} (hi:i≤p.length) (ri:r i=true) :
  ARound qi 4 [.int .i64 i] (stepH p f c (accS (sameB f) p r c i) (some (.loop l 93000 .ready none))) (SK p f c r l i):=by
 refine round_e hmG H2_ok lok93000 (tms:=l) rfl rfl (tm:=upd tm0 15 (.int .i64 i)) (hl0.setP 15 _) ?_
 intro hint
 refine vcE.e0 ?_
 refine⟨rfl,l,_,none,rfl,?_⟩
 have hset:(stepH p f c (accS (sameB f) p r c i) (some (.loop l 93000 .ready none))).set 4 (some (.loop l 93000 .busy none))=stepH p f c (accS (sameB f) p r c i) (some (.loop l 93000 .busy none)):=rfl
 rw[hset]
 have frzN:∀ hp,frz hp (nP p f)=some (nP p f):=fun _=>rfl
 by_cases hip:i=p.length
 ·subst hip
  refine vcE.block (vcE.ex (by simp (disch:=omega) only[go_sem,↓reduceIte,qa,stepH,nP,nilchkA,t3]; rfl) ?_)
  simp only[qa,↓reduceIte]
  exact⟨some (some 0),l,_,.busy,none,rfl,rfl,.inr ⟨rfl,l,.done,by simp,rfl⟩⟩
 ·have hlt:i<p.length:=by omega
  obtain⟨a,ha⟩:∃ a,p[i]? = some a:=⟨_,qg hlt⟩
  refine vcE.block (vcE.step (by simp (disch:=omega) only[go_sem,↓reduceIte,qa,stepH,nP,nilchkA,t3]; rfl) (vcE.step (by simp (disch:=omega) only[go_sem,↓reduceIte,qa,nilchkA,t3,ha]; rfl) (vcE.block (vcE.s0 ?_))))
  by_cases h42:a.toNat=42
  ·have hstar:isStar p i=true:=by
    simp only[isStar,decide_eq_true_eq,ha,qd]
    exact UInt8.toNat_inj.1 h42
   have htake:takes (sameB f) p i c=false:=by
    simp[takes,ha,show a=42 from UInt8.toNat_inj.1 h42]
   refine vcE.condTrue (by simp (disch:=omega) only[go_sem,↓reduceIte,h42]) ?_
   rw[show r93_8=r93_8.take 3++r93_8.drop 3 from rfl]
   refine vcE.app (vcE.ex (by simp (disch:=omega) only[go_sem,↓reduceIte,qa,t3,t7]; rfl) ⟨rfl,vcE.call (f:=116) (caps:=[]) (ys:=[nP p f,.sl 2 0 (p.length+1) 1 (p.length+1) true,.int .i64 i]) rfl ?_ (cCome p f (by omega) (id:=2) (b:=accS (sameB f) p r c i) rfl hi) ?_⟩)
   ·rfl
   ·rintro rv hp' rfl
    refine step_tail hlt ri (acc:=fun j=>accS (sameB f) p r c i j || rch p i j) (fun j=>?_) rfl
    simp only[accS,ri,hstar,htake,xQ,xR,zl]
  ·have hne:a≠42:=fun e=>h42 (by rw[e]; rfl)
   have hstar:isStar p i=false:=by simp[isStar,ha,hne]
   refine vcE.condFalse (by simp (disch:=omega) only[go_sem,↓reduceIte]) ?_
   have yes:takes (sameB f) p i c=true→∀ tm:Env,tm 36=.bool true→tm 3=.ptr 0 0→tm 7=.ptr 3 0→tm 8=.int .i64 i→vcE qi hint H2 63 (IC.cond (.t 36) (IC.reg r93_12) IC.skip) tm (stepH p f c (accS (sameB f) p r c i) (some (.loop l 93000 .busy none))) (fun e tm3 hp3=>e=.normal∧∃ pe tms3 key3 ls3 pd3,pendOf .normal=some pe∧hp3[4]? = some (some (.loop tms3 key3 ls3 pd3))∧SK p f c r l i (.bool pe.isNone) (hp3.set 4 (some (.loop tms3 key3 (if pe.isNone then .ready else .done) pe)))):=by
    intro htake tm e36 e3 e7 e8
    refine vcE.condTrue (by simp only[evE,e36]) ?_
    rw[show r93_12=r93_12.take 4++r93_12.drop 4 from rfl]
    refine vcE.app (vcE.ex (by simp (disch:=omega) only[go_sem,↓reduceIte,qa,stepH,e3,e7,e8,nP]; rfl) ⟨rfl,vcE.call (f:=116) (caps:=[]) (ys:=[nP p f,.sl 2 0 (p.length+1) 1 (p.length+1) true,.int .i64 ((i+1:Nat):Int)]) rfl ?_ (cCome p f (by omega) (id:=2) (b:=accS (sameB f) p r c i) rfl (a:=i+1) (by omega)) ?_⟩)
    ·rfl
    ·rintro rv hp' rfl
     refine⟨rfl,step_tail hlt ri (acc:=fun j=>accS (sameB f) p r c i j || rch p (i+1) j) (fun j=>?_) rfl⟩
     simp only[accS,ri,hstar,htake,xQ,xR,xZ]
   have no:takes (sameB f) p i c=false→∃ pe tms3 key3 ls3 pd3,pendOf .normal=some pe∧(stepH p f c (accS (sameB f) p r c i) (some (.loop l 93000 .busy none)))[4]? = some (some (.loop tms3 key3 ls3 pd3))∧SK p f c r l i (.bool pe.isNone) ((stepH p f c (accS (sameB f) p r c i) (some (.loop l 93000 .busy none))).set 4 (some (.loop tms3 key3 (if pe.isNone then .ready else .done) pe))):=fun htake=>by
    refine step_tail hlt ri (acc:=accS (sameB f) p r c i) (fun j=>?_) rfl
    simp only[accS,ri,hstar,htake,xQ,xR,zl]
   have fin:∀ {tm:Env} {hp:HP} {Q:Exit→Env→HP→Prop} {n:Nat} {ic:IC},vcE qi hint H2 n ic tm hp (fun e tm3 hp3=>e=.normal∧Q .normal tm3 hp3)→vcE qi hint H2 n ic tm hp Q:=fun h=>h.mono fun e tm hp ⟨h1,h2⟩=>by subst h1; exact h2
   have hsame:a.toNat≠63→takes (sameB f) p i c=sameB f a c:=fun h63=>by
    have:a≠63:=fun e=>h63 (by rw[e]; rfl)
    have h1:(a == 42)=false:=by simpa using hne
    have h2:(a == 63)=false:=by simpa using this
    simp only[takes,ha,bne,h1,h2,Bool.not_false,xQ,xZ]
   by_cases h63:a.toNat=63
   ·have htake:takes (sameB f) p i c=true:=by
     simp[takes,ha,show a=63 from UInt8.toNat_inj.1 h63]
    refine vcE.step (by simp (disch:=omega) only[go_sem,↓reduceIte,qa,h63]; rfl) (fin (yes htake _ ?_ ?_ ?_ ?_))
    all_goals simp only[upd_app,qa,↓reduceIte,t3,t7]
   ·by_cases hac:a=c
    ·subst hac
     have htake:takes (sameB f) p i a=true:=by
      rw[hsame h63]
      cases f<;>simp[sameB]
     refine vcE.step (by simp (disch:=omega) only[go_sem,↓reduceIte,qa,stepH,t5]; rfl) (fin (yes htake _ ?_ ?_ ?_ ?_))
     all_goals simp only[upd_app,qa,↓reduceIte,t3,t7]
    ·have hac':¬ (a.toNat:Int)=c.toNat:=fun e=>hac (u8_eqI.1 e)
     cases f
     ·have htake:takes (sameB false) p i c=false:=by
       rw[hsame h63]
       simp[sameB,hac]
      refine vcE.step (by simp (disch:=first|assumption|omega) only[go_sem,↓reduceIte,qa,t3,t5,nilchkA]; rfl) (vcE.e0 ?_)
      exact no htake
     ·have hfa:=H2_fold [a] (by simp)
      have hfc:=H2_fold [c] (by simp)
      by_cases hfo:foldB a=foldB c
      ·have htake:takes (sameB true) p i c=true:=by
        rw[hsame h63]
        simp[sameB,hfo]
       refine vcE.step (by simp (disch:=first|assumption|omega) only[go_sem,↓reduceIte,qa,t5,exOps.eq_2,t3,nilchkA,b2s_one,frzL.eq_2,hfa,qB,hfo,xW,nidL.eq_2,hfc,stepH,nP]; rfl) (fin (yes htake _ ?_ ?_ ?_ ?_))
       all_goals simp only[upd_app,qa,↓reduceIte,t3,t7]
      ·have htake:takes (sameB true) p i c=false:=by
        rw[hsame h63]
        simp[sameB,hfo]
       have hfo2:¬ ([foldB a]=[foldB c]):=by simpa using hfo
       refine vcE.step (by simp (disch:=first|assumption|omega) only[go_sem,↓reduceIte,qa,t5,exOps.eq_2,t3,nilchkA,b2s_one,frzL.eq_2,hfa,qB,xW,nidL.eq_2,hfc]; rfl) (vcE.e0 ?_)
       exact no htake
end
theorem pStep (p:List UInt8) (f:Bool) (c:UInt8) (h0:p≠[]) (hl:p.length≤1000000) (r:Nat→Bool):PCF qi 93 [nP p f,encT.S (rowB (p.length+1) r),.int .u8 c.toNat] (encT.S (rowB (p.length+1) (stepS (sameB f) p r c))):=by
 have hx:NoIdL [nP p f,encT.S (rowB (p.length+1) r),.int .u8 c.toNat]:=nidL_ok (by simp only[nidL,xu,nP_nid,nid_int,xb])
 refine pcf_of hx ((calls_k hmG H2_ok comp93 keys93 (by decide) (by simp) (K:=fun r' hp'=>fresh hp' r'=some (encT.S (rowB (p.length+1) (stepS (sameB f) p r c)))) ?_).mono fun _ _=>fresh_ok)
 have hrl:=rowB_len (p.length+1) r
 have hlen:lenA [some (.row 84 [nP p f]),some (.row 5 [.int .u8 c.toNat])] (encT.S (rowB (p.length+1) r))=some (.int .i64 ((p.length+1:Nat):Int)):=by rw[encT.S_len,hrl]
 have hN:notTup (nP p f)=true:=rfl
 have hC:cellsA (nP p f)=[nP p f]:=rfl
 have hsm:((p.length+1:Nat):Int)=(p.length:Int)+1:=rfl
 have hmk:=make_row (hp:=[some (.row 84 [nP p f]),some (.row 5 [.int .u8 c.toNat])]) (N:=p.length+1) (k:=.i64) (k':=.i64) (by omega)
 have hall:=H2_all (rowB (p.length+1) r)
 refine vcE.step (by simp (disch:=omega) only[go_sem,↓reduceIte,qa,hN,hC]; rfl) (vcE.step (by simp (disch:=omega) only[go_sem,↓reduceIte,qa,qs,qu,↓hlen,↓hmk]; rfl) (vcE.then (fun e tm hp=>e=.normal∧tm 7=.ptr 3 0∧∃ b,hp=stepH p f c (stepS (sameB f) p r c) b) ?_ ?_))
 ·refine vcE.step (by simp (disch:=omega) only[go_sem,↓reduceIte,qa,hall,xu]; rfl) (vcE.block (vcE.rangeF (g:=135) (caps:=[.fptr [encT.S (rowB (p.length+1) r)] 0]) ?_ ?_))
  ·simp only[evE,upd_app,↓reduceIte]
  ·intro l hl'
   have hfin:stepH p f c (accS (sameB f) p r c p.length)=stepH p f c (stepS (sameB f) p r c):=by rw[show accS (sameB f) p r c p.length=stepS (sameB f) p r c from funext fun j=>accS_step]
   refine (cAll (R:=rowB (p.length+1) r) (by omega) (id:=4) (J:=fun i hp=>i≤p.length+1∧hp=stepH p f c (accS (sameB f) p r c i) (some (.loop l 93000 .ready none))) (S:=fun hp => ∃ l' st,st≠.busy∧hp=stepH p f c (accS (sameB f) p r c p.length) (some (.loop l' 93000 st (some (some 0))))) (hp0:=stepH p f c (fun _=>false) (some (.loop l 93000 .ready none))) ⟨Nat.zero_le _,rfl⟩ ?_ ?_).mono ?_
   ·rintro i hp hi ⟨hir,rfl⟩
    have hlt:=(qf.1 hi).1
    rw[hrl] at hlt
    rw[rowB_get hlt] at hi
    refine (step_round hl hl' ?_ ?_ ?_ (show i≤p.length by omega) (by simpa using hi)).mono ?_
    ·simp only[upd_app,qa,↓reduceIte]
    ·simp only[upd_app,qa,↓reduceIte]
    ·simp only[upd_app,qa,↓reduceIte]
    ·rintro rv hp' (⟨h1,h2,h3⟩|⟨h1,l',st,h2,h3⟩)
     ·exact .inl ⟨h1,by omega,h2⟩
     ·exact .inr ⟨h1,l',st,h2,h3⟩
   ·rintro i hp hi ⟨hir,rfl⟩
    have hlt:=(qf.1 hi).1
    rw[hrl] at hlt
    rw[rowB_get hlt] at hi
    have hri:r i=false:=by simpa using hi
    refine⟨by omega,?_⟩
    rw[show accS (sameB f) p r c (i+1)=accS (sameB f) p r c i from funext fun j=>by simp[accS,hri]]
   ·rintro rv hp' (⟨h1,h2⟩|⟨l',st,h2,h3⟩)
    ·rw[hrl] at h2
     subst h2
     refine⟨l,_,.ready,none,rfl,by simp,rfl,?_,some (.loop l 93000 .exhausted none),?_⟩
     ·simp only[upd_app,qa,↓reduceIte]
     ·rw[show accS (sameB f) p r c (p.length+1)=stepS (sameB f) p r c from funext fun j=>accS_end.trans accS_step]
      rfl
    ·subst h3
     refine⟨l',_,st,some (some 0),rfl,h2,?_⟩
     simp only[exitOf,↓reduceIte]
     refine⟨trivial,?_,some (.loop l' 93000 .exhausted (some (some 0))),?_⟩
     ·simp only[upd_app,qa,↓reduceIte]
     ·rw[hfin]
      rfl
 ·rintro e tm hp ⟨rfl,h7,b,rfl⟩
  refine vcE.ex (by simp (disch:=omega) only[go_sem,↓reduceIte,stepH,h7]; rfl) ?_
  refine⟨_,rfl,?_⟩
  exact rowBlk_fresh (N:=p.length+1) (id:=2) rfl
end
section
set_option linter.unusedSectionVars false
variable [Mx]
open Go Go.Proofs
theorem vcE.callB {P:Program} {hint:Nat→Nat} {T:Tab} {n:Nat} {d:Option Nat} {xs:List Opd} {g:Option (Nat × Bool)} {tm:Env} {hp:HP} {Q:Exit→Env→HP→Prop} {f:FuncId} {first ys:List AV} {K:AV→HP→Prop} (hw:wantedE tm g=true) (he:evsE tm xs=.bound f first :: ys) (hc:ACalls P f (first++ys) hp K) (hk:∀ r hp',K r hp'→Q .normal (putE tm d r) hp'):vcE P hint T n (.reg [⟨d,.call none,xs,g⟩]) tm hp Q:=by
 intro hm hT hs l Q' hl hq
 simp only[okS,List.all_cons,List.all_nil,Bool.and_true,IOp.inR,qp] at hs
 obtain⟨⟨h1,h2⟩,h3⟩:=hs
 show vop P _ _ _
 unfold vop
 rw[if_pos (by rw[hl.wanted h3]; exact hw)]
 simp only
 rw[hl.evs h1,he]
 exact hc.mono fun r hp' hr=>hq _ _ _ _ hl.put (hk r hp' hr)
def okV:Option (List UInt8 × Bool)→Prop
 | none=>True
 | some (p,_)=>p≠[]∧p.length≤1000000
theorem okV.small {x:Option (List UInt8 × Bool)} (h:okV x):nSmall x:=by
 cases x with
 | none=>trivial
 | some a=>exact h.2
instance (x:Option (List UInt8 × Bool)):Decidable (okV x):=by
 cases x with
 | none=>exact isTrue trivial
 | some a=>exact inferInstanceAs (Decidable (a.1≠[]∧a.1.length≤1000000))
theorem nN_some {p:List UInt8} {f:Bool} (h:p≠[]):nN (some (p,f))=p.length+1:=by simp[nN,nSt,h]
def startV:Option (List UInt8 × Bool)→Nat→Bool
 | none=>fun _=>false
 | some (p,_)=>startS p
def stepV:Option (List UInt8 × Bool)→(Nat→Bool)→UInt8→Nat→Bool
 | none,_,_=>fun _=>false
 | some (p,f),r,c=>stepS (sameB f) p r c
def runV (x:Option (List UInt8 × Bool)):List UInt8→(Nat→Bool)→Nat→Bool
 | [],r=>r
 | c :: t,r=>runV x t (stepV x r c)
theorem runV_snoc (x:Option (List UInt8 × Bool)):∀ (t:List UInt8) (c:UInt8) (r:Nat→Bool),runV x (t++[c]) r=stepV x (runV x t r) c
 | [],c,r=>rfl
 | d :: t,c,r=>runV_snoc x t c _
theorem runV_some (p:List UInt8) (f:Bool):∀ (t:List UInt8) (r:Nat→Bool),runV (some (p,f)) t r=runS (sameB f) p t r
 | [],r=>rfl
 | c :: t,r=>runV_some p f t _
theorem pStartV (x:Option (List UInt8 × Bool)) (h:okV x):PCF qi 91 [nV x] (encT.S (rowB (nN x) (startV x))):=by
 cases x with
 | none =>
  refine pcf_e hmG H0_ok comp91 (by decide) (by simp) (nidL_ok rfl) ?_
  have hS:=H0_states none trivial
  simp only[nV,nN] at hS
  refine vcE.ex (by simp (disch:=omega) only[go_sem,↓reduceIte,qa,reduceCtorEq,nV,hS,make_row]; rfl) ?_
  exact⟨_,rfl,rfl⟩
 | some a =>
  obtain⟨p,f⟩:=a
  rw[nN_some h.1]
  exact pStart p f h.1 h.2
theorem pStepNil (c:UInt8):PCF qi 93 [.nilp,encT.S [],.int .u8 c.toNat] (encT.S []):=by
 refine pcf_of (nidL_ok rfl) ((calls_k hmG H2_ok comp93 keys93 (by decide) (by simp) (K:=fun r' hp'=>fresh hp' r'=some (encT.S [])) ?_).mono fun _ _=>fresh_ok)
 have hmk:=make_row (hp:=[some (.row 84 [.nilp]),some (.row 5 [.int .u8 c.toNat])]) (N:=0) (k:=.i64) (k':=.i64) (by omega)
 have hall:=H2_all []
 refine vcE.s1 (k:=vcE.step (by simp (disch:=omega) only[go_sem,↓reduceIte,qa,qs,qu,↓hmk]; rfl) (vcE.then (fun e tm hp=>e=.normal∧tm 7=.ptr 3 0∧∃ b,hp=[some (.row 84 [.nilp]),some (.row 5 [.int .u8 c.toNat]),rowBlk 0 (fun _=>false),some (.row 150 [.sl 2 0 0 1 0 true]),b]) ?_ ?_))
 ·refine vcE.step (by simp (disch:=omega) only[go_sem,↓reduceIte,qa,hall,xu]; rfl) (vcE.block (vcE.rangeF (g:=135) (caps:=[.fptr [encT.S []] 0]) ?_ ?_))
  ·simp only[evE,upd_app,↓reduceIte]
  ·intro l hl'
   refine (cAll (R:=[]) (by simp) (id:=4) (J:=fun i hp=>hp=[some (.row 84 [.nilp]),some (.row 5 [.int .u8 c.toNat]),rowBlk 0 (fun _=>false),some (.row 150 [.sl 2 0 0 1 0 true]),some (.loop l 93000 .ready none)]) (S:=fun hp=>False) rfl ?_ ?_).mono ?_
   ·intro i hp hi; simp at hi
   ·intro i hp hi; simp at hi
   ·rintro rv hp' (h2|h2)
    ·subst h2
     refine⟨l,_,.ready,none,rfl,by simp,rfl,?_,some (.loop l 93000 .exhausted none),rfl⟩
     simp only[upd_app,qa,↓reduceIte]
    ·exact h2.elim
 ·rintro e tm hp ⟨rfl,h7,b,rfl⟩
  refine vcE.ex (by simp (disch:=omega) only[go_sem,↓reduceIte,h7]; rfl) ?_
  exact⟨_,rfl,rfl⟩
theorem pStepV (x:Option (List UInt8 × Bool)) (h:okV x) (r:Nat→Bool) (c:UInt8):PCF qi 93 [nV x,encT.S (rowB (nN x) r),.int .u8 c.toNat] (encT.S (rowB (nN x) (stepV x r c))):=by
 cases x with
 | none=>exact pStepNil c
 | some a =>
  obtain⟨p,f⟩:=a
  rw[nN_some h.1]
  exact pStep p f c h.1 h.2 r
def unRow (R:List Bool) (i:Nat):Bool:=R[i]?.getD false
theorem rowB_unRow (R:List Bool):rowB R.length (unRow R)=R:=by
 apply List.ext_getElem?
 intro i
 by_cases hi:i<R.length
 ·rw[rowB_get hi,qg hi]
  simp[unRow,hi]
 ·rw[xt (by rw[rowB_len]; omega),xt (by omega)]
def H3:Tab:=(((H2.addO 91 (.cons .nfa .nil) fun p=>if okV p.1 then some (.rd true (encT.S (rowB (nN p.1) (startV p.1)))) else none).addO 94 (.cons .nfa (.cons (.S encI) .nil)) fun p=>if okV p.1∧p.2.1.length≤1000000 then some (.rd true (encT.S (rowB (nN p.1) (ofS p.2.1)))) else none).addO 93 (.cons .nfa (.cons (.S encT) (.cons .u8 .nil))) fun p=>if okV p.1∧p.2.1.length=nN p.1 then some (.rd true (encT.S (rowB (nN p.1) (stepV p.1 (unRow p.2.1) p.2.2.1)))) else none).addO 92 (.cons (.S encT) .nil) fun p=>if p.1.length≤1000000 then some (.rd true (encI.S (listB p.1))) else none
theorem H3_ok:TabOk qi H3:=by
 refine xp (xp (xp (xp H2_ok ?_) ?_) ?_) ?_
 ·intro p r h
  split at h
  ·rename_i hv
   cases h
   exact pStartV p.1 hv
  ·cases h
 ·intro p r h
  split at h
  ·rename_i hv
   cases h
   exact pOf p.1 hv.1.small p.2.1 hv.2
  ·cases h
 ·intro p r h
  split at h
  ·rename_i hv
   cases h
   have:=pStepV p.1 hv.1 (unRow p.2.1) p.2.2.1
   rw[← hv.2,rowB_unRow,hv.2] at this
   exact this
  ·cases h
 ·intro p r h
  split at h
  ·rename_i hv
   cases h
   exact pList p.1 hv
  ·cases h
theorem H3_start (x:Option (List UInt8 × Bool)) (h:okV x):H3 91 [nV x]=some (.rd true (encT.S (rowB (nN x) (startV x)))):=by
 rw[H3,qS _ _ _ _ rfl,qS _ _ _ _ rfl,qS _ _ _ _ rfl]
 refine (xe _ _ (.cons .nfa .nil) _ (x,())).trans ?_
 rw[if_pos h]
theorem H3_of (x:Option (List UInt8 × Bool)) (h:okV x) (l:List Int) (hl:l.length≤1000000):H3 94 [nV x,encI.S l]=some (.rd true (encT.S (rowB (nN x) (ofS l)))):=by
 rw[H3,qS _ _ _ _ rfl,qS _ _ _ _ rfl]
 refine (xe _ _ (.cons .nfa (.cons (.S encI) .nil)) _ (x,l,())).trans ?_
 rw[if_pos ⟨h,hl⟩]
theorem H3_step (x:Option (List UInt8 × Bool)) (h:okV x) (r:Nat→Bool) (c:UInt8) (hr:∀ r r':Nat→Bool,(∀ i,i<nN x→r i=r' i)→rowB (nN x) (stepV x r c)=rowB (nN x) (stepV x r' c)):H3 93 [nV x,encT.S (rowB (nN x) r),.int .u8 c.toNat]=some (.rd true (encT.S (rowB (nN x) (stepV x r c)))):=by
 rw[H3,qS _ _ _ _ rfl]
 refine (xe _ _ (.cons .nfa (.cons (.S encT) (.cons .u8 .nil))) _ (x,rowB (nN x) r,c,())).trans ?_
 rw[if_pos ⟨h,rowB_len _ _⟩]
 show some (Res.rd true (encT.S (rowB (nN x) (stepV x (unRow (rowB (nN x) r)) c))))=_
 rw[hr _ r fun i hi=>by simp only[unRow,rowB_get hi,Option.getD_some]]
theorem stepV_congr {x:Option (List UInt8 × Bool)} (h:okV x) {c:UInt8} (r r':Nat→Bool) (hr:∀ i,i<nN x→r i=r' i):rowB (nN x) (stepV x r c)=rowB (nN x) (stepV x r' c):=by
 refine rowB_congr fun j hj=>?_
 cases x with
 | none=>rfl
 | some a =>
  obtain⟨p,f⟩:=a
  exact stepS_congr fun i hi=>hr i (by omega)
def lst (N:Nat) (b:Nat→Bool):List Int:=listB (rowB N b)
theorem okV.n {x:Option (List UInt8 × Bool)} (h:okV x):nN x≤1000001:=nN_small h.small
theorem nV_frz (x:Option (List UInt8 × Bool)) (hp:HP):frz hp (nV x)=some (nV x):=by
 cases x with
 | none=>rfl
 | some a=>rfl
def okW (x:Option (List UInt8 × Bool)):Prop:=okV x∧nN x≤1000000
theorem pStartM (x:Option (List UInt8 × Bool)) (h:okW x):PCF qi 62 [nV x] (encI.S (lst (nN x) (startV x))):=by
 refine pcf_e hmG H3_ok comp62 (by decide) (by simp) (nidL_ok (by simp only[nidL,nV_nid,xb])) ?_
 have h1:=H3_start x h.1
 refine vcE.s1 (k:=vcE.seq ?_)
 rw[show r62_1=r62_1.take 2++((r62_1.drop 2).take 1++r62_1.drop 3) from rfl]
 refine vcE.app (vcE.ex (by simp (disch:=omega) only[go_sem,↓reduceIte,reduceCtorEq,nV_frz,nV_nid,h1]; rfl) ⟨rfl,vcE.app (vcE.call (f:=92) (caps:=[]) (ys:=[encT.S (rowB (nN x) (startV x))]) rfl ?_ (cList _ (by rw[rowB_len]; exact h.2)) ?_)⟩)
 ·simp only[evsE,evE,upd_app,↓reduceIte]
 ·rintro r hp' ⟨id,rfl,hb⟩
  refine⟨rfl,vcE.e0 ?_⟩
  refine vcE.e0 ?_
  exact⟨_,rfl,hb.fresh⟩
theorem pStepM (x:Option (List UInt8 × Bool)) (h:okW x) (l:List Int) (hl:l.length≤1000000) (c:UInt8):PCF qi 63 [nV x,encI.S l,.int .u8 c.toNat] (encI.S (lst (nN x) (stepV x (ofS l) c))):=by
 refine pcf_e hmG H3_ok comp63 (by decide) (by simp) (nidL_ok (by simp only[nidL,nV_nid,xu,nid_int,xb])) ?_
 have h1:=H3_of x h.1 l hl
 have h2:=H3_step x h.1 (ofS l) c (stepV_congr h.1)
 refine vcE.s1 (k:=vcE.seq ?_)
 rw[show r63_1=r63_1.take 6++((r63_1.drop 6).take 1++r63_1.drop 7) from rfl]
 refine vcE.app (vcE.ex (by simp (disch:=omega) only[go_sem,↓reduceIte,qa,reduceCtorEq,nV_frz,nV_nid,h1,h2,xu]; rfl) ⟨rfl,vcE.app (vcE.call (f:=92) (caps:=[]) (ys:=[encT.S (rowB (nN x) (stepV x (ofS l) c))]) rfl ?_ (cList _ (by rw[rowB_len]; exact h.2)) ?_)⟩)
 ·simp only[evsE,evE,upd_app,↓reduceIte]
 ·rintro r hp' ⟨id,rfl,hb⟩
  refine⟨rfl,vcE.e0 ?_⟩
  refine vcE.e0 ?_
  exact⟨_,rfl,hb.fresh⟩
def accV (x:Option (List UInt8 × Bool)) (r:Nat→Bool):Bool:=match x with
 | none=>false
 | some (p,_)=>r p.length
theorem acc_region {N:Nat} {b:Nat→Bool} (hN:0<N) {k:IntKind}:iaddrA 1 (encT.S (rowB N b)) (.int k ((N:Int) - 1))=some (.fptr (encT.cs (rowB N b)) (N - 1)):=by
 have:=encT_iaddr (R:=rowB N b) (i:=N - 1) (k:=k) (by rw[rowB_len]; omega)
 rw[show ((N - 1:Nat):Int)=(N:Int) - 1 by omega] at this
 exact this
theorem pAccepts (x:Option (List UInt8 × Bool)) (h:okW x) (l:List Int) (hl:l.length≤1000000):PCF qi 64 [nV x,encI.S l] (.bool (accV x (ofS l))):=by
 refine pcf_e hmG H3_ok comp64 (by decide) (by simp) (nidL_ok (by simp only[nidL,nV_nid,xu,xb])) ?_
 have h1:=H3_of x h.1 l hl
 have hn:=h.2
 cases x with
 | none =>
  simp only[nN] at h1
  refine vcE.ex (by simp (disch:=omega) only[go_sem,↓reduceIte,reduceCtorEq,qa,frzL.eq_2,nV_frz,h1,nV_nid,rowB_len]; rfl) ?_
  exact⟨_,rfl,rfl⟩
 | some a =>
  obtain⟨p,f⟩:=a
  rw[nN_some h.1.1] at h1 hn
  have hia:=acc_region (N:=p.length+1) (b:=ofS l) (by omega) (k:=.i64)
  have hpick:=encT.pick1 (l:=rowB (p.length+1) (ofS l)) rfl (rowB_get (i:=p.length) (by omega)) (v:=.bool (ofS l p.length)) rfl rfl
  rw[show p.length+1 - 1=p.length by omega] at hia
  have hlen:∀ hp,lenA hp (encT.S (rowB (p.length+1) (ofS l)))=some (.int .i64 ((p.length+1:Nat):Int)):=fun hp=>by rw[encT.S_len,rowB_len]
  refine vcE.ex (by simp (disch:=omega) only[go_sem,↓reduceIte,reduceCtorEq,qa,frzL.eq_2,nV_frz,h1,nV_nid,↓hlen,hia,↓hpick]; rfl) ?_
  refine⟨_,rfl,rfl⟩
end
section
set_option linter.unusedSectionVars false
variable [Mx]
open Go Go.Proofs
theorem normB_ne {p:List UInt8} (h:p≠[]):normB p≠[]:=by
 have key:∀ (p:List UInt8) (b:Bool),(b=true∨p≠[])→normS b p≠[]:=by
  intro p
  induction p with
  | nil =>
   intro b h
   rcases h with rfl|h
   ·simp[normS]
   ·exact absurd rfl h
  | cons c p ih =>
   intro b _
   simp only[normS]
   split
   ·exact ih true (.inl rfl)
   ·split
    ·simp
    ·simp
 exact key p false (.inr h)
def newV (p:List UInt8) (f:Bool):Option (List UInt8 × Bool):=if checkG p=0 then some (normB p,f) else none
theorem newV_ok {p:List UInt8} {f:Bool} (hl:p.length≤300):okW (newV p f):=by
 unfold newV
 split
 ·rename_i h
  have hne:p≠[]:=by
   rintro rfl
   simp[checkG] at h
  have h1:=normB_len p
  refine⟨⟨normB_ne hne,by omega⟩,?_⟩
  rw[nN_some (normB_ne hne)]
  omega
 ·exact⟨trivial,by simp[nN]⟩
def H4:Tab:=H3.addO 57 (.cons .str .nil) fun p=>if p.1.length≤300 then some (.rd true (.str (normB p.1))) else none
theorem H4_ok:TabOk qi H4:=by
 refine xp H3_ok ?_
 intro p r h
 split at h
 ·rename_i hv
  cases h
  exact pNorm p.1 hv
 ·cases h
theorem H4_norm (p:List UInt8) (h:p.length≤300):H4 57 [.str p]=some (.rd true (.str (normB p))):=by
 refine (xe _ _ (.cons .str .nil) _ (p,())).trans ?_
 rw[if_pos h]
theorem H4_check (p:List UInt8):H4 28 [.str p]=some (.rd true (.int .i64 (checkG p))):=by
 rw[H4,qS _ _ _ _ rfl,H3,qS _ _ _ _ rfl,qS _ _ _ _ rfl,qS _ _ _ _ rfl,qS _ _ _ _ rfl,H2,qS _ _ _ _ rfl,H1,Tab.addR_ne _ _ _ _ rfl,H0,qS _ _ _ _ rfl]
 exact G1_check p
theorem pNew (p:List UInt8) (f:Bool) (hl:p.length≤300):PCF qi 47 [.str p,.bool f] (.tup [nV (newV p f),.int .i64 (checkG p)]):=by
 refine pcf_e hmG H4_ok comp47 (by decide) (by simp) (nidL_ok rfl) ?_
 have h1:=H4_norm p hl
 have h2:=H4_check p
 unfold newV
 by_cases hc:checkG p=0
 ·refine vcE.ex (by simp (disch:=first|assumption|omega) only[go_sem,↓reduceIte,qa,reduceCtorEq,qs,h1,h2]; rfl) ?_
  refine⟨_,rfl,?_⟩
  rw[if_pos hc,hc]
  rfl
 ·refine vcE.ex (by simp (disch:=first|assumption|omega) only[go_sem,↓reduceIte,qa,reduceCtorEq,h2]; rfl) ?_
  refine⟨_,rfl,?_⟩
  rw[if_neg hc]
  rfl
def patP:Option (List UInt8 × Bool)→List UInt8
 | some (p,_)=>p
 | none=>[]
def patF:Option (List UInt8 × Bool)→Bool
 | some (_,f)=>f
 | none=>false
theorem pPatternV (x:Option (List UInt8 × Bool)):PCF qi 58 [nV x] (.tup [.str (patP x),.bool (patF x)]):=by
 cases x with
 | none =>
  refine pcf_e hmG (qJ _) comp58 (by decide) (by simp) (nidL_ok rfl) ?_
  refine vcE.ex (by simp (disch:=omega) only[go_sem,↓reduceIte,reduceCtorEq,nV,isNilA]; rfl) ?_
  exact⟨_,rfl,rfl⟩
 | some a=>exact pPattern a.1 a.2
instance (x:Option (List UInt8 × Bool)):Decidable (okW x):=inferInstanceAs (Decidable (_∧_))
end
end Go.Gi
