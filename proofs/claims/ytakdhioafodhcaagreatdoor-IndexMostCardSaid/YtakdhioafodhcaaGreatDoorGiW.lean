/- Regions whose order the model draws: one walk in the order of the text serves every order. -/
/- Blocks of ours under other names: what is not named any more is forgotten. -/
import Derived.Test.YtakdhioafodhcaaGreatDoorGiK
set_option linter.unusedVariables false
set_option linter.unusedSimpArgs false
namespace Go.Gi
open _root_.Array renaming getElem?_eq_some_iff → xv
open _root_.Bool renaming false_eq_true → qA, and_eq_true → qp, or_eq_true → xO
open _root_.List renaming getD_eq_getElem?_getD → qX, getElem?_append_left → qm, getElem?_eq_getElem → qg, getElem?_cons_zero → ql, getElem?_cons_succ → qw, mem_of_getElem? → xa, getElem?_append → xT, length_cons → qr, length_take → xd, all_eq_true → xr, mem_cons → xm
open _root_.Option.some renaming injEq → qd
open _root_.Prod.mk renaming injEq → qj
section
set_option linter.unusedSectionVars false
variable [Mx]
open Go
inductive Cls where
 | free | load | pure | alloc | wild
 | mix (b:Cls) (m:Nat)
 deriving DecidableEq
def ROp.cls:ROp→Cls
 | .mov | .pick | .nilchk | .bin .. | .un _ | .toInt _ | .r2s | .strId | .mkfn _ | .mkbound _ | .mkif _ | .slice .. | .sslice .. | .faddr _ | .field .. | .iaddr _ | .aaddr .. | .idxs | .idxa .. | .extract _ | .min | .max | .bst .. => .free
 | .bsl _ _ true=>.free
 | .load _ | .b2s | .len _ | .aslice .. | .look .. | .entm=>.load
 | .box _ | .alloc .. | .bsl _ _ false | .s2b _ | .make .. | .mkmap _ | .rangem | .ranges=>.alloc
 | _=>.wild
theorem same_hp {hp h:HP} {r:Option AV} {v:AV} (hh:same hp r=some (v,h)) (hp2:HP):h=hp∧same hp2 r=some (v,hp2):=by
 obtain⟨h1,h2⟩:=same_some hh
 exact⟨h2,by simp[same,h1]⟩
theorem free_spec {r:ROp} (hc:r.cls=.free) {xs:List AV} {hp h:HP} {v:AV} (hr:r.run xs hp=some (v,h)) (hp2:HP):h=hp∧r.run xs hp2=some (v,hp2):=by
 cases r<;>simp only[ROp.cls,reduceCtorEq] at hc
 case bsl e sz fz =>
  cases fz
  ·simp[ROp.cls] at hc
  ·simp only[ROp.run,bslA,if_true] at hr ⊢
   split at hr
   ·rename_i h1; simp only[qd,qj] at hr; obtain⟨rfl,rfl⟩:=hr; exact⟨rfl,by rw[if_pos h1]⟩
   ·cases hr
 case mov=>simp only[ROp.run] at hr ⊢; split at hr<;>simp_all
 case pick=>simp only[ROp.run] at hr ⊢; split at hr<;>simp_all
 case bst Z places idx =>
  simp only[ROp.run] at hr ⊢
  split at hr
  ·rename_i h1; rw[if_pos h1]; exact same_hp hr hp2
  ·cases hr
 case nilchk=>simp only[ROp.run] at hr ⊢; split at hr; exact same_hp hr hp2; cases hr
 case bin=>simp only[ROp.run] at hr ⊢; split at hr; exact same_hp hr hp2; cases hr
 case un=>simp only[ROp.run] at hr ⊢; split at hr; exact same_hp hr hp2; cases hr
 case toInt=>simp only[ROp.run] at hr ⊢; split at hr<;>simp_all
 case r2s=>simp only[ROp.run] at hr ⊢; split at hr<;>simp_all
 case strId=>simp only[ROp.run] at hr ⊢; split at hr<;>simp_all
 case mkfn=>simp only[ROp.run,qd,qj] at hr ⊢; simp_all
 case mkbound=>simp only[ROp.run,qd,qj] at hr ⊢; simp_all
 case mkif=>simp only[ROp.run] at hr ⊢; split at hr<;>simp_all
 case slice =>
  simp only[ROp.run] at hr ⊢
  split at hr
  ·split at hr
   ·split at hr
    ·cases hr
    ·rename_i h1 h2; simp only[h1,h2,if_false]; exact same_hp hr hp2
   ·cases hr
  ·cases hr
 case sslice =>
  simp only[ROp.run] at hr ⊢
  split at hr
  ·split at hr
   ·split at hr
    ·rename_i h1 h2; simp only[h1,h2,if_true]; exact same_hp hr hp2
    ·cases hr
   ·cases hr
  ·cases hr
 case faddr=>simp only[ROp.run] at hr ⊢; split at hr; exact same_hp hr hp2; cases hr
 case field=>simp only[ROp.run] at hr ⊢; split at hr; exact same_hp hr hp2; cases hr
 case iaddr=>simp only[ROp.run] at hr ⊢; split at hr; exact same_hp hr hp2; cases hr
 case aaddr=>simp only[ROp.run] at hr ⊢; split at hr; exact same_hp hr hp2; cases hr
 case idxs=>simp only[ROp.run] at hr ⊢; split at hr; exact same_hp hr hp2; cases hr
 case idxa=>simp only[ROp.run] at hr ⊢; split at hr; exact same_hp hr hp2; cases hr
 case extract=>simp only[ROp.run] at hr ⊢; split at hr; exact same_hp hr hp2; cases hr
 case min=>exact same_hp hr hp2
 case max=>exact same_hp hr hp2
theorem rowA_mono {hp:HP} {p:AV} {x:List AV × Nat} (h:rowA hp p=some x) (new:HP):rowA (hp++new) p=some x:=by
 cases p<;>simp only[rowA] at h ⊢ <;> try exact h
 split at h
 ·rename_i e cs hx
  rw[qm (HP.lt hx),hx]
  exact h
 ·cases h
theorem srcA_mono {hp:HP} {sz:Nat} {p:AV} {x:List AV × Nat} (h:srcA hp sz p=some x) (new:HP):srcA (hp++new) sz p=some x:=by
 cases p<;>simp only[srcA] at h ⊢ <;> try exact h
 split at h
 ·rename_i e cs hx
  rw[qm (HP.lt hx),hx]
  exact h
 ·cases h
theorem load_spec {r:ROp} (hc:r.cls=.load) {xs:List AV} {hp h:HP} {v:AV} (hr:r.run xs hp=some (v,h)):h=hp∧∀ new:HP,r.run xs (hp++new)=some (v,hp++new):=by
 cases r<;>simp only[ROp.cls,reduceCtorEq] at hc
 case bsl e sz fz=>cases fz<;>simp[ROp.cls] at hc
 case load sh =>
  simp only[ROp.run] at hr ⊢
  split at hr
  ·rename_i p
   obtain⟨h1,rfl⟩:=same_some hr
   refine⟨rfl,fun new=>?_⟩
   simp only[loadA] at h1 ⊢
   split at h1
   ·rename_i cs off hrow
    rw[rowA_mono hrow new]
    simp[same,h1]
   ·cases h1
  ·cases hr
 case entm =>
  simp only[ROp.run] at hr ⊢
  split at hr
  ·rename_i it
   obtain⟨h1,rfl⟩:=same_some hr
   refine⟨rfl,fun new=>?_⟩
   have:entA (h++new) it=some v:=by
    rw[← h1]
    unfold entA at h1 ⊢
    split at h1
    ·split at h1
     ·rename_i hx
      rw[qm (HP.lt hx),hx]
      simp only
      split at h1
      ·split at h1
       ·rename_i hk
        rw[qm (HP.lt hk),hk]
       ·cases h1
      ·cases h1
     ·cases h1
    ·cases h1
   simp[same,this]
  ·cases hr
 case look kk z ok =>
  simp only[ROp.run] at hr ⊢
  split at hr
  ·rename_i m k
   obtain⟨h1,rfl⟩:=same_some hr
   refine⟨rfl,fun new=>?_⟩
   have:lookA (h++new) kk z ok m k=some v:=by
    rw[← h1]
    unfold lookA at h1 ⊢
    cases hk:keyA kk k<;>rw[hk] at h1
    ·cases h1
    ·simp only[cond_true] at h1 ⊢
     cases m<;>simp only[rowsA] at h1 ⊢
     split at h1
     ·rename_i es he
      split at he
      ·rename_i es' hx
       rw[qm (HP.lt hx),hx]
       cases he
       rfl
      ·cases he
     ·cases h1
   simp[same,this]
  ·cases hr
 case b2s =>
  simp only[ROp.run] at hr ⊢
  split at hr
  ·rename_i p
   obtain⟨h1,rfl⟩:=same_some hr
   refine⟨rfl,fun new=>?_⟩
   simp only[b2sA] at h1 ⊢
   split at h1
   ·rename_i as n hsrc
    rw[srcA_mono hsrc new]
    simp only
    cases p<;>simp_all [same]
   ·cases h1
  ·cases hr
 case len k =>
  simp only[ROp.run] at hr ⊢
  split at hr
  ·rename_i p
   split at hr
   ·rename_i hf
    obtain⟨h1,rfl⟩:=same_some hr
    refine⟨rfl,fun new=>?_⟩
    simp only[hf,if_true]
    have key:lenA (h++new) p=lenA h p:=by
     cases p<;>simp only[lenA] at h1 ⊢ <;> try contradiction
     split at h1
     ·rename_i es hx
      rw[qm (HP.lt hx),hx]
     ·cases h1
    rw[key,h1]
    rfl
   ·cases hr
  ·cases hr
 case aslice n sz lo hi mx =>
  simp only[ROp.run] at hr ⊢
  split at hr
  ·rename_i p rest
   split at hr
   ·rename_i la lb lc hb
    obtain⟨h1,rfl⟩:=same_some hr
    refine⟨rfl,fun new=>?_⟩
    unfold asliceA at h1 ⊢
    split at h1
    ·rename_i h2 h3 h4
     simp only[h2,h3,h4]
     split at h1
     ·rename_i id off
      split at h1
      ·rename_i e cs hx
       rw[qm (HP.lt hx),hx]
       simp[same,h1]
      ·cases h1
     ·cases h1
    ·cases h1
   ·cases hr
  ·cases hr
theorem alloc_spec {r:ROp} (hc:r.cls=.alloc) {xs:List AV} {hp h:HP} {v:AV} (hr:r.run xs hp=some (v,h)):∃ new,h=hp++new:=by
 cases r<;>simp only[ROp.cls,reduceCtorEq] at hc
 case ranges =>
  simp only[ROp.run] at hr
  split at hr
  ·unfold rangeSA at hr
   split at hr
   ·cases hr; exact⟨_,rfl⟩
   ·cases hr
  ·cases hr
 case rangem =>
  simp only[ROp.run] at hr
  split at hr
  ·unfold rangeA at hr
   split at hr
   ·cases hr; exact⟨_,rfl⟩
   ·split at hr
    ·cases hr; exact⟨_,rfl⟩
    ·cases hr
   ·cases hr
  ·cases hr
 case mkmap r =>
  simp only[ROp.run] at hr
  split at hr
  ·simp only[mkmapA,qd,qj] at hr; exact⟨_,hr.2.symm⟩
  ·simp only[mkmapA,qd,qj] at hr; exact⟨_,hr.2.symm⟩
  ·cases hr
 case box e =>
  simp only[ROp.run] at hr
  split at hr
  ·rename_i x
   cases x<;>simp only[boxA,reduceCtorEq,qd,qj] at hr<;>exact⟨_,hr.2.symm⟩
  ·cases hr
 case alloc e Z =>
  simp only[ROp.run] at hr
  split at hr
  ·simp only[allocA,qd,qj] at hr; exact⟨_,hr.2.symm⟩
  ·cases hr
 case bsl e sz fz =>
  cases fz
  ·simp only[ROp.run,bslA] at hr
   split at hr
   ·simp only[qA,if_false,qd,qj] at hr; exact⟨_,hr.2.symm⟩
   ·cases hr
  ·simp[ROp.cls] at hc
 case s2b e =>
  simp only[ROp.run] at hr
  split at hr
  ·rename_i x
   cases x<;>simp only[s2bA,reduceCtorEq,qd,qj] at hr<;>exact⟨_,hr.2.symm⟩
  ·cases hr
 case make e Z bytes =>
  simp only[ROp.run] at hr
  split at hr
  ·unfold makeA at hr
   split at hr
   ·split at hr
    ·simp only[qd,qj] at hr; exact⟨_,hr.2.symm⟩
    ·cases hr
   ·cases hr
  ·cases hr
def bitO (m:Nat):Option Nat→Bool
 | some d=>m.testBit d
 | none=>false
def callCls:Cls→Option Nat→Cls
 | .free,_=>.free
 | .pure,_=>.pure
 | .alloc,_=>.alloc
 | .load,_=>.wild
 | .wild,_=>.wild
 | .mix .wild m,d=>cond (bitO m d) .wild .alloc
 | .mix b m,d=>cond (bitO m d) .free (match b with
  | .pure=>.pure
  | .alloc=>.alloc
  | _=>.wild)
theorem callCls_load (w:Cls) (d:Option Nat):callCls w d≠.load:=by
 cases w<;>simp only[callCls,ne_eq,reduceCtorEq,not_false_eq_true]
 rename_i b m
 cases b<;>simp only[callCls]<;>cases bitO m d<;>simp
def Cls.many:Cls→Bool
 | .alloc | .wild=>true
 | .mix .wild _=>true
 | _=>false
theorem many_cls {w:Cls} (h:w.many=true) (d:Option Nat):callCls w d=.alloc∨callCls w d=.wild:=by
 cases w<;>simp only[Cls.many,qA,reduceCtorEq] at h
 ·exact .inl rfl
 ·exact .inr rfl
 ·rename_i b m
  cases b<;>simp only[Cls.many,qA] at h
  simp only[callCls]
  cases bitO m d
  ·exact .inl rfl
  ·exact .inr rfl
def IOp.cls (w:Cls) (o:IOp):Cls:=
 match o.k with
 | .op r=>r.cls
 | .call _=>callCls w o.dst
def compat:Cls→Cls→Bool
 | .free,_ | _,.free=>true
 | .load,.load | .load,.pure | .pure,.load | .pure,.pure | .load,.alloc=>true
 | _,_=>false
def YieldsA (P:Program) (w:Cls) (o:IOp) (st:St) (v:AV) (h:HP):Prop:=
 if wantedA o.guard st.tm then
  match o.k with
  | .op r=>r.run (evs st.tm o.args) st.hp=some (v,h)
  | .call ms => ∃ fv xs,evs st.tm o.args=fv :: xs∧(callCls w o.dst=.free→h=st.hp∧∀ hp,ACallV P (meth ms fv) xs hp fun r hp'=>r=v∧hp'=hp)∧(callCls w o.dst=.pure→h=st.hp)∧(callCls w o.dst=.alloc→∃ new,h=st.hp++new)∧ACallV P (meth ms fv) xs st.hp fun r hp'=>r=v∧hp'=h
 else v=.tup []∧h=st.hp
def ManyA (P:Program) (w:Cls) (o:IOp) (st:St) (K:AV→HP→Prop):Prop:=
 wantedA o.guard st.tm=true∧w.many=true∧(callCls w o.dst=.alloc→∀ v h,K v h→∃ new,h=st.hp++new)∧∃ ms fv xs,o.k=.call ms∧evs st.tm o.args=fv :: xs∧ACallV P (meth ms fv) xs st.hp K
def opA (P:Program) (w:Cls) (is:List IOp) (i:Nat) (K:St→Prop) (st:St):Prop:=
 match is[i]? with
 | none=>K st
 | some o=>(∃ v h,YieldsA P w o st v h∧K ⟨putA st.tm o.dst v,h⟩)∨∃ K',ManyA P w o st K'∧∀ v h,K' v h→K ⟨putA st.tm o.dst v,h⟩
def opA1 (P:Program) (w:Cls) (is:List IOp) (i:Nat) (K:St→Prop) (st:St):Prop:=
 match is[i]? with
 | none=>K st
 | some o=>(∃ v h,YieldsA P w o st v h∧K ⟨putA st.tm o.dst v,h⟩)∨∃ K',ManyA P w o st K'∧(∃ v h,K' v h)∧∀ v h,K' v h→K ⟨putA st.tm o.dst v,h⟩
theorem opA1.opA {P:Program} {w:Cls} {is:List IOp} {i:Nat} {K:St→Prop} {st:St} (h:opA1 P w is i K st):Gi.opA P w is i K st:=by
 unfold opA1 at h
 unfold Gi.opA
 split at h
 ·exact h
 ·exact h.imp (fun h=>h) fun ⟨K',h1,_,h2⟩=>⟨K',h1,h2⟩
def anyA (P:Program) (w:Cls) (ops:Array Oper) (is:List IOp) (Q:St→Prop):Nat→Array Bool→St→Prop
 | 0,listed,st=>Region.ready .any ops listed=[]∧Q st
 | n+1,listed,st=>(Region.ready .any ops listed=[]→Q st)∧∀ i ∈ Region.ready .any ops listed,opA P w is i (anyA P w ops is Q n (listed.setIfInBounds i true)) st
theorem anyA_sound {P:Program} (r:Option Nat) {w:Cls} {fz:Bool} {ops:Array Oper} {is:List IOp} (hlen:is.length=ops.size) (hc:∀ (j:Nat) (o:Oper) (i:IOp),ops[j]? = some o→is[j]? = some i→compOper P fz ops o=some i) {Q:St→Prop} {Q':Exit→Act→World→Prop} {Γ0:Cx} {hp0:HP}
  (hq:∀ Δ st' a',SSim Δ st' a'→Ev Γ0 hp0 Δ st'.hp→Q st'→Q' .normal a' Δ.w):∀ (n:Nat) (listed:Array Bool) (st:St) (Γ:Cx) (a:Act),SSim Γ st a→Γ.lc=lcP P→Ev Γ0 hp0 Γ st.hp→anyA P w ops is Q n listed st→wpAnyIn (Fw r) 0 P .any ops Q' n listed a Γ.w
 | 0,listed,st,Γ,a,hs,hl,he,h=>⟨h.1,hq Γ st a hs he h.2⟩
 | n+1,listed,st,Γ,a,hs,hl,he,h=>by
  refine⟨fun h0=>hq Γ st a hs he (h.1 h0),fun i hi=>?_⟩
  obtain⟨_,o,ho,_⟩:=mem_ready.1 hi
  have hlt:i<is.length:=by rw[hlen]; exact (xv.1 ho).1
  have hio:is[i]? = some is[i]:=qg hlt
  have h1:=h.2 i hi
  unfold opA at h1
  rw[hio] at h1
  rcases h1 with ⟨v,hp1,hy,hk⟩|⟨K',hm,hk⟩
  ·refine vop_sound ho (hc i o _ ho hio) hs hl (K:=fun st'=>st'=⟨putA st.tm is[i].dst v,hp1⟩) ?_ r fun Δ st' a' q1 q2 q3=>?_
   ·unfold YieldsA at hy
    unfold vop
    split
    ·rename_i hw
     rw[if_pos hw] at hy
     split at hy
     ·rename_i r hk'
      rw[hk']
      simp only[hy]
     ·rename_i hk'
      rw[hk']
      obtain⟨fv,xs,h2,_,_,_,h3⟩:=hy
      simp only[h2]
      exact h3.mono fun r hp' ⟨e1,e2⟩=>by rw[e1,e2]
    ·rename_i hw
     rw[if_neg hw] at hy
     obtain⟨rfl,rfl⟩:=hy
     rfl
   ·subst q3
    exact anyA_sound r hlen hc hq n _ _ Δ a' q1 (q2.le.lc.trans hl) (he.trans q2) hk
  ·obtain⟨hw,_,_,ms,fv,xs,hk',he',hc'⟩:=hm
   refine vop_sound ho (hc i o _ ho hio) hs hl (K:=fun st' => ∃ v h,K' v h∧st'=⟨putA st.tm is[i].dst v,h⟩) ?_ r fun Δ st' a' q1 q2 q3=>?_
   ·unfold vop
    rw[if_pos hw,hk']
    simp only[he']
    exact hc'.mono fun r hp' hr=>⟨r,hp',hr,rfl⟩
   ·obtain⟨v,h2,hv,rfl⟩:=q3
    exact anyA_sound r hlen hc hq n _ _ Δ a' q1 (q2.le.lc.trans hl) (he.trans q2) (hk v h2 hv)
def Opd.tmp:Opd→List Nat
 | .t i=>[i]
 | _=>[]
def IOp.looks (o:IOp):List Nat:=
 o.args.flatMap Opd.tmp++(match o.guard with
  | some (t,_)=>[t]
  | none=>[])
def apartI (x y:IOp):Bool:=
 (match x.dst with
  | some d => !(y.looks).contains d && y.dst != some d
  | none=>true) &&
 (match y.dst with
  | some d => !(x.looks).contains d
  | none=>true)
theorem apartI_spec {x y:IOp} (h:apartI x y=true):(∀ d,x.dst=some d→d ∉ y.looks)∧(∀ d,x.dst=some d→y.dst≠some d)∧(∀ d,y.dst=some d→d ∉ x.looks):=by
 refine⟨fun d hd=>?_,fun d hd=>?_,fun d hd=>?_⟩<;>simp[apartI,hd] at h
 ·exact h.1.1
 ·exact h.1.2
 ·exact h.2
theorem getD_set_ne' {tm:List AV} {d i:Nat} (v:AV) (h:d≠i):(tm.set d v).getD i (.tup [])=tm.getD i (.tup []):=by
 simp[qX,List.getElem?_set_ne h]
theorem evs_put {o:IOp} {tm:List AV} {dst:Option Nat} {v:AV} (h:∀ d,dst=some d→d ∉ o.looks):evs (putA tm dst v) o.args=evs tm o.args∧wantedA o.guard (putA tm dst v)=wantedA o.guard tm:=by
 cases dst with
 | none=>exact⟨rfl,rfl⟩
 | some d =>
  have hd:=h d rfl
  simp only[IOp.looks,List.mem_append,not_or,List.mem_flatMap,not_exists,not_and] at hd
  constructor
  ·simp only[evs,putA]
   apply List.map_congr_left
   intro x hx
   cases x with
   | t i =>
    have:d≠i:=fun e=>hd.1 (.t i) hx (by simp[Opd.tmp,e])
    simp only[Opd.ev,getD_set_ne' v this]
   | c v=>rfl
   | f g=>rfl
  ·unfold wantedA
   cases hg:o.guard with
   | none=>rfl
   | some tb =>
    obtain⟨t,b⟩:=tb
    rw[hg] at hd
    have:d≠t:=by simpa using hd.2
    simp only[putA,getD_set_ne' v this]
theorem putA_comm {tm:List AV} {x y:Option Nat} {u v:AV} (h:∀ d,x=some d→y≠some d):putA (putA tm x u) y v=putA (putA tm y v) x u:=by
 cases x with
 | none=>rfl
 | some d =>
  cases y with
  | none=>rfl
  | some e =>
   have:d≠e:=fun he=>h d rfl (by rw[he])
   simp only[putA]
   rw[List.set_comm _ _ this]
theorem yields_free {P:Program} {w:Cls}:∀ (o:IOp) (st:St) (v:AV) (h:HP),o.cls w=.free→YieldsA P w o st v h→h=st.hp∧∀ tm2 hp2,evs tm2 o.args=evs st.tm o.args→wantedA o.guard tm2=wantedA o.guard st.tm→YieldsA P w o ⟨tm2,hp2⟩ v hp2:=by
 intro o st v h hcl hy
 unfold YieldsA at hy
 split at hy
 ·rename_i hw
  cases hk:o.k with
  | op r =>
   rw[hk] at hy
   simp only at hy
   have hcl':r.cls=.free:=by simpa[IOp.cls,hk] using hcl
   refine⟨(free_spec hcl' hy st.hp).1,fun tm2 hp2 q1 q2=>?_⟩
   unfold YieldsA
   simp only[q2,hw,if_true,hk,q1]
   exact (free_spec hcl' hy hp2).2
  | call =>
   rw[hk] at hy
   obtain⟨fv,xs,y1,y2,y3,y4,y5⟩:=hy
   have hw0:callCls w o.dst=.free:=by simpa only[IOp.cls,hk] using hcl
   obtain⟨z1,z2⟩:=y2 hw0
   refine⟨z1,fun tm2 hp2 q1 q2=>?_⟩
   unfold YieldsA
   rw[if_pos (by rw[q2]; exact hw),hk]
   exact⟨fv,xs,by rw[q1]; exact y1,fun _=>⟨rfl,z2⟩,(by rw[hw0]; intro h; cases h),(by rw[hw0]; intro h; cases h),z2 hp2⟩
 ·rename_i hw
  refine⟨hy.2,fun tm2 hp2 q1 q2=>?_⟩
  unfold YieldsA
  simp only[q2,hw,if_false]
  exact⟨hy.1,trivial⟩
theorem yields_quiet {P:Program} {w:Cls}:∀ (o:IOp) (st:St) (v:AV) (h:HP),(o.cls w=.load∨o.cls w=.pure)→YieldsA P w o st v h→h=st.hp:=by
 intro o st v h hcl hy
 unfold YieldsA at hy
 split at hy
 ·cases hk:o.k with
  | op r =>
   rw[hk] at hy
   simp only at hy
   simp only[IOp.cls,hk] at hcl
   rcases hcl with hcl|hcl
   ·exact (load_spec hcl hy).1
   ·cases r<;>simp only[ROp.cls,reduceCtorEq] at hcl
    case bsl _ _ fz=>cases fz<;>simp[ROp.cls] at hcl
  | call =>
   rw[hk] at hy
   obtain⟨_,_,_,_,h2,_⟩:=hy
   refine h2 ?_
   simp only[IOp.cls,hk] at hcl
   exact hcl.resolve_left (callCls_load _ _)
 ·exact hy.2
theorem yields_grow {P:Program} {w:Cls}:∀ (o:IOp) (st:St) (v:AV) (h:HP),o.cls w=.alloc→YieldsA P w o st v h→∃ new,h=st.hp++new:=by
 intro o st v h hcl hy
 unfold YieldsA at hy
 split at hy
 ·cases hk:o.k with
  | op r =>
   rw[hk] at hy
   simp only at hy
   exact alloc_spec (by simpa[IOp.cls,hk] using hcl) hy
  | call =>
   rw[hk] at hy
   obtain⟨_,_,_,_,_,h2,_⟩:=hy
   refine h2 ?_
   simpa only[IOp.cls,hk] using hcl
 ·exact⟨[],by rw[hy.2,List.append_nil]⟩
theorem yields_mono {P:Program} {w:Cls}:∀ (o:IOp) (tm tm2:List AV) (hp:HP) (v:AV) (h new:HP),o.cls w=.load→evs tm2 o.args=evs tm o.args→wantedA o.guard tm2=wantedA o.guard tm→YieldsA P w o ⟨tm,hp⟩ v h→YieldsA P w o ⟨tm2,hp++new⟩ v (hp++new):=by
 intro o tm tm2 hp v h new hcl q1 q2 hy
 unfold YieldsA at hy ⊢
 simp only[q1,q2]
 split at hy
 ·rename_i hw
  rw[if_pos hw]
  cases hk:o.k with
  | op r =>
   rw[hk] at hy
   simp only at hy ⊢
   exact (load_spec (by simpa[IOp.cls,hk] using hcl) hy).2 new
  | call=>simp only[IOp.cls,hk] at hcl; exact absurd hcl (callCls_load _ _)
 ·rename_i hw
  rw[if_neg hw]
  exact⟨hy.1,trivial⟩
theorem yields_move {P:Program} {w:Cls}:∀ (o:IOp) (tm tm2:List AV) (hp:HP) (v:AV) (h:HP),evs tm2 o.args=evs tm o.args→wantedA o.guard tm2=wantedA o.guard tm→YieldsA P w o ⟨tm,hp⟩ v h→YieldsA P w o ⟨tm2,hp⟩ v h:=by
 intro o tm tm2 hp v h q1 q2 hy
 unfold YieldsA at hy ⊢
 simp only[q1,q2] at hy ⊢
 exact hy
theorem yields_swap {P:Program} {w:Cls} {oi oj:IOp} (ha:apartI oi oj=true) (hc:compat (oi.cls w) (oj.cls w)=true) {st:St} {vi vj:AV} {hi hj:HP} (h1:YieldsA P w oi st vi hi) (h2:YieldsA P w oj ⟨putA st.tm oi.dst vi,hi⟩ vj hj) :
  ∃ hj',YieldsA P w oj st vj hj'∧YieldsA P w oi ⟨putA st.tm oj.dst vj,hj'⟩ vi hj:=by
 obtain⟨a1,a2,a3⟩:=apartI_spec ha
 obtain⟨e1,e2⟩:=evs_put (tm:=st.tm) (v:=vi) a1
 obtain⟨e3,e4⟩:=evs_put (tm:=st.tm) (v:=vj) a3
 have free:=yields_free (P:=P) (w:=w)
 have quiet:=yields_quiet (P:=P) (w:=w)
 have grow:=yields_grow (P:=P) (w:=w)
 have mono:=yields_mono (P:=P) (w:=w)
 have move:=yields_move (P:=P) (w:=w)
 by_cases ci:oi.cls w=.free
 ·obtain⟨rfl,f2⟩:=free oi st vi hi ci h1
  refine⟨hj,?_,?_⟩
  ·exact move oj _ st.tm st.hp vj hj e1.symm e2.symm h2
  ·exact f2 _ hj e3 e4
 ·by_cases cj:oj.cls w=.free
  ·obtain⟨f1,f2⟩:=free oj _ vj hj cj h2
   try simp only at f1
   subst f1
   refine⟨st.hp,?_,?_⟩
   ·exact f2 st.tm st.hp e1.symm e2.symm
   ·exact move oi st.tm _ st.hp vi hj e3 e4 h1
  ·have hq:(oi.cls w=.load∨oi.cls w=.pure)∧(oj.cls w=.load∨oj.cls w=.pure)∨(oi.cls w=.load∧oj.cls w=.alloc):=by
    cases hx:oi.cls w<;>cases hy:oj.cls w<;>rw[hx] at ci hc<;>rw[hy] at cj hc<;>simp[compat] at ci cj hc ⊢
   rcases hq with ⟨hq1,hq2⟩|⟨hq1,hq2⟩
   ·have q1:=quiet oi st vi hi hq1 h1
    subst q1
    have q2:=quiet oj _ vj hj hq2 h2
    try simp only at q2
    subst q2
    refine⟨st.hp,?_,?_⟩
    ·exact move oj _ st.tm st.hp vj st.hp e1.symm e2.symm h2
    ·exact move oi st.tm _ st.hp vi st.hp e3 e4 h1
   ·have q1:=quiet oi st vi hi (.inl hq1) h1
    subst q1
    obtain⟨new,q2⟩:=grow oj _ vj hj hq2 h2
    try simp only at q2
    subst q2
    refine⟨st.hp++new,?_,?_⟩
    ·exact move oj _ st.tm st.hp vj _ e1.symm e2.symm h2
    ·exact mono oi st.tm _ st.hp vi st.hp new hq1 e3 e4 h1
def Closed (ops:Array Oper) (listed:Array Bool):Prop:=∀ (j:Nat) (o:Oper),ops[j]? = some o→listed.getD j false=true→∀ e ∈ o.after,Region.binds .any e=true→listed.getD e.on false=true
theorem getD_both' {listed:Array Bool} {i:Nat} (h:listed.getD i true=false):listed.getD i false=false:=by
 rcases Nat.lt_or_ge i listed.size with h' | h'
 ·simp[h'] at h ⊢; exact h
 ·simp[Array.getElem?_eq_none h'] at h
theorem Closed.set {ops:Array Oper} {listed:Array Bool} (h:Closed ops listed) {i:Nat} (hi:i ∈ Region.ready .any ops listed):Closed ops (listed.setIfInBounds i true):=by
 obtain⟨_,oi,hoi,hall⟩:=mem_ready.1 hi
 intro j oj hj hl e he hb
 by_cases hij:i=j
 ·subst hij
  have:oj=oi:=Option.some.inj (hj.symm.trans hoi)
  subst this
  exact getD_set_true (hall e he hb)
 ·rw[getD_set_ne false hij] at hl
  exact getD_set_true (h j oj hj hl e he hb)
def maskOf (acc:List Nat) (o:Oper):Nat:=o.after.toList.foldl (fun s e=>if Region.binds .any e then s ||| (2 ^ e.on ||| acc.getD e.on 0) else s) 0
def masks:List Oper→List Nat→List Nat
 | [],acc=>acc
 | o :: os,acc=>masks os (acc++[maskOf acc o])
def BehindOk (ops:Array Oper) (j m:Nat):Prop:=∀ i,m.testBit i=true→∀ listed:Array Bool,Closed ops listed→(∀ (o:Oper),ops[j]? = some o→∀ e ∈ o.after,Region.binds .any e=true→listed.getD e.on false=true)→listed.getD i false=true
theorem maskOf_ok {ops:Array Oper} {acc:List Nat} (ha:∀ k m,acc[k]? = some m→BehindOk ops k m) {j:Nat} {o:Oper} (ho:ops[j]? = some o):BehindOk ops j (maskOf acc o):=by
 intro i hi listed hcl hl
 have hl':=hl o ho
 have key:∀ (es:List Edge) (s:Nat),(∀ e ∈ es,e ∈ o.after)→(s.testBit i=true→listed.getD i false=true)→(es.foldl (fun s e=>if Region.binds .any e then s ||| (2 ^ e.on ||| acc.getD e.on 0) else s) s).testBit i=true→listed.getD i false=true:=by
  intro es
  induction es with
  | nil=>intro s _ hs h; exact hs h
  | cons e es ih =>
   intro s he hs h
   simp only[List.foldl_cons] at h
   refine ih _ (fun e' h'=>he e' (by simp[h'])) ?_ h
   intro ht
   split at ht
   ·rename_i hb
    have hon:=hl' e (he e (by simp)) hb
    rw[Nat.testBit_or,Nat.testBit_or,xO,xO] at ht
    rcases ht with ht|ht|ht
    ·exact hs ht
    ·rw[Nat.testBit_two_pow] at ht
     have:e.on=i:=by simpa using ht
     rw[← this]; exact hon
    ·rw[qX] at ht
     cases hm:acc[e.on]? with
     | none=>rw[hm] at ht; simp at ht
     | some m =>
      rw[hm] at ht
      exact ha _ _ hm i (by simpa using ht) listed hcl fun o' ho' e' he' hb'=>hcl e.on o' ho' hon e' he' hb'
   ·exact hs ht
 exact key o.after.toList 0 (fun e he=>by simpa using he) (by simp) hi
theorem masks_ok {ops:Array Oper}:∀ (os:List Oper) (acc:List Nat),(∀ k,os[k]? = ops[acc.length+k]?)→(∀ k m,acc[k]? = some m→BehindOk ops k m)→∀ k m,(masks os acc)[k]? = some m→BehindOk ops k m
 | [],acc,_,ha=>ha
 | o :: os,acc,ho,ha=>by
  refine masks_ok os (acc++[maskOf acc o]) (fun k=>by have:=ho (k+1); simpa[Nat.add_assoc,Nat.add_comm 1 k] using this) fun k m hm=>?_
  rw[xT] at hm
  split at hm
  ·exact ha k m hm
  ·rename_i hlt
   have hk:k - acc.length=0:=by
    rcases Nat.eq_zero_or_pos (k - acc.length) with e|e
    ·exact e
    ·rw[List.getElem?_eq_none (by simp; omega)] at hm; cases hm
   rw[hk] at hm
   simp at hm
   subst hm
   have:k=acc.length:=by omega
   subst this
   exact maskOf_ok ha (by have:=ho 0; simpa using this.symm)
def behind (ms:List Nat) (i j:Nat):Bool:=(ms.getD j 0).testBit i
theorem many_swap {P:Program} {w:Cls} {oi oj:IOp} (ha:apartI oi oj=true) (hc:compat (oi.cls w) (oj.cls w)=true) {st:St} {vi:AV} {hi:HP} {K':AV→HP→Prop} (h1:YieldsA P w oi st vi hi) (h2:ManyA P w oj ⟨putA st.tm oi.dst vi,hi⟩ K') :
  ManyA P w oj st K'∧∀ vj hj,K' vj hj→YieldsA P w oi ⟨putA st.tm oj.dst vj,hj⟩ vi hj:=by
 obtain⟨a1,a2,a3⟩:=apartI_spec ha
 obtain⟨e1,e2⟩:=evs_put (tm:=st.tm) (v:=vi) a1
 obtain⟨hw,hmy,hal,ms,fv,xs,hk,he,hcall⟩:=h2
 have hcj:oj.cls w=callCls w oj.dst:=by simp only[IOp.cls,hk]
 have hst:hi=st.hp:=by
  by_cases ci:oi.cls w=.free
  ·exact (yields_free oi st vi hi ci h1).1
  ·rw[hcj] at hc
   refine yields_quiet oi st vi hi (.inl ?_) h1
   rcases many_cls hmy oj.dst with e|e<;>rw[e] at hc<;>cases hx:oi.cls w<;>rw[hx] at hc ci<;>simp[compat] at hc ci ⊢
 subst hst
 refine⟨⟨by rw[e2] at hw; exact hw,hmy,hal,ms,fv,xs,hk,by rw[← e1]; exact he,hcall⟩,fun vj hj hv=>?_⟩
 obtain⟨e3,e4⟩:=evs_put (tm:=st.tm) (v:=vj) a3
 by_cases ci:oi.cls w=.free
 ·exact (yields_free oi st vi st.hp ci h1).2 _ hj e3 e4
 ·rw[hcj] at hc
  have hlo:oi.cls w=.load∧callCls w oj.dst=.alloc:=by
   rcases many_cls hmy oj.dst with e|e<;>rw[e] at hc<;>cases hx:oi.cls w<;>rw[hx] at hc ci<;>simp[compat] at hc ci ⊢
   exact e
  obtain⟨new,rfl⟩:=hal hlo.2 vj hj hv
  exact yields_mono oi st.tm _ st.hp vi st.hp new hlo.1 e3 e4 h1
theorem anyA_first {P:Program} {w:Cls} {ops:Array Oper} {is:List IOp} (hlen:is.length=ops.size) {Q:St→Prop} {i:Nat} {oi:IOp} (hi:is[i]? = some oi) (ms:List Nat) (hms:∀ k m,ms[k]? = some m→BehindOk ops k m):∀ (n:Nat) (listed:Array Bool) (st:St) (v:AV) (h:HP),Closed ops listed →
  (∀ j oj ij,ops[j]? = some oj→is[j]? = some ij→j≠i→listed.getD j true=false→behind ms i j=false→apartI oi ij=true∧compat (oi.cls w) (ij.cls w)=true) →
  i ∈ Region.ready .any ops listed→YieldsA P w oi st v h→anyA P w ops is Q n (listed.setIfInBounds i true) ⟨putA st.tm oi.dst v,h⟩→anyA P w ops is Q (n+1) listed st:=by
 intro n
 induction n with
 | zero =>
  intro listed st v h _ _ hr hy H
  refine⟨fun h0=>(by rw[h0] at hr; cases hr),fun j hj=>?_⟩
  by_cases hji:j=i
  ·subst hji; unfold opA; rw[hi]; exact .inl ⟨v,h,hy,H⟩
  ·have:=ready_mono hj hji
   rw[H.1] at this
   cases this
 | succ n ih =>
  intro listed st v h hcl hfree hr hy H
  refine⟨fun h0=>(by rw[h0] at hr; cases hr),fun j hj=>?_⟩
  by_cases hji:j=i
  ·subst hji; unfold opA; rw[hi]; exact .inl ⟨v,h,hy,H⟩
  ·have h1:=H.2 j (ready_mono hj hji)
   obtain⟨hjun,oj,hoj,hall⟩:=mem_ready.1 hj
   have hlt:j<is.length:=by rw[hlen]; exact (xv.1 hoj).1
   have hij:is[j]? = some is[j]:=qg hlt
   have hnot:behind ms i j=false:=by
    cases hb:behind ms i j with
    | false=>rfl
    | true =>
     unfold behind at hb
     rw[qX] at hb
     cases hm:ms[j]? with
     | none=>rw[hm] at hb; simp at hb
     | some m =>
     rw[hm] at hb
     have h2:=hms j m hm i (by simpa using hb) listed hcl fun o ho e he hb'=>by
      have:o=oj:=Option.some.inj (ho.symm.trans hoj)
      subst this
      exact hall e he hb'
     rw[getD_both' (mem_ready.1 hr).1] at h2
     cases h2
   obtain⟨hap,hco⟩:=hfree j oj _ hoj hij hji hjun hnot
   unfold opA at h1 ⊢
   rw[hij] at h1 ⊢
   have hfree':∀ k ok ik,ops[k]? = some ok→is[k]? = some ik→k≠i→(listed.setIfInBounds j true).getD k true=false→behind ms i k=false→apartI oi ik=true∧compat (oi.cls w) (ik.cls w)=true:=fun k ok ik hk hk' hki hun hno=>by
    refine hfree k ok ik hk hk' hki ?_ hno
    by_cases hjk:j=k
    ·subst hjk; exact hjun
    ·rw[getD_set_ne true hjk] at hun; exact hun
   rcases h1 with ⟨vj,hj2,y2,K2⟩|⟨K',hm,K2⟩
   ·obtain⟨hj',s1,s2⟩:=yields_swap hap hco hy y2
    refine .inl ⟨vj,hj',s1,?_⟩
    refine ih (listed.setIfInBounds j true) _ v hj2 (hcl.set hj) hfree' (ready_mono hr (Ne.symm hji)) s2 ?_
    rw[Array.setIfInBounds_comm _ _ hji]
    have:=putA_comm (tm:=st.tm) (u:=v) (v:=vj) (apartI_spec hap).2.1
    simp only at K2 ⊢
    rw[← this]
    exact K2
   ·obtain⟨hm1,hs⟩:=many_swap hap hco hy hm
    refine .inr ⟨K',hm1,fun vj hj2 hv=>?_⟩
    refine ih (listed.setIfInBounds j true) _ v hj2 (hcl.set hj) hfree' (ready_mono hr (Ne.symm hji)) (hs vj hj2 hv) ?_
    rw[Array.setIfInBounds_comm _ _ hji]
    have:=putA_comm (tm:=st.tm) (u:=v) (v:=vj) (apartI_spec hap).2.1
    have K3:=K2 vj hj2 hv
    simp only at K3 ⊢
    rw[← this]
    exact K3
theorem yields_one {P:Program} {w:Cls} {o:IOp} (hm:w.many=true) (hcl:o.cls w=.free) {tm1 tm2:List AV} {hp1 hp2 h1 h2:HP} {v1 v2:AV} (q1:evs tm2 o.args=evs tm1 o.args) (q2:wantedA o.guard tm2=wantedA o.guard tm1) (y1:YieldsA P w o ⟨tm1,hp1⟩ v1 h1) (y2:YieldsA P w o ⟨tm2,hp2⟩ v2 h2):v2=v1∧h1=hp1∧h2=hp2:=by
 obtain⟨g1,_⟩:=yields_free o _ v1 h1 hcl y1
 obtain⟨g2,f2⟩:=yields_free o _ v2 h2 hcl y2
 refine⟨?_,g1,g2⟩
 have y3:=f2 tm1 hp1 q1.symm q2.symm
 subst g1
 unfold YieldsA at y1 y3
 split at y1
 ·rename_i hw
  rw[if_pos hw] at y3
  cases hk:o.k with
  | op r =>
   rw[hk] at y1 y3
   simp only at y1 y3
   rw[y1] at y3
   simpa using y3.symm
  | call ms =>
   simp only[IOp.cls,hk] at hcl
   rcases many_cls hm o.dst with e|e<;>rw[e] at hcl<;>cases hcl
 ·rename_i hw
  rw[if_neg hw] at y3
  rw[y1.1,y3.1]
theorem anyA_many {P:Program} {w:Cls} {ops:Array Oper} {is:List IOp} (hlen:is.length=ops.size) {Q:St→Prop} {i:Nat} {oi:IOp} (hi:is[i]? = some oi) (ms:List Nat) (hms:∀ k m,ms[k]? = some m→BehindOk ops k m) {K':AV→HP→Prop} {v0:AV} {h0:HP} (hv0:K' v0 h0):∀ (n:Nat) (listed:Array Bool) (st:St),Closed ops listed →
  (∀ j oj ij,ops[j]? = some oj→is[j]? = some ij→j≠i→listed.getD j true=false→behind ms i j=false→apartI oi ij=true∧compat (oi.cls w) (ij.cls w)=true) →
  i ∈ Region.ready .any ops listed→ManyA P w oi st K'→(∀ v h,K' v h→anyA P w ops is Q n (listed.setIfInBounds i true) ⟨putA st.tm oi.dst v,h⟩)→anyA P w ops is Q (n+1) listed st:=by
 intro n
 induction n with
 | zero =>
  intro listed st _ _ hr hy H
  refine⟨fun hr0=>(by rw[hr0] at hr; cases hr),fun j hj=>?_⟩
  by_cases hji:j=i
  ·subst hji; unfold opA; rw[hi]; exact .inr ⟨K',hy,H⟩
  ·have:=ready_mono hj hji
   rw[(H v0 h0 hv0).1] at this
   cases this
 | succ n ih =>
  intro listed st hcl hfree hr hy H
  refine⟨fun hr0=>(by rw[hr0] at hr; cases hr),fun j hj=>?_⟩
  by_cases hji:j=i
  ·subst hji; unfold opA; rw[hi]; exact .inr ⟨K',hy,H⟩
  ·have h1:=fun v h hv=>(H v h hv).2 j (ready_mono hj hji)
   obtain⟨hjun,oj,hoj,hall⟩:=mem_ready.1 hj
   have hlt:j<is.length:=by rw[hlen]; exact (xv.1 hoj).1
   have hij:is[j]? = some is[j]:=qg hlt
   have hnot:behind ms i j=false:=by
    cases hb:behind ms i j with
    | false=>rfl
    | true =>
     unfold behind at hb
     rw[qX] at hb
     cases hm:ms[j]? with
     | none=>rw[hm] at hb; simp at hb
     | some m =>
     rw[hm] at hb
     have h2:=hms j m hm i (by simpa using hb) listed hcl fun o ho e he hb'=>by
      have:o=oj:=Option.some.inj (ho.symm.trans hoj)
      subst this
      exact hall e he hb'
     rw[getD_both' (mem_ready.1 hr).1] at h2
     cases h2
   obtain⟨hap,hco⟩:=hfree j oj _ hoj hij hji hjun hnot
   obtain⟨hw,hmy,hal,ms0,fv,xs,hk0,he0,hcall⟩:=hy
   have hci:oi.cls w=callCls w oi.dst:=by simp only[IOp.cls,hk0]
   have hfj:is[j].cls w=.free:=by
    rw[hci] at hco
    rcases many_cls hmy oi.dst with e|e<;>rw[e] at hco<;>cases hx:is[j].cls w<;>rw[hx] at hco<;>simp[compat] at hco ⊢
   obtain⟨a1,a2,a3⟩:=apartI_spec hap
   -- what stands behind the call,for each of its values
   have key:∀ v h,K' v h→∃ vj,YieldsA P w is[j] ⟨putA st.tm oi.dst v,h⟩ vj h∧anyA P w ops is Q n ((listed.setIfInBounds i true).setIfInBounds j true) ⟨putA (putA st.tm oi.dst v) is[j].dst vj,h⟩:=fun v h hv=>by
    have h2:=h1 v h hv
    unfold opA at h2
    rw[hij] at h2
    rcases h2 with ⟨vj,hj2,y2,K2⟩|⟨K2,hm2,_⟩
    ·obtain⟨rfl,_⟩:=yields_free _ _ vj hj2 hfj y2
     exact⟨vj,y2,K2⟩
    ·obtain⟨_,_,_,ms2,_,_,hk2,_,_⟩:=hm2
     simp only[IOp.cls,hk2] at hfj
     rcases many_cls hmy is[j].dst with e|e<;>rw[e] at hfj<;>cases hfj
   obtain⟨vj,y2,_⟩:=key v0 h0 hv0
   obtain⟨e1,e2⟩:=evs_put (tm:=st.tm) (v:=v0) a1
   have y3:=(yields_free _ _ vj h0 hfj y2).2 st.tm st.hp e1.symm e2.symm
   unfold opA
   rw[hij]
   refine .inl ⟨vj,st.hp,y3,?_⟩
   have hfree':∀ k ok ik,ops[k]? = some ok→is[k]? = some ik→k≠i→(listed.setIfInBounds j true).getD k true=false→behind ms i k=false→apartI oi ik=true∧compat (oi.cls w) (ik.cls w)=true:=fun k ok ik hk hk' hki hun hno=>by
    refine hfree k ok ik hk hk' hki ?_ hno
    by_cases hjk:j=k
    ·subst hjk; exact hjun
    ·rw[getD_set_ne true hjk] at hun; exact hun
   obtain⟨e3,e4⟩:=evs_put (tm:=st.tm) (v:=vj) a3
   refine ih (listed.setIfInBounds j true) _ (hcl.set hj) hfree' (ready_mono hr (Ne.symm hji)) ⟨by rw[e4]; exact hw,hmy,hal,ms0,fv,xs,hk0,by rw[e3]; exact he0,hcall⟩ fun v h hv=>?_
   obtain⟨vj',y4,K4⟩:=key v h hv
   obtain⟨e5,e6⟩:=evs_put (tm:=st.tm) (v:=v) a1
   obtain⟨rfl,_,_⟩:=yields_one hmy hfj e5 e6 y3 y4
   rw[Array.setIfInBounds_comm _ _ hji]
   have:=putA_comm (tm:=st.tm) (u:=v) (v:=vj') a2
   simp only at K4 ⊢
   rw[← this]
   exact K4
def freeI (w:Cls) (ms:List Nat) (is:List IOp) (listed:Array Bool) (k:Nat):Bool:=
 match is[k]? with
 | none=>false
 | some oi=>(List.range is.length).all fun j=>j == k || listed.getD j true || behind ms k j || match is[j]? with
  | some ij=>apartI oi ij && compat (oi.cls w) (ij.cls w)
  | none=>true
inductive Tr where
 | done
 | take (i:Nat) (t:Tr)
 | fork (l:List (Nat × Tr))
mutual
def okT (w:Cls) (ms:List Nat) (ops:Array Oper) (is:List IOp):Nat→Tr→Array Bool→Bool
 | 0,.done,listed=>(Region.ready .any ops listed).isEmpty
 | n+1,.take i t,listed=>(Region.ready .any ops listed).contains i && freeI w ms is listed i && okT w ms ops is n t (listed.setIfInBounds i true)
 | n+1,.fork l,listed => !(Region.ready .any ops listed).isEmpty && okTs w ms ops is n l (Region.ready .any ops listed) listed
 | _,_,_=>false
def okTs (w:Cls) (ms:List Nat) (ops:Array Oper) (is:List IOp):Nat→List (Nat × Tr)→List Nat→Array Bool→Bool
 | _,[],[],_=>true
 | n,(i,t) :: l,j :: js,listed=>i == j && okT w ms ops is n t (listed.setIfInBounds i true) && okTs w ms ops is n l js listed
 | _,_,_,_=>false
end
mutual
def vopsT (P:Program) (w:Cls) (is:List IOp):Tr→St→(St→Prop)→Prop
 | .done,st,Q=>Q st
 | .take i t,st,Q=>opA1 P w is i (fun st'=>vopsT P w is t st' Q) st
 | .fork l,st,Q=>vopsTs P w is l st Q
def vopsTs (P:Program) (w:Cls) (is:List IOp):List (Nat × Tr)→St→(St→Prop)→Prop
 | [],_,_=>True
 | (i,t) :: l,st,Q=>opA P w is i (fun st'=>vopsT P w is t st' Q) st∧vopsTs P w is l st Q
end
mutual
theorem anyA_tree {P:Program} {w:Cls} {ops:Array Oper} {is:List IOp} (hlen:is.length=ops.size) {ms:List Nat} (hms:∀ k m,ms[k]? = some m→BehindOk ops k m) {Q:St→Prop}:∀ (n:Nat) (t:Tr) (listed:Array Bool) (st:St),Closed ops listed→okT w ms ops is n t listed=true→vopsT P w is t st Q→anyA P w ops is Q n listed st
 | 0,.done,listed,st,_,hB,h=>⟨by simpa[okT] using hB,by simpa[vopsT] using h⟩
 | n+1,.take i t,listed,st,hcl,hB,h=>by
  simp only[okT,qp] at hB
  obtain⟨⟨hr,hf⟩,hB'⟩:=hB
  have hr':i ∈ Region.ready .any ops listed:=by simpa using hr
  simp only[vopsT] at h
  unfold freeI at hf
  cases hio:is[i]? with
  | none=>simp[hio] at hf
  | some oi =>
   rw[hio] at hf
   unfold opA1 at h
   rw[hio] at h
   have hfr:∀ j oj ij,ops[j]? = some oj→is[j]? = some ij→j≠i→listed.getD j true=false→behind ms i j=false→apartI oi ij=true∧compat (oi.cls w) (ij.cls w)=true:=by
    intro j oj ij hj hij hne hun hno
    simp only[xr,List.mem_range] at hf
    have h1:=hf j (by rw[hlen]; exact (xv.1 hj).1)
    simpa only[hij,xO,beq_iff_eq,hne,false_or,hun,qA,qp,hno] using h1
   rcases h with ⟨v,hp1,hy,hk⟩|⟨K',hm,⟨v0,h0,hv0⟩,hk⟩
   ·exact anyA_first hlen hio ms hms n listed st v hp1 hcl hfr hr' hy (anyA_tree hlen hms n t _ _ (hcl.set hr') hB' hk)
   ·exact anyA_many hlen hio ms hms hv0 n listed st hcl hfr hr' hm fun v h hv=>anyA_tree hlen hms n t _ _ (hcl.set hr') hB' (hk v h hv)
 | n+1,.fork l,listed,st,hcl,hB,h=>by
  simp only[okT,qp,Bool.not_eq_true',List.isEmpty_eq_false_iff] at hB
  refine⟨fun h0=>absurd h0 hB.1,?_⟩
  simp only[vopsT] at h
  exact anyA_trees hlen hms n l _ listed st hcl (fun i hi=>hi) hB.2 h
 | 0,.take _ _,_,_,_,hB,_=>by simp[okT] at hB
 | 0,.fork _,_,_,_,hB,_=>by simp[okT] at hB
 | _+1,.done,_,_,_,hB,_=>by simp[okT] at hB
theorem anyA_trees {P:Program} {w:Cls} {ops:Array Oper} {is:List IOp} (hlen:is.length=ops.size) {ms:List Nat} (hms:∀ k m,ms[k]? = some m→BehindOk ops k m) {Q:St→Prop}:∀ (n:Nat) (l:List (Nat × Tr)) (js:List Nat) (listed:Array Bool) (st:St),Closed ops listed→(∀ i ∈ js,i ∈ Region.ready .any ops listed)→okTs w ms ops is n l js listed=true→vopsTs P w is l st Q →
  ∀ i ∈ js,opA P w is i (anyA P w ops is Q n (listed.setIfInBounds i true)) st
 | n,[],[],listed,st,_,_,_,_=>by intro i hi; cases hi
 | n,(i,t) :: l,j :: js,listed,st,hcl,hin,hB,h=>by
  simp only[okTs,qp,beq_iff_eq] at hB
  obtain⟨⟨rfl,hB1⟩,hB2⟩:=hB
  simp only[vopsTs] at h
  intro k hk
  rcases xm.1 hk with rfl|hk
  ·have h1:=h.1
   unfold opA at h1 ⊢
   split at h1
   ·rename_i hn; exact anyA_tree hlen hms n t _ _ (hcl.set (hin k (by simp))) hB1 h1
   ·rcases h1 with ⟨v,hp1,hy,hkk⟩|⟨K',hm,hkk⟩
    ·exact .inl ⟨v,hp1,hy,anyA_tree hlen hms n t _ _ (hcl.set (hin k (by simp))) hB1 hkk⟩
    ·exact .inr ⟨K',hm,fun v h hv=>anyA_tree hlen hms n t _ _ (hcl.set (hin k (by simp))) hB1 (hkk v h hv)⟩
  ·exact anyA_trees hlen hms n l js listed st hcl (fun i hi=>hin i (by simp[hi])) hB2 h.2 k hk
 | _,[],_ :: _,_,_,_,_,hB,_=>by simp[okTs] at hB
 | _,_ :: _,[],_,_,_,_,hB,_=>by simp[okTs] at hB
end
def Cls.pref:Cls→Bool
 | .mix .wild _=>true
 | _=>false
def isCallO:Option IOp→Bool
 | some ⟨_,.call _,_,_⟩=>true
 | _=>false
def plan (w:Cls) (ms:List Nat) (ops:Array Oper) (is:List IOp):Nat→Nat→Array Bool→Tr
 | 0,_,_=>.done
 | n+1,f,listed=>match (Region.ready .any ops listed).find? (fun i=>w.pref && !isCallO is[i]? && freeI w ms is listed i) with
  | some i=>.take i (plan w ms ops is n f (listed.setIfInBounds i true))
  | none=>match w.pref && Nat.beq (Region.ready .any ops listed).length 1,(Region.ready .any ops listed).head? with
   | true,some i=>.fork [(i,plan w ms ops is n f (listed.setIfInBounds i true))]
   | _,_=>match (Region.ready .any ops listed).find? (freeI w ms is listed) with
    | some i=>.take i (plan w ms ops is n f (listed.setIfInBounds i true))
    | none=>match f with
     | 0=>.done
     | f+1=>.fork ((Region.ready .any ops listed).map fun i=>(i,plan w ms ops is n f (listed.setIfInBounds i true)))
theorem closed_none (ops:Array Oper) (n:Nat):Closed ops (Array.replicate n false):=by
 intro j o _ hl
 exfalso
 rcases Nat.lt_or_ge j n with h|h
 ·simp[h] at hl
 ·simp[h] at hl
end
section
set_option linter.unusedSectionVars false
variable [Mx]
open Go
mutual
def ren (f:Nat→Option Nat):AV→Option AV
 | .int k n=>some (.int k n)
 | .bool b=>some (.bool b)
 | .str s=>some (.str s)
 | .nilp=>some .nilp
 | .nils=>some .nils
 | .esl=>some .esl
 | .enn=>some .enn
 | .nilm=>some .nilm
 | .nilf=>some .nilf
 | .nili=>some .nili
 | .unk=>some .unk
 | .ptr id off=>match f id with
  | some j=>some (.ptr j off)
  | none=>none
 | .sl id off len sz lo ex=>match f id with
  | some j=>some (.sl j off len sz lo ex)
  | none=>none
 | .map id=>match f id with
  | some j=>some (.map j)
  | none=>none
 | .yld id=>match f id with
  | some j=>some (.yld j)
  | none=>none
 | .bound g cs=>match renL f cs with
  | some cs'=>some (.bound g cs')
  | none=>none
 | .fptr cs off=>match renL f cs with
  | some cs'=>some (.fptr cs' off)
  | none=>none
 | .fsl cs len=>match renL f cs with
  | some cs'=>some (.fsl cs' len)
  | none=>none
 | .func g cs=>match renL f cs with
  | some cs'=>some (.func g cs')
  | none=>none
 | .agg cs=>match renL f cs with
  | some cs'=>some (.agg cs')
  | none=>none
 | .tup cs=>match renL f cs with
  | some cs'=>some (.tup cs')
  | none=>none
 | .iface t a=>match ren f a with
  | some a'=>some (.iface t a')
  | none=>none
def renL (f:Nat→Option Nat):List AV→Option (List AV)
 | []=>some []
 | a :: as=>match ren f a,renL f as with
  | some a',some as'=>some (a' :: as')
  | _,_=>none
end
def renB (f:Nat→Option Nat):Option Blk→Option (Option Blk)
 | none=>some none
 | some (.row e cs)=>match renL f cs with
  | some cs'=>some (some (.row e cs'))
  | none=>none
 | some (.iter is since seen last)=>match renL f is with
  | some is'=>some (some (.iter is' since seen last))
  | none=>none
 | some (.map es bs c)=>match renL f (es.map (·.1)),renL f (es.map (·.2)) with
  | some ks,some vs=>some (some (.map (ks.zip vs) bs c))
  | _,_=>none
 | some (.loop tms key st pend)=>match renL f tms with
  | some tms'=>some (some (.loop tms' key st pend))
  | none=>none
def renH (f:Nat→Option Nat):HP→Option HP
 | []=>some []
 | b :: hp=>match renB f b,renH f hp with
  | some b',some hp'=>some (b' :: hp')
  | _,_=>none
structure Goes (Γ Δ:Cx) (f:Nat→Option Nat):Prop where
 w:Δ.w=Γ.w
 fz:∀ b,Γ.Fz b→Δ.Fz b
 lc:Δ.lc=Γ.lc
 id:∀ i j,i<Γ.n→f i=some j→j<Δ.n∧Δ.β j=Γ.β i
mutual
theorem ren_rel {Γ Δ:Cx} {f:Nat→Option Nat} (g:Goes Γ Δ f):∀ {a a':AV} {v:Value},ren f a=some a'→VRel Γ a v→VRel Δ a' v
 | .int _ _,_,v,h,hv | .bool _,_,v,h,hv | .str _,_,v,h,hv | .nilp,_,v,h,hv | .nils,_,v,h,hv | .esl,_,v,h,hv | .enn,_,v,h,hv | .nilm,_,v,h,hv | .nilf,_,v,h,hv | .nili,_,v,h,hv | .unk,_,v,h,hv=>by
  simp only[ren,qd] at h
  subst h
  simpa only[VRel] using hv
 | .ptr id off,_,v,h,hv=>by
  simp only[ren] at h
  split at h
  ·rename_i j hj
   cases h
   simp only[VRel] at hv ⊢
   obtain⟨h1,h2⟩:=g.id id j hv.1 hj
   rw[h2]
   exact⟨h1,hv.2⟩
  ·cases h
 | .map id,_,v,h,hv=>by
  simp only[ren] at h
  split at h
  ·rename_i j hj
   cases h
   simp only[VRel] at hv ⊢
   obtain⟨h1,h2⟩:=g.id id j hv.1 hj
   rw[h2]
   exact⟨h1,hv.2⟩
  ·cases h
 | .yld id,_,v,h,hv=>by
  simp only[ren] at h
  split at h
  ·rename_i j hj
   cases h
   simp only[VRel] at hv ⊢
   obtain⟨h1,h2⟩:=g.id id j hv.1 hj
   rw[h2]
   exact⟨h1,hv.2⟩
  ·cases h
 | .bound q cs,_,v,h,hv=>by
  simp only[ren] at h
  split at h
  ·rename_i cs' hc
   cases h
   simp only[VRel] at hv ⊢
   obtain⟨vs,h1,h2⟩:=hv
   exact⟨vs,h1,renL_rel g hc h2⟩
  ·cases h
 | .sl id off len sz lo ex,_,v,h,hv=>by
  simp only[ren] at h
  split at h
  ·rename_i j hj
   cases h
   simp only[VRel] at hv ⊢
   obtain⟨h1,h2⟩:=g.id id j hv.1 hj
   rw[h2,g.w]
   exact⟨h1,hv.2⟩
  ·cases h
 | .fptr cs off,_,v,h,hv=>by
  simp only[ren] at h
  split at h
  ·rename_i cs' hc
   cases h
   simp only[VRel] at hv ⊢
   obtain⟨b,o,h1,h2,h3⟩:=hv
   exact⟨b,o,h1,g.fz b h2,renC_rel g hc h3⟩
  ·cases h
 | .fsl cs len,_,v,h,hv=>by
  simp only[ren] at h
  split at h
  ·rename_i cs' hc
   cases h
   simp only[VRel] at hv ⊢
   rcases hv with ⟨h1,h2,h3⟩|⟨b,o,c,h1,h2,h3,h4⟩
   ·subst h3
    simp only[renL,qd] at hc
    exact .inl ⟨h1,h2,hc.symm⟩
   ·refine .inr ⟨b,o,c,h1,h2,?_,renC_rel g hc h4⟩
    rcases h3 with rfl|h3
    ·simp only[renL,qd] at hc
     exact .inl hc.symm
    ·exact .inr (g.fz b h3)
  ·cases h
 | .func q cs,_,v,h,hv=>by
  simp only[ren] at h
  split at h
  ·rename_i cs' hc
   cases h
   simp only[VRel] at hv ⊢
   obtain⟨vs,h1,h2⟩:=hv
   exact⟨vs,h1,renL_rel g hc h2⟩
  ·cases h
 | .agg cs,_,v,h,hv=>by
  simp only[ren] at h
  split at h
  ·rename_i cs' hc
   cases h
   simp only[VRel] at hv ⊢
   obtain⟨vs,h1,h2,h3⟩:=hv
   exact⟨vs,h1,renL_rel g hc h2,h3⟩
  ·cases h
 | .tup cs,_,v,h,hv=>by
  simp only[ren] at h
  split at h
  ·rename_i cs' hc
   cases h
   simp only[VRel] at hv ⊢
   obtain⟨vs,h1,h2⟩:=hv
   exact⟨vs,h1,renL_rel g hc h2⟩
  ·cases h
 | .iface t a,_,v,h,hv=>by
  simp only[ren] at h
  split at h
  ·rename_i a' hc
   cases h
   simp only[VRel] at hv ⊢
   obtain⟨u,h1,h2⟩:=hv
   exact⟨u,h1,ren_rel g hc h2⟩
  ·cases h
theorem renL_rel {Γ Δ:Cx} {f:Nat→Option Nat} (g:Goes Γ Δ f):∀ {as as':List AV} {vs:List Value},renL f as=some as'→VRels Γ as vs→VRels Δ as' vs
 | [],_,vs,h,hv=>by
  simp only[renL,qd] at h
  subst h
  simpa only[VRels] using hv
 | a :: as,_,vs,h,hv=>by
  simp only[renL] at h
  split at h
  ·rename_i a' as' h1 h2
   cases h
   simp only[VRels] at hv ⊢
   obtain⟨u,us,h3,h4,h5⟩:=hv
   exact⟨u,us,h3,ren_rel g h1 h4,renL_rel g h2 h5⟩
  ·cases h
theorem renC_rel {Γ Δ:Cx} {f:Nat→Option Nat} (g:Goes Γ Δ f):∀ {as as':List AV} {b o:Nat},renL f as=some as'→CellsAt Γ as b o→CellsAt Δ as' b o
 | [],_,b,o,h,hv=>by
  simp only[renL,qd] at h
  subst h
  simp only[CellsAt]
 | a :: as,_,b,o,h,hv=>by
  simp only[renL] at h
  split at h
  ·rename_i a' as' h1 h2
   cases h
   simp only[CellsAt] at hv ⊢
   obtain⟨⟨u,h3,h4,h5⟩,h6⟩:=hv
   exact⟨⟨u,by rw[g.w]; exact h3,h4,ren_rel g h1 h5⟩,renC_rel g h2 h6⟩
  ·cases h
end
theorem renL_length {f:Nat→Option Nat}:∀ {as as':List AV},renL f as=some as'→as'.length=as.length
 | [],_,h=>by simp only[renL,qd] at h; subst h; rfl
 | a :: as,_,h=>by
  simp only[renL] at h
  split at h
  ·rename_i a' as' h1 h2
   cases h
   simp only[qr,renL_length h2]
  ·cases h
theorem renH_length {f:Nat→Option Nat}:∀ {hp hp':HP},renH f hp=some hp'→hp'.length=hp.length
 | [],_,h=>by simp only[renH,qd] at h; subst h; rfl
 | b :: hp,_,h=>by
  simp only[renH] at h
  split at h
  ·rename_i b' hp' h1 h2
   cases h
   simp only[qr,renH_length h2]
  ·cases h
theorem renH_get {f:Nat→Option Nat}:∀ {hp hp':HP},renH f hp=some hp'→∀ (i:Nat) (x:Option Blk),hp'[i]? = some x→∃ b:Option Blk,hp[i]? = some b∧renB f b=some x
 | [],_,h,i,x,hx=>by simp only[renH,qd] at h; subst h; simp at hx
 | b :: hp,_,h,i,x,hx=>by
  simp only[renH] at h
  split at h
  ·rename_i b' hp' h1 h2
   cases h
   cases i with
   | zero=>simp only[ql,qd] at hx; subst hx; exact⟨b,rfl,h1⟩
   | succ i=>simp only[qw] at hx ⊢; exact renH_get h2 i x hx
  ·cases h
theorem renB_rel {Γ Δ:Cx} {f:Nat→Option Nat} (g:Goes Γ Δ f) {b:Option Blk} {x:Blk} (h:renB f b=some (some x)):∃ y,b=some y∧∀ p,BRel Γ p y→BRel Δ p x:=by
 unfold renB at h
 split at h
 ·cases h
 ·rename_i e cs
  split at h
  ·rename_i cs' hc
   cases h
   refine⟨_,rfl,fun p hp=>?_⟩
   simp only[BRel] at hp ⊢
   rw[g.w]
   exact⟨hp.1,renC_rel g hc hp.2⟩
  ·cases h
 ·rename_i is since seen last
  split at h
  ·rename_i is' h1
   cases h
   refine⟨_,rfl,fun p hp=>?_⟩
   simp only[BRel] at hp ⊢
   obtain⟨mo,q1,q2⟩:=hp
   exact⟨mo,by rw[g.w]; exact q1,renL_rel g h1 q2⟩
  ·cases h
 ·rename_i es bs c
  split at h
  ·rename_i ks vs h1 h2
   cases h
   refine⟨_,rfl,fun p hp=>?_⟩
   simp only[BRel] at hp ⊢
   obtain⟨ms,clock,q1,q2,q3,q4,q5,q6⟩:=hp
   have l1:=renL_length h1
   have l2:=renL_length h2
   simp only[List.length_map] at l1 l2
   refine⟨ms,clock,by rw[g.w]; exact q1,q2,q3,?_,?_,q6⟩
   ·rw[List.map_fst_zip (by omega)]
    exact renL_rel g h1 q4
   ·rw[List.map_snd_zip (by omega)]
    exact renL_rel g h2 q5
  ·cases h
 ·rename_i tms key st pend
  split at h
  ·rename_i tms' h1
   cases h
   refine⟨_,rfl,fun p hp=>?_⟩
   simp only[BRel] at hp ⊢
   obtain⟨fn,vs,d,q1,q2⟩:=hp
   exact⟨fn,vs,d,by rw[g.w,g.lc]; exact q1,renL_rel g h1 q2⟩
  ·cases h
def placeIn (i:Nat):List Nat→Nat→Option Nat
 | [],_=>none
 | j :: l,k=>cond (Nat.beq i j) (some k) (placeIn i l (k+1))
theorem placeIn_some {i:Nat}:∀ {l:List Nat} {k j:Nat},placeIn i l k=some j→k≤j∧l[j - k]? = some i
 | [],k,j,h=>by simp[placeIn] at h
 | x :: l,k,j,h=>by
  simp only[placeIn] at h
  cases hb:Nat.beq i x
  ·rw[hb] at h
   obtain⟨h1,h2⟩:=placeIn_some (l:=l) h
   refine⟨by omega,?_⟩
   rw[show j - k=(j - (k+1))+1 by omega]
   exact h2
  ·rw[hb] at h
   cases h
   have:=Nat.eq_of_beq_eq_true hb
   subst this
   exact⟨Nat.le_refl _,by simp⟩
def nameAs (K:Nat) (ord:List Nat) (i:Nat):Option Nat:=cond (Nat.blt i K) (some i) (placeIn i ord K)
def noDups:List Nat→Bool
 | []=>true
 | i :: l=>(placeIn i l 0).isNone && noDups l
theorem placeIn_none {i:Nat}:∀ {l:List Nat} {k:Nat},placeIn i l k=none→i ∉ l
 | [],k,_=>by simp
 | x :: l,k,h=>by
  simp only[placeIn] at h
  cases hb:Nat.beq i x
  ·rw[hb] at h
   simp only[cond_false] at h
   rw[xm,not_or]
   refine⟨fun e=>?_,placeIn_none h⟩
   subst e
   rw[Nat.beq_refl] at hb
   cases hb
  ·rw[hb] at h; cases h
theorem noDups_inj:∀ {l:List Nat},noDups l=true→∀ {a b x:Nat},l[a]? = some x→l[b]? = some x→a=b
 | [],_,a,b,x,h,_=>by simp at h
 | y :: l,hd,a,b,x,h,k=>by
  simp only[noDups,qp,Option.isNone_iff_eq_none] at hd
  have hn:=placeIn_none hd.1
  cases a with
  | zero =>
   cases b with
   | zero=>rfl
   | succ b =>
    simp only[ql,qd,qw] at h k
    subst h
    exact absurd (xa k) hn
  | succ a =>
   cases b with
   | zero =>
    simp only[ql,qd,qw] at h k
    subst k
    exact absurd (xa h) hn
   | succ b =>
    simp only[qw] at h k
    rw[noDups_inj hd.2 h k]
def picks (hp:HP):List Nat→HP
 | []=>[]
 | i :: l=>(match hp[i]? with
  | some b=>b
  | none=>none) :: picks hp l
theorem picks_get {hp:HP}:∀ {l:List Nat} {j:Nat} {x:Blk},(picks hp l)[j]? = some (some x)→∃ i,l[j]? = some i∧hp[i]? = some (some x)
 | [],j,x,h=>by simp[picks] at h
 | i :: l,0,x,h=>by
  simp only[picks,ql,qd] at h
  refine⟨i,rfl,?_⟩
  split at h
  ·rename_i b hb
   rw[hb,h]
  ·cases h
 | i :: l,j+1,x,h=>by
  simp only[picks,qw] at h ⊢
  exact picks_get h
theorem picks_length {hp:HP}:∀ {l:List Nat},(picks hp l).length=l.length
 | []=>rfl
 | _ :: l=>by simp only[picks,qr,picks_length]
def renamed (K:Nat) (ord:List Nat) (hp:HP):Option HP:=cond (Nat.ble K hp.length && noDups ord && ord.all (fun i=>Nat.ble K i && Nat.blt i hp.length)) (renH (nameAs K ord) (hp.take K++picks hp ord)) none
theorem renamed_ok {K:Nat} {ord:List Nat} {hp hp':HP} (h:renamed K ord hp=some hp') {Γ:Cx} (hs:HSim Γ hp):∃ Δ:Cx,Δ.w=Γ.w∧Goes Γ Δ (nameAs K ord)∧HSim Δ hp'∧(∀ Γ0 hp0,Γ0.n≤K→Ev Γ0 hp0 Γ hp→Ev Γ0 hp0 Δ hp')∧∀ ds,MarksOk Γ hp ds→MarksOk Δ hp' ds:=by
 unfold renamed at h
 cases hb:(Nat.ble K hp.length && noDups ord && ord.all (fun i=>Nat.ble K i && Nat.blt i hp.length))
 ·rw[hb] at h; cases h
 rw[hb] at h
 simp only[cond_true] at h
 simp only[qp,xr] at hb
 obtain⟨⟨hK0,hd⟩,hall⟩:=hb
 have hK:K≤hp.length:=Nat.le_of_ble_eq_true hK0
 have hin:∀ i,i ∈ ord→K≤i∧i<hp.length:=fun i hi=>by
  have:=hall i hi
  refine⟨Nat.le_of_ble_eq_true this.1,?_⟩
  have h2:=this.2
  unfold Nat.blt at h2
  exact Nat.le_of_ble_eq_true h2
 have hlen:=renH_length h
 rw[List.length_append,xd,picks_length,Nat.min_eq_left hK] at hlen
 let was:Nat→Nat:=fun i=>if i<K then i else ord.getD (i - K) 0
 let Δ:Cx:={ w:=Γ.w,n:=hp'.length,β:=fun i=>Γ.β (was i),Fz:=Γ.Fz,lc:=Γ.lc,s0:=Γ.s0 }
 have hβ:∀ i,Δ.β i=Γ.β (was i):=fun _=>rfl
 have wlt:∀ i,i<K→was i=i:=fun i hi=>if_pos hi
 have wge:∀ i j,K≤i→ord[i - K]? = some j→was i=j:=fun i j hi hj=>by
  show (if i<K then i else ord.getD (i - K) 0)=j
  rw[if_neg (by omega),qX,hj]
  rfl
 have hn:=hs.len
 have g:Goes Γ Δ (nameAs K ord):=by
  refine⟨rfl,fun _ h=>h,rfl,fun i j hi hj=>?_⟩
  unfold nameAs at hj
  cases hlt:Nat.blt i K
  ·rw[hlt] at hj
   obtain⟨h1,h2⟩:=placeIn_some hj
   have h3:=(List.getElem?_eq_some_iff.1 h2).1
   refine⟨by show j<hp'.length; omega,?_⟩
   rw[hβ,wge j i h1 h2]
  ·rw[hlt] at hj
   cases hj
   have hik:i<K:=by unfold Nat.blt at hlt; exact Nat.le_of_ble_eq_true hlt
   exact⟨by show i<hp'.length; omega,by rw[hβ,wlt i hik]⟩
 -- where a block was
 have src:∀ i x,hp'[i]? = some (some x)→∃ y,hp[was i]? = some (some y)∧∀ p,BRel Γ p y→BRel Δ p x:=by
  intro i x hx
  obtain⟨b,h1,h2⟩:=renH_get h i _ hx
  obtain⟨y,rfl,h3⟩:=renB_rel g h2
  refine⟨y,?_,h3⟩
  rw[xT] at h1
  split at h1
  ·rename_i hi
   rw[xd,Nat.min_eq_left hK] at hi
   rw[wlt i hi]
   rw[List.getElem?_take,if_pos hi] at h1
   exact h1
  ·rename_i hi
   rw[xd,Nat.min_eq_left hK] at hi h1
   obtain⟨j,h4,h5⟩:=picks_get h1
   rw[wge i j (by omega) h4]
   exact h5
 have winj:∀ i j,i<hp'.length→j<hp'.length→was i=was j→i=j:=by
  intro i j hi hj e
  have ge:∀ i,K≤i→i<hp'.length→∃ q,ord[i - K]? = some q∧was i=q∧K≤q:=fun i h1 h2=>by
   have h3:i - K<ord.length:=by omega
   have h4:ord[i - K]? = some ord[i - K]:=qg h3
   exact⟨_,h4,wge i _ h1 h4,(hin _ (List.getElem_mem h3)).1⟩
  by_cases h1:i<K<;>by_cases h2:j<K
  ·rw[wlt i h1,wlt j h2] at e; exact e
  ·obtain⟨q,_,q2,q3⟩:=ge j (by omega) hj
   rw[wlt i h1,q2] at e
   omega
  ·obtain⟨q,_,q2,q3⟩:=ge i (by omega) hi
   rw[wlt j h2,q2] at e
   omega
  ·obtain⟨q,p1,p2,p3⟩:=ge i (by omega) hi
   obtain⟨q',p1',p2',p3'⟩:=ge j (by omega) hj
   rw[p2,p2'] at e
   subst e
   have:=noDups_inj hd p1 p1'
   omega
 refine⟨Δ,rfl,g,⟨rfl,fun i x hx=>?_,fun i j x y hx hy e=>?_,hs.fz,hs.gl.same g.w g.fz⟩,fun Γ0 hp0 h0 ev=>⟨⟨?_,fun i hi=>?_,ev.le.fz,ev.le.kept,ev.le.shape,ev.le.lc⟩,ev.os,ev.tape,ev.output,ev.size,ev.frame,?_,ev.fz,ev.s0⟩,?_⟩
 ·obtain⟨y,h1,h2⟩:=src i x hx
  obtain⟨k1,k2,k3⟩:=hs.blk _ y h1
  exact⟨h2 _ k1,k2,k3⟩
 ·obtain⟨x',h1,_⟩:=src i x hx
  obtain⟨y',h2,_⟩:=src j y hy
  exact winj i j (HP.lt hx) (HP.lt hy) (hs.inj _ _ x' y' h1 h2 e)
 ·show Γ0.n≤hp'.length
  omega
 ·have:i<K:=by omega
  rw[hβ,wlt i this]
  exact ev.le.β i hi
 ·rintro b ⟨i,x,hx,e⟩
  obtain⟨y,h1,_⟩:=src i x hx
  exact ev.live b ⟨was i,y,h1,e⟩
 ·rintro ds ⟨q0,ks,q1,q2,q3⟩
  refine⟨q0,ks,q1,q2,fun k hk=>?_⟩
  obtain⟨p1,p2,p3,p4⟩:=q3 k hk
  refine⟨p1,?_,p3,p4⟩
  rintro⟨i,x,hx,e⟩
  obtain⟨y,h1,_⟩:=src i x hx
  exact p2 ⟨was i,y,h1,e⟩
def RenOk (K:Nat) (st st':St):Prop:=∀ (Γ:Cx) (a:Act),SSim Γ st a→∃ Δ:Cx,Δ.w=Γ.w∧SSim Δ st' a∧∀ Γ0 hp0,Γ0.n≤K→Ev Γ0 hp0 Γ st.hp→Ev Γ0 hp0 Δ st'.hp
theorem RenOk.refl (K:Nat) (st:St):RenOk K st st:=fun Γ a h=>⟨Γ,rfl,h,fun _ _ _ h=>h⟩
theorem RenOk.of {K:Nat} {ord:List Nat} {st:St} {tm':List AV} {hp':HP} (h:renamed K ord st.hp=some hp') (ht:renL (nameAs K ord) st.tm=some tm'):RenOk K st ⟨tm',hp'⟩:=fun Γ a hs=>by
 obtain⟨Δ,h1,h2,h3,h4,h5⟩:=renamed_ok h hs.hp
 exact⟨Δ,h1,⟨renL_rel h2 ht hs.tm,h3,h5 _ hs.df⟩,h4⟩
end
end Go.Gi
