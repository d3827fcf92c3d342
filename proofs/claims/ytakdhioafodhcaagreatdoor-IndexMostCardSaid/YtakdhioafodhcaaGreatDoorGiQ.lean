/- Stepping through compiled code: the temporaries are a function, and a table tells what pure functions give. -/
/- Lists of elements of one kind, as slices: frozen, or of our own and perhaps empty. -/
import Derived.Test.YtakdhioafodhcaaGreatDoorGiN
set_option linter.unusedVariables false
set_option linter.unusedSimpArgs false
namespace Go.Gi
open _root_.Bool renaming and_eq_true → qp, and_true → xP
open _root_.Go.IntKind renaming wrap → qU, bits → za
open _root_.List renaming getD_eq_getElem?_getD → qX, getElem?_eq_some_iff → qf, take_of_length_le → xg, take_append_drop → xE, length_append → qo, append_assoc → qV, length_cons → qr, cons_append → qZ, length_drop → xq, append_nil → qt, length_nil → qx, nil_append → qz
open _root_.Nat renaming mul_le_mul_right → xj
open _root_.Option renaming map_some → qh
open _root_.Option.some renaming injEq → qd
open _root_.Prod.mk renaming injEq → qj
section
set_option linter.unusedSectionVars false
variable [Mx]
open Go
inductive Res where
 | rd (b:Bool) (v:AV)
 | mk (g:Nat→AV × HP)
abbrev Tab:=FuncId→List AV→Option Res
def Res.Ok (P:Program) (f:FuncId) (xs:List AV):Res→Prop
 | .rd b r=>if b=true then PCF P f xs r else PC P f xs r
 | .mk g => ∀ hp,ACalls P f xs hp fun r hp'=>r=(g hp.length).1∧hp'=hp++(g hp.length).2
def TabOk (P:Program) (T:Tab):Prop:=∀ g xs r,T g xs=some r→r.Ok P g xs
def Tab.none:Tab:=fun _ _=>Option.none
theorem TabOk.none (P:Program):TabOk P Tab.none:=fun _ _ _ h=>by cases h
def Tab.add (T:Tab) (f:FuncId) (s:List AV→Option Res):Tab:=fun g xs=>if g=f then s xs else T g xs
theorem TabOk.add {P:Program} {T:Tab} (h:TabOk P T) {f:FuncId} {s:List AV→Option Res} (hs:∀ xs r,s xs=some r→r.Ok P f xs):TabOk P (T.add f s):=fun g xs r hr=>by
 unfold Tab.add at hr
 split at hr
 ·rename_i e
  subst e
  exact hs xs r hr
 ·exact h g xs r hr
theorem view_nid {ys zs:List AV} {hp:HP} (hn:nidL ys=true) (hf:frzL hp ys=some zs) {Γ:Cx} {hp0:HP} (hh:HSim Γ hp0) {vs:List Value} (hv:VRels Γ ys vs):VRels Γ zs vs:=by
 have h0:HSim { Γ with n:=0 } []:=⟨rfl,fun i x hx=>by simp at hx,fun i j x y hx=>by simp at hx,hh.fz,GOk.same hh.gl rfl fun _ h=>h⟩
 have hv0:=nidL_ok hn Γ { Γ with n:=0 } vs hv rfl (fun _ h=>h)
 have hf':=frzL_ok (hp:=[]) ((frzL_nid hn).trans hf)
 have h1:=hf' { Γ with n:=0 } { Γ with n:=0 } vs h0 hv0 rfl (fun _ h=>h) (by rintro b ⟨i,x,hi,_⟩; simp at hi)
 have le0:Le { Γ with n:=0 } Γ:=⟨Nat.zero_le _,fun i hi=>absurd hi (Nat.not_lt_zero i),fun b hb=>hb,fun b hb=>rfl,fun b s hs=>hs,rfl⟩
 exact VRels.le le0 h1
theorem tab_calls {P:Program} {T:Tab} (hT:TabOk P T) {f:FuncId} {ys zs:List AV} {b:Bool} {v:AV} {hp:HP} (h:T f zs=some (.rd b v)) (hf:frzL hp ys=some zs) (hb:b=true∨nidL ys=true):ACalls P f ys hp fun r' hp'=>r'=v∧hp'=hp:=by
 have h1:if b=true then PCF P f zs v else PC P f zs v:=hT f zs _ h
 by_cases hb':b=true
 ·rw[if_pos hb'] at h1
  exact h1.view (frzL_ok hf)
 ·rw[if_neg hb'] at h1
  have hn:=hb.resolve_left hb'
  exact⟨(h1 hp).1,fun Γ vs hh hl hv=>(h1 hp).2 Γ vs hh hl (view_nid hn hf hh hv)⟩
theorem tab_mk {P:Program} {T:Tab} (hT:TabOk P T) {f:FuncId} {ys zs:List AV} {g:Nat→AV × HP} {hp:HP} (h:T f zs=some (.mk g)) (hf:frzL hp ys=some zs) (hn:nidL ys=true):ACalls P f ys hp fun r' hp'=>r'=(g hp.length).1∧hp'=hp++(g hp.length).2:=by
 have h1:∀ hp,ACalls P f zs hp fun r hp'=>r=(g hp.length).1∧hp'=hp++(g hp.length).2:=hT f zs _ h
 exact⟨(h1 hp).1,fun Γ vs hh hl hv=>(h1 hp).2 Γ vs hh hl (view_nid hn hf hh hv)⟩
abbrev Env:=Nat→AV
def upd (e:Env) (i:Nat) (v:AV):Env:=fun j=>if j=i then v else e j
theorem upd_app (e:Env) (i j:Nat) (v:AV):upd e i v j=if j=i then v else e j:=rfl
def evE (tm:Env):Opd→AV
 | .t i=>tm i
 | .c v=>v
 | .f g=>.func g []
def evsE (tm:Env):List Opd→List AV
 | []=>[]
 | x :: xs=>evE tm x :: evsE tm xs
def putE (tm:Env):Option Nat→AV→Env
 | none,_=>tm
 | some i,v=>upd tm i v
def wantedE (tm:Env):Option (Nat × Bool)→Bool
 | none=>true
 | some (t,b)=>match tm t with
  | .bool c=>c == b
  | _=>false
def Cls.isFree:Cls→Bool
 | .free=>true
 | _=>false
def Cls.makes:Cls→Bool
 | .alloc | .wild=>true
 | _=>false
def exOp (w:Cls) (T:Tab) (o:IOp) (tm:Env) (hp:HP):Option (Env × HP):=
 match o with
 | ⟨d,.op r,xs,g⟩=>if wantedE tm g then match r.run (evsE tm xs) hp with
  | some (v,h)=>some (putE tm d v,h)
  | none=>none
  else some (putE tm d (.tup []),hp)
 | ⟨_,.call (some _),_,_⟩=>none
 | ⟨d,.call none,xs,g⟩=>if wantedE tm g then match evsE tm xs with
  | .func f caps :: ys=>match frzL hp (ys++caps) with
   | some zs=>match T f zs with
    | some (.rd b v)=>if ((b && !(callCls w d).isFree) || nidL (ys++caps))=true then some (putE tm d v,hp) else none
    | some (.mk g)=>if ((callCls w d).makes && nidL (ys++caps))=true then some (putE tm d (g hp.length).1,hp++(g hp.length).2) else none
    | none=>none
   | none=>none
  | _=>none
  else some (putE tm d (.tup []),hp)
def exOps (w:Cls) (T:Tab):List IOp→Env→HP→Option (Env × HP)
 | [],tm,hp=>some (tm,hp)
 | o :: os,tm,hp=>match exOp w T o tm hp with
  | some (tm',hp')=>exOps w T os tm' hp'
  | none=>none
def ordered (is:List IOp):Tr→List IOp
 | .done=>[]
 | .take i t=>match is[i]? with
  | some o=>o :: ordered is t
  | none=>ordered is t
 | .fork _=>[]
def chain:Tr→Bool
 | .done=>true
 | .take _ t=>chain t
 | .fork _=>false
def exC (T:Tab):IC→Env→HP→Option (Exit × Env × HP)
 | .skip,tm,hp=>some (.normal,tm,hp)
 | .reg is,tm,hp=>match exOps .wild T is tm hp with
  | some (tm',hp')=>some (.normal,tm',hp')
  | none=>none
 | .regD w is t,tm,hp=>cond (chain t) (match exOps w T (ordered is t) tm hp with
  | some (tm',hp')=>some (.normal,tm',hp')
  | none=>none) none
 | .seq a b,tm,hp=>match exC T a tm hp with
  | some (.normal,tm',hp')=>exC T b tm' hp'
  | r=>r
 | .cond c a b,tm,hp=>match evE tm c with
  | .bool true=>exC T a tm hp
  | .bool false=>exC T b tm hp
  | _=>none
 | .block id c,tm,hp=>match exC T c tm hp with
  | some (.exit i,tm',hp')=>if i=id then some (.normal,tm',hp') else some (.exit i,tm',hp')
  | r=>r
 | .loop _,_,_=>none
 | .exit id,tm,hp=>some (.exit id,tm,hp)
 | .ret,tm,hp=>some (.ret,tm,hp)
 | .rangeF _ _ _,_,_=>none
def Is (n:Nat) (tm:Env) (l:List AV):Prop:=l.length=n∧∀ i,i<n→l.getD i (.tup [])=tm i
def Opd.inR (n:Nat):Opd→Bool
 | .t i=>decide (i<n)
 | _=>true
def IOp.inR (n:Nat) (o:IOp):Bool:=
 o.args.all (·.inR n) && (match o.dst with
  | some i=>decide (i<n)
  | none=>true) && (match o.guard with
  | some (i,_)=>decide (i<n)
  | none=>true)
theorem Is.ev {n:Nat} {tm:Env} {l:List AV} (h:Is n tm l):∀ {x:Opd},x.inR n=true→x.ev l=evE tm x
 | .t i,hx=>h.2 i (by simpa[Opd.inR] using hx)
 | .c v,_=>rfl
 | .f g,_=>rfl
theorem Is.evs {n:Nat} {tm:Env} {l:List AV} (h:Is n tm l):∀ {xs:List Opd},xs.all (·.inR n)=true→Gi.evs l xs=evsE tm xs
 | [],_=>rfl
 | x :: xs,hx=>by
  simp only[List.all_cons,qp] at hx
  have:=h.evs hx.2
  simp only[Gi.evs,List.map_cons,evsE,h.ev hx.1] at this ⊢
  rw[this]
theorem Is.put {n:Nat} {tm:Env} {l:List AV} (h:Is n tm l) {v:AV}:∀ {d:Option Nat},Is n (putE tm d v) (putA l d v)
 | none=>h
 | some i=>by
  refine⟨by simp[putA,h.1],fun j hj=>?_⟩
  simp only[putA,putE,upd]
  rw[qX,List.getElem?_set]
  by_cases hij:i=j
  ·subst hij
   rw[if_pos rfl,if_pos (by rw[h.1]; exact hj),if_pos rfl]
   rfl
  ·rw[if_neg hij,if_neg (Ne.symm hij),← qX]
   exact h.2 j hj
theorem Is.wanted {n:Nat} {tm:Env} {l:List AV} (h:Is n tm l):∀ {g:Option (Nat × Bool)},(match g with
  | some (i,_)=>decide (i<n)
  | none=>true)=true→wantedA g l=wantedE tm g
 | none,_=>rfl
 | some (i,b),hg=>by
  simp only[wantedA,wantedE,h.2 i (by simpa using hg)]
  cases tm i<;>rfl
theorem exOp_spec {w:Cls} {T:Tab} {n:Nat} {o:IOp} (ho:o.inR n=true) {tm tm':Env} {hp hp':HP} {l:List AV} (hl:Is n tm l) (h:exOp w T o tm hp=some (tm',hp')) :
  ∃ v,tm'=putE tm o.dst v∧((wantedA o.guard l=true∧((∃ r,o.k=.op r∧r.run (evs l o.args) hp=some (v,hp'))∨(o.k=.call none∧∃ g caps xs zs,evs l o.args=.func g caps :: xs∧frzL hp (xs++caps)=some zs∧((hp'=hp∧∃ b,T g zs=some (.rd b v)∧((b=true∧(callCls w o.dst).isFree=false)∨nidL (xs++caps)=true))∨((callCls w o.dst).makes=true∧nidL (xs++caps)=true∧∃ q,T g zs=some (.mk q)∧v=(q hp.length).1∧hp'=hp++(q hp.length).2)))))∨(wantedA o.guard l=false∧v=.tup []∧hp'=hp)):=by
 obtain⟨d,k,xs,g⟩:=o
 simp only[IOp.inR,qp] at ho
 obtain⟨⟨h1,h2⟩,h3⟩:=ho
 have e1:=hl.evs h1
 have e2:=hl.wanted h3
 simp only at e1 e2 ⊢
 rw[e1,e2]
 cases k with
 | op r =>
  simp only[exOp] at h
  split at h
  ·rename_i hw
   split at h
   ·rename_i v h' hr
    cases h
    exact⟨v,rfl,.inl ⟨hw,.inl ⟨r,rfl,hr⟩⟩⟩
   ·cases h
  ·rename_i hw
   cases h
   exact⟨_,rfl,.inr ⟨by simpa using hw,rfl,rfl⟩⟩
 | call ms =>
  cases ms with
  | some l=>simp only[exOp] at h; cases h
  | none =>
  simp only[exOp] at h
  split at h
  ·rename_i hw
   split at h
   ·rename_i f caps ys he
    split at h
    ·rename_i zs hz
     split at h
     ·rename_i b v hv
      split at h
      ·rename_i hc
       cases h
       exact⟨v,rfl,.inl ⟨hw,.inr ⟨rfl,f,caps,ys,zs,he,hz,.inl ⟨rfl,b,hv,by simpa using hc⟩⟩⟩⟩
      ·cases h
     ·rename_i q hv
      split at h
      ·rename_i hc
       simp only[qp] at hc
       cases h
       exact⟨_,rfl,.inl ⟨hw,.inr ⟨rfl,f,caps,ys,zs,he,hz,.inr ⟨hc.1,hc.2,q,hv,rfl,rfl⟩⟩⟩⟩
      ·cases h
     ·cases h
    ·cases h
   ·cases h
  ·rename_i hw
   cases h
   exact⟨_,rfl,.inr ⟨by simpa using hw,rfl,rfl⟩⟩
theorem exOp_vop {P:Program} {w:Cls} {T:Tab} (hT:TabOk P T) {n:Nat} {o:IOp} (ho:o.inR n=true) {tm tm':Env} {hp hp':HP} {l:List AV} (hl:Is n tm l) (h:exOp w T o tm hp=some (tm',hp')) {K:St→Prop} (hk:∀ l',Is n tm' l'→K ⟨l',hp'⟩):vop P o ⟨l,hp⟩ K:=by
 obtain⟨v,e1,h1⟩:=exOp_spec ho hl h
 subst e1
 unfold vop
 rcases h1 with ⟨hw,h1⟩|⟨hw,e3,e4⟩
 ·rw[if_pos hw]
  rcases h1 with ⟨r,e2,hr⟩|⟨e2,g,caps,xs,zs,e3,hz,⟨e4,b,hv,hb⟩|⟨hw0,hn,q,hv,rfl,rfl⟩⟩
  ·rw[e2]
   simp only[hr]
   exact hk _ hl.put
  rotate_left
  ·rw[e2]
   simp only[e3]
   exact Or.inl ((tab_mk hT hv hz hn).mono fun r hp'' ⟨e5,e6⟩=>by rw[e5,e6]; exact hk _ hl.put)
  ·rw[e2]
   simp only[e3]
   subst e4
   exact Or.inl ((tab_calls hT hv hz (hb.imp And.left id)).mono fun r hp'' ⟨e5,e6⟩=>by rw[e5,e6]; exact hk _ hl.put)
 ·rw[if_neg (by rw[hw]; simp)]
  subst e3; subst e4
  exact hk _ hl.put
theorem exOp_yields {P:Program} {T:Tab} (hT:TabOk P T) {w:Cls} {n:Nat} {o:IOp} (ho:o.inR n=true) {tm tm':Env} {hp hp':HP} {l:List AV} (hl:Is n tm l) (h:exOp w T o tm hp=some (tm',hp')):∃ v,YieldsA P w o ⟨l,hp⟩ v hp'∧Is n tm' (putA l o.dst v):=by
 obtain⟨v,e1,h1⟩:=exOp_spec ho hl h
 subst e1
 refine⟨v,?_,hl.put⟩
 unfold YieldsA
 rcases h1 with ⟨hw,h1⟩|⟨hw,e3,e4⟩
 ·rw[if_pos hw]
  rcases h1 with ⟨r,e2,hr⟩|⟨e2,g,caps,xs,zs,e3,hz,⟨e4,b,hv,hb⟩|⟨hw0,hn,q,hv,rfl,rfl⟩⟩
  ·rw[e2]
   exact hr
  rotate_left
  ·rw[e2]
   exact⟨.func g caps,xs,e3,fun h0=>(by rw[h0] at hw0; simp[Cls.makes] at hw0),fun h0=>(by rw[h0] at hw0; simp[Cls.makes] at hw0),fun _=>⟨_,rfl⟩,Or.inl (tab_mk hT hv hz hn)⟩
  ·rw[e2]
   subst e4
   refine⟨.func g caps,xs,e3,fun hw0=>⟨rfl,fun hp2=>?_⟩,fun _=>rfl,fun _=>⟨[],by simp⟩,Or.inl (tab_calls hT hv hz (hb.imp And.left id))⟩
   have hn:nidL (xs++caps)=true:=hb.resolve_left fun h=>by rw[hw0] at h; simp[Cls.isFree] at h
   exact Or.inl (tab_calls hT hv ((frzL_nid hn).trans hz) (.inr hn))
 ·rw[if_neg (by rw[hw]; simp)]
  exact⟨e3,e4⟩
theorem exOps_vops {P:Program} {w:Cls} {T:Tab} (hT:TabOk P T) {n:Nat}:∀ {is:List IOp},is.all (·.inR n)=true→∀ {tm tm':Env} {hp hp':HP} {l:List AV},Is n tm l→exOps w T is tm hp=some (tm',hp')→∀ {Q:St→Prop},(∀ l',Is n tm' l'→Q ⟨l',hp'⟩)→vops P is ⟨l,hp⟩ Q
 | [],_,tm,tm',hp,hp',l,hl,h,Q,hq=>by
  simp only[exOps,qd,qj] at h
  obtain⟨rfl,rfl⟩:=h
  exact hq l hl
 | o :: os,ho,tm,tm',hp,hp',l,hl,h,Q,hq=>by
  simp only[List.all_cons,qp] at ho
  simp only[exOps] at h
  split at h
  ·rename_i tm1 hp1 h1
   exact exOp_vop hT ho.1 hl h1 fun l' hl'=>exOps_vops hT ho.2 hl' h hq
  ·cases h
theorem exOps_vopsT {P:Program} {T:Tab} (hT:TabOk P T) {w:Cls} {n:Nat} {is:List IOp} (hr:is.all (·.inR n)=true):∀ (t:Tr) {tm tm':Env} {hp hp':HP} {l:List AV},chain t=true→Is n tm l→exOps w T (ordered is t) tm hp=some (tm',hp')→∀ {Q:St→Prop},(∀ l',Is n tm' l'→Q ⟨l',hp'⟩)→vopsT P w is t ⟨l,hp⟩ Q
 | .done,tm,tm',hp,hp',l,hs,hl,h,Q,hq=>by
  simp only[ordered,exOps,qd,qj] at h
  obtain⟨rfl,rfl⟩:=h
  simpa only[vopsT] using hq l hl
 | .take j t,tm,tm',hp,hp',l,hs,hl,h,Q,hq=>by
  simp only[chain] at hs
  simp only[vopsT,opA1]
  simp only[ordered] at h
  cases hi:is[j]? with
  | none =>
   rw[hi] at h
   exact exOps_vopsT hT hr t hs hl h hq
  | some o =>
   rw[hi] at h
   simp only[exOps] at h
   split at h
   ·rename_i tm1 hp1 h1
    have ho:o.inR n=true:=List.all_eq_true.1 hr o (List.mem_of_getElem? hi)
    obtain⟨v,h2,h3⟩:=exOp_yields (w:=w) hT ho hl h1
    exact .inl ⟨v,hp1,h2,exOps_vopsT hT hr t hs h3 h hq⟩
   ·cases h
 | .fork l,tm,tm',hp,hp',_,hs,hl,h,Q,hq=>by simp[chain] at hs
def okS (n:Nat):IC→Bool
 | .reg is=>is.all (·.inR n)
 | .regD _ is _=>is.all (·.inR n)
 | .seq a b=>okS n a && okS n b
 | .cond c a b=>c.inR n && (okS n a && okS n b)
 | .block _ c | .loop c=>okS n c
 | .rangeF _ nt o=>Nat.beq nt n && o.inR n
 | _=>true
def noR:IC→Bool
 | .seq a b=>noR a && noR b
 | .cond _ a b=>noR a && noR b
 | .block _ c | .loop c=>noR c
 | .rangeF .. => false
 | _=>true
theorem noR_keys {P:Program} {hint:Nat→Nat}:∀ {c:Code} {ic:IC},compC P hint c=some ic→noR ic=true→keysOf hint c=[]
 | .skip,_,_,_ | .label _,_,_,_ | .region _ _ false,_,_,_ | .region _ _ true,_,_,_ | .exit _,_,_,_ | .ret,_,_,_ | .goto _,_,_,_ | .refuse _,_,_,_=>by simp only[keysOf]
 | .seq a b,ic,hc,hn=>by
  simp only[compC] at hc
  split at hc
  ·rename_i x y hx hy
   cases hc
   simp only[noR,qp] at hn
   simp only[keysOf,noR_keys hx hn.1,noR_keys hy hn.2,qt]
  ·cases hc
 | .cond c a b,ic,hc,hn=>by
  simp only[compC] at hc
  split at hc
  ·rename_i o x y ho hx hy
   cases hc
   simp only[noR,qp] at hn
   simp only[keysOf,noR_keys hx hn.1,noR_keys hy hn.2,qt]
  ·cases hc
 | .block id c,ic,hc,hn=>by
  simp only[compC] at hc
  cases hx:compC P hint c with
  | none=>simp[hx] at hc
  | some x =>
   simp only[hx,qh,qd] at hc
   subst hc
   simp only[noR] at hn
   simp only[keysOf,noR_keys hx hn]
 | .loop c,ic,hc,hn=>by
  simp only[compC] at hc
  cases hx:compC P hint c with
  | none=>simp[hx] at hc
  | some x =>
   simp only[hx,qh,qd] at hc
   subst hc
   simp only[noR] at hn
   simp only[keysOf,noR_keys hx hn]
 | .scope c,ic,hc,hn=>by
  simp only[compC] at hc
  simp only[keysOf,noR_keys hc hn]
 | .rangeFunc f ps a b,ic,hc,hn=>by
  simp only[compC] at hc
  split at hc
  ·cases ho:opdP f with
   | none=>simp[ho] at hc
   | some o =>
    simp only[ho,qh,qd] at hc
    subst hc
    simp[noR] at hn
  ·cases hc
theorem noR_keysF {P:Program} {hint:Nat→Nat} {f:FuncId} {c:IC} {n:Nat} {rs:List RV} (hf:compF P hint f=some ⟨c,n,rs⟩) (hn:noR c=true):KeysF P hint f:=fun fn code h1 h2 x hx=>by
 unfold compF at hf
 rw[h1] at hf
 simp only at hf
 split at hf
 ·cases hf
 ·rw[h2] at hf
  simp only at hf
  split at hf
  ·rename_i ic rs' hc hr
   cases hf
   rw[noR_keys hc hn] at hx
   cases hx
  ·cases hf
def vcE (P:Program) (hint:Nat→Nat) (T:Tab) (n:Nat) (ic:IC) (tm:Env) (hp:HP) (Q:Exit→Env→HP→Prop):Prop:=
 P.follows .mixedOrders=true→TabOk P T→okS n ic=true→∀ (l:List AV) (Q':Exit→St→Prop),Is n tm l→(∀ e tm' hp' l',Is n tm' l'→Q e tm' hp'→Q' e ⟨l',hp'⟩)→vc P hint ic ⟨l,hp⟩ Q'
theorem vcE.mono {P:Program} {hint:Nat→Nat} {T:Tab} {n:Nat} {ic:IC} {tm:Env} {hp:HP} {Q Q':Exit→Env→HP→Prop} (h:vcE P hint T n ic tm hp Q) (hq:∀ e tm hp,Q e tm hp→Q' e tm hp):vcE P hint T n ic tm hp Q':=
 fun a b c l Q2 d k=>h a b c l Q2 d fun e tm' hp' l' h1 h2=>k e tm' hp' l' h1 (hq e tm' hp' h2)
theorem vcE.seq {P:Program} {hint:Nat→Nat} {T:Tab} {n:Nat} {a b:IC} {tm:Env} {hp:HP} {Q:Exit→Env→HP→Prop} (h:vcE P hint T n a tm hp fun e tm' hp'=>match e with
  | .normal=>vcE P hint T n b tm' hp' Q
  | e=>Q e tm' hp'):vcE P hint T n (.seq a b) tm hp Q:=by
 intro hm hT hs l Q' hl hq
 simp only[okS,qp] at hs
 refine h hm hT hs.1 l _ hl ?_
 intro e tm' hp' l' hl' h1
 cases e with
 | normal=>exact h1 hm hT hs.2 l' Q' hl' hq
 | _=>exact hq _ _ _ _ hl' h1
theorem vcE.cond {P:Program} {hint:Nat→Nat} {T:Tab} {n:Nat} {c:Opd} {a b:IC} {tm:Env} {hp:HP} {Q:Exit→Env→HP→Prop} (t:Bool) (ht:evE tm c=.bool t) (h1:t=true→vcE P hint T n a tm hp Q) (h2:t=false→vcE P hint T n b tm hp Q):vcE P hint T n (.cond c a b) tm hp Q:=by
 intro hm hT hs l Q' hl hq
 simp only[okS,qp] at hs
 exact⟨t,by rw[hl.ev hs.1,ht],fun e=>h1 e hm hT hs.2.1 l Q' hl hq,fun e=>h2 e hm hT hs.2.2 l Q' hl hq⟩
theorem vcE.block {P:Program} {hint:Nat→Nat} {T:Tab} {n id:Nat} {c:IC} {tm:Env} {hp:HP} {Q:Exit→Env→HP→Prop} (h:vcE P hint T n c tm hp fun e tm' hp'=>match e with
  | .exit i=>if i=id then Q .normal tm' hp' else Q (.exit i) tm' hp'
  | e=>Q e tm' hp'):vcE P hint T n (.block id c) tm hp Q:=by
 intro hm hT hs l Q' hl hq
 refine h hm hT (by simpa only[okS] using hs) l _ hl ?_
 intro e tm' hp' l' hl' h1
 cases e with
 | exit i =>
  simp only at h1 ⊢
  split
  ·rename_i hi
   rw[if_pos hi] at h1
   exact hq _ _ _ _ hl' h1
  ·rename_i hi
   rw[if_neg hi] at h1
   exact hq _ _ _ _ hl' h1
 | _=>exact hq _ _ _ _ hl' h1
theorem vcE.ex {P:Program} {hint:Nat→Nat} {T:Tab} {n:Nat}:∀ {ic:IC} {tm tm':Env} {hp hp':HP} {e:Exit} {Q:Exit→Env→HP→Prop},exC T ic tm hp=some (e,tm',hp')→Q e tm' hp'→vcE P hint T n ic tm hp Q
 | .skip,tm,tm',hp,hp',e,Q,h,hq=>by
  simp only[exC,qd,qj] at h
  obtain⟨rfl,rfl,rfl⟩:=h
  exact fun _ _ _ l Q' hl k=>k _ _ _ _ hl hq
 | .exit id,tm,tm',hp,hp',e,Q,h,hq=>by
  simp only[exC,qd,qj] at h
  obtain⟨rfl,rfl,rfl⟩:=h
  exact fun _ _ _ l Q' hl k=>k _ _ _ _ hl hq
 | .ret,tm,tm',hp,hp',e,Q,h,hq=>by
  simp only[exC,qd,qj] at h
  obtain⟨rfl,rfl,rfl⟩:=h
  exact fun _ _ _ l Q' hl k=>k _ _ _ _ hl hq
 | .reg is,tm,tm',hp,hp',e,Q,h,hq=>by
  simp only[exC] at h
  split at h
  ·rename_i tm1 hp1 h1
   cases h
   exact fun _ hT hs l Q' hl k=>exOps_vops hT hs hl h1 fun l' hl'=>k _ _ _ _ hl' hq
  ·cases h
 | .regD w is t,tm,tm',hp,hp',e,Q,h,hq=>by
  simp only[exC] at h
  cases hc:chain t
  ·rw[hc] at h; cases h
  rw[hc] at h
  simp only[cond_true] at h
  split at h
  ·rename_i tm1 hp1 h1
   cases h
   intro _ hT hs l Q' hl k
   simp only[okS] at hs
   exact exOps_vopsT hT hs t hc hl h1 fun l' hl'=>⟨_,RenOk.refl _ _,k _ _ _ _ hl' hq⟩
  ·cases h
 | .seq a b,tm,tm',hp,hp',e,Q,h,hq=>by
  simp only[exC] at h
  split at h
  ·rename_i tm1 hp1 h1
   exact vcE.seq (vcE.ex h1 (vcE.ex h hq))
  ·rename_i r h1
   refine vcE.seq (vcE.ex h ?_)
   cases e with
   | normal=>exact absurd h (h1 _ _)
   | _=>exact hq
 | .cond c a b,tm,tm',hp,hp',e,Q,h,hq=>by
  simp only[exC] at h
  split at h
  ·rename_i ht
   exact vcE.cond true ht (fun _=>vcE.ex h hq) (by simp)
  ·rename_i ht
   exact vcE.cond false ht (by simp) (fun _=>vcE.ex h hq)
  ·cases h
 | .block id c,tm,tm',hp,hp',e,Q,h,hq=>by
  simp only[exC] at h
  split at h
  ·rename_i i tm1 hp1 h1
   refine vcE.block (vcE.ex h1 ?_)
   simp only
   split at h
   ·rename_i hi
    cases h
    rw[if_pos hi]
    exact hq
   ·rename_i hi
    cases h
    rw[if_neg hi]
    exact hq
  ·rename_i r h1
   refine vcE.block (vcE.ex h ?_)
   cases e with
   | exit i=>exact absurd h (h1 _ _ _)
   | _=>exact hq
 | .loop c,tm,tm',hp,hp',e,Q,h,hq=>by simp[exC] at h
 | .rangeF ..,tm,tm',hp,hp',e,Q,h,hq=>by simp[exC] at h
theorem vcE.loop {P:Program} {hint:Nat→Nat} {T:Tab} {n:Nat} {c:IC} {tm:Env} {hp:HP} {Q:Exit→Env→HP→Prop} (hng:∀ l tm hp,¬ Q (.goto l) tm hp) (I:Nat→Env→HP→Prop) (m:Nat) (h0:I m tm hp)
  (round:∀ m tm hp,I m tm hp→vcE P hint T n c tm hp fun e tm' hp'=>match e with
   | .normal => ∃ k,k<m∧I k tm' hp'
   | e=>Q e tm' hp'):vcE P hint T n (.loop c) tm hp Q:=by
 intro hm hT hs l Q' hl hq
 simp only[okS] at hs
 have hh:LoopW P hint c ⟨l,hp⟩ (fun e st => ∃ tm',Is n tm' st.tm∧Q e tm' st.hp):=by
  refine LoopW.of hm (fun l st ⟨tm',_,h⟩=>hng l tm' st.hp h) (fun m st => ∃ tm',Is n tm' st.tm∧I m tm' st.hp) m ⟨tm,hl,h0⟩ ?_
  intro m st ⟨tm',hl',hi⟩
  refine round m tm' st.hp hi hm hT hs st.tm _ hl' ?_
  intro e tm2 hp2 l2 hl2 h2
  cases e with
  | normal =>
   obtain⟨k,h3,h4⟩:=h2
   exact⟨k,h3,tm2,hl2,h4⟩
  | _=>exact⟨tm2,hl2,h2⟩
 show LoopW P hint c ⟨l,hp⟩ Q'
 exact fun code hc hk=>(hh code hc hk).mono fun e st ⟨tm',h1,h2⟩=>hq e tm' st.hp st.tm h1 h2
theorem vcE.then {P:Program} {hint:Nat→Nat} {T:Tab} {n:Nat} {a b:IC} {tm:Env} {hp:HP} {Q:Exit→Env→HP→Prop} (R:Exit→Env→HP→Prop) (h:vcE P hint T n a tm hp R) (k:∀ e tm' hp',R e tm' hp'→match e with
  | .normal=>vcE P hint T n b tm' hp' Q
  | e=>Q e tm' hp'):vcE P hint T n (.seq a b) tm hp Q:=vcE.seq (h.mono k)
theorem vcE.step {P:Program} {hint:Nat→Nat} {T:Tab} {n:Nat} {a b:IC} {tm tm':Env} {hp hp':HP} {Q:Exit→Env→HP→Prop} (h:exC T a tm hp=some (.normal,tm',hp')) (k:vcE P hint T n b tm' hp' Q):vcE P hint T n (.seq a b) tm hp Q:=vcE.seq (vcE.ex h k)
theorem vcE.drawn {P:Program} {hint:Nat→Nat} {T:Tab} {n:Nat} {w:Cls} {is:List IOp} {t:Tr} {tm:Env} {hp:HP} {Q:Exit→Env→HP→Prop}
  (h:∀ l (Q':St→Prop),Is n tm l→(∀ tm' hp' l',Is n tm' l'→Q .normal tm' hp'→Q' ⟨l',hp'⟩)→TabOk P T→is.all (·.inR n)=true→vopsT P w is t ⟨l,hp⟩ Q'):vcE P hint T n (.regD w is t) tm hp Q:=by
 intro hm hT hs l Q' hl hq
 simp only[okS] at hs
 exact h l (fun st' => ∃ st'',RenOk hp.length st' st''∧Q' .normal st'') hl (fun tm' hp' l' h1 h2=>⟨_,RenOk.refl _ _,hq _ _ _ _ h1 h2⟩) hT hs
theorem vcE.app {P:Program} {hint:Nat→Nat} {T:Tab} {n:Nat} {is js:List IOp} {tm:Env} {hp:HP} {Q:Exit→Env→HP→Prop} (h:vcE P hint T n (.reg is) tm hp fun e tm' hp'=>e=.normal∧vcE P hint T n (.reg js) tm' hp' Q):vcE P hint T n (.reg (is++js)) tm hp Q:=by
 intro hm hT hs l Q' hl hq
 simp only[okS,List.all_append,qp] at hs
 have h1:=h hm hT hs.1 l (fun e st=>vops P js st (Q' .normal)) hl fun e tm' hp' l' hl' ⟨he,hk⟩=>hk hm hT hs.2 l' Q' hl' hq
 have key:∀ (is:List IOp) (st:St),vops P is st (fun st'=>vops P js st' (Q' .normal))→vops P (is++js) st (Q' .normal):=by
  intro is
  induction is with
  | nil=>exact fun st h=>h
  | cons o os ih =>
   intro st h
   simp only[qZ,vops] at h ⊢
   unfold vop at h ⊢
   by_cases hw:wantedA o.guard st.tm=true
   ·rw[if_pos hw] at h ⊢
    split at h
    ·split at h
     ·exact ih _ h
     ·exact h.imp (fun h=>⟨h.1,fun n=>ih _ (h.2 n)⟩) fun ⟨l,h1,h2⟩=>⟨l,h1,fun x hx=>ih _ (h2 x hx)⟩
    ·split at h
     ·exact h.mono fun _ _=>ih _
     ·exact h
   ·rw[if_neg hw] at h ⊢
    exact ih _ h
 exact key is _ h1
theorem vcE.hav {P:Program} {hint:Nat→Nat} {T:Tab} {n:Nat} {d:Option Nat} {xs:List Opd} {g:Option (Nat × Bool)} {tm:Env} {hp:HP} {Q:Exit→Env→HP→Prop} (hw:wantedE tm g=true) (hk:∀ m:Int,Q .normal (putE tm d (.int .i64 m)) hp):vcE P hint T n (.reg [⟨d,.op .hav,xs,g⟩]) tm hp Q:=by
 intro hm hT hs l Q' hl hq
 simp only[okS,List.all_cons,List.all_nil,xP,IOp.inR,qp] at hs
 obtain⟨⟨h1,h2⟩,h3⟩:=hs
 show vop P _ _ _
 unfold vop
 rw[if_pos (by rw[hl.wanted h3]; exact hw)]
 exact .inl ⟨rfl,fun m=>hq _ _ _ _ hl.put (hk m)⟩
theorem vcE.next {P:Program} {hint:Nat→Nat} {T:Tab} {n:Nat} {d:Option Nat} {xs:List Opd} {g:Option (Nat × Bool)} {tm:Env} {hp:HP} {Q:Exit→Env→HP→Prop} {it:AV} {l:List (AV × HP)} (hw:wantedE tm g=true) (he:evsE tm xs=[it]) (hd:nextDs hp it=some l) (hk:∀ x ∈ l,Q .normal (putE tm d x.1) x.2):vcE P hint T n (.reg [⟨d,.op .nextm,xs,g⟩]) tm hp Q:=by
 intro hm hT hs l' Q' hl hq
 simp only[okS,List.all_cons,List.all_nil,xP,IOp.inR,qp] at hs
 obtain⟨⟨h1,h2⟩,h3⟩:=hs
 show vop P _ _ _
 unfold vop
 rw[if_pos (by rw[hl.wanted h3]; exact hw)]
 have hev:evs l' xs=[it]:=by rw[hl.evs h1,he]
 simp only[hev,ROp.run]
 have hcase:=nextA_draws hd
 split
 ·rename_i v hp' hr
  exact hq _ _ _ _ hl.put (hk _ (hcase _ hr))
 ·exact .inr ⟨l,hd,fun x hx=>hq _ _ _ _ hl.put (hk x hx)⟩
theorem vcE.call {P:Program} {hint:Nat→Nat} {T:Tab} {n:Nat} {d:Option Nat} {xs:List Opd} {g:Option (Nat × Bool)} {tm:Env} {hp:HP} {Q:Exit→Env→HP→Prop} {f:FuncId} {caps ys:List AV} {K:AV→HP→Prop} (hw:wantedE tm g=true) (he:evsE tm xs=.func f caps :: ys) (hc:ACalls P f (ys++caps) hp K) (hk:∀ r hp',K r hp'→Q .normal (putE tm d r) hp'):vcE P hint T n (.reg [⟨d,.call none,xs,g⟩]) tm hp Q:=by
 intro hm hT hs l Q' hl hq
 simp only[okS,List.all_cons,List.all_nil,xP,IOp.inR,qp] at hs
 obtain⟨⟨h1,h2⟩,h3⟩:=hs
 show vop P _ _ _
 unfold vop
 rw[if_pos (by rw[hl.wanted h3]; exact hw)]
 simp only
 rw[hl.evs h1,he]
 exact Or.inl (hc.mono fun r hp' hr=>hq _ _ _ _ hl.put (hk r hp' hr))
def resE1 (tm:Env) (hp:HP):RV→Option AV
 | .t i=>some (tm i)
 | .cell i sh=>loadA hp sh (tm i)
def resEL (tm:Env) (hp:HP):List RV→Option (List AV)
 | []=>some []
 | r :: rs=>match resE1 tm hp r,resEL tm hp rs with
  | some a,some as=>some (a :: as)
  | _,_=>none
def resE (rs:List RV) (tm:Env) (hp:HP):Option AV:=
 match resEL tm hp rs with
 | some [a]=>some a
 | some as=>some (.tup as)
 | none=>none
def RetE (rs:List RV) (K:AV→HP→Prop):Exit→Env→HP→Prop
 | .normal,tm,hp | .ret,tm,hp => ∃ r,resE rs tm hp=some r∧K r hp
 | _,_,_=>False
def resR (n:Nat):RV→Bool
 | .t i | .cell i _=>decide (i<n)
theorem Is.resL {n:Nat} {tm:Env} {l:List AV} (h:Is n tm l) {hp:HP}:∀ {rs:List RV},rs.all (resR n)=true→Gi.resL ⟨l,hp⟩ rs=resEL tm hp rs
 | [],_=>rfl
 | r :: rs,hr=>by
  simp only[List.all_cons,qp] at hr
  have e:resA1 ⟨l,hp⟩ r=resE1 tm hp r:=by
   cases r with
   | t i=>simp only[resA1,resE1,h.2 i (by simpa[resR] using hr.1)]
   | cell i sh=>simp only[resA1,resE1,h.2 i (by simpa[resR] using hr.1)]
  simp only[Gi.resL,resEL,e,h.resL hr.2]
  rfl
def start (xs:List AV):Env:=fun i=>xs.getD i (.tup [])
theorem calls_k {P:Program} (hm:P.follows .mixedOrders=true) {T:Tab} (hT:TabOk P T) {hint:Nat→Nat} {f:FuncId} {c:IC} {n:Nat} {rs:List RV} (hf:compF P hint f=some ⟨c,n,rs⟩) (hkeys:KeysF P hint f) (hs:(okS n c && rs.all (resR n))=true) {xs:List AV} (hl:xs.length≤n) {hp:HP} {K:AV→HP→Prop}
  (h:vcE P hint T n c (start xs) hp (RetE rs K)):ACalls P f xs hp K:=by
 simp only[qp] at hs
 refine calls_vc hm hf hkeys (h hm hT hs.1 _ _ ⟨?_,?_⟩ ?_)
 ·simp; omega
 ·intro i hi
  simp only[start,qX,List.getElem?_append]
  split
  ·rfl
  ·rename_i hge
   rw[List.getElem?_eq_none (l:=xs) (by omega),List.getElem?_replicate]
   split<;>rfl
 ·intro e tm' hp' l' hl' h1
  cases e<;>simp only[RetE] at h1<;>try exact h1.elim
  all_goals
   obtain⟨r,h2,h3⟩:=h1
   refine⟨r,?_,h3⟩
   rw[← h2]
   simp only[resA,resE,hl'.resL hs.2]
   rfl
theorem calls_e {P:Program} (hm:P.follows .mixedOrders=true) {T:Tab} (hT:TabOk P T) {hint:Nat→Nat} {f:FuncId} {c:IC} {n:Nat} {rs:List RV} (hf:compF P hint f=some ⟨c,n,rs⟩) (hs:((okS n c && noR c) && rs.all (resR n))=true) {xs:List AV} (hl:xs.length≤n) {hp:HP} {K:AV→HP→Prop}
  (h:vcE P hint T n c (start xs) hp (RetE rs K)):ACalls P f xs hp K:=by
 simp only[qp] at hs
 exact calls_k hm hT hf (noR_keysF hf hs.1.2) (by simp only[qp]; exact⟨hs.1.1,hs.2⟩) hl h
theorem pc_e {P:Program} (hm:P.follows .mixedOrders=true) {T:Tab} (hT:TabOk P T) {hint:Nat→Nat} {f:FuncId} {c:IC} {n:Nat} {rs:List RV} (hf:compF P hint f=some ⟨c,n,rs⟩) (hs:((okS n c && noR c) && rs.all (resR n))=true) {xs:List AV} (hl:xs.length≤n) {r:AV} (hx:NoIdL xs)
  (h:vcE P hint T n c (start xs) [] (RetE rs fun r' hp'=>frz hp' r'=some r)):PC P f xs r:=
 pc_of hx ((calls_e hm hT hf hs hl h).mono fun _ _=>frz_ok)
theorem pcf_e {P:Program} (hm:P.follows .mixedOrders=true) {T:Tab} (hT:TabOk P T) {hint:Nat→Nat} {f:FuncId} {c:IC} {n:Nat} {rs:List RV} (hf:compF P hint f=some ⟨c,n,rs⟩) (hs:((okS n c && noR c) && rs.all (resR n))=true) {xs:List AV} (hl:xs.length≤n) {r:AV} (hx:NoIdL xs)
  (h:vcE P hint T n c (start xs) [] (RetE rs fun r' hp'=>fresh hp' r'=some r)):PCF P f xs r:=
 pcf_of hx ((calls_e hm hT hf hs hl h).mono fun _ _=>fresh_ok)
theorem start_app (xs:List AV) (i:Nat):start xs i=xs.getD i (.tup []):=rfl
theorem wrap_i64 {n:Int} (h1 : -9223372036854775808≤n) (h2:n≤9223372036854775807):qU .i64 n=n:=by
 have e:(2:Int) ^ 64=18446744073709551616:=by decide
 have e':(2:Int) ^ (64 - 1)=9223372036854775808:=by decide
 simp only[qU,za,IntKind.signed,Bool.true_and,decide_eq_true_eq,e,e']
 split<;>omega
theorem wrap_u8 {n:Int} (h1:0≤n) (h2:n≤255):qU .u8 n=n:=by
 simp only[qU,za,IntKind.signed]
 simp
 omega
theorem dec_true {p:Prop} [Decidable p] (h:p):decide p=true:=decide_eq_true h
theorem dec_false {p:Prop} [Decidable p] (h:¬ p):decide p=false:=decide_eq_false h
theorem iaddr_fsl {sz len i:Nat} {cs:List AV} {k:IntKind} (hc:cs≠[]) (h:i<len):iaddrA sz (.fsl cs len) (.int k (i:Int))=some (.fptr cs (i*sz)):=by
 simp only[iaddrA]
 rw[if_pos ⟨hc,by omega,by omega⟩,Int.toNat_natCast]
abbrev mv (d s:Nat):IOp:=⟨some d,.op .mov,[.t s],none⟩
abbrev o1 (d:Nat) (r:ROp) (xs:List Opd):IOp:=⟨some d,.op r,xs,none⟩
abbrev o2 (d:Nat) (r:ROp) (xs:List Opd) (g:Nat) (b:Bool):IOp:=⟨some d,.op r,xs,some (g,b)⟩
abbrev ca (d:Nat) (xs:List Opd):IOp:=⟨some d,.call none,xs,none⟩
abbrev sr (n:Nat) (xs:List Opd):IOp:=⟨none,.op (.store n),xs,none⟩
abbrev z1 (d:Nat) (r:ROp) (x:Nat):IOp:=o1 d r [.t x]
abbrev z2 (d:Nat) (r:ROp) (x y:Nat):IOp:=o1 d r [.t x,.t y]
abbrev zk (d:Nat) (r:ROp) (x:Nat) (v:AV):IOp:=o1 d r [.t x,.c v]
theorem vcE.e0 {P:Program} {hint:Nat→Nat} {T:Tab} {n:Nat} {ic:IC} {tm tm':Env} {hp hp':HP} {e:Exit} {Q:Exit→Env→HP→Prop} (k:Q e tm' hp') (h:exC T ic tm hp=some (e,tm',hp'):=by simp (disch:=first|assumption|omega) only[go_sem,↓reduceIte,Nat.reduceEqDiff,reduceCtorEq,Nat.reduceAdd,Nat.reduceLeDiff]; rfl):vcE P hint T n ic tm hp Q:=vcE.ex h k
theorem vcE.s0 {P:Program} {hint:Nat→Nat} {T:Tab} {n:Nat} {a b:IC} {tm tm':Env} {hp hp':HP} {Q:Exit→Env→HP→Prop} (k:vcE P hint T n b tm' hp' Q) (h:exC T a tm hp=some (.normal,tm',hp'):=by simp (disch:=first|assumption|omega) only[go_sem,↓reduceIte,Nat.reduceEqDiff,reduceCtorEq,Nat.reduceAdd,Nat.reduceLeDiff]; rfl):vcE P hint T n (.seq a b) tm hp Q:=vcE.step h k
theorem vcE.e1 {P:Program} {hint:Nat→Nat} {T:Tab} {n:Nat} {ic:IC} {tm tm':Env} {hp hp':HP} {e:Exit} {Q:Exit→Env→HP→Prop} (h:exC T ic tm hp=some (e,tm',hp'):=by simp (disch:=first|assumption|omega) only[go_sem,↓reduceIte,Nat.reduceEqDiff,reduceCtorEq,Nat.reduceAdd,Nat.reduceLeDiff]; rfl) (k:Q e tm' hp'):vcE P hint T n ic tm hp Q:=vcE.ex h k
theorem vcE.s1 {P:Program} {hint:Nat→Nat} {T:Tab} {n:Nat} {a b:IC} {tm tm':Env} {hp hp':HP} {Q:Exit→Env→HP→Prop} (h:exC T a tm hp=some (.normal,tm',hp'):=by simp (disch:=first|assumption|omega) only[go_sem,↓reduceIte,Nat.reduceEqDiff,reduceCtorEq,Nat.reduceAdd,Nat.reduceLeDiff]; rfl) (k:vcE P hint T n b tm' hp' Q):vcE P hint T n (.seq a b) tm hp Q:=vcE.step h k
end
section
set_option linter.unusedSectionVars false
variable [Mx]
open Go
structure Enc (α:Type) where
 c:α→List AV
 sz:Nat
 pos:0<sz
 len:∀ a,(c a).length=sz
 nd:∀ a,nidL (c a)=true
 ip:Bool
 pl:ip=true→∀ a,plainL (c a)=true
 fz:∀ hp a,frzL hp (c a)=some (c a)
 dec:List AV→Option α
 dec_c:∀ a,dec (c a)=some a
 dec_some:∀ cs a,dec cs=some a→cs=c a
variable {α:Type}
def Enc.cs (E:Enc α):List α→List AV
 | []=>[]
 | a :: l=>E.c a++E.cs l
theorem Enc.cs_len (E:Enc α):∀ l:List α,(E.cs l).length=l.length*E.sz
 | []=>by simp[Enc.cs]
 | a :: l=>by
  simp only[Enc.cs,qo,E.len,E.cs_len l,qr,Nat.succ_mul]
  omega
theorem Enc.cs_app (E:Enc α):∀ l m:List α,E.cs (l++m)=E.cs l++E.cs m
 | [],m=>rfl
 | a :: l,m=>by simp only[qZ,Enc.cs,E.cs_app l m,qV]
theorem plainL_app:∀ {as bs:List AV},plainL as=true→plainL bs=true→plainL (as++bs)=true
 | [],bs,_,h=>h
 | a :: as,bs,h,k=>by
  simp only[plainL,qp,qZ] at h ⊢
  exact⟨h.1,plainL_app h.2 k⟩
mutual
theorem plain_nid:∀ {a:AV},plain a=true→nid a=true
 | .int _ _,_ | .bool _,_ | .str _,_ | .nilp,_ | .nils,_ | .esl,_ | .enn,_ | .nilm,_ | .nilf,_ | .nili,_ | .unk,_=>by simp only[nid]
 | .ptr _ _,h | .sl ..,h | .map _,h | .fptr _ _,h | .yld _,h=>by simp[plain] at h
 | .fsl cs n,h=>by
  simp only[plain,List.isEmpty_iff] at h
  subst h
  rfl
 | .func _ cs,h=>by simp only[plain] at h; simp only[nid]; exact plainL_nid h
 | .bound _ cs,h=>by simp only[plain] at h; simp only[nid]; exact plainL_nid h
 | .agg cs,h=>by simp only[plain] at h; simp only[nid]; exact plainL_nid h
 | .tup cs,h=>by simp only[plain] at h; simp only[nid]; exact plainL_nid h
 | .iface _ a,h=>by simp only[plain] at h; simp only[nid]; exact plain_nid h
theorem plainL_nid:∀ {as:List AV},plainL as=true→nidL as=true
 | [],_=>rfl
 | a :: as,h=>by
  simp only[plainL,qp] at h
  simp only[nidL,qp]
  exact⟨plain_nid h.1,plainL_nid h.2⟩
end
theorem Enc.cs_plain (E:Enc α) (hi:E.ip=true):∀ l:List α,plainL (E.cs l)=true
 | []=>rfl
 | a :: l=>plainL_app (E.pl hi a) (E.cs_plain hi l)
theorem nidL_app:∀ {as bs:List AV},nidL as=true→nidL bs=true→nidL (as++bs)=true
 | [],bs,_,h=>h
 | a :: as,bs,h,k=>by
  simp only[nidL,qp,qZ] at h ⊢
  exact⟨h.1,nidL_app h.2 k⟩
theorem Enc.cs_nid (E:Enc α):∀ l:List α,nidL (E.cs l)=true
 | []=>rfl
 | a :: l=>nidL_app (E.nd a) (E.cs_nid l)
theorem Enc.cs_drop (E:Enc α):∀ (l:List α) (i:Nat),(E.cs l).drop (i*E.sz)=E.cs (l.drop i)
 | [],i=>by simp[Enc.cs]
 | a :: l,0=>by simp
 | a :: l,i+1=>by
  simp only[Enc.cs,List.drop_succ_cons,Nat.succ_mul]
  rw[Nat.add_comm,← List.drop_drop,← E.len a,List.drop_left,E.len a]
  exact E.cs_drop l i
theorem Enc.cs_take (E:Enc α):∀ (l:List α) (i:Nat),(E.cs l).take (i*E.sz)=E.cs (l.take i)
 | [],i=>by simp[Enc.cs]
 | a :: l,0=>by simp[Enc.cs]
 | a :: l,i+1=>by
  simp only[Enc.cs,List.take_succ_cons,Nat.succ_mul]
  rw[Nat.add_comm,List.take_append,E.len a,Nat.add_sub_cancel_left,E.cs_take l i,xg (by rw[E.len a]; omega)]
theorem Enc.cs_at (E:Enc α) {l:List α} {i:Nat} {a:α} (h:l[i]? = some a):(E.cs l).drop (i*E.sz)=E.c a++E.cs (l.drop (i+1)):=by
 obtain⟨h1,h2⟩:=qf.1 h
 rw[E.cs_drop,List.drop_eq_getElem_cons h1,h2]
 rfl
theorem Enc.cs_ne (E:Enc α) {l:List α} (h:l≠[]):E.cs l≠[]:=by
 cases l with
 | nil=>exact absurd rfl h
 | cons a l =>
  intro h2
  have:=congrArg List.length h2
  simp only[Enc.cs,qo,E.len,qx] at this
  have:=E.pos
  omega
theorem Enc.pick (E:Enc α) {l:List α} {i:Nat} {a:α} (h:l[i]? = some a):pickA (some E.sz) (E.cs l) (i*E.sz)=some (.agg (E.c a)):=by
 have hl:=(qf.1 h).1
 have:(i+1)*E.sz≤l.length*E.sz:=xj _ hl
 rw[Nat.succ_mul] at this
 simp only[pickA]
 rw[if_pos (by rw[E.cs_len]; exact this),E.cs_at h,← E.len a,List.take_left]
theorem Enc.pick_part (E:Enc α) {l:List α} {i:Nat} {a:α} (h:l[i]? = some a) {sh:Option Nat} {o:Nat} (ho:o+sh.getD 1≤E.sz):pickA sh (E.cs l) (i*E.sz+o)=pickA sh (E.c a) o:=by
 have hl:=(qf.1 h).1
 have hm:(i+1)*E.sz≤l.length*E.sz:=xj _ hl
 rw[Nat.succ_mul] at hm
 have hd:(E.cs l).drop (i*E.sz+o)=(E.c a).drop o++E.cs (l.drop (i+1)):=by
  rw[← List.drop_drop,E.cs_at h,List.drop_append_of_le_length (by rw[E.len]; omega)]
 cases sh with
 | none =>
  simp only[Option.getD_none] at ho
  have e:(E.cs l)[i*E.sz+o]? = (E.c a)[o]?:=by
   rw[← List.head?_drop,hd,← List.head?_drop,List.head?_append]
   cases hq:((E.c a).drop o).head? with
   | none =>
    have:=List.head?_eq_none_iff.1 hq
    have:=congrArg List.length this
    simp only[xq,E.len,qx] at this
    omega
   | some x=>rfl
  simp only[pickA,e]
 | some n =>
  simp only[Option.getD_some] at ho
  simp only[pickA]
  rw[if_pos (by rw[E.cs_len]; omega),if_pos (by rw[E.len]; exact ho),hd,List.take_append_of_le_length (by rw[xq,E.len]; omega)]
theorem Enc.over_at (E:Enc α) {l:List α} {i:Nat} {a b:α} (h:l[i]? = some a) {o:Nat} {vs:List AV} (ho:o+vs.length≤E.sz) (hb:over (E.c a) o vs=E.c b):over (E.cs l) (i*E.sz+o) vs=E.cs (l.set i b):=by
 have hl:=(qf.1 h).1
 have hm:(i+1)*E.sz≤l.length*E.sz:=xj _ hl
 rw[Nat.succ_mul] at hm
 have e1:E.cs l=E.cs (l.take i)++(E.c a++E.cs (l.drop (i+1))):=by
  rw[← E.cs_at h,← E.cs_take,xE]
 have e2:E.cs (l.set i b)=E.cs (l.take i)++(E.c b++E.cs (l.drop (i+1))):=by
  rw[List.set_eq_take_append_cons_drop,if_pos hl,E.cs_app]
  rfl
 have ht:(E.cs (l.take i)).length=i*E.sz:=by rw[E.cs_len,List.length_take,Nat.min_eq_left (by omega)]
 rw[e2,← hb,e1]
 simp only[over]
 have hca:=E.len a
 have k1:(E.cs (l.take i)++(E.c a++E.cs (l.drop (i+1)))).take (i*E.sz+o)=E.cs (l.take i)++(E.c a).take o:=by
  rw[List.take_append,ht,xg (by omega),Nat.add_sub_cancel_left,List.take_append_of_le_length (by omega)]
 have k2:(E.cs (l.take i)++(E.c a++E.cs (l.drop (i+1)))).drop (i*E.sz+o+vs.length)=(E.c a).drop (o+vs.length)++E.cs (l.drop (i+1)):=by
  rw[List.drop_append,ht,List.drop_eq_nil_of_le (by omega),show i*E.sz+o+vs.length - i*E.sz=o+vs.length by omega,List.drop_append_of_le_length (by omega),qz]
 rw[k1,k2]
 simp only[qV]
theorem Enc.over_el (E:Enc α) {l:List α} {i:Nat} {a b:α} (h:l[i]? = some a):over (E.cs l) (i*E.sz) (E.c b)=E.cs (l.set i b):=by
 have:=E.over_at (b:=b) h (o:=0) (vs:=E.c b) (by rw[E.len]; omega) (by
  simp only[over,List.take_zero,qz,Nat.zero_add]
  rw[List.drop_eq_nil_of_le (by rw[E.len,E.len]; omega),qt])
 simpa using this
def Enc.S (E:Enc α) (l:List α):AV:=.fsl (E.cs l) l.length
def osl (id len sz:Nat):AV:=if len=0 then .esl else .sl id 0 len sz len false
theorem Enc.S_len (E:Enc α) (hp:HP) (l:List α):lenA hp (E.S l)=some (.int .i64 l.length):=rfl
theorem Enc.S_fits (E:Enc α) (l:List α):lenFits .slice (E.S l)=true:=rfl
theorem Enc.S_nid (E:Enc α) (l:List α):nid (E.S l)=true:=by simp only[Enc.S,nid,E.cs_nid]
theorem Enc.S_frz (E:Enc α) (hp:HP) (l:List α):frz hp (E.S l)=some (E.S l):=by simp only[Enc.S,frz,E.cs_nid,if_true]
theorem Enc.S_src (E:Enc α) (hp:HP) (l:List α):srcA hp E.sz (E.S l)=some (E.cs l,l.length):=by simp only[Enc.S,srcA,E.cs_len,if_true]
theorem Enc.S_iaddr (E:Enc α) {l:List α} {i:Nat} {k:IntKind} (h:i<l.length):iaddrA E.sz (E.S l) (.int k (i:Int))=some (.fptr (E.cs l) (i*E.sz)):=
 iaddr_fsl (E.cs_ne (by intro h0; subst h0; simp at h)) h
theorem osl_len (hp:HP) (id len sz:Nat):lenA hp (osl id len sz)=some (.int .i64 len):=by
 unfold osl
 split
 ·rename_i h; subst h; rfl
 ·rfl
theorem osl_fits (id len sz:Nat):lenFits .slice (osl id len sz)=true:=by
 unfold osl
 split<;>rfl
theorem osl_one (id len sz:Nat):oneA (osl id len sz)=true:=by
 unfold osl
 split<;>rfl
theorem osl_cells (id len sz:Nat):cellsA (osl id len sz)=[osl id len sz]:=by
 unfold osl
 split<;>rfl
def Enc.decL (E:Enc α):Nat→List AV→Option (List α)
 | 0,[]=>some []
 | 0,_ :: _=>none
 | n+1,cs=>match E.dec (cs.take E.sz),E.decL n (cs.drop E.sz) with
  | some a,some l=>some (a :: l)
  | _,_=>none
theorem Enc.decL_cs (E:Enc α):∀ l:List α,E.decL l.length (E.cs l)=some l
 | []=>rfl
 | a :: l=>by
  simp only[qr,Enc.decL,Enc.cs]
  rw[← E.len a,List.take_left,List.drop_left,E.dec_c,E.decL_cs l]
theorem Enc.decL_some (E:Enc α):∀ {n:Nat} {cs:List AV} {l:List α},E.decL n cs=some l→cs=E.cs l∧n=l.length
 | 0,[],l,h=>by
  simp only[Enc.decL,qd] at h
  subst h
  exact⟨rfl,rfl⟩
 | 0,_ :: _,l,h=>by simp[Enc.decL] at h
 | n+1,cs,l,h=>by
  simp only[Enc.decL] at h
  split at h
  ·rename_i a l' h1 h2
   simp only[qd] at h
   subst h
   obtain⟨h3,h4⟩:=E.decL_some h2
   have h5:=E.dec_some _ _ h1
   refine⟨?_,by simp[h4]⟩
   simp only[Enc.cs]
   rw[← h5,← h3,xE]
  ·cases h
def Enc.un (E:Enc α):AV→Option (List α)
 | .fsl cs len=>E.decL len cs
 | _=>none
theorem Enc.un_S (E:Enc α) (l:List α):E.un (E.S l)=some l:=E.decL_cs l
theorem Enc.un_some (E:Enc α) {v:AV} {l:List α} (h:E.un v=some l):v=E.S l:=by
 cases v<;>simp only[Enc.un,reduceCtorEq] at h
 obtain⟨h1,h2⟩:=E.decL_some h
 rw[h1,h2]
 rfl
end
end Go.Gi
