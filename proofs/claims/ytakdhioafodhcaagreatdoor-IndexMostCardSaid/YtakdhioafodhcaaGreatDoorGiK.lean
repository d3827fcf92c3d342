/- Regions: operations and calls one after the other, and in whatever order the model draws. -/
import Derived.Test.YtakdhioafodhcaaGreatDoorGiJ
import Derived.OrdersIn
import Derived.RangeFuncCalls
set_option linter.unusedVariables false
set_option linter.unusedSimpArgs false
namespace Go.Gi
open _root_.List.cons renaming injEq → xc
open _root_.Option renaming map_some → qh
open _root_.Option.some renaming injEq → qd
open _root_.Prod.mk renaming injEq → qj
set_option linter.unusedSectionVars false
variable [Mx]
open Go
def loopsIn:Code→List LC
 | .seq a b | .cond _ a b=>loopsIn a++loopsIn b
 | .block _ c | .loop c | .scope c=>loopsIn c
 | .rangeFunc _ ps a b=>⟨ps,a,b⟩ :: (loopsIn a++loopsIn b)
 | _=>[]
def lcP (P:Program) (key:Nat):LC:=
 match (P.funcs[key / 1000]?).bind (·.body) with
 | some c=>(loopsIn c).getD (key % 1000) ⟨#[],.skip,.skip⟩
 | none=>⟨#[],.skip,.skip⟩
def ACalls (P:Program) (g:FuncId) (xs:List AV) (hp:HP) (K:AV→HP→Prop):Prop:=
 (∃ fn, P.funcs[g]? = some fn ∧ (fn.name == "runtime.NumGoroutine") = false ∧ fn.body.isNone = false) ∧
 ∀ (Γ:Cx) (vs:List Value),HSim Γ hp→Γ.lc=lcP P→VRels Γ xs vs→Calls P g ⟨vs⟩ Γ.w fun e w' => ∃ v r hp' Δ,e=.returned v∧Δ.w=w'∧VRel Δ r v∧HSim Δ hp'∧Ev Γ hp Δ hp'∧K r hp'
theorem ACalls.mono {P:Program} {g:FuncId} {xs:List AV} {hp:HP} {K K':AV→HP→Prop} (h:ACalls P g xs hp K) (hk:∀ r hp',K r hp'→K' r hp'):ACalls P g xs hp K':=
 ⟨h.1,fun Γ vs h1 hl h2=>Calls.mono (h.2 Γ vs h1 hl h2) fun e w' ⟨v,r,hp',Δ,h3,h4,h5,h6,h7,h8⟩=>⟨v,r,hp',Δ,h3,h4,h5,h6,h7,hk r hp' h8⟩⟩
def Fw:Option Nat→Fence
 | none=>Fence.wide
 | some l=>Fence.wide.inRound l
theorem Fw_fn (r:Option Nat) (f:FuncId):(Fw r).fn f:=by cases r<;>trivial
theorem Fw_depth (r:Option Nat):(Fw r).depth.isSome=true→1≤0:=by cases r<;>(intro h; cases h)
theorem Fw_round (r:Option Nat):(Fw r).round=r:=by cases r<;>rfl
theorem Fw_calls (r:Option Nat) {n:Nat} {P:Program} {f:FuncId} {args:Array Value} {w:World} {R:Ending→World→Prop} (h:Calls P f args w R):CallsIn (Fw r) n P f args w R:=by
 cases r with
 | none=>exact callsIn_wide.2 h
 | some l=>exact (callsIn_wide.2 h).inRound l
def AExt (P:Program) (g:FuncId) (xs:List AV) (hp:HP) (K:AV→HP→Prop):Prop:=
 ∀ (Γ:Cx) (vs:List Value),HSim Γ hp→Γ.lc=lcP P→VRels Γ xs vs→∃ v r hp' Δ,(callFunc g ⟨vs⟩).run P Γ.w=.ok (.value v) Δ.w∧VRel Δ r v∧HSim Δ hp'∧Ev Γ hp Δ hp'∧K r hp'
theorem AExt.mono {P:Program} {g:FuncId} {xs:List AV} {hp:HP} {K K':AV→HP→Prop} (h:AExt P g xs hp K) (hk:∀ r hp',K r hp'→K' r hp'):AExt P g xs hp K':=fun Γ vs h1 hl h2 =>
 let ⟨v,r,hp',Δ,h3,h4,h5,h6,h7⟩:=h Γ vs h1 hl h2
 ⟨v,r,hp',Δ,h3,h4,h5,h6,hk r hp' h7⟩
def ARound (P:Program) (id:Nat) (xs:List AV) (hp:HP) (K:AV→HP→Prop):Prop:=
 ∀ (q:Option Nat) (Γ:Cx) (vs:List Value),HSim Γ hp→Γ.lc=lcP P→VRels Γ xs vs→id<Γ.n→∃ f tmps assign body,(Instr.yield (Γ.β id).1 ⟨vs⟩).run P Γ.w=.ok (.round (Γ.β id).1 f tmps assign body) Γ.w ∧
  RoundIn (Fw q) 0 P (Γ.β id).1 f tmps assign body Γ.w fun e w' => ∃ v r hp' Δ,e=.returned v∧Δ.w=w'∧VRel Δ r v∧HSim Δ hp'∧Ev Γ hp Δ hp'∧K r hp'
theorem ARound.mono {P:Program} {id:Nat} {xs:List AV} {hp:HP} {K K':AV→HP→Prop} (h:ARound P id xs hp K) (hk:∀ r hp',K r hp'→K' r hp'):ARound P id xs hp K':=fun q Γ vs h1 hl h2 h3 =>
 let ⟨f,t,a,b,h4,h5⟩:=h q Γ vs h1 hl h2 h3
 ⟨f,t,a,b,h4,h5.mono fun e w' ⟨v,r,hp',Δ,k3,k4,k5,k6,k7,k8⟩=>⟨v,r,hp',Δ,k3,k4,k5,k6,k7,hk r hp' k8⟩⟩
def ACallV (P:Program) (fv:AV) (xs:List AV) (hp:HP) (K:AV→HP→Prop):Prop:=
 match fv with
 | .func g caps=>ACalls P g (xs++caps) hp K∨AExt P g (xs++caps) hp K
 | .bound g first=>ACalls P g (first++xs) hp K
 | .yld id=>ARound P id xs hp K
 | _=>False
theorem ACallV.mono {P:Program} {fv:AV} {xs:List AV} {hp:HP} {K K':AV→HP→Prop} (h:ACallV P fv xs hp K) (hk:∀ r hp',K r hp'→K' r hp'):ACallV P fv xs hp K':=by
 cases fv<;>simp only[ACallV] at h ⊢
 ·exact h.imp (·.mono hk) (·.mono hk)
 ·exact h.mono hk
 ·exact h.mono hk
def mfind:List (Nat × Nat)→Nat→Option Nat
 | [],_=>none
 | (a,b) :: l,n=>cond (Nat.beq a n) (some b) (mfind l n)
theorem mfind_mem:∀ {l:List (Nat × Nat)} {n f:Nat},mfind l n=some f→(n,f) ∈ l
 | (a,b) :: l,n,f,h=>by
  simp only[mfind] at h
  cases hb:Nat.beq a n<;>rw[hb] at h
  ·exact List.mem_cons_of_mem _ (mfind_mem h)
  ·cases h
   rw[Nat.eq_of_beq_eq_true hb]
   exact List.mem_cons_self
def meth (ms:Option (List (Nat × Nat))) (fv:AV):AV:=
 match ms with
 | none=>fv
 | some l=>match fv with
  | .iface t v=>match mfind l t with
   | some f=>.bound f [v]
   | none=>.nilf
  | _=>.nilf
def isPtr:TypeDesc→Bool
 | .pointer _=>true
 | _=>false
def methAt (P:Program) (name:String) (t:Nat):Option Nat:=
 match P.info? t with
 | some i=>match i.methods.find? (·.name == name),P.underlying t with
  | some m,some u=>match m.path.toList,m.func with
   | [],some (f,p)=>cond (p == isPtr u) (some f) none
   | _,_=>none
  | _,_=>none
 | none=>none
def methsP (P:Program) (name:String):List (Nat × Nat):=
 (List.range P.types.size).filterMap fun t=>(methAt P name t).map fun f=>(t,f)
theorem methsP_mem {P:Program} {name:String} {t f:Nat} (h:(t,f) ∈ methsP P name):methAt P name t=some f:=by
 unfold methsP at h
 obtain⟨a,_,h⟩:=List.mem_filterMap.1 h
 cases hm:methAt P name a with
 | none=>simp[hm] at h
 | some g=>simp only[hm,qh,qd,qj] at h; obtain⟨rfl,rfl⟩:=h; exact hm
theorem methAt_run {P:Program} {name:String} {t f:Nat} (h:methAt P name t=some f) (n:Nat) (v:Value) (w:World):(method (n+1) t v name).run P w=.ok (f,v) w:=by
 unfold methAt at h
 split at h
 ·rename_i i hi
  split at h
  ·rename_i m u hm hu
   split at h
   ·rename_i f' p hp hf
    cases hb:(p == isPtr u)<;>rw[hb] at h
    ·cases h
    ·cases h
     have hti:(typeInfo t).run P w=.ok i w:=by simp[typeInfo,hi]
     unfold method
     simp only[Sem.run_bind,hti,Result.andThen_ok,hm,hp,follow,hf,receiverAt,run_underlying hu,Sem.run_pure]
     cases u<;>cases p<;>first|exact (Bool.false_ne_true hb).elim|simp[Place.get]
   ·cases h
  ·cases h
 ·cases h
inductive IK where
 | op (r:ROp)
 | call (ms:Option (List (Nat × Nat)))
structure IOp where
 dst:Option Nat
 k:IK
 args:List Opd
 guard:Option (Nat × Bool)
def wantedA (g:Option (Nat × Bool)) (tm:List AV):Bool:=
 match g with
 | none=>true
 | some (t,b)=>match tm.getD t (.tup []) with
  | .bool c=>c == b
  | _=>false
def putA (tm:List AV) (d:Option Nat) (v:AV):List AV:=
 match d with
 | none=>tm
 | some i=>tm.set i v
def evs (tm:List AV) (xs:List Opd):List AV:=xs.map (·.ev tm)
def compOper0 (P:Program) (fz:Bool) (ops:Array Oper) (o:Oper):Option IOp:=
 let g:Option (Option (Nat × Bool)):=match o.guard with
  | none=>some none
  | some (j,want)=>match (ops[j]?).bind (·.dst) with
   | some t=>some (some (t,want))
   | none=>none
 match g with
 | none=>none
 | some g=>match o.op with
  | .call { callee:=.value f,args,.. }=>(opdsP (f :: args.toList)).map fun ys=>⟨o.dst,.call none,ys,g⟩
  | .call { callee:=.invoke f name,args,.. }=>(opdsP (f :: args.toList)).map fun ys=>⟨o.dst,.call (some (methsP P name)),ys,g⟩
  | op=>match compOp P fz op with
   | some (r,xs)=>(opdsP xs).map fun ys=>⟨o.dst,.op r,ys,g⟩
   | none=>none
def havP (P:Program):Op→Bool
 | .load t (.global g)=>globalsI.contains g && (match shapeP P t with
  | some none=>true
  | _=>false)
 | _=>false
def compOper (P:Program) (fz:Bool) (ops:Array Oper) (o:Oper):Option IOp:=
 match compOper0 P fz ops o with
 | some i=>some i
 | none=>match (match o.guard with
  | none=>some none
  | some (j,want)=>match (ops[j]?).bind (·.dst) with
   | some t=>some (some (t,want))
   | none=>none:Option (Option (Nat × Bool))) with
  | some g=>some ⟨o.dst,.op (cond (havP P o.op) .hav .never),[],g⟩
  | none=>none
def compOps (P:Program) (fz:Bool) (ops:Array Oper):List Oper→Option (List IOp)
 | []=>some []
 | o :: os=>match compOper P fz ops o,compOps P fz ops os with
  | some i,some is=>some (i :: is)
  | _,_=>none
theorem compOps_get {P:Program} {fz:Bool} {ops:Array Oper}:∀ {os:List Oper} {is:List IOp},compOps P fz ops os=some is→is.length=os.length∧∀ (j:Nat) (o:Oper) (i:IOp),os[j]? = some o→is[j]? = some i→compOper P fz ops o=some i
 | [],is,h=>by simp only[compOps,qd] at h; subst h; simp
 | o :: os,is,h=>by
  simp only[compOps] at h
  split at h
  ·rename_i i is' h1 h2
   simp only[qd] at h
   subst h
   obtain⟨k1,k2⟩:=compOps_get h2
   refine⟨by simp[k1],fun j o' i' ho hi=>?_⟩
   cases j with
   | zero=>simp at ho hi; subst ho hi; exact h1
   | succ j=>exact k2 j o' i' (by simpa using ho) (by simpa using hi)
  ·cases h
theorem SSim.put {Γ Δ:Cx} {st:St} {a:Act} {hp':HP} (hs:SSim Γ st a) (hd:HSim Δ hp') (he:Ev Γ st.hp Δ hp') {d:Option Nat} {v:AV} {u:Value} (hv:VRel Δ v u):SSim Δ ⟨putA st.tm d v,hp'⟩ (a.put d u):=by
 have ht:=hs.tm.le he.le
 cases d with
 | none=>exact⟨ht,hd,hs.df.ev he⟩
 | some i =>
  refine⟨?_,hd,hs.df.ev he⟩
  simp only[putA,Act.put]
  have:=VRels.set hv ht i
  simpa using this
theorem wanted_rel {Γ:Cx} {st:St} {a:Act} (hs:SSim Γ st a) {ops:Array Oper} {o:Oper} {g:Option (Nat × Bool)} (hg:(match o.guard with
  | none=>some none
  | some (j,want)=>match (ops[j]?).bind (·.dst) with
   | some t=>some (some (t,want))
   | none=>none)=some g):Region.wanted o (yielded ops a.tmps)=wantedA g st.tm:=by
 unfold Region.wanted
 cases ho:o.guard with
 | none=>rw[ho] at hg; simp only[qd] at hg; subst hg; rfl
 | some jw =>
  obtain⟨j,want⟩:=jw
  rw[ho] at hg
  simp only at hg
  split at hg
  ·rename_i t ht
   simp only[qd] at hg
   subst hg
   have hrel:=hs.tm.get t
   simp only[wantedA,yielded,ht,Option.bind_some]
   rw[List.getD_eq_getElem?_getD (l:=a.tmps.toList)] at hrel
   have hget:a.tmps.toList[t]? = a.tmps[t]?:=by simp
   rw[hget] at hrel
   cases hx:st.tm.getD t (.tup [])<;>rw[hx] at hrel<;>cases hy:a.tmps[t]? <;> rw[hy] at hrel<;>simp only[Option.getD_some,Option.getD_none,VRel,undef,reduceCtorEq,Value.tuple.injEq] at hrel
   case bool.some b u=>subst hrel; cases b<;>cases want<;>rfl
   case fsl.some=>rcases hrel with ⟨rfl|⟨_,rfl⟩,_⟩|⟨_,_,_,rfl,_⟩<;>rfl
   case esl.some=>rcases hrel with rfl|⟨_,rfl⟩<;>rfl
   case enn.some=>obtain⟨_,_,rfl,_⟩:=hrel; rfl
   case unk.some=>obtain⟨_,_,rfl⟩:=hrel; rfl
   all_goals first
    | rfl
    | (obtain⟨_,rfl⟩:=hrel; rfl)
    | (obtain⟨_,_,rfl,_⟩:=hrel; rfl)
    | (obtain⟨_,_,_,_,_,rfl,_⟩:=hrel; rfl)
    | (obtain⟨_,_,_,rfl,_⟩:=hrel; rfl)
    | (obtain⟨_,rfl,_⟩:=hrel; rfl)
    | (subst hrel; rfl)
  ·cases hg
def vop (P:Program) (o:IOp) (st:St) (K:St→Prop):Prop:=
 if wantedA o.guard st.tm then
  match o.k with
  | .op r=>match r.run (evs st.tm o.args) st.hp with
   | some (v,hp')=>K ⟨putA st.tm o.dst v,hp'⟩
   | none=>(r.isHav=true∧∀ n:Int,K ⟨putA st.tm o.dst (.int .i64 n),st.hp⟩)∨∃ l,r.draws (evs st.tm o.args) st.hp=some l∧∀ x ∈ l,K ⟨putA st.tm o.dst x.1,x.2⟩
  | .call ms=>match evs st.tm o.args with
   | fv :: xs=>ACallV P (meth ms fv) xs st.hp fun v hp'=>K ⟨putA st.tm o.dst v,hp'⟩
   | _=>False
 else K ⟨putA st.tm o.dst (.tup []),st.hp⟩
def vops (P:Program):List IOp→St→(St→Prop)→Prop
 | [],st,Q=>Q st
 | o :: os,st,Q=>vop P o st fun st'=>vops P os st' Q
def Post (Γ:Cx) (hp:HP) (Q:Exit→St→Prop):Exit→Act→World→Prop:=
 fun e a w => ∃ Δ st,Δ.w=w∧SSim Δ st a∧Ev Γ hp Δ st.hp∧Q e st
theorem undef_rel (Γ:Cx):VRel Γ (.tup []) undef:=by simp[VRel,VRels,undef]
theorem compConv_nohav {P:Program} {s d:TypeId} {r:ROp} (h:compConv P s d=some r):r.isHav=false:=by
 unfold compConv at h
 repeat' split at h
 all_goals first|cases h; rfl|cases h
theorem compBuiltin_nohav {P:Program} {b:Builtin} {ts:List TypeId} {r:ROp} (h:compBuiltin P b ts=some r):r.isHav=false:=by
 unfold compBuiltin at h
 repeat' split at h
 all_goals (simp only[Option.map_eq_some_iff,qd,reduceCtorEq] at h)
 all_goals first|(subst h; rfl)|(obtain⟨_,_,rfl⟩:=h; rfl)
theorem compOp_nohav {P:Program} {fz:Bool} {o:Op} {r:ROp} {xs:List Operand} (h:compOp P fz o=some (r,xs)):r.isHav=false:=by
 unfold compOp at h
 repeat' split at h
 all_goals (simp only[Option.map_eq_some_iff,qd,reduceCtorEq,qj] at h)
 all_goals first|(obtain⟨rfl,_⟩:=h; rfl)|(obtain⟨_,h1,rfl,_⟩:=h; first|rfl|exact compConv_nohav h1|exact compBuiltin_nohav h1)
theorem compConv_nonext {P:Program} {s d:TypeId} {r:ROp} (h:compConv P s d=some r):r.isNext=false:=by
 unfold compConv at h
 repeat' split at h
 all_goals first|cases h; rfl|cases h
theorem compBuiltin_nonext {P:Program} {b:Builtin} {ts:List TypeId} {r:ROp} (h:compBuiltin P b ts=some r):r.isNext=false:=by
 unfold compBuiltin at h
 repeat' split at h
 all_goals (simp only[Option.map_eq_some_iff,qd,reduceCtorEq] at h)
 all_goals first|(subst h; rfl)|(obtain⟨_,_,rfl⟩:=h; rfl)
theorem compOp_next {P:Program} {fz:Bool} {o:Op} {r:ROp} {xs:List Operand} (h:compOp P fz o=some (r,xs)):r.isNext=false∨∃ it,o=.next it false∧xs=[it]:=by
 unfold compOp at h
 repeat' split at h
 all_goals (simp only[Option.map_eq_some_iff,qd,reduceCtorEq,qj] at h)
 all_goals first|(obtain⟨rfl,_⟩:=h; exact .inl rfl)|(obtain⟨_,h1,rfl,_⟩:=h; first|exact .inl rfl|exact .inl (compConv_nonext h1)|exact .inl (compBuiltin_nonext h1))|(obtain⟨rfl,rfl⟩:=h; exact .inr ⟨_,rfl,rfl⟩)
theorem compOp_draws {P:Program} {Γ:Cx} {st:St} {a:Act} (hs:SSim Γ st a) {fz:Bool} {o:Oper} {r:ROp} {ops:List Operand} {xs:List AV} (hc:compOp P fz o.op=some (r,ops)) (hx:VRels Γ xs (ops.map a.eval)) {l:List (AV × HP)} (hr:r.draws xs st.hp=some l):∃ x ∈ l,Gives P Γ st.hp (execOp a.eval o) x.1 x.2:=by
 rcases compOp_next hc with h|⟨it,ho,rfl⟩
 ·unfold ROp.draws at hr
  rw[h] at hr
  cases hr
 ·unfold ROp.draws at hr
  cases hn:r.isNext<;>rw[hn] at hr
  ·cases hr
  ·simp only[cond_true] at hr
   split at hr
   ·rename_i z
    obtain⟨u,hu,h1⟩:=hx.one'
    simp only[List.map_cons,List.map_nil,xc,and_true] at hu
    subst hu
    obtain⟨x,hx1,hx2⟩:=nextD_ok (P:=P) (ty:=o.type) hs.hp h1 hr
    refine⟨x,hx1,?_⟩
    unfold execOp
    rw[ho]
    exact hx2.gives
   ·cases hr
theorem havP_some {P:Program} {o:Op} (h:havP P o=true):∃ t g,o=.load t (.global g)∧g ∈ globalsI∧shapeP P t=some none:=by
 unfold havP at h
 split at h
 ·rename_i t g
  simp only[Bool.and_eq_true] at h
  refine⟨t,g,rfl,by simpa using h.1,?_⟩
  have:=h.2
  split at this
  ·assumption
  ·cases this
 ·cases h
theorem run_load_global {P:Program} {a:Act} {t:TypeId} {g:Nat} (hu:shapeP P t=some none) {w:World} {n:Int} (h:w.cell? ⟨g,0,none⟩=some (.int .i64 n)):(do pure (.value (← Instr.loadAt t (a.eval (.global g)))):Sem Next).run P w=.ok (.value (.int .i64 n)) w:=by
 have h0:(loadVar t ⟨g,0,none⟩).run P w=.ok (.int .i64 n) w:=by simp[loadVar,shapeP_one hu,h]
 simp[Act.eval,Instr.loadAt,Instr.sureAddr,h0]
theorem vop_sound0 {P:Program} {fz:Bool} {ops:Array Oper} {i:Nat} {o:Oper} (hi:ops[i]? = some o) {io:IOp} (hc:compOper0 P fz ops o=some io) {Γ:Cx} {st:St} {a:Act} (hs:SSim Γ st a) (hl:Γ.lc=lcP P) {K:St→Prop} (h:vop P io st K)
  {Q:Exit→Act→World→Prop} {K':Act→World→Prop} (r:Option Nat) (hk:∀ Δ st' a',SSim Δ st' a'→Ev Γ st.hp Δ st'.hp→K st'→K' a' Δ.w):wpOpIn (Fw r) 0 P ops Q i K' a Γ.w:=by
 have hnd:∀ c,o.op≠.defer c:=by
  intro c ho
  unfold compOper0 at hc
  simp only at hc
  split at hc
  ·cases hc
  ·rw[ho] at hc
   simp[compOp] at hc
 unfold wpOpIn
 simp only[hi]
 unfold compOper0 at hc
 simp only at hc
 split at hc
 ·cases hc
 ·rename_i g hg
  have hw:=wanted_rel hs hg
  have hguard:io.guard=g∧io.dst=o.dst:=by
   split at hc
   ·rename_i f args ts ho
    cases hy:opdsP (f :: args.toList) with
    | none=>simp[hy] at hc
    | some ys=>simp only[hy,qh,qd] at hc; subst hc; exact⟨rfl,rfl⟩
   ·rename_i f name args ts ho
    cases hy:opdsP (f :: args.toList) with
    | none=>simp[hy] at hc
    | some ys=>simp only[hy,qh,qd] at hc; subst hc; exact⟨rfl,rfl⟩
   ·split at hc
    ·rename_i r xs hr
     cases hy:opdsP xs with
     | none=>simp[hy] at hc
     | some ys=>simp only[hy,qh,qd] at hc; subst hc; exact⟨rfl,rfl⟩
    ·cases hc
  unfold vop at h
  rw[hguard.1,← hw,hguard.2] at h
  split
  ·rename_i hwant
   rw[if_pos hwant] at h
   refine⟨fun f _=>Fw_fn r f,?_⟩
   rw[Fw_round,Oper.semAt_eq r a.eval o hnd]
   split at hc
   ·rename_i f args ts ho
    cases hy:opdsP (f :: args.toList) with
    | none=>simp[hy] at hc
    | some ys =>
     simp only[hy,qh,qd] at hc
     subst hc
     simp only at h
     obtain⟨hrel,hlen⟩:=opds_rel hs.hp.gl hs.tm hy
     split at h
     ·rename_i fv xs hev
      have hrel':VRels Γ (fv :: xs) (a.eval f :: args.toList.map a.eval):=by
       rw[← hev]; exact hrel
      simp only[VRels,xc] at hrel'
      obtain⟨v,vs',⟨rfl,rfl⟩,hf,hxs⟩:=hrel'
      have hargs:args.map a.eval=⟨args.toList.map a.eval⟩:=by apply Array.ext'; simp
      have enter:∀ (g:FuncId) (ys:List AV) (us:List Value),VRels Γ ys us→(execOp a.eval o).run P Γ.w=(callFunc g ⟨us⟩).run P Γ.w→ACalls P g ys st.hp (fun v hp'=>K ⟨putA st.tm o.dst v,hp'⟩)→o.uponIn (Fw r) 0 P a K' Q ((execOp a.eval o).run P Γ.w):=by
       intro g ys us hu he ⟨⟨fn,hfn,hname,hbody⟩,hcall⟩
       have hn' : ¬ fn.name = "runtime.NumGoroutine" := by simpa using hname
       have hb':¬ fn.body=none:=by intro hb; rw[hb] at hbody; cases hbody
       have hrun:(callFunc g ⟨us⟩).run P Γ.w=.ok (.enter g ⟨us⟩) Γ.w:=by simp[callFunc,hfn,hn',hb']
       rw[he,hrun,Oper.uponIn_enter]
       refine⟨Fw_depth r,Fw_calls r (Calls.mono (hcall Γ us hs.hp hl hu) ?_)⟩
       rintro e w' ⟨v,u,hp',Δ,rfl,rfl,h5,h6,h7,h8⟩
       exact hk Δ _ _ (hs.put h6 h7 h5) h7 h8
      simp only[meth] at h
      cases fv<;>simp only[ACallV] at h
      case func gf caps =>
       simp only[VRel] at hf
       obtain⟨cvs,hf,hcs⟩:=hf
       have he:(execOp a.eval o).run P Γ.w=(callFunc gf ⟨args.toList.map a.eval++cvs⟩).run P Γ.w:=by
        unfold execOp
        rw[ho]
        simp only[resolve,hf,Deferred.ofValue,hargs]
        simp[invoke]
       rcases h with h|h
       ·exact enter gf _ _ (hxs.append hcs) he h
       ·obtain⟨v,u,hp',Δ,h3,h4,h5,h6,h7⟩:=h Γ _ hs.hp hl (hxs.append hcs)
        rw[he,h3,Oper.uponIn_value]
        exact hk Δ _ _ (hs.put h5 h6 h4) h6 h7
      case bound gf first =>
       simp only[VRel] at hf
       obtain⟨cvs,hf,hcs⟩:=hf
       have he:(execOp a.eval o).run P Γ.w=(callFunc gf ⟨cvs++args.toList.map a.eval⟩).run P Γ.w:=by
        unfold execOp
        rw[ho]
        simp only[resolve,hf,Deferred.ofValue,hargs]
        simp[invoke]
       exact enter gf _ _ (hcs.append hxs) he h
      case yld id =>
       simp only[VRel] at hf
       obtain⟨hid,hf⟩:=hf
       obtain⟨f',tmps,assign,body,h3,h4⟩:=h r Γ _ hs.hp hl hxs hid
       have he:(execOp a.eval o).run P Γ.w=(Instr.yield (Γ.β id).1 ⟨args.toList.map a.eval⟩).run P Γ.w:=by
        unfold execOp
        rw[ho]
        simp only[resolve,hf,Deferred.ofValue,hargs]
        simp[invoke]
       rw[he,h3,Oper.uponIn_round]
       refine⟨Fw_depth r,h4.mono ?_⟩
       rintro e w' ⟨v,u,hp',Δ,rfl,rfl,h5,h6,h7,h8⟩
       exact hk Δ _ _ (hs.put h6 h7 h5) h7 h8
     ·cases h
   ·rename_i f name args ts ho
    cases hy:opdsP (f :: args.toList) with
    | none=>simp[hy] at hc
    | some ys =>
     simp only[hy,qh,qd] at hc
     subst hc
     simp only at h
     obtain⟨hrel,hlen⟩:=opds_rel hs.hp.gl hs.tm hy
     split at h
     ·rename_i fv xs hev
      have hrel':VRels Γ (fv :: xs) (a.eval f :: args.toList.map a.eval):=by
       rw[← hev]; exact hrel
      simp only[VRels,xc] at hrel'
      obtain⟨v,vs',⟨rfl,rfl⟩,hf,hxs⟩:=hrel'
      have hargs:args.map a.eval=⟨args.toList.map a.eval⟩:=by apply Array.ext'; simp
      cases fv
      case iface t x =>
       simp only[meth] at h
       cases hg':mfind (methsP P name) t with
       | none=>rw[hg'] at h; exact False.elim h
       | some g' =>
        rw[hg'] at h
        simp only[ACallV] at h
        simp only[VRel] at hf
        obtain⟨u,hf,hu⟩:=hf
        obtain⟨⟨fn,hfn,hname,hbody⟩,hcall⟩:=h
        have hn' : ¬ fn.name = "runtime.NumGoroutine" := by simpa using hname
        have hb':¬ fn.body=none:=by intro hb; rw[hb] at hbody; cases hbody
        have hmr:=methAt_run (methsP_mem (mfind_mem hg'))
        have he:(execOp a.eval o).run P Γ.w=.ok (.enter g' ⟨u :: args.toList.map a.eval⟩) Γ.w:=by
         unfold execOp
         rw[ho]
         simp only[resolve,hf,hargs]
         have hd:∃ q,P.types.size+Made.depth=q+1:=⟨P.types.size+Made.depth - 1,by simp[Made.depth]⟩
         obtain⟨q,hq⟩:=hd
         have htk:List.take args.size (args.toList.map a.eval)=args.toList.map a.eval:=List.take_of_length_le (by simp)
         simp[invoke,callMethod,hq,hmr,callFunc,hfn,hn',hb',htk]
        rw[he,Oper.uponIn_enter]
        refine⟨Fw_depth r,Fw_calls r (Calls.mono (hcall Γ (u :: args.toList.map a.eval) hs.hp hl (by simp only[List.cons_append,List.nil_append,VRels]; exact⟨_,_,rfl,hu,hxs⟩)) ?_)⟩
        rintro e w' ⟨v,u,hp',Δ,rfl,rfl,h5,h6,h7,h8⟩
        exact hk Δ _ _ (hs.put h6 h7 h5) h7 h8
      all_goals exact False.elim h
     ·cases h
   ·split at hc
    ·rename_i rop xs hr
     cases hy:opdsP xs with
     | none=>simp[hy] at hc
     | some ys =>
      simp only[hy,qh,qd] at hc
      subst hc
      simp only at h
      obtain⟨hrel,_⟩:=opds_rel hs.hp.gl hs.tm hy
      split at h
      ·rename_i v hp' hrun
       obtain⟨u,Δ,h1,h2,h3,h4⟩:=compOp_ok hs hr hrel hrun
       rcases h1 with h1|⟨h1,rfl⟩
       ·rw[h1]
        exact hk Δ _ _ (hs.put h3 h4 h2) h4 h
       ·rw[h1]
        exact hk Δ _ _ (hs.put h3 h4 h2) h4 h
      ·rcases h with h|⟨l,hl1,hl2⟩
       ·exact absurd h.1 (by rw[compOp_nohav hr]; exact Bool.false_ne_true)
       ·obtain⟨x,hx1,u,Δ,h1,h2,h3,h4⟩:=compOp_draws hs hr hrel hl1
        rcases h1 with h1|⟨h1,rfl⟩
        ·rw[h1]
         exact hk Δ _ _ (hs.put h3 h4 h2) h4 (hl2 x hx1)
        ·rw[h1]
         exact hk Δ _ _ (hs.put h3 h4 h2) h4 (hl2 x hx1)
    ·cases hc
  ·rename_i hwant
   rw[if_neg hwant] at h
   exact⟨fun f _=>Fw_fn r f,hk Γ _ _ (hs.put hs.hp (Ev.refl _ _) (undef_rel Γ)) (Ev.refl _ _) h⟩
theorem vop_sound {P:Program} {fz:Bool} {ops:Array Oper} {i:Nat} {o:Oper} (hi:ops[i]? = some o) {io:IOp} (hc:compOper P fz ops o=some io) {Γ:Cx} {st:St} {a:Act} (hs:SSim Γ st a) (hl:Γ.lc=lcP P) {K:St→Prop} (h:vop P io st K)
  {Q:Exit→Act→World→Prop} {K':Act→World→Prop} (r:Option Nat) (hk:∀ Δ st' a',SSim Δ st' a'→Ev Γ st.hp Δ st'.hp→K st'→K' a' Δ.w):wpOpIn (Fw r) 0 P ops Q i K' a Γ.w:=by
 unfold compOper at hc
 split at hc
 ·rename_i i0 h0
  simp only[qd] at hc
  subst hc
  exact vop_sound0 hi h0 hs hl h r hk
 ·split at hc
  ·rename_i g hg
   simp only[qd] at hc
   subst hc
   have hw:=wanted_rel hs hg
   unfold vop at h
   rw[← hw] at h
   unfold wpOpIn
   simp only[hi]
   split
   ·rename_i hwant
    rw[if_pos hwant] at h
    cases hv:havP P o.op with
    | false=>rw[hv] at h; simp[ROp.run,ROp.isHav,ROp.draws,ROp.isNext] at h
    | true =>
     rw[hv] at h
     simp only[cond_true,ROp.run] at h
     refine⟨fun f _=>Fw_fn r f,?_⟩
     obtain⟨t,g',ho,hg',hu⟩:=havP_some hv
     obtain⟨_,n,hcell⟩:=hs.hp.gl.int g' hg'
     have hnd:∀ c,o.op≠.defer c:=by intro c hc; rw[ho] at hc; cases hc
     rw[Fw_round,Oper.semAt_eq r a.eval o hnd]
     have hrun:(execOp a.eval o).run P Γ.w=.ok (.value (.int .i64 n)) Γ.w:=by
      unfold execOp
      rw[ho]
      exact run_load_global hu hcell
     rw[hrun,Oper.uponIn_value]
     exact hk Γ _ _ (hs.put hs.hp (Ev.refl _ _) (by simp[VRel])) (Ev.refl _ _) ((h.resolve_right (by simp[ROp.draws,ROp.isNext])).2 n)
   ·rename_i hwant
    rw[if_neg hwant] at h
    exact⟨fun f _=>Fw_fn r f,hk Γ _ _ (hs.put hs.hp (Ev.refl _ _) (undef_rel Γ)) (Ev.refl _ _) h⟩
  ·cases hc
theorem vops_sound {P:Program} {fz:Bool} {ops:Array Oper} (r:Option Nat):∀ {is:List IOp} (k:Nat),(∀ (j:Nat) (i:IOp),is[j]? = some i→∃ o,ops[k+j]? = some o∧compOper P fz ops o=some i)→∀ {Γ:Cx} {st:St} {a:Act},SSim Γ st a→Γ.lc=lcP P→∀ {Q:St→Prop},vops P is st Q →
  ∀ {Q':Exit→Act→World→Prop},(∀ Δ st' a',SSim Δ st' a'→Ev Γ st.hp Δ st'.hp→Q st'→Q' .normal a' Δ.w)→wpOpsIn (Fw r) 0 P ops Q' (List.range' k is.length) a Γ.w
 | [],k,hc,Γ,st,a,hs,hl,Q,h,Q',hq=>hq Γ st a hs (Ev.refl _ _) h
 | i :: is,k,hc,Γ,st,a,hs,hl,Q,h,Q',hq=>by
  obtain⟨o,ho,hco⟩:=hc 0 i rfl
  simp only[List.length_cons,List.range'_succ,wpOpsIn_cons]
  refine vop_sound (by simpa using ho) hco hs hl h r fun Δ st' a' h1 h2 h3=>?_
  refine vops_sound (fz:=fz) r (k+1) (fun j i' hi'=>?_) h1 (h2.le.lc.trans hl) h3 fun Θ st'' a'' h4 h5 h6=>hq Θ st'' a'' h4 (h2.trans h5) h6
  have:=hc (j+1) i' (by simpa using hi')
  rwa[show k+1+j=k+(j+1) by omega]
end Go.Gi
