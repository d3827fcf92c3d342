/- The operations, compiled; a state of the abstract machine; that a compiled operation does what it says. -/
/- Regions: operations and calls one after the other, and in whatever order the model draws. -/
import Derived.Test.YtakdhioafodhcaaGreatDoorGiV
import Derived.Test.YtakdhioafodhcaaGreatDoorGiZA
import Derived.OrdersIn
import Derived.RangeFuncCalls
set_option linter.unusedVariables false
set_option linter.unusedSimpArgs false
namespace Go.Gi
section
set_option linter.unusedSectionVars false
variable [Mx]
open Go
structure St where
 tm:List AV
 hp:HP
structure SSim (Γ:Cx) (st:St) (a:Act):Prop where
 tm:VRels Γ st.tm a.tmps.toList
 hp:HSim Γ st.hp
 df:MarksOk Γ st.hp a.defers
inductive Opd where
 | t (i:Nat)
 | c (v:AV)
 | f (g:FuncId)
def Opd.ev (tm:List AV):Opd→AV
 | .t i=>tm.getD i (.tup [])
 | .c v=>v
 | .f g=>.func g []
def opdP:Operand→Option Opd
 | .tmp i=>some (.t i)
 | .const v=>(constA v).map .c
 | .func g=>some (.f g)
 | .global g=>(globals.lookup g).map fun cs=>.c (.fptr cs 0)
def opdsP:List Operand→Option (List Opd)
 | []=>some []
 | x :: xs=>match opdP x,opdsP xs with
  | some y,some ys=>some (y :: ys)
  | _,_=>none
theorem lookup_mem {β:Type} {k:Nat} {v:β}:∀ {l:List (Nat × β)},l.lookup k=some v→(k,v) ∈ l
 | [],h=>by simp at h
 | (k',v') :: l,h=>by
  rw[List.lookup_cons] at h
  split at h
  ·rename_i he
   simp at he h
   subst he h
   exact List.mem_cons_self
  ·exact List.mem_cons_of_mem _ (lookup_mem h)
theorem opd_rel {Γ:Cx} {tm:List AV} {a:Act} (hg:GOk Γ) (h:VRels Γ tm a.tmps.toList) {x:Operand} {y:Opd} (hy:opdP x=some y):VRel Γ (y.ev tm) (a.eval x):=by
 cases x with
 | tmp i =>
  simp only[opdP,Option.some.injEq] at hy
  subst hy
  have:=h.get i
  simp only[Opd.ev,Act.eval]
  rw[Array.getD_eq_getD_getElem?]
  rw[List.getD_eq_getElem?_getD (l:=a.tmps.toList)] at this
  simpa using this
 | const v =>
  simp only[opdP] at hy
  cases hc:constA v with
  | none=>simp[hc] at hy
  | some b =>
   simp only[hc,Option.map_some,Option.some.injEq] at hy
   subst hy
   exact constA_rel hc
 | func g =>
  simp only[opdP,Option.some.injEq] at hy
  subst hy
  simp only[Opd.ev,VRel,Act.eval]
  exact⟨[],rfl,by simp[VRels]⟩
 | global g =>
  simp only[opdP] at hy
  cases hc:globals.lookup g with
  | none=>simp[hc] at hy
  | some cs =>
   simp only[hc,Option.map_some,Option.some.injEq] at hy
   subst hy
   exact hg.at_ (g,cs) (lookup_mem hc)
theorem opds_rel {Γ:Cx} {tm:List AV} {a:Act} (hg:GOk Γ) (h:VRels Γ tm a.tmps.toList):∀ {xs:List Operand} {ys:List Opd},opdsP xs=some ys→VRels Γ (ys.map (·.ev tm)) (xs.map a.eval)∧ys.length=xs.length
 | [],ys,hy=>by simp only[opdsP,Option.some.injEq] at hy; subst hy; simp[VRels]
 | x :: xs,ys,hy=>by
  simp only[opdsP] at hy
  split at hy
  ·rename_i y ys' h1 h2
   simp only[Option.some.injEq] at hy
   subst hy
   obtain⟨k1,k2⟩:=opds_rel hg h h2
   simp only[List.map_cons,VRels,List.length_cons]
   exact⟨⟨_,_,rfl,opd_rel hg h h1,k1⟩,by omega⟩
  ·cases hy
inductive ROp where
 | mov
 | pick
 | box (e:TypeId)
 | alloc (e:TypeId) (Z:List AV)
 | bsl (e:TypeId) (sz:Nat) (fz:Bool)
 | bst (Z:List AV) (places:List (Nat × Nat)) (idx:List Nat)
 | load (sh:Option Nat)
 | store (n:Nat)
 | nilchk
 | bin (op:BinOp) (K:EqK)
 | un (op:UnOp)
 | s2b (e:TypeId)
 | b2s
 | toInt (k:IntKind)
 | strId
 | mkfn (f:FuncId)
 | mkbound (f:FuncId)
 | mkif (t:TypeId)
 | make (e:TypeId) (Z:List AV) (bytes:Nat)
 | slice (sz:Nat) (lo hi mx:Bool)
 | sslice (lo hi mx:Bool)
 | aslice (n sz:Nat) (lo hi mx:Bool)
 | faddr (off:Nat)
 | field (off:Nat) (sh:Option Nat)
 | iaddr (sz:Nat)
 | aaddr (n sz:Nat)
 | idxs
 | idxa (n sz:Nat) (sh:Option Nat)
 | extract (i:Nat)
 | len (k:LenK)
 | app (e:TypeId) (sz bytes:Nat)
 | clear (Z:List AV)
 | min
 | max
 | never
 | cap
 | appz (e:TypeId) (Z:List AV) (bytes:Nat)
 | cpy (sz:Nat)
 | cvs
 | mkmap (r:Bool)
 | look (kk:KK) (z:AV) (ok:Bool)
 | mapup (kk:KK)
 | del (kk:KK)
 | rangem
 | nextm
 | entm
 | ranges
 | nexts
 | r2s
 | hav
def isStrA:AV→Bool
 | .str _=>true
 | _=>false
def bounds3 (lo hi mx:Bool) (xs:List AV):Option (Option AV × Option AV × Option AV):=
 match lo,hi,mx,xs with
 | false,false,false,[]=>some (none,none,none)
 | true,false,false,[a]=>some (some a,none,none)
 | false,true,false,[b]=>some (none,some b,none)
 | true,true,false,[a,b]=>some (some a,some b,none)
 | false,true,true,[b,c]=>some (none,some b,some c)
 | true,true,true,[a,b,c]=>some (some a,some b,some c)
 | _,_,_,_=>none
def same (hp:HP) (r:Option AV):Option (AV × HP):=r.map fun v=>(v,hp)
def ROp.run (r:ROp) (xs:List AV) (hp:HP):Option (AV × HP):=
 match r with
 | .mov=>match xs with
  | [x]=>some (x,hp)
  | _=>none
 | .pick=>match xs with
  | [.bool true,a,_]=>some (a,hp)
  | [.bool false,_,b]=>some (b,hp)
  | _=>none
 | .box e=>match xs with
  | [x]=>boxA hp e x
  | _=>none
 | .alloc e Z=>match xs with
  | []=>some (allocA hp e Z)
  | _=>none
 | .bsl e sz fz=>bslA hp e sz fz xs
 | .bst Z places idx=>if xs.length=idx.length then same hp ((fillA places Z (idx.zip xs)).map .agg) else none
 | .load sh=>match xs with
  | [p]=>same hp (loadA hp sh p)
  | _=>none
 | .store n=>match xs with
  | [p,v]=>(storeA hp n p v).map fun hp'=>(.tup [],hp')
  | _=>none
 | .nilchk=>match xs with
  | [x]=>same hp (nilchkA x)
  | _=>none
 | .bin op K=>match xs with
  | [x,y]=>same hp (binA op K x y)
  | _=>none
 | .un op=>match xs with
  | [x]=>same hp (unA op x)
  | _=>none
 | .s2b e=>match xs with
  | [x]=>s2bA hp e x
  | _=>none
 | .b2s=>match xs with
  | [x]=>same hp (b2sA hp x)
  | _=>none
 | .toInt k=>match xs with
  | [.int _ n]=>some (.int k (k.wrap n),hp)
  | _=>none
 | .strId=>match xs with
  | [.str s]=>some (.str s,hp)
  | _=>none
 | .mkfn f=>some (.func f xs,hp)
 | .mkbound f=>some (.bound f xs,hp)
 | .mkif t=>match xs with
  | [x]=>some (.iface t x,hp)
  | _=>none
 | .make e Z bytes=>match xs with
  | [l,c]=>makeA hp e Z bytes l c
  | _=>none
 | .slice sz lo hi mx=>match xs with
  | x :: rest=>match bounds3 lo hi mx rest with
   | some (a,b,c)=>if isStrA x then none else same hp (sliceA sz x a b c)
   | none=>none
  | _=>none
 | .sslice lo hi mx=>match xs with
  | x :: rest=>match bounds3 lo hi mx rest with
   | some (a,b,c)=>if isStrA x then same hp (sliceA 0 x a b c) else none
   | none=>none
  | _=>none
 | .aslice n sz lo hi mx=>match xs with
  | x :: rest=>match bounds3 lo hi mx rest with
   | some (a,b,c)=>same hp (asliceA hp n sz x a b c)
   | none=>none
  | _=>none
 | .faddr off=>match xs with
  | [x]=>same hp (faddrA off x)
  | _=>none
 | .field off sh=>match xs with
  | [x]=>same hp (fieldA off sh x)
  | _=>none
 | .iaddr sz=>match xs with
  | [x,i]=>same hp (iaddrA sz x i)
  | _=>none
 | .aaddr n sz=>match xs with
  | [x,i]=>same hp (aaddrA n sz x i)
  | _=>none
 | .idxs=>match xs with
  | [x,i]=>same hp (indexSA x i)
  | _=>none
 | .idxa n sz sh=>match xs with
  | [x,i]=>same hp (indexAA n sz sh x i)
  | _=>none
 | .extract i=>match xs with
  | [.tup vs]=>same hp vs[i]?
  | _=>none
 | .len k=>match xs with
  | [x]=>if lenFits k x then same hp (lenA hp x) else none
  | _=>none
 | .app e sz bytes=>match xs with
  | [d,x]=>appA e sz bytes hp d x
  | _=>none
 | .clear Z=>match xs with
  | [x]=>(clearA hp Z x).map fun hp'=>(.tup [],hp')
  | _=>none
 | .min=>same hp (minmaxA false xs)
 | .max=>same hp (minmaxA true xs)
 | .never=>none
 | .cap=>match xs with
  | [x]=>same hp (capA x)
  | _=>none
 | .appz e Z bytes=>match xs with
  | [d,x]=>appzA e Z bytes hp d x
  | _=>none
 | .cpy sz=>match xs with
  | [d,x]=>copyA hp sz d x
  | _=>none
 | .cvs=>match xs with
  | [x]=>same hp (convA hp x)
  | _=>none
 | .mkmap r=>match r,xs with
  | false,[]=>some (mkmapA hp)
  | true,[.int _ _]=>some (mkmapA hp)
  | _,_=>none
 | .look kk z ok=>match xs with
  | [m,k]=>same hp (lookA hp kk z ok m k)
  | _=>none
 | .mapup kk=>match xs with
  | [m,k,v]=>(mapupA hp kk m k v).map fun hp'=>(.tup [],hp')
  | _=>none
 | .del kk=>match xs with
  | [m,k]=>(delA hp kk m k).map fun hp'=>(.tup [],hp')
  | _=>none
 | .rangem=>match xs with
  | [m]=>rangeA hp m
  | _=>none
 | .nextm=>match xs with
  | [it]=>nextA hp it
  | _=>none
 | .entm=>match xs with
  | [it]=>same hp (entA hp it)
  | _=>none
 | .ranges=>match xs with
  | [m]=>rangeSA hp m
  | _=>none
 | .nexts=>match xs with
  | [it]=>nextSA hp it
  | _=>none
 | .r2s=>match xs with
  | [.int _ n]=>some (.str (Utf8.encode n).data.toList,hp)
  | _=>none
 | .hav=>none
def ROp.isHav:ROp→Bool
 | .hav=>true
 | _=>false
def ROp.isNext:ROp→Bool
 | .nextm=>true
 | _=>false
def ROp.draws (r:ROp) (xs:List AV) (hp:HP):Option (List (AV × HP)):=
 cond r.isNext (match xs with
  | [it]=>nextDs hp it
  | _=>none) none
def isInt (P:Program) (t:TypeId):Option IntKind:=
 match P.underlying t with
 | some (.int k)=>some k
 | _=>none
def compConv (P:Program) (src dst:TypeId):Option ROp:=
 match P.underlying src,P.underlying dst with
 | some (.int _),some (.int k)=>some (.toInt k)
 | some (.int _),some .string=>some .r2s
 | some .string,some .string=>some .strId
 | some .string,some (.slice e)=>match P.underlying e with
  | some (.int .u8)=>some (.s2b e)
  | _=>none
 | some (.slice e),some .string=>match P.underlying e with
  | some (.int .u8)=>some .b2s
  | _=>none
 | some (.slice e),some (.slice _)=>if src=dst then (match P.underlying e with
  | some (.int .u8)=>some .cvs
  | _=>none) else none
 | _,_=>none
def compBuiltin (P:Program) (b:Builtin) (ts:List TypeId):Option ROp:=
 match b,ts with
 | .len,[t]=>(lenP P t).map .len
 | .append,[t,tx]=>match elemP P t,seqP P tx with
  | some (e,sz,bytes),true=>some (.app e sz bytes)
  | some (e,sz,bytes),false=>match P.underlying tx,zeroP P e with
   | some (.int _),some Z=>some (.appz e Z bytes)
   | _,_=>none
  | _,_=>none
 | .cap,[t]=>match P.underlying t with
  | some (.slice _)=>some .cap
  | _=>none
 | .clear,[t]=>match elemP P t with
  | some (e,_,_)=>(zeroP P e).map .clear
  | none=>none
 | .copy,[t,tx]=>match elemP P t,seqP P tx with
  | some (_,sz,_),true=>some (.cpy sz)
  | _,_=>none
 | .min,_=>some .min
 | .max,_=>some .max
 | .delete,[t,_]=>match mapP P t with
  | some (kk,_,_)=>some (.del kk)
  | none=>none
 | _,_=>none
def compOp (P:Program) (fz:Bool) (o:Op):Option (ROp × List Operand):=
 match o with
 | .move x | .assign x=>some (.mov,[x])
 | .pick c a b=>some (.pick,[c,a,b])
 | .box e x=>some (.box e,[x])
 | .alloc e=>(zeroP P e).map fun Z=>(.alloc e Z,[])
 | .buildSlice t len parts=>match elemP P t with
  | some (e,sz,_)=>if parts.toList.map (·.1)=List.range len∧len*sz≤16777216 then some (.bsl e sz fz,parts.toList.map (·.2)) else none
  | none=>none
 | .build t parts=>match zeroP P t,placesP P t with
  | some Z,some places=>some (.bst Z places (parts.toList.map (·.1)),parts.toList.map (·.2))
  | _,_=>none
 | .load t a=>(shapeP P t).map fun sh=>(.load sh,[a])
 | .store t a x=>(sizeP P t).map fun n=>(.store n,[a,x])
 | .nilCheck x=>some (.nilchk,[x])
 | .binOp op t x y _=>some (.bin op (eqP P t (opIsConst x || opIsConst y)),[x,y])
 | .unOp op _ x=>some (.un op,[x])
 | .convert src dst x=>(compConv P src dst).map fun r=>(r,[x])
 | .makeInterface t x=>match P.underlying t with
  | some (.interface _) | none=>none
  | _=>some (.mkif t,[x])
 | .makeFunc (.func f) first captured=>if first.size=0 then some (.mkfn f,captured.toList) else if captured.size=0 then some (.mkbound f,first.toList) else none
 | .makeSlice t l c=>match elemP P t with
  | some (e,_,bytes)=>(zeroP P e).map fun Z=>(.make e Z bytes,[l,c])
  | none=>none
 | .slice t x lo hi mx=>match sliceP P t,P.underlying t,arrayP P t with
  | some (_,sz),_,_=>some (.slice sz lo.isSome hi.isSome mx.isSome,x :: (lo.toList++hi.toList++mx.toList))
  | none,some .string,_=>some (.sslice lo.isSome hi.isSome mx.isSome,x :: (lo.toList++hi.toList++mx.toList))
  | none,_,some (n,sz,_)=>some (.aslice n sz lo.isSome hi.isSome mx.isSome,x :: (lo.toList++hi.toList++mx.toList))
  | _,_,_=>none
 | .fieldAddr s x f=>(fieldP P s f).map fun p=>(.faddr p.1,[x])
 | .field s x f=>(fieldP P s f).map fun p=>(.field p.1 p.2,[x])
 | .indexAddr t x i=>match sliceP P t,arrayP P t with
  | some (_,sz),_=>some (.iaddr sz,[x,i])
  | none,some (n,sz,_)=>some (.aaddr n sz,[x,i])
  | none,none=>none
 | .index t x i=>match P.underlying t,arrayP P t with
  | some .string,_=>some (.idxs,[x,i])
  | _,some (n,sz,sh)=>some (.idxa n sz sh,[x,i])
  | _,none=>none
 | .extract x i=>some (.extract i,[x])
 | .call { callee:=.builtin b,args,argTypes }=>(compBuiltin P b argTypes.toList).map fun r=>(r,args.toList)
 | .makeMap t r=>match r with
  | none=>some (.mkmap false,[])
  | some r=>match P.underlying t with
   | some (.map _ _)=>some (.mkmap true,[r])
   | _=>none
 | .lookup t m k ok=>match mapP P t with
  | some (kk,_,e)=>(zvP P e).map fun z=>(.look kk z ok,[m,k])
  | none=>none
 | .mapUpdate t m k x=>(mapP P t).map fun (kk,_,_)=>(.mapup kk,[m,k,x])
 | .insert t m k x=>(mapP P t).map fun (kk,_,_)=>(.mapup kk,[m,k,x])
 | .range t x=>match P.underlying t with
  | some (.map _ _)=>some (.rangem,[x])
  | some .string=>some (.ranges,[x])
  | _=>none
 | .next it s=>match s with
  | false=>some (.nextm,[it])
  | true=>some (.nexts,[it])
 | .entry it=>some (.entm,[it])
 | _=>none
def Gives (P:Program) (Γ:Cx) (hp:HP) (m:Sem Next) (r:AV) (hp':HP):Prop:=
 ∃ v Δ,(m.run P Γ.w=.ok (.value v) Δ.w∨(m.run P Γ.w=.ok .skip Δ.w∧v=undef))∧VRel Δ r v∧HSim Δ hp'∧Ev Γ hp Δ hp'
theorem OpOk.gives {P:Program} {Γ:Cx} {hp hp':HP} {m:Sem Value} {r:AV} (h:OpOk P Γ hp m r hp'):Gives P Γ hp (do pure (.value (← m))) r hp':=by
 obtain⟨v,Δ,h1,h2,h3,h4⟩:=h
 exact⟨v,Δ,.inl (by simp[h1]),h2,h3,h4⟩
theorem OpDone.gives {P:Program} {Γ:Cx} {hp hp':HP} {m:Sem Unit} (h:OpDone P Γ hp m hp'):Gives P Γ hp (do m; pure .skip) (.tup []) hp':=by
 obtain⟨Δ,h1,h2,h3⟩:=h
 exact⟨undef,Δ,.inr ⟨by simp[h1],rfl⟩,by simp[VRel,VRels,undef],h2,h3⟩
theorem VRels.one' {Γ:Cx} {a:AV} {vs:List Value} (h:VRels Γ [a] vs):∃ v,vs=[v]∧VRel Γ a v:=by
 simp only[VRels] at h
 obtain⟨v,vs',rfl,h1,rfl⟩:=h
 exact⟨v,rfl,h1⟩
theorem VRels.two' {Γ:Cx} {a b:AV} {vs:List Value} (h:VRels Γ [a,b] vs):∃ u v,vs=[u,v]∧VRel Γ a u∧VRel Γ b v:=by
 simp only[VRels] at h
 obtain⟨v,vs',rfl,h1,u,us',rfl,h2,rfl⟩:=h
 exact⟨v,u,rfl,h1,h2⟩
theorem VRels.three' {Γ:Cx} {a b c:AV} {vs:List Value} (h:VRels Γ [a,b,c] vs):∃ u v x,vs=[u,v,x]∧VRel Γ a u∧VRel Γ b v∧VRel Γ c x:=by
 simp only[VRels] at h
 obtain⟨v,vs',rfl,h1,u,us',rfl,h2,x,xs',rfl,h3,rfl⟩:=h
 exact⟨v,u,x,rfl,h1,h2,h3⟩
theorem bndV_of {a:AV} {v:Value} {Γ:Cx} (h:VRel Γ a v):bndV (some a) (some v):=by
 cases a<;>simp only[bndV]
 simpa only[VRel] using h
theorem bounds3_rel {Γ:Cx} {lo hi mx:Option Operand} {ev:Operand→Value} {xs:List AV} (h:VRels Γ xs ((lo.toList++hi.toList++mx.toList).map ev)) {a b c:Option AV} (hb:bounds3 lo.isSome hi.isSome mx.isSome xs=some (a,b,c)) :
  bndV a (lo.map ev)∧bndV b (hi.map ev)∧bndV c (mx.map ev):=by
 rcases lo with _|lo<;>rcases hi with _|hi<;>rcases mx with _|mx<;>simp only[Option.toList_none,List.append_nil,List.map_nil,Option.isSome_none,Option.toList_some,List.nil_append,List.map_cons,Option.isSome_some,List.cons_append] at h hb<;>unfold bounds3 at hb<;>split at hb<;>simp only[Option.some.injEq,Prod.mk.injEq,reduceCtorEq] at hb
 all_goals (try contradiction)
 all_goals obtain⟨rfl,rfl,rfl⟩:=hb
 all_goals simp only[Option.map_none,Option.map_some]
 ·exact⟨trivial,trivial,trivial⟩
 ·obtain⟨u,hu,h1⟩:=h.one'; simp only[List.cons.injEq,and_true] at hu; subst hu; exact⟨trivial,bndV_of h1,trivial⟩
 ·obtain⟨u,v,hu,h1,h2⟩:=h.two'; simp only[List.cons.injEq,and_true] at hu; obtain⟨rfl,rfl⟩:=hu; exact⟨trivial,bndV_of h1,bndV_of h2⟩
 ·obtain⟨u,hu,h1⟩:=h.one'; simp only[List.cons.injEq,and_true] at hu; subst hu; exact⟨bndV_of h1,trivial,trivial⟩
 ·obtain⟨u,v,hu,h1,h2⟩:=h.two'; simp only[List.cons.injEq,and_true] at hu; obtain⟨rfl,rfl⟩:=hu; exact⟨bndV_of h1,bndV_of h2,trivial⟩
 ·obtain⟨u,v,x,hu,h1,h2,h3⟩:=h.three'; simp only[List.cons.injEq,and_true] at hu; obtain⟨rfl,rfl,rfl⟩:=hu; exact⟨bndV_of h1,bndV_of h2,bndV_of h3⟩
theorem same_some {hp hp':HP} {r:Option AV} {v:AV} (h:same hp r=some (v,hp')):r=some v∧hp'=hp:=by
 cases r with
 | none=>simp[same] at h
 | some a=>simp only[same,Option.map_some,Option.some.injEq,Prod.mk.injEq] at h; exact⟨by rw[h.1],h.2.symm⟩
theorem zip_fst {α β:Type}:∀ (l:List (α × β)),(l.map (·.1)).zip (l.map (·.2))=l
 | []=>rfl
 | (a,b) :: l=>by simp[zip_fst l]
set_option maxHeartbeats 1600000 in
theorem compOp_ok {P:Program} {Γ:Cx} {st:St} {a:Act} (hs:SSim Γ st a) {fz:Bool} {o:Oper} {r:ROp} {ops:List Operand} {xs:List AV} (hc:compOp P fz o.op=some (r,ops)) (hx:VRels Γ xs (ops.map a.eval)) {v:AV} {hp':HP}
  (hr:r.run xs st.hp=some (v,hp')):Gives P Γ st.hp (execOp a.eval o) v hp':=by
 have one_:∀ {y:Operand},ops=[y]→∃ z,xs=[z]∧VRel Γ z (a.eval y):=by
  rintro y rfl
  have hl:=hx.length
  rcases xs with _|⟨z,_|⟨z',zs⟩⟩
  ·simp at hl
  ·obtain⟨u,hu,h1⟩:=hx.one'
   simp at hu; subst hu; exact⟨z,rfl,h1⟩
  ·simp at hl
 have two_:∀ {y y':Operand},ops=[y,y']→∃ z z',xs=[z,z']∧VRel Γ z (a.eval y)∧VRel Γ z' (a.eval y'):=by
  rintro y y' rfl
  have hl:=hx.length
  rcases xs with _|⟨z,_|⟨z',_|⟨z2,zs⟩⟩⟩
  ·simp at hl
  ·simp at hl
  ·obtain⟨u,u',hu,h1,h2⟩:=hx.two'
   simp at hu; obtain⟨rfl,rfl⟩:=hu; exact⟨z,z',rfl,h1,h2⟩
  ·simp at hl
 have hh:=hs.hp
 unfold compOp at hc
 unfold execOp
 split at hc
 ·-- move
  rename_i x ho
  simp only[Option.some.injEq,Prod.mk.injEq] at hc; obtain⟨rfl,rfl⟩:=hc
  obtain⟨z,rfl,hz⟩:=one_ rfl
  simp only[ROp.run,Option.some.injEq,Prod.mk.injEq] at hr; obtain⟨rfl,rfl⟩:=hr
  rw[ho]
  exact⟨_,Γ,.inl rfl,hz,hh,Ev.refl _ _⟩
 ·-- assign
  rename_i x ho
  simp only[Option.some.injEq,Prod.mk.injEq] at hc; obtain⟨rfl,rfl⟩:=hc
  obtain⟨z,rfl,hz⟩:=one_ rfl
  simp only[ROp.run,Option.some.injEq,Prod.mk.injEq] at hr; obtain⟨rfl,rfl⟩:=hr
  rw[ho]
  exact⟨_,Γ,.inl rfl,hz,hh,Ev.refl _ _⟩
 ·-- pick
  rename_i c x y ho
  simp only[Option.some.injEq,Prod.mk.injEq] at hc; obtain⟨rfl,rfl⟩:=hc
  rw[ho]
  simp only[ROp.run] at hr
  split at hr
  ·simp only[Option.some.injEq,Prod.mk.injEq] at hr; obtain⟨rfl,rfl⟩:=hr
   obtain⟨u1,u2,u3,hu,h1,h2,h3⟩:=hx.three'
   simp at hu; obtain⟨rfl,rfl,rfl⟩:=hu
   simp only[VRel] at h1
   exact⟨_,Γ,.inl (by simp[h1,asBool]),h2,hh,Ev.refl _ _⟩
  ·simp only[Option.some.injEq,Prod.mk.injEq] at hr; obtain⟨rfl,rfl⟩:=hr
   obtain⟨u1,u2,u3,hu,h1,h2,h3⟩:=hx.three'
   simp at hu; obtain⟨rfl,rfl,rfl⟩:=hu
   simp only[VRel] at h1
   exact⟨_,Γ,.inl (by simp[h1,asBool]),h3,hh,Ev.refl _ _⟩
  ·cases hr
 ·-- box
  rename_i e x ho
  simp only[Option.some.injEq,Prod.mk.injEq] at hc; obtain⟨rfl,rfl⟩:=hc
  obtain⟨z,rfl,hz⟩:=one_ rfl
  rw[ho]
  exact (box_ok hh hz hr).gives
 ·-- alloc
  rename_i e ho
  cases hZ:zeroP P e with
  | none=>simp[hZ] at hc
  | some Z =>
   simp only[hZ,Option.map_some,Option.some.injEq,Prod.mk.injEq] at hc; obtain⟨rfl,rfl⟩:=hc
   have:xs=[]:=List.eq_nil_of_length_eq_zero (by simpa using hx.length)
   subst this
   simp only[ROp.run,Option.some.injEq] at hr
   rw[ho]
   have:=alloc_ok hh hZ
   rw[hr] at this
   exact this.gives
 ·-- buildSlice
  rename_i t len parts ho
  split at hc
  ·rename_i e sz bytes he
   split at hc
   ·rename_i hi
    simp only[Option.some.injEq,Prod.mk.injEq] at hc; obtain⟨rfl,rfl⟩:=hc
    have hl:=hx.length
    simp at hl
    have hlen:xs.length=len:=by
     rw[hl]
     have:=congrArg List.length hi.1
     simpa using this
    subst hlen
    rw[ho]
    have:=bsl_ok hh he hx hi.2 hr
    have hparts:(⟨(List.range xs.length).zip ((parts.toList.map (·.2)).map a.eval)⟩:Array (Nat × Value))=parts.map fun (i,x)=>(i,a.eval x):=by
     apply Array.ext'
     rw[← hi.1]
     simp only[Array.toList_map]
     rw[← zip_fst (parts.toList.map fun x=>(x.1,a.eval x.2))]
     simp[Function.comp_def]
    rw[hparts] at this
    exact this.gives
   ·cases hc
  ·cases hc
 ·-- build
  rename_i t parts ho
  split at hc
  ·rename_i Z places hZ hp
   simp only[Option.some.injEq,Prod.mk.injEq] at hc; obtain⟨rfl,rfl⟩:=hc
   simp only[ROp.run] at hr
   split at hr
   ·rename_i hl
    obtain⟨h1,rfl⟩:=same_some hr
    cases hfl:fillA places Z ((parts.toList.map (·.1)).zip xs) with
    | none=>simp[hfl] at h1
    | some cs =>
     simp only[hfl,Option.map_some,Option.some.injEq] at h1
     subst h1
     rw[ho]
     have hl':xs.length=parts.size:=by simpa using hx.length
     have:=build_ok (P:=P) hh hZ hp (parts:=(parts.toList.map (·.1)).zip xs) (vs:=(parts.toList.map fun x=>(x.1,a.eval x.2))) (by
      rw[List.map_fst_zip (by simp[hl'])]; simp) (by
      rw[List.map_snd_zip (by simp[hl'])]
      simpa[Function.comp_def] using hx) hfl
     have hparts:(⟨parts.toList.map fun x=>(x.1,a.eval x.2)⟩:Array (Nat × Value))=parts.map fun (i,x)=>(i,a.eval x):=by
      apply Array.ext'; simp
     rw[hparts] at this
     exact this.gives
   ·cases hr
  ·cases hc
 ·-- load
  rename_i t x ho
  cases hS:shapeP P t with
  | none=>simp[hS] at hc
  | some sh =>
   simp only[hS,Option.map_some,Option.some.injEq,Prod.mk.injEq] at hc; obtain⟨rfl,rfl⟩:=hc
   obtain⟨z,rfl,hz⟩:=one_ rfl
   obtain⟨h1,rfl⟩:=same_some hr
   rw[ho]
   exact (load_ok hh hS hz h1).gives
 ·-- store
  rename_i t x y ho
  cases hS:sizeP P t with
  | none=>simp[hS] at hc
  | some n =>
   simp only[hS,Option.map_some,Option.some.injEq,Prod.mk.injEq] at hc; obtain⟨rfl,rfl⟩:=hc
   obtain⟨z,z',rfl,hz,hz'⟩:=two_ rfl
   simp only[ROp.run] at hr
   cases hst:storeA st.hp n z z' with
   | none=>simp[hst] at hr
   | some h' =>
    simp only[hst,Option.map_some,Option.some.injEq,Prod.mk.injEq] at hr; obtain⟨rfl,rfl⟩:=hr
    rw[ho]
    exact (store_ok hh hS hz hz' hst).gives
 ·-- nilCheck
  rename_i x ho
  simp only[Option.some.injEq,Prod.mk.injEq] at hc; obtain⟨rfl,rfl⟩:=hc
  obtain⟨z,rfl,hz⟩:=one_ rfl
  obtain⟨h1,rfl⟩:=same_some hr
  rw[ho]
  cases z<;>simp only[nilchkA,reduceCtorEq,Option.some.injEq] at h1<;>subst h1
  ·have hz':=hz
   simp only[VRel] at hz'
   obtain⟨_,hz'⟩:=hz'
   exact⟨_,Γ,.inl (by simp only[hz']; rfl),hz,hh,Ev.refl _ _⟩
  ·have hz':=hz
   simp only[VRel] at hz'
   obtain⟨_,_,hz',_⟩:=hz'
   exact⟨_,Γ,.inl (by simp only[hz']; rfl),hz,hh,Ev.refl _ _⟩
  ·have hz':=hz
   simp only[VRel] at hz'
   obtain⟨_,hz',_⟩:=hz'
   exact⟨_,Γ,.inl (by simp only[hz']; rfl),hz,hh,Ev.refl _ _⟩
  ·have hz':=hz
   simp only[VRel] at hz'
   obtain⟨_,hz',_⟩:=hz'
   exact⟨_,Γ,.inl (by simp only[hz']; rfl),hz,hh,Ev.refl _ _⟩
 ·-- binOp
  rename_i op t x y ty ho
  simp only[Option.some.injEq,Prod.mk.injEq] at hc; obtain⟨rfl,rfl⟩:=hc
  obtain⟨z,z',rfl,hz,hz'⟩:=two_ rfl
  obtain⟨h1,rfl⟩:=same_some hr
  rw[ho]
  exact (bin_ok hh hz hz' h1).gives
 ·-- unOp
  rename_i op t x ho
  simp only[Option.some.injEq,Prod.mk.injEq] at hc; obtain⟨rfl,rfl⟩:=hc
  obtain⟨z,rfl,hz⟩:=one_ rfl
  obtain⟨h1,rfl⟩:=same_some hr
  rw[ho]
  exact (un_ok hh hz h1).gives
 ·-- convert
  rename_i src dst x ho
  cases hC:compConv P src dst with
  | none=>simp[hC] at hc
  | some c =>
   simp only[hC,Option.map_some,Option.some.injEq,Prod.mk.injEq] at hc; obtain⟨rfl,rfl⟩:=hc
   obtain⟨z,rfl,hz⟩:=one_ rfl
   have he0:execOp a.eval o=(do pure (.value (← convert src dst (a.eval x)))):=by unfold execOp; rw[ho]
   show Gives P Γ st.hp (execOp a.eval o) v hp'
   rw[he0]
   clear he0
   unfold compConv at hC
   split at hC
   ·rename_i k' k hs1 hs2
    simp only[Option.some.injEq] at hC; subst hC
    cases z<;>simp only[ROp.run,reduceCtorEq,Option.some.injEq,Prod.mk.injEq] at hr
    obtain⟨rfl,rfl⟩:=hr
    simp only[VRel] at hz
    rw[hz]
    exact (OpOk.same hh (v:=.int k (k.wrap _)) (by simp[convert,run_underlying hs1,run_underlying hs2,Conv.intToInt]; rfl) (by simp[VRel])).gives
   ·rename_i k' hs1 hs2
    simp only[Option.some.injEq] at hC; subst hC
    cases z<;>simp only[ROp.run,reduceCtorEq,Option.some.injEq,Prod.mk.injEq] at hr
    obtain⟨rfl,rfl⟩:=hr
    simp only[VRel] at hz
    rw[hz]
    rename_i n
    exact (OpOk.same hh (v:=.string (Utf8.encode n)) (by simp[convert,run_underlying hs1,run_underlying hs2,Conv.intToString]) (by simp[VRel])).gives
   ·rename_i hs1 hs2
    simp only[Option.some.injEq] at hC; subst hC
    cases z<;>simp only[ROp.run,reduceCtorEq,Option.some.injEq,Prod.mk.injEq] at hr
    obtain⟨rfl,rfl⟩:=hr
    simp only[VRel] at hz
    rw[hz]
    exact (OpOk.same hh (v:=.string _) (by simp[convert,run_underlying hs1,run_underlying hs2]; rfl) (by simp[VRel])).gives
   ·rename_i e hs1 hs2
    split at hC
    ·rename_i he
     simp only[Option.some.injEq] at hC; subst hC
     exact (s2b_ok hh hs1 hs2 he hz hr).gives
    ·cases hC
   ·rename_i e hs1 hs2
    split at hC
    ·rename_i he
     simp only[Option.some.injEq] at hC; subst hC
     obtain⟨h1,rfl⟩:=same_some hr
     exact (b2s_ok hh hs1 hs2 he hz h1).gives
    ·cases hC
   ·rename_i e e' hs1 hs2
    split at hC
    ·rename_i hsd
     subst hsd
     split at hC
     ·rename_i he
      simp only[Option.some.injEq] at hC; subst hC
      obtain⟨h1,rfl⟩:=same_some hr
      exact (conv_ok hh hs1 he hz h1).gives
     ·cases hC
    ·cases hC
   ·cases hC
 ·-- makeInterface
  rename_i t x ho
  split at hc
  ·cases hc
  ·cases hc
  ·rename_i hu1 hu2
   simp only[Option.some.injEq,Prod.mk.injEq] at hc; obtain⟨rfl,rfl⟩:=hc
   obtain⟨z,rfl,hz⟩:=one_ rfl
   simp only[ROp.run,Option.some.injEq,Prod.mk.injEq] at hr; obtain⟨rfl,rfl⟩:=hr
   rw[ho]
   cases hu:P.underlying t with
   | none=>exact (hu2 hu).elim
   | some d =>
    refine (OpOk.same hh (v:=.iface t (a.eval x)) ?_ (by simp only[VRel]; exact⟨_,rfl,hz⟩)).gives
    cases d<;>first|(exact (hu1 _ hu).elim)|simp[Instr.makeInterface,run_underlying hu]
 ·-- makeFunc
  rename_i f first captured ho
  split at hc
  ·rename_i h0
   simp only[Option.some.injEq,Prod.mk.injEq] at hc; obtain⟨rfl,rfl⟩:=hc
   simp only[ROp.run,Option.some.injEq,Prod.mk.injEq] at hr; obtain⟨rfl,rfl⟩:=hr
   rw[ho]
   have hf:first = #[]:=Array.eq_empty_of_size_eq_zero h0
   subst hf
   refine (OpOk.same hh (v:=.func (.func f) #[] ⟨captured.toList.map a.eval⟩) ?_ (by simp only[VRel]; exact⟨_,rfl,hx⟩)).gives
   have hcap:captured.map a.eval=⟨captured.toList.map a.eval⟩:=by apply Array.ext'; simp
   simp only[Instr.makeFunc,Sem.run_pure,hcap]
   simp
  ·split at hc
   ·rename_i _ h0
    simp only[Option.some.injEq,Prod.mk.injEq] at hc; obtain⟨rfl,rfl⟩:=hc
    simp only[ROp.run,Option.some.injEq,Prod.mk.injEq] at hr; obtain⟨rfl,rfl⟩:=hr
    rw[ho]
    have hf:captured = #[]:=Array.eq_empty_of_size_eq_zero h0
    subst hf
    refine (OpOk.same hh (v:=.func (.func f) ⟨first.toList.map a.eval⟩ #[]) ?_ (by simp only[VRel]; exact⟨_,rfl,hx⟩)).gives
    have hcap:first.map a.eval=⟨first.toList.map a.eval⟩:=by apply Array.ext'; simp
    simp only[Instr.makeFunc,Sem.run_pure,hcap]
    simp
   ·cases hc
 ·-- makeSlice
  rename_i t l c ho
  split at hc
  ·rename_i e sz bytes he
   cases hZ:zeroP P e with
   | none=>simp[hZ] at hc
   | some Z =>
    simp only[hZ,Option.map_some,Option.some.injEq,Prod.mk.injEq] at hc; obtain⟨rfl,rfl⟩:=hc
    obtain⟨z,z',rfl,hz,hz'⟩:=two_ rfl
    rw[ho]
    exact (make_ok hh he hZ hz hz' hr).gives
  ·cases hc
 ·-- slice
  rename_i t x lo hi mx ho
  have hsplit:∀ {sz:Nat} {R:ROp},ops=x :: (lo.toList++hi.toList++mx.toList)→∃ z rest,xs=z :: rest∧VRel Γ z (a.eval x)∧VRels Γ rest ((lo.toList++hi.toList++mx.toList).map a.eval):=by
   rintro sz R rfl
   rcases xs with _|⟨z,rest⟩
   ·simp[VRels] at hx
   ·rw[List.map_cons] at hx
    simp only[VRels,List.cons.injEq] at hx
    obtain⟨v',vs',⟨rfl,rfl⟩,h1,h2⟩:=hx
    exact⟨z,rest,rfl,h1,h2⟩
  have he0:execOp a.eval o=(do pure (.value (← Instr.sliceAt t (a.eval x) (lo.map a.eval) (hi.map a.eval) (mx.map a.eval)))):=by unfold execOp; rw[ho]
  show Gives P Γ st.hp (execOp a.eval o) v hp'
  rw[he0]
  clear he0
  split at hc
  ·rename_i e sz hsl
   simp only[Option.some.injEq,Prod.mk.injEq] at hc; obtain⟨rfl,rfl⟩:=hc
   obtain⟨z,rest,rfl,hz,hrest⟩:=hsplit (sz:=0) (R:=.mov) rfl
   simp only[ROp.run] at hr
   split at hr
   ·rename_i la lb lc hb3
    split at hr
    ·cases hr
    ·rename_i hstr
     obtain⟨h1,rfl⟩:=same_some hr
     obtain⟨b1,b2,b3⟩:=bounds3_rel hrest hb3
     refine (slice_ok hh (.inl ⟨e,hsl⟩) hz b1 b2 b3 h1 ?_).gives
     obtain⟨hu,_⟩:=sliceP_some hsl
     constructor
     ·rintro⟨s,rfl⟩
      exact absurd rfl hstr
     ·intro h; rw[hu] at h; cases h
   ·cases hr
  ·rename_i hsl hu
   simp only[Option.some.injEq,Prod.mk.injEq] at hc; obtain⟨rfl,rfl⟩:=hc
   obtain⟨z,rest,rfl,hz,hrest⟩:=hsplit (sz:=0) (R:=.mov) rfl
   simp only[ROp.run] at hr
   split at hr
   ·rename_i la lb lc hb3
    split at hr
    ·rename_i hstr
     obtain⟨h1,rfl⟩:=same_some hr
     obtain⟨b1,b2,b3⟩:=bounds3_rel hrest hb3
     refine (slice_ok hh (.inr hu) hz b1 b2 b3 h1 ⟨fun _=>hu,fun _=>?_⟩).gives
     cases z<;>simp[isStrA] at hstr
     exact⟨_,rfl⟩
    ·cases hr
   ·cases hr
  ·rename_i n sz sh _ har _
   simp only[Option.some.injEq,Prod.mk.injEq] at hc; obtain⟨rfl,rfl⟩:=hc
   obtain⟨z,rest,rfl,hz,hrest⟩:=hsplit (sz:=0) (R:=.mov) rfl
   simp only[ROp.run] at hr
   split at hr
   ·rename_i la lb lc hb3
    obtain⟨h1,rfl⟩:=same_some hr
    obtain⟨b1,b2,b3⟩:=bounds3_rel hrest hb3
    exact (aslice_ok hh har hz b1 b2 b3 h1).gives
   ·cases hr
  ·cases hc
 ·-- fieldAddr
  rename_i s x f ho
  cases hF:fieldP P s f with
  | none=>simp[hF] at hc
  | some p =>
   obtain⟨off,sh⟩:=p
   simp only[hF,Option.map_some,Option.some.injEq,Prod.mk.injEq] at hc; obtain⟨rfl,rfl⟩:=hc
   obtain⟨z,rfl,hz⟩:=one_ rfl
   obtain⟨h1,rfl⟩:=same_some hr
   rw[ho]
   exact (faddr_ok hh hF hz h1).gives
 ·-- field
  rename_i s x f ho
  cases hF:fieldP P s f with
  | none=>simp[hF] at hc
  | some p =>
   obtain⟨off,sh⟩:=p
   simp only[hF,Option.map_some,Option.some.injEq,Prod.mk.injEq] at hc; obtain⟨rfl,rfl⟩:=hc
   obtain⟨z,rfl,hz⟩:=one_ rfl
   obtain⟨h1,rfl⟩:=same_some hr
   rw[ho]
   exact (field_ok hh hF hz h1).gives
 ·-- indexAddr
  rename_i t x i ho
  rw[ho]
  split at hc
  ·rename_i e sz hsl
   simp only[Option.some.injEq,Prod.mk.injEq] at hc; obtain⟨rfl,rfl⟩:=hc
   obtain⟨z,z',rfl,hz,hz'⟩:=two_ rfl
   obtain⟨h1,rfl⟩:=same_some hr
   exact (iaddr_ok hh hsl hz hz' h1).gives
  ·rename_i n sz sh _ har
   simp only[Option.some.injEq,Prod.mk.injEq] at hc; obtain⟨rfl,rfl⟩:=hc
   obtain⟨z,z',rfl,hz,hz'⟩:=two_ rfl
   obtain⟨h1,rfl⟩:=same_some hr
   exact (aaddr_ok hh har hz hz' h1).gives
  ·cases hc
 ·-- index
  rename_i t x i ho
  rw[ho]
  split at hc
  ·rename_i hu
   simp only[Option.some.injEq,Prod.mk.injEq] at hc; obtain⟨rfl,rfl⟩:=hc
   obtain⟨z,z',rfl,hz,hz'⟩:=two_ rfl
   obtain⟨h1,rfl⟩:=same_some hr
   exact (indexS_ok hh hu hz hz' h1).gives
  ·rename_i n sz sh har _
   simp only[Option.some.injEq,Prod.mk.injEq] at hc; obtain⟨rfl,rfl⟩:=hc
   obtain⟨z,z',rfl,hz,hz'⟩:=two_ rfl
   obtain⟨h1,rfl⟩:=same_some hr
   exact (indexA_ok hh har hz hz' h1).gives
  ·cases hc
 ·-- extract
  rename_i x i ho
  simp only[Option.some.injEq,Prod.mk.injEq] at hc; obtain⟨rfl,rfl⟩:=hc
  obtain⟨z,rfl,hz⟩:=one_ rfl
  rw[ho]
  cases z<;>simp only[ROp.run,reduceCtorEq] at hr
  case tup vs =>
   obtain⟨h1,rfl⟩:=same_some hr
   simp only[VRel] at hz
   obtain⟨us,hz,hus⟩:=hz
   have hlt:=(List.getElem?_eq_some_iff.1 h1).1
   have hlt2:i<us.length:=by rw[← hus.length]; exact hlt
   have hg:=hus.get i
   simp only[List.getD,h1,List.getElem?_eq_getElem hlt2,Option.getD_some] at hg
   refine (OpOk.same hh (v:=us[i]) ?_ hg).gives
   rw[hz]
   simp[Instr.extract,hlt2]
 ·-- a builtin
  rename_i b args ts ho
  cases hB:compBuiltin P b ts.toList with
  | none=>simp[hB] at hc
  | some c =>
   simp only[hB,Option.map_some,Option.some.injEq,Prod.mk.injEq] at hc; obtain⟨rfl,rfl⟩:=hc
   have he0:execOp a.eval o=builtin b ts o.type (args.map fun | .const _=>true|_=>false) (args.map a.eval):=by
    unfold execOp; rw[ho]; rfl
   show Gives P Γ st.hp (execOp a.eval o) v hp'
   rw[he0]
   clear he0
   have hargs:args.map a.eval=⟨args.toList.map a.eval⟩:=by apply Array.ext'; simp
   rw[hargs]
   generalize hvs:args.toList.map a.eval=vs at hx
   have hts:ts=⟨ts.toList⟩:=rfl
   unfold compBuiltin at hB
   split at hB
   ·rename_i t hts'
    cases hl:lenP P t with
    | none=>simp[hl] at hB
    | some k =>
     simp only[hl,Option.map_some,Option.some.injEq] at hB; subst hB
     simp only[ROp.run] at hr
     split at hr
     ·split at hr
      ·rename_i x hf
       obtain⟨h1,rfl⟩:=same_some hr
       obtain⟨u,rfl,hu⟩:=hx.one'
       rw[hts,hts']
       exact (len_ok hh hl hu hf h1).gives
      ·cases hr
     ·cases hr
   ·rename_i t tx hts'
    split at hB
    ·rename_i e sz bytes he hk
     simp only[Option.some.injEq] at hB; subst hB
     simp only[ROp.run] at hr
     split at hr
     ·obtain⟨u,u',rfl,hu,hu'⟩:=hx.two'
      rw[hts,hts']
      exact (app_ok hh he hk hu hu' hr).gives
     ·cases hr
    ·rename_i e sz bytes he hk
     split at hB
     ·rename_i k Z hk2 hZ
      simp only[Option.some.injEq] at hB; subst hB
      simp only[ROp.run] at hr
      split at hr
      ·obtain⟨u,u',rfl,hu,hu'⟩:=hx.two'
       rw[hts,hts']
       exact (appz_ok hh he hk2 hZ hu hu' hr).gives
      ·cases hr
     ·cases hB
    ·cases hB
   ·rename_i t hts'
    split at hB
    ·rename_i e he
     simp only[Option.some.injEq] at hB; subst hB
     simp only[ROp.run] at hr
     split at hr
     ·obtain⟨h1,rfl⟩:=same_some hr
      obtain⟨u,rfl,hu⟩:=hx.one'
      rw[hts,hts']
      exact (cap_ok hh he hu h1).gives
     ·cases hr
    ·cases hB
   ·rename_i t hts'
    split at hB
    ·rename_i e sz bytes he
     cases hZ:zeroP P e with
     | none=>simp[hZ] at hB
     | some Z =>
      simp only[hZ,Option.map_some,Option.some.injEq] at hB; subst hB
      simp only[ROp.run] at hr
      split at hr
      ·rename_i x
       cases hcl:clearA st.hp Z x with
       | none=>simp[hcl] at hr
       | some h' =>
        simp only[hcl,Option.map_some,Option.some.injEq,Prod.mk.injEq] at hr; obtain⟨rfl,rfl⟩:=hr
        obtain⟨u,rfl,hu⟩:=hx.one'
        rw[hts,hts']
        exact (clear_ok hh he hZ hu hcl).gives
      ·cases hr
    ·cases hB
   ·rename_i t tx hts'
    split at hB
    ·rename_i e sz bytes he hk
     simp only[Option.some.injEq] at hB; subst hB
     simp only[ROp.run] at hr
     split at hr
     ·obtain⟨u,u',rfl,hu,hu'⟩:=hx.two'
      rw[hts,hts']
      exact (copy_ok hh he hk hu hu' hr).gives
     ·cases hr
    ·cases hB
   ·simp only[Option.some.injEq] at hB; subst hB
    obtain⟨h1,rfl⟩:=same_some hr
    exact (min_ok hh hx h1).gives
   ·simp only[Option.some.injEq] at hB; subst hB
    obtain⟨h1,rfl⟩:=same_some hr
    exact (max_ok hh hx h1).gives
   ·rename_i t t2 hts'
    split at hB
    ·rename_i kk kt e hm
     simp only[Option.some.injEq] at hB; subst hB
     simp only[ROp.run] at hr
     split at hr
     ·rename_i m k
      cases hs:delA st.hp kk m k with
      | none=>simp[hs] at hr
      | some h' =>
       simp only[hs,Option.map_some,Option.some.injEq,Prod.mk.injEq] at hr; obtain⟨rfl,rfl⟩:=hr
       obtain⟨u,u',rfl,hu,hu'⟩:=hx.two'
       rw[hts,hts']
       exact (del_ok hh hm hu hu' hs).gives
     ·cases hr
    ·cases hB
   ·cases hB
 ·-- makeMap
  rename_i t r ho
  rw[ho]
  split at hc
  ·simp only[Option.some.injEq,Prod.mk.injEq] at hc; obtain⟨rfl,rfl⟩:=hc
   have:xs=[]:=List.eq_nil_of_length_eq_zero (by simpa using hx.length)
   subst this
   simp only[ROp.run,Option.some.injEq] at hr
   have:=mkmap_ok (P:=P) (t:=t) hh
   rw[hr] at this
   exact this.gives
  ·split at hc
   ·rename_i r a b hu
    simp only[Option.some.injEq,Prod.mk.injEq] at hc; obtain⟨rfl,rfl⟩:=hc
    obtain⟨z,rfl,hz⟩:=one_ rfl
    simp only[ROp.run] at hr
    split at hr
    ·cases (by assumption:true=false)
    ·rename_i heq
     simp only[Option.some.injEq] at hr
     simp only[List.cons.injEq,and_true] at heq
     subst heq
     simp only[VRel] at hz
     simp only[Option.map_some,hz]
     refine OpOk.gives ?_
     have key:∀ (k:IntKind) (n:Int),OpOk P Γ st.hp (Instr.makeMap t (some (.int k n))) v hp':=fun k n=>by
      have:=mkmapR_ok (P:=P) (k:=k) (n:=n) hh hu
      rwa[hr] at this
     exact key _ _
    ·cases hr
   ·cases hc
 ·-- lookup
  rename_i t m k ok ho
  rw[ho]
  split at hc
  ·rename_i kk kt e hm
   cases hZ:zvP P e with
   | none=>simp[hZ] at hc
   | some z =>
    simp only[hZ,Option.map_some,Option.some.injEq,Prod.mk.injEq] at hc; obtain⟨rfl,rfl⟩:=hc
    obtain⟨y,y',rfl,hy,hy'⟩:=two_ rfl
    simp only[ROp.run] at hr
    obtain⟨h1,rfl⟩:=same_some hr
    exact (look_ok hh hm hZ hy hy' h1).gives
  ·cases hc
 ·-- mapUpdate
  rename_i t m k x ho
  rw[ho]
  cases hm:mapP P t with
  | none=>simp[hm] at hc
  | some q =>
   obtain⟨kk,kt,e⟩:=q
   simp only[hm,Option.map_some,Option.some.injEq,Prod.mk.injEq] at hc; obtain⟨rfl,rfl⟩:=hc
   simp only[ROp.run] at hr
   split at hr
   ·rename_i m' k' v'
    cases hs:mapupA st.hp kk m' k' v' with
    | none=>simp[hs] at hr
    | some h' =>
     simp only[hs,Option.map_some,Option.some.injEq,Prod.mk.injEq] at hr; obtain⟨rfl,rfl⟩:=hr
     obtain⟨u1,u2,u3,hu,h1,h2,h3⟩:=hx.three'
     simp at hu; obtain⟨rfl,rfl,rfl⟩:=hu
     exact (mapup_ok hh hm h1 h2 h3 hs).gives
   ·cases hr
 ·-- insert
  rename_i t m k x ho
  rw[ho]
  cases hm:mapP P t with
  | none=>simp[hm] at hc
  | some q =>
   obtain⟨kk,kt,e⟩:=q
   simp only[hm,Option.map_some,Option.some.injEq,Prod.mk.injEq] at hc; obtain⟨rfl,rfl⟩:=hc
   simp only[ROp.run] at hr
   split at hr
   ·rename_i m' k' v'
    cases hs:mapupA st.hp kk m' k' v' with
    | none=>simp[hs] at hr
    | some h' =>
     simp only[hs,Option.map_some,Option.some.injEq,Prod.mk.injEq] at hr; obtain⟨rfl,rfl⟩:=hr
     obtain⟨u1,u2,u3,hu,h1,h2,h3⟩:=hx.three'
     simp at hu; obtain⟨rfl,rfl,rfl⟩:=hu
     exact (mapup_ok hh hm h1 h2 h3 hs).gives
   ·cases hr
 ·-- range
  rename_i t x ho
  rw[ho]
  split at hc
  ·rename_i a b hu
   simp only[Option.some.injEq,Prod.mk.injEq] at hc; obtain⟨rfl,rfl⟩:=hc
   obtain⟨z,rfl,hz⟩:=one_ rfl
   simp only[ROp.run] at hr
   exact (range_ok hh hu hz hr).gives
  ·rename_i hu
   simp only[Option.some.injEq,Prod.mk.injEq] at hc; obtain⟨rfl,rfl⟩:=hc
   obtain⟨z,rfl,hz⟩:=one_ rfl
   simp only[ROp.run] at hr
   exact (rangeS_ok hh hu hz hr).gives
  ·cases hc
 ·-- next
  rename_i it s ho
  rw[ho]
  split at hc
  ·simp only[Option.some.injEq,Prod.mk.injEq] at hc; obtain⟨rfl,rfl⟩:=hc
   obtain⟨z,rfl,hz⟩:=one_ rfl
   simp only[ROp.run] at hr
   exact (next_ok hh hz hr).gives
  ·simp only[Option.some.injEq,Prod.mk.injEq] at hc; obtain⟨rfl,rfl⟩:=hc
   obtain⟨z,rfl,hz⟩:=one_ rfl
   simp only[ROp.run] at hr
   exact (nextS_ok hh hz hr).gives
 ·-- entry
  rename_i it ho
  rw[ho]
  simp only[Option.some.injEq,Prod.mk.injEq] at hc; obtain⟨rfl,rfl⟩:=hc
  obtain⟨z,rfl,hz⟩:=one_ rfl
  simp only[ROp.run] at hr
  obtain⟨h1,rfl⟩:=same_some hr
  exact (ent_ok hh hz h1).gives
 ·cases hc
end
section
set_option linter.unusedSectionVars false
variable [Mx]
open Go
def loopsIn:Code→List LC
 | .seq a b | .cond _ a b=>loopsIn a++loopsIn b
 | .block _ c | .loop c | .scope c=>loopsIn c
 | .rangeFunc _ ps a b=>⟨ps,a,b⟩ :: (loopsIn a++loopsIn b)
 | _=>[]
def lcP (P:Program) (key:Nat):LC:=
 match (P.funcs[key / 1000]?).bind (·.body) with
 | some c=>(loopsIn c).getD (key % 1000) ⟨#[],.skip,.skip⟩
 | none=>⟨#[],.skip,.skip⟩
def ACalls (P:Program) (g:FuncId) (xs:List AV) (hp:HP) (K:AV→HP→Prop):Prop:=
 (∃ fn, P.funcs[g]? = some fn ∧ (fn.name == "runtime.NumGoroutine") = false ∧ fn.body.isNone = false) ∧
 ∀ (Γ:Cx) (vs:List Value),HSim Γ hp→Γ.lc=lcP P→VRels Γ xs vs→Calls P g ⟨vs⟩ Γ.w fun e w' => ∃ v r hp' Δ,e=.returned v∧Δ.w=w'∧VRel Δ r v∧HSim Δ hp'∧Ev Γ hp Δ hp'∧K r hp'
theorem ACalls.mono {P:Program} {g:FuncId} {xs:List AV} {hp:HP} {K K':AV→HP→Prop} (h:ACalls P g xs hp K) (hk:∀ r hp',K r hp'→K' r hp'):ACalls P g xs hp K':=
 ⟨h.1,fun Γ vs h1 hl h2=>Calls.mono (h.2 Γ vs h1 hl h2) fun e w' ⟨v,r,hp',Δ,h3,h4,h5,h6,h7,h8⟩=>⟨v,r,hp',Δ,h3,h4,h5,h6,h7,hk r hp' h8⟩⟩
def Fw:Option Nat→Fence
 | none=>Fence.wide
 | some l=>Fence.wide.inRound l
theorem Fw_fn (r:Option Nat) (f:FuncId):(Fw r).fn f:=by cases r<;>trivial
theorem Fw_depth (r:Option Nat):(Fw r).depth.isSome=true→1≤0:=by cases r<;>(intro h; cases h)
theorem Fw_round (r:Option Nat):(Fw r).round=r:=by cases r<;>rfl
theorem Fw_calls (r:Option Nat) {n:Nat} {P:Program} {f:FuncId} {args:Array Value} {w:World} {R:Ending→World→Prop} (h:Calls P f args w R):CallsIn (Fw r) n P f args w R:=by
 cases r with
 | none=>exact callsIn_wide.2 h
 | some l=>exact (callsIn_wide.2 h).inRound l
def AExt (P:Program) (g:FuncId) (xs:List AV) (hp:HP) (K:AV→HP→Prop):Prop:=
 ∀ (Γ:Cx) (vs:List Value),HSim Γ hp→Γ.lc=lcP P→VRels Γ xs vs→∃ v r hp' Δ,(callFunc g ⟨vs⟩).run P Γ.w=.ok (.value v) Δ.w∧VRel Δ r v∧HSim Δ hp'∧Ev Γ hp Δ hp'∧K r hp'
theorem AExt.mono {P:Program} {g:FuncId} {xs:List AV} {hp:HP} {K K':AV→HP→Prop} (h:AExt P g xs hp K) (hk:∀ r hp',K r hp'→K' r hp'):AExt P g xs hp K':=fun Γ vs h1 hl h2 =>
 let ⟨v,r,hp',Δ,h3,h4,h5,h6,h7⟩:=h Γ vs h1 hl h2
 ⟨v,r,hp',Δ,h3,h4,h5,h6,hk r hp' h7⟩
def ARound (P:Program) (id:Nat) (xs:List AV) (hp:HP) (K:AV→HP→Prop):Prop:=
 ∀ (q:Option Nat) (Γ:Cx) (vs:List Value),HSim Γ hp→Γ.lc=lcP P→VRels Γ xs vs→id<Γ.n→∃ f tmps assign body,(Instr.yield (Γ.β id).1 ⟨vs⟩).run P Γ.w=.ok (.round (Γ.β id).1 f tmps assign body) Γ.w ∧
  RoundIn (Fw q) 0 P (Γ.β id).1 f tmps assign body Γ.w fun e w' => ∃ v r hp' Δ,e=.returned v∧Δ.w=w'∧VRel Δ r v∧HSim Δ hp'∧Ev Γ hp Δ hp'∧K r hp'
theorem ARound.mono {P:Program} {id:Nat} {xs:List AV} {hp:HP} {K K':AV→HP→Prop} (h:ARound P id xs hp K) (hk:∀ r hp',K r hp'→K' r hp'):ARound P id xs hp K':=fun q Γ vs h1 hl h2 h3 =>
 let ⟨f,t,a,b,h4,h5⟩:=h q Γ vs h1 hl h2 h3
 ⟨f,t,a,b,h4,h5.mono fun e w' ⟨v,r,hp',Δ,k3,k4,k5,k6,k7,k8⟩=>⟨v,r,hp',Δ,k3,k4,k5,k6,k7,hk r hp' k8⟩⟩
def ACallV (P:Program) (fv:AV) (xs:List AV) (hp:HP) (K:AV→HP→Prop):Prop:=
 match fv with
 | .func g caps=>ACalls P g (xs++caps) hp K∨AExt P g (xs++caps) hp K
 | .bound g first=>ACalls P g (first++xs) hp K
 | .yld id=>ARound P id xs hp K
 | _=>False
theorem ACallV.mono {P:Program} {fv:AV} {xs:List AV} {hp:HP} {K K':AV→HP→Prop} (h:ACallV P fv xs hp K) (hk:∀ r hp',K r hp'→K' r hp'):ACallV P fv xs hp K':=by
 cases fv<;>simp only[ACallV] at h ⊢
 ·exact h.imp (·.mono hk) (·.mono hk)
 ·exact h.mono hk
 ·exact h.mono hk
def mfind:List (Nat × Nat)→Nat→Option Nat
 | [],_=>none
 | (a,b) :: l,n=>cond (Nat.beq a n) (some b) (mfind l n)
theorem mfind_mem:∀ {l:List (Nat × Nat)} {n f:Nat},mfind l n=some f→(n,f) ∈ l
 | (a,b) :: l,n,f,h=>by
  simp only[mfind] at h
  cases hb:Nat.beq a n<;>rw[hb] at h
  ·exact List.mem_cons_of_mem _ (mfind_mem h)
  ·cases h
   rw[Nat.eq_of_beq_eq_true hb]
   exact List.mem_cons_self
def meth (ms:Option (List (Nat × Nat))) (fv:AV):AV:=
 match ms with
 | none=>fv
 | some l=>match fv with
  | .iface t v=>match mfind l t with
   | some f=>.bound f [v]
   | none=>.nilf
  | _=>.nilf
def isPtr:TypeDesc→Bool
 | .pointer _=>true
 | _=>false
def methAt (P:Program) (name:String) (t:Nat):Option Nat:=
 match P.info? t with
 | some i=>match i.methods.find? (·.name == name),P.underlying t with
  | some m,some u=>match m.path.toList,m.func with
   | [],some (f,p)=>cond (p == isPtr u) (some f) none
   | _,_=>none
  | _,_=>none
 | none=>none
def methsP (P:Program) (name:String):List (Nat × Nat):=
 (List.range P.types.size).filterMap fun t=>(methAt P name t).map fun f=>(t,f)
theorem methsP_mem {P:Program} {name:String} {t f:Nat} (h:(t,f) ∈ methsP P name):methAt P name t=some f:=by
 unfold methsP at h
 obtain⟨a,_,h⟩:=List.mem_filterMap.1 h
 cases hm:methAt P name a with
 | none=>simp[hm] at h
 | some g=>simp only[hm,Option.map_some,Option.some.injEq,Prod.mk.injEq] at h; obtain⟨rfl,rfl⟩:=h; exact hm
theorem methAt_run {P:Program} {name:String} {t f:Nat} (h:methAt P name t=some f) (n:Nat) (v:Value) (w:World):(method (n+1) t v name).run P w=.ok (f,v) w:=by
 unfold methAt at h
 split at h
 ·rename_i i hi
  split at h
  ·rename_i m u hm hu
   split at h
   ·rename_i f' p hp hf
    cases hb:(p == isPtr u)<;>rw[hb] at h
    ·cases h
    ·cases h
     have hti:(typeInfo t).run P w=.ok i w:=by simp[typeInfo,hi]
     unfold method
     simp only[Sem.run_bind,hti,Result.andThen_ok,hm,hp,follow,hf,receiverAt,run_underlying hu,Sem.run_pure]
     cases u<;>cases p<;>first|exact (Bool.false_ne_true hb).elim|simp[Place.get]
   ·cases h
  ·cases h
 ·cases h
inductive IK where
 | op (r:ROp)
 | call (ms:Option (List (Nat × Nat)))
structure IOp where
 dst:Option Nat
 k:IK
 args:List Opd
 guard:Option (Nat × Bool)
def wantedA (g:Option (Nat × Bool)) (tm:List AV):Bool:=
 match g with
 | none=>true
 | some (t,b)=>match tm.getD t (.tup []) with
  | .bool c=>c == b
  | _=>false
def putA (tm:List AV) (d:Option Nat) (v:AV):List AV:=
 match d with
 | none=>tm
 | some i=>tm.set i v
def evs (tm:List AV) (xs:List Opd):List AV:=xs.map (·.ev tm)
def compOper0 (P:Program) (fz:Bool) (ops:Array Oper) (o:Oper):Option IOp:=
 let g:Option (Option (Nat × Bool)):=match o.guard with
  | none=>some none
  | some (j,want)=>match (ops[j]?).bind (·.dst) with
   | some t=>some (some (t,want))
   | none=>none
 match g with
 | none=>none
 | some g=>match o.op with
  | .call { callee:=.value f,args,.. }=>(opdsP (f :: args.toList)).map fun ys=>⟨o.dst,.call none,ys,g⟩
  | .call { callee:=.invoke f name,args,.. }=>(opdsP (f :: args.toList)).map fun ys=>⟨o.dst,.call (some (methsP P name)),ys,g⟩
  | op=>match compOp P fz op with
   | some (r,xs)=>(opdsP xs).map fun ys=>⟨o.dst,.op r,ys,g⟩
   | none=>none
def havP (P:Program):Op→Bool
 | .load t (.global g)=>globalsI.contains g && (match shapeP P t with
  | some none=>true
  | _=>false)
 | _=>false
def compOper (P:Program) (fz:Bool) (ops:Array Oper) (o:Oper):Option IOp:=
 match compOper0 P fz ops o with
 | some i=>some i
 | none=>match (match o.guard with
  | none=>some none
  | some (j,want)=>match (ops[j]?).bind (·.dst) with
   | some t=>some (some (t,want))
   | none=>none:Option (Option (Nat × Bool))) with
  | some g=>some ⟨o.dst,.op (cond (havP P o.op) .hav .never),[],g⟩
  | none=>none
def compOps (P:Program) (fz:Bool) (ops:Array Oper):List Oper→Option (List IOp)
 | []=>some []
 | o :: os=>match compOper P fz ops o,compOps P fz ops os with
  | some i,some is=>some (i :: is)
  | _,_=>none
theorem compOps_get {P:Program} {fz:Bool} {ops:Array Oper}:∀ {os:List Oper} {is:List IOp},compOps P fz ops os=some is→is.length=os.length∧∀ (j:Nat) (o:Oper) (i:IOp),os[j]? = some o→is[j]? = some i→compOper P fz ops o=some i
 | [],is,h=>by simp only[compOps,Option.some.injEq] at h; subst h; simp
 | o :: os,is,h=>by
  simp only[compOps] at h
  split at h
  ·rename_i i is' h1 h2
   simp only[Option.some.injEq] at h
   subst h
   obtain⟨k1,k2⟩:=compOps_get h2
   refine⟨by simp[k1],fun j o' i' ho hi=>?_⟩
   cases j with
   | zero=>simp at ho hi; subst ho hi; exact h1
   | succ j=>exact k2 j o' i' (by simpa using ho) (by simpa using hi)
  ·cases h
theorem SSim.put {Γ Δ:Cx} {st:St} {a:Act} {hp':HP} (hs:SSim Γ st a) (hd:HSim Δ hp') (he:Ev Γ st.hp Δ hp') {d:Option Nat} {v:AV} {u:Value} (hv:VRel Δ v u):SSim Δ ⟨putA st.tm d v,hp'⟩ (a.put d u):=by
 have ht:=hs.tm.le he.le
 cases d with
 | none=>exact⟨ht,hd,hs.df.ev he⟩
 | some i =>
  refine⟨?_,hd,hs.df.ev he⟩
  simp only[putA,Act.put]
  have:=VRels.set hv ht i
  simpa using this
theorem wanted_rel {Γ:Cx} {st:St} {a:Act} (hs:SSim Γ st a) {ops:Array Oper} {o:Oper} {g:Option (Nat × Bool)} (hg:(match o.guard with
  | none=>some none
  | some (j,want)=>match (ops[j]?).bind (·.dst) with
   | some t=>some (some (t,want))
   | none=>none)=some g):Region.wanted o (yielded ops a.tmps)=wantedA g st.tm:=by
 unfold Region.wanted
 cases ho:o.guard with
 | none=>rw[ho] at hg; simp only[Option.some.injEq] at hg; subst hg; rfl
 | some jw =>
  obtain⟨j,want⟩:=jw
  rw[ho] at hg
  simp only at hg
  split at hg
  ·rename_i t ht
   simp only[Option.some.injEq] at hg
   subst hg
   have hrel:=hs.tm.get t
   simp only[wantedA,yielded,ht,Option.bind_some]
   rw[List.getD_eq_getElem?_getD (l:=a.tmps.toList)] at hrel
   have hget:a.tmps.toList[t]? = a.tmps[t]?:=by simp
   rw[hget] at hrel
   cases hx:st.tm.getD t (.tup [])<;>rw[hx] at hrel<;>cases hy:a.tmps[t]? <;> rw[hy] at hrel<;>simp only[Option.getD_some,Option.getD_none,VRel,undef,reduceCtorEq,Value.tuple.injEq] at hrel
   case bool.some b u=>subst hrel; cases b<;>cases want<;>rfl
   case fsl.some=>rcases hrel with ⟨rfl|⟨_,rfl⟩,_⟩|⟨_,_,_,rfl,_⟩<;>rfl
   case esl.some=>rcases hrel with rfl|⟨_,rfl⟩<;>rfl
   case enn.some=>obtain⟨_,_,rfl,_⟩:=hrel; rfl
   case unk.some=>obtain⟨_,_,rfl⟩:=hrel; rfl
   all_goals first
    | rfl
    | (obtain⟨_,rfl⟩:=hrel; rfl)
    | (obtain⟨_,_,rfl,_⟩:=hrel; rfl)
    | (obtain⟨_,_,_,_,_,rfl,_⟩:=hrel; rfl)
    | (obtain⟨_,_,_,rfl,_⟩:=hrel; rfl)
    | (obtain⟨_,rfl,_⟩:=hrel; rfl)
    | (subst hrel; rfl)
  ·cases hg
def vop (P:Program) (o:IOp) (st:St) (K:St→Prop):Prop:=
 if wantedA o.guard st.tm then
  match o.k with
  | .op r=>match r.run (evs st.tm o.args) st.hp with
   | some (v,hp')=>K ⟨putA st.tm o.dst v,hp'⟩
   | none=>(r.isHav=true∧∀ n:Int,K ⟨putA st.tm o.dst (.int .i64 n),st.hp⟩)∨∃ l,r.draws (evs st.tm o.args) st.hp=some l∧∀ x ∈ l,K ⟨putA st.tm o.dst x.1,x.2⟩
  | .call ms=>match evs st.tm o.args with
   | fv :: xs=>ACallV P (meth ms fv) xs st.hp fun v hp'=>K ⟨putA st.tm o.dst v,hp'⟩
   | _=>False
 else K ⟨putA st.tm o.dst (.tup []),st.hp⟩
def vops (P:Program):List IOp→St→(St→Prop)→Prop
 | [],st,Q=>Q st
 | o :: os,st,Q=>vop P o st fun st'=>vops P os st' Q
def Post (Γ:Cx) (hp:HP) (Q:Exit→St→Prop):Exit→Act→World→Prop:=
 fun e a w => ∃ Δ st,Δ.w=w∧SSim Δ st a∧Ev Γ hp Δ st.hp∧Q e st
theorem undef_rel (Γ:Cx):VRel Γ (.tup []) undef:=by simp[VRel,VRels,undef]
theorem compConv_nohav {P:Program} {s d:TypeId} {r:ROp} (h:compConv P s d=some r):r.isHav=false:=by
 unfold compConv at h
 repeat' split at h
 all_goals first|cases h; rfl|cases h
theorem compBuiltin_nohav {P:Program} {b:Builtin} {ts:List TypeId} {r:ROp} (h:compBuiltin P b ts=some r):r.isHav=false:=by
 unfold compBuiltin at h
 repeat' split at h
 all_goals (simp only[Option.map_eq_some_iff,Option.some.injEq,reduceCtorEq] at h)
 all_goals first|(subst h; rfl)|(obtain⟨_,_,rfl⟩:=h; rfl)
theorem compOp_nohav {P:Program} {fz:Bool} {o:Op} {r:ROp} {xs:List Operand} (h:compOp P fz o=some (r,xs)):r.isHav=false:=by
 unfold compOp at h
 repeat' split at h
 all_goals (simp only[Option.map_eq_some_iff,Option.some.injEq,reduceCtorEq,Prod.mk.injEq] at h)
 all_goals first|(obtain⟨rfl,_⟩:=h; rfl)|(obtain⟨_,h1,rfl,_⟩:=h; first|rfl|exact compConv_nohav h1|exact compBuiltin_nohav h1)
theorem compConv_nonext {P:Program} {s d:TypeId} {r:ROp} (h:compConv P s d=some r):r.isNext=false:=by
 unfold compConv at h
 repeat' split at h
 all_goals first|cases h; rfl|cases h
theorem compBuiltin_nonext {P:Program} {b:Builtin} {ts:List TypeId} {r:ROp} (h:compBuiltin P b ts=some r):r.isNext=false:=by
 unfold compBuiltin at h
 repeat' split at h
 all_goals (simp only[Option.map_eq_some_iff,Option.some.injEq,reduceCtorEq] at h)
 all_goals first|(subst h; rfl)|(obtain⟨_,_,rfl⟩:=h; rfl)
theorem compOp_next {P:Program} {fz:Bool} {o:Op} {r:ROp} {xs:List Operand} (h:compOp P fz o=some (r,xs)):r.isNext=false∨∃ it,o=.next it false∧xs=[it]:=by
 unfold compOp at h
 repeat' split at h
 all_goals (simp only[Option.map_eq_some_iff,Option.some.injEq,reduceCtorEq,Prod.mk.injEq] at h)
 all_goals first|(obtain⟨rfl,_⟩:=h; exact .inl rfl)|(obtain⟨_,h1,rfl,_⟩:=h; first|exact .inl rfl|exact .inl (compConv_nonext h1)|exact .inl (compBuiltin_nonext h1))|(obtain⟨rfl,rfl⟩:=h; exact .inr ⟨_,rfl,rfl⟩)
theorem compOp_draws {P:Program} {Γ:Cx} {st:St} {a:Act} (hs:SSim Γ st a) {fz:Bool} {o:Oper} {r:ROp} {ops:List Operand} {xs:List AV} (hc:compOp P fz o.op=some (r,ops)) (hx:VRels Γ xs (ops.map a.eval)) {l:List (AV × HP)} (hr:r.draws xs st.hp=some l):∃ x ∈ l,Gives P Γ st.hp (execOp a.eval o) x.1 x.2:=by
 rcases compOp_next hc with h|⟨it,ho,rfl⟩
 ·unfold ROp.draws at hr
  rw[h] at hr
  cases hr
 ·unfold ROp.draws at hr
  cases hn:r.isNext<;>rw[hn] at hr
  ·cases hr
  ·simp only[cond_true] at hr
   split at hr
   ·rename_i z
    obtain⟨u,hu,h1⟩:=hx.one'
    simp only[List.map_cons,List.map_nil,List.cons.injEq,and_true] at hu
    subst hu
    obtain⟨x,hx1,hx2⟩:=nextD_ok (P:=P) (ty:=o.type) hs.hp h1 hr
    refine⟨x,hx1,?_⟩
    unfold execOp
    rw[ho]
    exact hx2.gives
   ·cases hr
theorem havP_some {P:Program} {o:Op} (h:havP P o=true):∃ t g,o=.load t (.global g)∧g ∈ globalsI∧shapeP P t=some none:=by
 unfold havP at h
 split at h
 ·rename_i t g
  simp only[Bool.and_eq_true] at h
  refine⟨t,g,rfl,by simpa using h.1,?_⟩
  have:=h.2
  split at this
  ·assumption
  ·cases this
 ·cases h
theorem run_load_global {P:Program} {a:Act} {t:TypeId} {g:Nat} (hu:shapeP P t=some none) {w:World} {n:Int} (h:w.cell? ⟨g,0,none⟩=some (.int .i64 n)):(do pure (.value (← Instr.loadAt t (a.eval (.global g)))):Sem Next).run P w=.ok (.value (.int .i64 n)) w:=by
 have h0:(loadVar t ⟨g,0,none⟩).run P w=.ok (.int .i64 n) w:=by simp[loadVar,shapeP_one hu,h]
 simp[Act.eval,Instr.loadAt,Instr.sureAddr,h0]
theorem vop_sound0 {P:Program} {fz:Bool} {ops:Array Oper} {i:Nat} {o:Oper} (hi:ops[i]? = some o) {io:IOp} (hc:compOper0 P fz ops o=some io) {Γ:Cx} {st:St} {a:Act} (hs:SSim Γ st a) (hl:Γ.lc=lcP P) {K:St→Prop} (h:vop P io st K)
  {Q:Exit→Act→World→Prop} {K':Act→World→Prop} (r:Option Nat) (hk:∀ Δ st' a',SSim Δ st' a'→Ev Γ st.hp Δ st'.hp→K st'→K' a' Δ.w):wpOpIn (Fw r) 0 P ops Q i K' a Γ.w:=by
 have hnd:∀ c,o.op≠.defer c:=by
  intro c ho
  unfold compOper0 at hc
  simp only at hc
  split at hc
  ·cases hc
  ·rw[ho] at hc
   simp[compOp] at hc
 unfold wpOpIn
 simp only[hi]
 unfold compOper0 at hc
 simp only at hc
 split at hc
 ·cases hc
 ·rename_i g hg
  have hw:=wanted_rel hs hg
  have hguard:io.guard=g∧io.dst=o.dst:=by
   split at hc
   ·rename_i f args ts ho
    cases hy:opdsP (f :: args.toList) with
    | none=>simp[hy] at hc
    | some ys=>simp only[hy,Option.map_some,Option.some.injEq] at hc; subst hc; exact⟨rfl,rfl⟩
   ·rename_i f name args ts ho
    cases hy:opdsP (f :: args.toList) with
    | none=>simp[hy] at hc
    | some ys=>simp only[hy,Option.map_some,Option.some.injEq] at hc; subst hc; exact⟨rfl,rfl⟩
   ·split at hc
    ·rename_i r xs hr
     cases hy:opdsP xs with
     | none=>simp[hy] at hc
     | some ys=>simp only[hy,Option.map_some,Option.some.injEq] at hc; subst hc; exact⟨rfl,rfl⟩
    ·cases hc
  unfold vop at h
  rw[hguard.1,← hw,hguard.2] at h
  split
  ·rename_i hwant
   rw[if_pos hwant] at h
   refine⟨fun f _=>Fw_fn r f,?_⟩
   rw[Fw_round,Oper.semAt_eq r a.eval o hnd]
   split at hc
   ·rename_i f args ts ho
    cases hy:opdsP (f :: args.toList) with
    | none=>simp[hy] at hc
    | some ys =>
     simp only[hy,Option.map_some,Option.some.injEq] at hc
     subst hc
     simp only at h
     obtain⟨hrel,hlen⟩:=opds_rel hs.hp.gl hs.tm hy
     split at h
     ·rename_i fv xs hev
      have hrel':VRels Γ (fv :: xs) (a.eval f :: args.toList.map a.eval):=by
       rw[← hev]; exact hrel
      simp only[VRels,List.cons.injEq] at hrel'
      obtain⟨v,vs',⟨rfl,rfl⟩,hf,hxs⟩:=hrel'
      have hargs:args.map a.eval=⟨args.toList.map a.eval⟩:=by apply Array.ext'; simp
      have enter:∀ (g:FuncId) (ys:List AV) (us:List Value),VRels Γ ys us→(execOp a.eval o).run P Γ.w=(callFunc g ⟨us⟩).run P Γ.w→ACalls P g ys st.hp (fun v hp'=>K ⟨putA st.tm o.dst v,hp'⟩)→o.uponIn (Fw r) 0 P a K' Q ((execOp a.eval o).run P Γ.w):=by
       intro g ys us hu he ⟨⟨fn,hfn,hname,hbody⟩,hcall⟩
       have hn' : ¬ fn.name = "runtime.NumGoroutine" := by simpa using hname
       have hb':¬ fn.body=none:=by intro hb; rw[hb] at hbody; cases hbody
       have hrun:(callFunc g ⟨us⟩).run P Γ.w=.ok (.enter g ⟨us⟩) Γ.w:=by simp[callFunc,hfn,hn',hb']
       rw[he,hrun,Oper.uponIn_enter]
       refine⟨Fw_depth r,Fw_calls r (Calls.mono (hcall Γ us hs.hp hl hu) ?_)⟩
       rintro e w' ⟨v,u,hp',Δ,rfl,rfl,h5,h6,h7,h8⟩
       exact hk Δ _ _ (hs.put h6 h7 h5) h7 h8
      simp only[meth] at h
      cases fv<;>simp only[ACallV] at h
      case func gf caps =>
       simp only[VRel] at hf
       obtain⟨cvs,hf,hcs⟩:=hf
       have he:(execOp a.eval o).run P Γ.w=(callFunc gf ⟨args.toList.map a.eval++cvs⟩).run P Γ.w:=by
        unfold execOp
        rw[ho]
        simp only[resolve,hf,Deferred.ofValue,hargs]
        simp[invoke]
       rcases h with h|h
       ·exact enter gf _ _ (hxs.append hcs) he h
       ·obtain⟨v,u,hp',Δ,h3,h4,h5,h6,h7⟩:=h Γ _ hs.hp hl (hxs.append hcs)
        rw[he,h3,Oper.uponIn_value]
        exact hk Δ _ _ (hs.put h5 h6 h4) h6 h7
      case bound gf first =>
       simp only[VRel] at hf
       obtain⟨cvs,hf,hcs⟩:=hf
       have he:(execOp a.eval o).run P Γ.w=(callFunc gf ⟨cvs++args.toList.map a.eval⟩).run P Γ.w:=by
        unfold execOp
        rw[ho]
        simp only[resolve,hf,Deferred.ofValue,hargs]
        simp[invoke]
       exact enter gf _ _ (hcs.append hxs) he h
      case yld id =>
       simp only[VRel] at hf
       obtain⟨hid,hf⟩:=hf
       obtain⟨f',tmps,assign,body,h3,h4⟩:=h r Γ _ hs.hp hl hxs hid
       have he:(execOp a.eval o).run P Γ.w=(Instr.yield (Γ.β id).1 ⟨args.toList.map a.eval⟩).run P Γ.w:=by
        unfold execOp
        rw[ho]
        simp only[resolve,hf,Deferred.ofValue,hargs]
        simp[invoke]
       rw[he,h3,Oper.uponIn_round]
       refine⟨Fw_depth r,h4.mono ?_⟩
       rintro e w' ⟨v,u,hp',Δ,rfl,rfl,h5,h6,h7,h8⟩
       exact hk Δ _ _ (hs.put h6 h7 h5) h7 h8
     ·cases h
   ·rename_i f name args ts ho
    cases hy:opdsP (f :: args.toList) with
    | none=>simp[hy] at hc
    | some ys =>
     simp only[hy,Option.map_some,Option.some.injEq] at hc
     subst hc
     simp only at h
     obtain⟨hrel,hlen⟩:=opds_rel hs.hp.gl hs.tm hy
     split at h
     ·rename_i fv xs hev
      have hrel':VRels Γ (fv :: xs) (a.eval f :: args.toList.map a.eval):=by
       rw[← hev]; exact hrel
      simp only[VRels,List.cons.injEq] at hrel'
      obtain⟨v,vs',⟨rfl,rfl⟩,hf,hxs⟩:=hrel'
      have hargs:args.map a.eval=⟨args.toList.map a.eval⟩:=by apply Array.ext'; simp
      cases fv
      case iface t x =>
       simp only[meth] at h
       cases hg':mfind (methsP P name) t with
       | none=>rw[hg'] at h; exact False.elim h
       | some g' =>
        rw[hg'] at h
        simp only[ACallV] at h
        simp only[VRel] at hf
        obtain⟨u,hf,hu⟩:=hf
        obtain⟨⟨fn,hfn,hname,hbody⟩,hcall⟩:=h
        have hn' : ¬ fn.name = "runtime.NumGoroutine" := by simpa using hname
        have hb':¬ fn.body=none:=by intro hb; rw[hb] at hbody; cases hbody
        have hmr:=methAt_run (methsP_mem (mfind_mem hg'))
        have he:(execOp a.eval o).run P Γ.w=.ok (.enter g' ⟨u :: args.toList.map a.eval⟩) Γ.w:=by
         unfold execOp
         rw[ho]
         simp only[resolve,hf,hargs]
         have hd:∃ q,P.types.size+Made.depth=q+1:=⟨P.types.size+Made.depth - 1,by simp[Made.depth]⟩
         obtain⟨q,hq⟩:=hd
         have htk:List.take args.size (args.toList.map a.eval)=args.toList.map a.eval:=List.take_of_length_le (by simp)
         simp[invoke,callMethod,hq,hmr,callFunc,hfn,hn',hb',htk]
        rw[he,Oper.uponIn_enter]
        refine⟨Fw_depth r,Fw_calls r (Calls.mono (hcall Γ (u :: args.toList.map a.eval) hs.hp hl (by simp only[List.cons_append,List.nil_append,VRels]; exact⟨_,_,rfl,hu,hxs⟩)) ?_)⟩
        rintro e w' ⟨v,u,hp',Δ,rfl,rfl,h5,h6,h7,h8⟩
        exact hk Δ _ _ (hs.put h6 h7 h5) h7 h8
      all_goals exact False.elim h
     ·cases h
   ·split at hc
    ·rename_i rop xs hr
     cases hy:opdsP xs with
     | none=>simp[hy] at hc
     | some ys =>
      simp only[hy,Option.map_some,Option.some.injEq] at hc
      subst hc
      simp only at h
      obtain⟨hrel,_⟩:=opds_rel hs.hp.gl hs.tm hy
      split at h
      ·rename_i v hp' hrun
       obtain⟨u,Δ,h1,h2,h3,h4⟩:=compOp_ok hs hr hrel hrun
       rcases h1 with h1|⟨h1,rfl⟩
       ·rw[h1]
        exact hk Δ _ _ (hs.put h3 h4 h2) h4 h
       ·rw[h1]
        exact hk Δ _ _ (hs.put h3 h4 h2) h4 h
      ·rcases h with h|⟨l,hl1,hl2⟩
       ·exact absurd h.1 (by rw[compOp_nohav hr]; exact Bool.false_ne_true)
       ·obtain⟨x,hx1,u,Δ,h1,h2,h3,h4⟩:=compOp_draws hs hr hrel hl1
        rcases h1 with h1|⟨h1,rfl⟩
        ·rw[h1]
         exact hk Δ _ _ (hs.put h3 h4 h2) h4 (hl2 x hx1)
        ·rw[h1]
         exact hk Δ _ _ (hs.put h3 h4 h2) h4 (hl2 x hx1)
    ·cases hc
  ·rename_i hwant
   rw[if_neg hwant] at h
   exact⟨fun f _=>Fw_fn r f,hk Γ _ _ (hs.put hs.hp (Ev.refl _ _) (undef_rel Γ)) (Ev.refl _ _) h⟩
theorem vop_sound {P:Program} {fz:Bool} {ops:Array Oper} {i:Nat} {o:Oper} (hi:ops[i]? = some o) {io:IOp} (hc:compOper P fz ops o=some io) {Γ:Cx} {st:St} {a:Act} (hs:SSim Γ st a) (hl:Γ.lc=lcP P) {K:St→Prop} (h:vop P io st K)
  {Q:Exit→Act→World→Prop} {K':Act→World→Prop} (r:Option Nat) (hk:∀ Δ st' a',SSim Δ st' a'→Ev Γ st.hp Δ st'.hp→K st'→K' a' Δ.w):wpOpIn (Fw r) 0 P ops Q i K' a Γ.w:=by
 unfold compOper at hc
 split at hc
 ·rename_i i0 h0
  simp only[Option.some.injEq] at hc
  subst hc
  exact vop_sound0 hi h0 hs hl h r hk
 ·split at hc
  ·rename_i g hg
   simp only[Option.some.injEq] at hc
   subst hc
   have hw:=wanted_rel hs hg
   unfold vop at h
   rw[← hw] at h
   unfold wpOpIn
   simp only[hi]
   split
   ·rename_i hwant
    rw[if_pos hwant] at h
    cases hv:havP P o.op with
    | false=>rw[hv] at h; simp[ROp.run,ROp.isHav,ROp.draws,ROp.isNext] at h
    | true =>
     rw[hv] at h
     simp only[cond_true,ROp.run] at h
     refine⟨fun f _=>Fw_fn r f,?_⟩
     obtain⟨t,g',ho,hg',hu⟩:=havP_some hv
     obtain⟨_,n,hcell⟩:=hs.hp.gl.int g' hg'
     have hnd:∀ c,o.op≠.defer c:=by intro c hc; rw[ho] at hc; cases hc
     rw[Fw_round,Oper.semAt_eq r a.eval o hnd]
     have hrun:(execOp a.eval o).run P Γ.w=.ok (.value (.int .i64 n)) Γ.w:=by
      unfold execOp
      rw[ho]
      exact run_load_global hu hcell
     rw[hrun,Oper.uponIn_value]
     exact hk Γ _ _ (hs.put hs.hp (Ev.refl _ _) (by simp[VRel])) (Ev.refl _ _) ((h.resolve_right (by simp[ROp.draws,ROp.isNext])).2 n)
   ·rename_i hwant
    rw[if_neg hwant] at h
    exact⟨fun f _=>Fw_fn r f,hk Γ _ _ (hs.put hs.hp (Ev.refl _ _) (undef_rel Γ)) (Ev.refl _ _) h⟩
  ·cases hc
theorem vops_sound {P:Program} {fz:Bool} {ops:Array Oper} (r:Option Nat):∀ {is:List IOp} (k:Nat),(∀ (j:Nat) (i:IOp),is[j]? = some i→∃ o,ops[k+j]? = some o∧compOper P fz ops o=some i)→∀ {Γ:Cx} {st:St} {a:Act},SSim Γ st a→Γ.lc=lcP P→∀ {Q:St→Prop},vops P is st Q →
  ∀ {Q':Exit→Act→World→Prop},(∀ Δ st' a',SSim Δ st' a'→Ev Γ st.hp Δ st'.hp→Q st'→Q' .normal a' Δ.w)→wpOpsIn (Fw r) 0 P ops Q' (List.range' k is.length) a Γ.w
 | [],k,hc,Γ,st,a,hs,hl,Q,h,Q',hq=>hq Γ st a hs (Ev.refl _ _) h
 | i :: is,k,hc,Γ,st,a,hs,hl,Q,h,Q',hq=>by
  obtain⟨o,ho,hco⟩:=hc 0 i rfl
  simp only[List.length_cons,List.range'_succ,wpOpsIn_cons]
  refine vop_sound (by simpa using ho) hco hs hl h r fun Δ st' a' h1 h2 h3=>?_
  refine vops_sound (fz:=fz) r (k+1) (fun j i' hi'=>?_) h1 (h2.le.lc.trans hl) h3 fun Θ st'' a'' h4 h5 h6=>hq Θ st'' a'' h4 (h2.trans h5) h6
  have:=hc (j+1) i' (by simpa using hi')
  rwa[show k+1+j=k+(j+1) by omega]
end
end Go.Gi
