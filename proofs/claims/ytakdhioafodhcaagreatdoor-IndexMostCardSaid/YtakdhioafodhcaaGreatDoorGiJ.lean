/- The operations, compiled; a state of the abstract machine; that a compiled operation does what it says. -/
import Derived.Test.YtakdhioafodhcaaGreatDoorGiZ
import Derived.Test.YtakdhioafodhcaaGreatDoorGiZA
set_option linter.unusedVariables false
set_option linter.unusedSimpArgs false
namespace Go.Gi
open _root_.List renaming eq_nil_of_length_eq_zero → qq, map_cons → qB
open _root_.List.cons renaming injEq → xc
open _root_.Option renaming map_some → qh
open _root_.Option.some renaming injEq → qd
open _root_.Prod.mk renaming injEq → qj
open _root_.Go.Sem renaming run_pure → qO
set_option linter.unusedSectionVars false
variable [Mx]
open Go
structure St where
 tm:List AV
 hp:HP
structure SSim (Γ:Cx) (st:St) (a:Act):Prop where
 tm:VRels Γ st.tm a.tmps.toList
 hp:HSim Γ st.hp
 df:MarksOk Γ st.hp a.defers
inductive Opd where
 | t (i:Nat)
 | c (v:AV)
 | f (g:FuncId)
def Opd.ev (tm:List AV):Opd→AV
 | .t i=>tm.getD i (.tup [])
 | .c v=>v
 | .f g=>.func g []
def opdP:Operand→Option Opd
 | .tmp i=>some (.t i)
 | .const v=>(constA v).map .c
 | .func g=>some (.f g)
 | .global g=>(globals.lookup g).map fun cs=>.c (.fptr cs 0)
def opdsP:List Operand→Option (List Opd)
 | []=>some []
 | x :: xs=>match opdP x,opdsP xs with
  | some y,some ys=>some (y :: ys)
  | _,_=>none
theorem lookup_mem {β:Type} {k:Nat} {v:β}:∀ {l:List (Nat × β)},l.lookup k=some v→(k,v) ∈ l
 | [],h=>by simp at h
 | (k',v') :: l,h=>by
  rw[List.lookup_cons] at h
  split at h
  ·rename_i he
   simp at he h
   subst he h
   exact List.mem_cons_self
  ·exact List.mem_cons_of_mem _ (lookup_mem h)
theorem opd_rel {Γ:Cx} {tm:List AV} {a:Act} (hg:GOk Γ) (h:VRels Γ tm a.tmps.toList) {x:Operand} {y:Opd} (hy:opdP x=some y):VRel Γ (y.ev tm) (a.eval x):=by
 cases x with
 | tmp i =>
  simp only[opdP,qd] at hy
  subst hy
  have:=h.get i
  simp only[Opd.ev,Act.eval]
  rw[Array.getD_eq_getD_getElem?]
  rw[List.getD_eq_getElem?_getD (l:=a.tmps.toList)] at this
  simpa using this
 | const v =>
  simp only[opdP] at hy
  cases hc:constA v with
  | none=>simp[hc] at hy
  | some b =>
   simp only[hc,qh,qd] at hy
   subst hy
   exact constA_rel hc
 | func g =>
  simp only[opdP,qd] at hy
  subst hy
  simp only[Opd.ev,VRel,Act.eval]
  exact⟨[],rfl,by simp[VRels]⟩
 | global g =>
  simp only[opdP] at hy
  cases hc:globals.lookup g with
  | none=>simp[hc] at hy
  | some cs =>
   simp only[hc,qh,qd] at hy
   subst hy
   exact hg.at_ (g,cs) (lookup_mem hc)
theorem opds_rel {Γ:Cx} {tm:List AV} {a:Act} (hg:GOk Γ) (h:VRels Γ tm a.tmps.toList):∀ {xs:List Operand} {ys:List Opd},opdsP xs=some ys→VRels Γ (ys.map (·.ev tm)) (xs.map a.eval)∧ys.length=xs.length
 | [],ys,hy=>by simp only[opdsP,qd] at hy; subst hy; simp[VRels]
 | x :: xs,ys,hy=>by
  simp only[opdsP] at hy
  split at hy
  ·rename_i y ys' h1 h2
   simp only[qd] at hy
   subst hy
   obtain⟨k1,k2⟩:=opds_rel hg h h2
   simp only[qB,VRels,List.length_cons]
   exact⟨⟨_,_,rfl,opd_rel hg h h1,k1⟩,by omega⟩
  ·cases hy
inductive ROp where
 | mov
 | pick
 | box (e:TypeId)
 | alloc (e:TypeId) (Z:List AV)
 | bsl (e:TypeId) (sz:Nat) (fz:Bool)
 | bst (Z:List AV) (places:List (Nat × Nat)) (idx:List Nat)
 | load (sh:Option Nat)
 | store (n:Nat)
 | nilchk
 | bin (op:BinOp) (K:EqK)
 | un (op:UnOp)
 | s2b (e:TypeId)
 | b2s
 | toInt (k:IntKind)
 | strId
 | mkfn (f:FuncId)
 | mkbound (f:FuncId)
 | mkif (t:TypeId)
 | make (e:TypeId) (Z:List AV) (bytes:Nat)
 | slice (sz:Nat) (lo hi mx:Bool)
 | sslice (lo hi mx:Bool)
 | aslice (n sz:Nat) (lo hi mx:Bool)
 | faddr (off:Nat)
 | field (off:Nat) (sh:Option Nat)
 | iaddr (sz:Nat)
 | aaddr (n sz:Nat)
 | idxs
 | idxa (n sz:Nat) (sh:Option Nat)
 | extract (i:Nat)
 | len (k:LenK)
 | app (e:TypeId) (sz bytes:Nat)
 | clear (Z:List AV)
 | min
 | max
 | never
 | cap
 | appz (e:TypeId) (Z:List AV) (bytes:Nat)
 | cpy (sz:Nat)
 | cvs
 | mkmap (r:Bool)
 | look (kk:KK) (z:AV) (ok:Bool)
 | mapup (kk:KK)
 | del (kk:KK)
 | rangem
 | nextm
 | entm
 | ranges
 | nexts
 | r2s
 | hav
def isStrA:AV→Bool
 | .str _=>true
 | _=>false
def bounds3 (lo hi mx:Bool) (xs:List AV):Option (Option AV × Option AV × Option AV):=
 match lo,hi,mx,xs with
 | false,false,false,[]=>some (none,none,none)
 | true,false,false,[a]=>some (some a,none,none)
 | false,true,false,[b]=>some (none,some b,none)
 | true,true,false,[a,b]=>some (some a,some b,none)
 | false,true,true,[b,c]=>some (none,some b,some c)
 | true,true,true,[a,b,c]=>some (some a,some b,some c)
 | _,_,_,_=>none
def same (hp:HP) (r:Option AV):Option (AV × HP):=r.map fun v=>(v,hp)
def ROp.run (r:ROp) (xs:List AV) (hp:HP):Option (AV × HP):=
 match r with
 | .mov=>match xs with
  | [x]=>some (x,hp)
  | _=>none
 | .pick=>match xs with
  | [.bool true,a,_]=>some (a,hp)
  | [.bool false,_,b]=>some (b,hp)
  | _=>none
 | .box e=>match xs with
  | [x]=>boxA hp e x
  | _=>none
 | .alloc e Z=>match xs with
  | []=>some (allocA hp e Z)
  | _=>none
 | .bsl e sz fz=>bslA hp e sz fz xs
 | .bst Z places idx=>if xs.length=idx.length then same hp ((fillA places Z (idx.zip xs)).map .agg) else none
 | .load sh=>match xs with
  | [p]=>same hp (loadA hp sh p)
  | _=>none
 | .store n=>match xs with
  | [p,v]=>(storeA hp n p v).map fun hp'=>(.tup [],hp')
  | _=>none
 | .nilchk=>match xs with
  | [x]=>same hp (nilchkA x)
  | _=>none
 | .bin op K=>match xs with
  | [x,y]=>same hp (binA op K x y)
  | _=>none
 | .un op=>match xs with
  | [x]=>same hp (unA op x)
  | _=>none
 | .s2b e=>match xs with
  | [x]=>s2bA hp e x
  | _=>none
 | .b2s=>match xs with
  | [x]=>same hp (b2sA hp x)
  | _=>none
 | .toInt k=>match xs with
  | [.int _ n]=>some (.int k (k.wrap n),hp)
  | _=>none
 | .strId=>match xs with
  | [.str s]=>some (.str s,hp)
  | _=>none
 | .mkfn f=>some (.func f xs,hp)
 | .mkbound f=>some (.bound f xs,hp)
 | .mkif t=>match xs with
  | [x]=>some (.iface t x,hp)
  | _=>none
 | .make e Z bytes=>match xs with
  | [l,c]=>makeA hp e Z bytes l c
  | _=>none
 | .slice sz lo hi mx=>match xs with
  | x :: rest=>match bounds3 lo hi mx rest with
   | some (a,b,c)=>if isStrA x then none else same hp (sliceA sz x a b c)
   | none=>none
  | _=>none
 | .sslice lo hi mx=>match xs with
  | x :: rest=>match bounds3 lo hi mx rest with
   | some (a,b,c)=>if isStrA x then same hp (sliceA 0 x a b c) else none
   | none=>none
  | _=>none
 | .aslice n sz lo hi mx=>match xs with
  | x :: rest=>match bounds3 lo hi mx rest with
   | some (a,b,c)=>same hp (asliceA hp n sz x a b c)
   | none=>none
  | _=>none
 | .faddr off=>match xs with
  | [x]=>same hp (faddrA off x)
  | _=>none
 | .field off sh=>match xs with
  | [x]=>same hp (fieldA off sh x)
  | _=>none
 | .iaddr sz=>match xs with
  | [x,i]=>same hp (iaddrA sz x i)
  | _=>none
 | .aaddr n sz=>match xs with
  | [x,i]=>same hp (aaddrA n sz x i)
  | _=>none
 | .idxs=>match xs with
  | [x,i]=>same hp (indexSA x i)
  | _=>none
 | .idxa n sz sh=>match xs with
  | [x,i]=>same hp (indexAA n sz sh x i)
  | _=>none
 | .extract i=>match xs with
  | [.tup vs]=>same hp vs[i]?
  | _=>none
 | .len k=>match xs with
  | [x]=>if lenFits k x then same hp (lenA hp x) else none
  | _=>none
 | .app e sz bytes=>match xs with
  | [d,x]=>appA e sz bytes hp d x
  | _=>none
 | .clear Z=>match xs with
  | [x]=>(clearA hp Z x).map fun hp'=>(.tup [],hp')
  | _=>none
 | .min=>same hp (minmaxA false xs)
 | .max=>same hp (minmaxA true xs)
 | .never=>none
 | .cap=>match xs with
  | [x]=>same hp (capA x)
  | _=>none
 | .appz e Z bytes=>match xs with
  | [d,x]=>appzA e Z bytes hp d x
  | _=>none
 | .cpy sz=>match xs with
  | [d,x]=>copyA hp sz d x
  | _=>none
 | .cvs=>match xs with
  | [x]=>same hp (convA hp x)
  | _=>none
 | .mkmap r=>match r,xs with
  | false,[]=>some (mkmapA hp)
  | true,[.int _ _]=>some (mkmapA hp)
  | _,_=>none
 | .look kk z ok=>match xs with
  | [m,k]=>same hp (lookA hp kk z ok m k)
  | _=>none
 | .mapup kk=>match xs with
  | [m,k,v]=>(mapupA hp kk m k v).map fun hp'=>(.tup [],hp')
  | _=>none
 | .del kk=>match xs with
  | [m,k]=>(delA hp kk m k).map fun hp'=>(.tup [],hp')
  | _=>none
 | .rangem=>match xs with
  | [m]=>rangeA hp m
  | _=>none
 | .nextm=>match xs with
  | [it]=>nextA hp it
  | _=>none
 | .entm=>match xs with
  | [it]=>same hp (entA hp it)
  | _=>none
 | .ranges=>match xs with
  | [m]=>rangeSA hp m
  | _=>none
 | .nexts=>match xs with
  | [it]=>nextSA hp it
  | _=>none
 | .r2s=>match xs with
  | [.int _ n]=>some (.str (Utf8.encode n).data.toList,hp)
  | _=>none
 | .hav=>none
def ROp.isHav:ROp→Bool
 | .hav=>true
 | _=>false
def ROp.isNext:ROp→Bool
 | .nextm=>true
 | _=>false
def ROp.draws (r:ROp) (xs:List AV) (hp:HP):Option (List (AV × HP)):=
 cond r.isNext (match xs with
  | [it]=>nextDs hp it
  | _=>none) none
def isInt (P:Program) (t:TypeId):Option IntKind:=
 match P.underlying t with
 | some (.int k)=>some k
 | _=>none
def compConv (P:Program) (src dst:TypeId):Option ROp:=
 match P.underlying src,P.underlying dst with
 | some (.int _),some (.int k)=>some (.toInt k)
 | some (.int _),some .string=>some .r2s
 | some .string,some .string=>some .strId
 | some .string,some (.slice e)=>match P.underlying e with
  | some (.int .u8)=>some (.s2b e)
  | _=>none
 | some (.slice e),some .string=>match P.underlying e with
  | some (.int .u8)=>some .b2s
  | _=>none
 | some (.slice e),some (.slice _)=>if src=dst then (match P.underlying e with
  | some (.int .u8)=>some .cvs
  | _=>none) else none
 | _,_=>none
def compBuiltin (P:Program) (b:Builtin) (ts:List TypeId):Option ROp:=
 match b,ts with
 | .len,[t]=>(lenP P t).map .len
 | .append,[t,tx]=>match elemP P t,seqP P tx with
  | some (e,sz,bytes),true=>some (.app e sz bytes)
  | some (e,sz,bytes),false=>match P.underlying tx,zeroP P e with
   | some (.int _),some Z=>some (.appz e Z bytes)
   | _,_=>none
  | _,_=>none
 | .cap,[t]=>match P.underlying t with
  | some (.slice _)=>some .cap
  | _=>none
 | .clear,[t]=>match elemP P t with
  | some (e,_,_)=>(zeroP P e).map .clear
  | none=>none
 | .copy,[t,tx]=>match elemP P t,seqP P tx with
  | some (_,sz,_),true=>some (.cpy sz)
  | _,_=>none
 | .min,_=>some .min
 | .max,_=>some .max
 | .delete,[t,_]=>match mapP P t with
  | some (kk,_,_)=>some (.del kk)
  | none=>none
 | _,_=>none
def compOp (P:Program) (fz:Bool) (o:Op):Option (ROp × List Operand):=
 match o with
 | .move x | .assign x=>some (.mov,[x])
 | .pick c a b=>some (.pick,[c,a,b])
 | .box e x=>some (.box e,[x])
 | .alloc e=>(zeroP P e).map fun Z=>(.alloc e Z,[])
 | .buildSlice t len parts=>match elemP P t with
  | some (e,sz,_)=>if parts.toList.map (·.1)=List.range len∧len*sz≤16777216 then some (.bsl e sz fz,parts.toList.map (·.2)) else none
  | none=>none
 | .build t parts=>match zeroP P t,placesP P t with
  | some Z,some places=>some (.bst Z places (parts.toList.map (·.1)),parts.toList.map (·.2))
  | _,_=>none
 | .load t a=>(shapeP P t).map fun sh=>(.load sh,[a])
 | .store t a x=>(sizeP P t).map fun n=>(.store n,[a,x])
 | .nilCheck x=>some (.nilchk,[x])
 | .binOp op t x y _=>some (.bin op (eqP P t (opIsConst x || opIsConst y)),[x,y])
 | .unOp op _ x=>some (.un op,[x])
 | .convert src dst x=>(compConv P src dst).map fun r=>(r,[x])
 | .makeInterface t x=>match P.underlying t with
  | some (.interface _) | none=>none
  | _=>some (.mkif t,[x])
 | .makeFunc (.func f) first captured=>if first.size=0 then some (.mkfn f,captured.toList) else if captured.size=0 then some (.mkbound f,first.toList) else none
 | .makeSlice t l c=>match elemP P t with
  | some (e,_,bytes)=>(zeroP P e).map fun Z=>(.make e Z bytes,[l,c])
  | none=>none
 | .slice t x lo hi mx=>match sliceP P t,P.underlying t,arrayP P t with
  | some (_,sz),_,_=>some (.slice sz lo.isSome hi.isSome mx.isSome,x :: (lo.toList++hi.toList++mx.toList))
  | none,some .string,_=>some (.sslice lo.isSome hi.isSome mx.isSome,x :: (lo.toList++hi.toList++mx.toList))
  | none,_,some (n,sz,_)=>some (.aslice n sz lo.isSome hi.isSome mx.isSome,x :: (lo.toList++hi.toList++mx.toList))
  | _,_,_=>none
 | .fieldAddr s x f=>(fieldP P s f).map fun p=>(.faddr p.1,[x])
 | .field s x f=>(fieldP P s f).map fun p=>(.field p.1 p.2,[x])
 | .indexAddr t x i=>match sliceP P t,arrayP P t with
  | some (_,sz),_=>some (.iaddr sz,[x,i])
  | none,some (n,sz,_)=>some (.aaddr n sz,[x,i])
  | none,none=>none
 | .index t x i=>match P.underlying t,arrayP P t with
  | some .string,_=>some (.idxs,[x,i])
  | _,some (n,sz,sh)=>some (.idxa n sz sh,[x,i])
  | _,none=>none
 | .extract x i=>some (.extract i,[x])
 | .call { callee:=.builtin b,args,argTypes }=>(compBuiltin P b argTypes.toList).map fun r=>(r,args.toList)
 | .makeMap t r=>match r with
  | none=>some (.mkmap false,[])
  | some r=>match P.underlying t with
   | some (.map _ _)=>some (.mkmap true,[r])
   | _=>none
 | .lookup t m k ok=>match mapP P t with
  | some (kk,_,e)=>(zvP P e).map fun z=>(.look kk z ok,[m,k])
  | none=>none
 | .mapUpdate t m k x=>(mapP P t).map fun (kk,_,_)=>(.mapup kk,[m,k,x])
 | .insert t m k x=>(mapP P t).map fun (kk,_,_)=>(.mapup kk,[m,k,x])
 | .range t x=>match P.underlying t with
  | some (.map _ _)=>some (.rangem,[x])
  | some .string=>some (.ranges,[x])
  | _=>none
 | .next it s=>match s with
  | false=>some (.nextm,[it])
  | true=>some (.nexts,[it])
 | .entry it=>some (.entm,[it])
 | _=>none
def Gives (P:Program) (Γ:Cx) (hp:HP) (m:Sem Next) (r:AV) (hp':HP):Prop:=
 ∃ v Δ,(m.run P Γ.w=.ok (.value v) Δ.w∨(m.run P Γ.w=.ok .skip Δ.w∧v=undef))∧VRel Δ r v∧HSim Δ hp'∧Ev Γ hp Δ hp'
theorem OpOk.gives {P:Program} {Γ:Cx} {hp hp':HP} {m:Sem Value} {r:AV} (h:OpOk P Γ hp m r hp'):Gives P Γ hp (do pure (.value (← m))) r hp':=by
 obtain⟨v,Δ,h1,h2,h3,h4⟩:=h
 exact⟨v,Δ,.inl (by simp[h1]),h2,h3,h4⟩
theorem OpDone.gives {P:Program} {Γ:Cx} {hp hp':HP} {m:Sem Unit} (h:OpDone P Γ hp m hp'):Gives P Γ hp (do m; pure .skip) (.tup []) hp':=by
 obtain⟨Δ,h1,h2,h3⟩:=h
 exact⟨undef,Δ,.inr ⟨by simp[h1],rfl⟩,by simp[VRel,VRels,undef],h2,h3⟩
theorem VRels.one' {Γ:Cx} {a:AV} {vs:List Value} (h:VRels Γ [a] vs):∃ v,vs=[v]∧VRel Γ a v:=by
 simp only[VRels] at h
 obtain⟨v,vs',rfl,h1,rfl⟩:=h
 exact⟨v,rfl,h1⟩
theorem VRels.two' {Γ:Cx} {a b:AV} {vs:List Value} (h:VRels Γ [a,b] vs):∃ u v,vs=[u,v]∧VRel Γ a u∧VRel Γ b v:=by
 simp only[VRels] at h
 obtain⟨v,vs',rfl,h1,u,us',rfl,h2,rfl⟩:=h
 exact⟨v,u,rfl,h1,h2⟩
theorem VRels.three' {Γ:Cx} {a b c:AV} {vs:List Value} (h:VRels Γ [a,b,c] vs):∃ u v x,vs=[u,v,x]∧VRel Γ a u∧VRel Γ b v∧VRel Γ c x:=by
 simp only[VRels] at h
 obtain⟨v,vs',rfl,h1,u,us',rfl,h2,x,xs',rfl,h3,rfl⟩:=h
 exact⟨v,u,x,rfl,h1,h2,h3⟩
theorem bndV_of {a:AV} {v:Value} {Γ:Cx} (h:VRel Γ a v):bndV (some a) (some v):=by
 cases a<;>simp only[bndV]
 simpa only[VRel] using h
theorem bounds3_rel {Γ:Cx} {lo hi mx:Option Operand} {ev:Operand→Value} {xs:List AV} (h:VRels Γ xs ((lo.toList++hi.toList++mx.toList).map ev)) {a b c:Option AV} (hb:bounds3 lo.isSome hi.isSome mx.isSome xs=some (a,b,c)) :
  bndV a (lo.map ev)∧bndV b (hi.map ev)∧bndV c (mx.map ev):=by
 rcases lo with _|lo<;>rcases hi with _|hi<;>rcases mx with _|mx<;>simp only[Option.toList_none,List.append_nil,List.map_nil,Option.isSome_none,Option.toList_some,List.nil_append,qB,Option.isSome_some,List.cons_append] at h hb<;>unfold bounds3 at hb<;>split at hb<;>simp only[qd,qj,reduceCtorEq] at hb
 all_goals (try contradiction)
 all_goals obtain⟨rfl,rfl,rfl⟩:=hb
 all_goals simp only[Option.map_none,qh]
 ·exact⟨trivial,trivial,trivial⟩
 ·obtain⟨u,hu,h1⟩:=h.one'; simp only[xc,and_true] at hu; subst hu; exact⟨trivial,bndV_of h1,trivial⟩
 ·obtain⟨u,v,hu,h1,h2⟩:=h.two'; simp only[xc,and_true] at hu; obtain⟨rfl,rfl⟩:=hu; exact⟨trivial,bndV_of h1,bndV_of h2⟩
 ·obtain⟨u,hu,h1⟩:=h.one'; simp only[xc,and_true] at hu; subst hu; exact⟨bndV_of h1,trivial,trivial⟩
 ·obtain⟨u,v,hu,h1,h2⟩:=h.two'; simp only[xc,and_true] at hu; obtain⟨rfl,rfl⟩:=hu; exact⟨bndV_of h1,bndV_of h2,trivial⟩
 ·obtain⟨u,v,x,hu,h1,h2,h3⟩:=h.three'; simp only[xc,and_true] at hu; obtain⟨rfl,rfl,rfl⟩:=hu; exact⟨bndV_of h1,bndV_of h2,bndV_of h3⟩
theorem same_some {hp hp':HP} {r:Option AV} {v:AV} (h:same hp r=some (v,hp')):r=some v∧hp'=hp:=by
 cases r with
 | none=>simp[same] at h
 | some a=>simp only[same,qh,qd,qj] at h; exact⟨by rw[h.1],h.2.symm⟩
theorem zip_fst {α β:Type}:∀ (l:List (α × β)),(l.map (·.1)).zip (l.map (·.2))=l
 | []=>rfl
 | (a,b) :: l=>by simp[zip_fst l]
set_option maxHeartbeats 1600000 in
theorem compOp_ok {P:Program} {Γ:Cx} {st:St} {a:Act} (hs:SSim Γ st a) {fz:Bool} {o:Oper} {r:ROp} {ops:List Operand} {xs:List AV} (hc:compOp P fz o.op=some (r,ops)) (hx:VRels Γ xs (ops.map a.eval)) {v:AV} {hp':HP}
  (hr:r.run xs st.hp=some (v,hp')):Gives P Γ st.hp (execOp a.eval o) v hp':=by
 have one_:∀ {y:Operand},ops=[y]→∃ z,xs=[z]∧VRel Γ z (a.eval y):=by
  rintro y rfl
  have hl:=hx.length
  rcases xs with _|⟨z,_|⟨z',zs⟩⟩
  ·simp at hl
  ·obtain⟨u,hu,h1⟩:=hx.one'
   simp at hu; subst hu; exact⟨z,rfl,h1⟩
  ·simp at hl
 have two_:∀ {y y':Operand},ops=[y,y']→∃ z z',xs=[z,z']∧VRel Γ z (a.eval y)∧VRel Γ z' (a.eval y'):=by
  rintro y y' rfl
  have hl:=hx.length
  rcases xs with _|⟨z,_|⟨z',_|⟨z2,zs⟩⟩⟩
  ·simp at hl
  ·simp at hl
  ·obtain⟨u,u',hu,h1,h2⟩:=hx.two'
   simp at hu; obtain⟨rfl,rfl⟩:=hu; exact⟨z,z',rfl,h1,h2⟩
  ·simp at hl
 have hh:=hs.hp
 unfold compOp at hc
 unfold execOp
 split at hc
 ·-- move
  rename_i x ho
  simp only[qd,qj] at hc; obtain⟨rfl,rfl⟩:=hc
  obtain⟨z,rfl,hz⟩:=one_ rfl
  simp only[ROp.run,qd,qj] at hr; obtain⟨rfl,rfl⟩:=hr
  rw[ho]
  exact⟨_,Γ,.inl rfl,hz,hh,Ev.refl _ _⟩
 ·-- assign
  rename_i x ho
  simp only[qd,qj] at hc; obtain⟨rfl,rfl⟩:=hc
  obtain⟨z,rfl,hz⟩:=one_ rfl
  simp only[ROp.run,qd,qj] at hr; obtain⟨rfl,rfl⟩:=hr
  rw[ho]
  exact⟨_,Γ,.inl rfl,hz,hh,Ev.refl _ _⟩
 ·-- pick
  rename_i c x y ho
  simp only[qd,qj] at hc; obtain⟨rfl,rfl⟩:=hc
  rw[ho]
  simp only[ROp.run] at hr
  split at hr
  ·simp only[qd,qj] at hr; obtain⟨rfl,rfl⟩:=hr
   obtain⟨u1,u2,u3,hu,h1,h2,h3⟩:=hx.three'
   simp at hu; obtain⟨rfl,rfl,rfl⟩:=hu
   simp only[VRel] at h1
   exact⟨_,Γ,.inl (by simp[h1,asBool]),h2,hh,Ev.refl _ _⟩
  ·simp only[qd,qj] at hr; obtain⟨rfl,rfl⟩:=hr
   obtain⟨u1,u2,u3,hu,h1,h2,h3⟩:=hx.three'
   simp at hu; obtain⟨rfl,rfl,rfl⟩:=hu
   simp only[VRel] at h1
   exact⟨_,Γ,.inl (by simp[h1,asBool]),h3,hh,Ev.refl _ _⟩
  ·cases hr
 ·-- box
  rename_i e x ho
  simp only[qd,qj] at hc; obtain⟨rfl,rfl⟩:=hc
  obtain⟨z,rfl,hz⟩:=one_ rfl
  rw[ho]
  exact (box_ok hh hz hr).gives
 ·-- alloc
  rename_i e ho
  cases hZ:zeroP P e with
  | none=>simp[hZ] at hc
  | some Z =>
   simp only[hZ,qh,qd,qj] at hc; obtain⟨rfl,rfl⟩:=hc
   have:xs=[]:=qq (by simpa using hx.length)
   subst this
   simp only[ROp.run,qd] at hr
   rw[ho]
   have:=alloc_ok hh hZ
   rw[hr] at this
   exact this.gives
 ·-- buildSlice
  rename_i t len parts ho
  split at hc
  ·rename_i e sz bytes he
   split at hc
   ·rename_i hi
    simp only[qd,qj] at hc; obtain⟨rfl,rfl⟩:=hc
    have hl:=hx.length
    simp at hl
    have hlen:xs.length=len:=by
     rw[hl]
     have:=congrArg List.length hi.1
     simpa using this
    subst hlen
    rw[ho]
    have:=bsl_ok hh he hx hi.2 hr
    have hparts:(⟨(List.range xs.length).zip ((parts.toList.map (·.2)).map a.eval)⟩:Array (Nat × Value))=parts.map fun (i,x)=>(i,a.eval x):=by
     apply Array.ext'
     rw[← hi.1]
     simp only[Array.toList_map]
     rw[← zip_fst (parts.toList.map fun x=>(x.1,a.eval x.2))]
     simp[Function.comp_def]
    rw[hparts] at this
    exact this.gives
   ·cases hc
  ·cases hc
 ·-- build
  rename_i t parts ho
  split at hc
  ·rename_i Z places hZ hp
   simp only[qd,qj] at hc; obtain⟨rfl,rfl⟩:=hc
   simp only[ROp.run] at hr
   split at hr
   ·rename_i hl
    obtain⟨h1,rfl⟩:=same_some hr
    cases hfl:fillA places Z ((parts.toList.map (·.1)).zip xs) with
    | none=>simp[hfl] at h1
    | some cs =>
     simp only[hfl,qh,qd] at h1
     subst h1
     rw[ho]
     have hl':xs.length=parts.size:=by simpa using hx.length
     have:=build_ok (P:=P) hh hZ hp (parts:=(parts.toList.map (·.1)).zip xs) (vs:=(parts.toList.map fun x=>(x.1,a.eval x.2))) (by
      rw[List.map_fst_zip (by simp[hl'])]; simp) (by
      rw[List.map_snd_zip (by simp[hl'])]
      simpa[Function.comp_def] using hx) hfl
     have hparts:(⟨parts.toList.map fun x=>(x.1,a.eval x.2)⟩:Array (Nat × Value))=parts.map fun (i,x)=>(i,a.eval x):=by
      apply Array.ext'; simp
     rw[hparts] at this
     exact this.gives
   ·cases hr
  ·cases hc
 ·-- load
  rename_i t x ho
  cases hS:shapeP P t with
  | none=>simp[hS] at hc
  | some sh =>
   simp only[hS,qh,qd,qj] at hc; obtain⟨rfl,rfl⟩:=hc
   obtain⟨z,rfl,hz⟩:=one_ rfl
   obtain⟨h1,rfl⟩:=same_some hr
   rw[ho]
   exact (load_ok hh hS hz h1).gives
 ·-- store
  rename_i t x y ho
  cases hS:sizeP P t with
  | none=>simp[hS] at hc
  | some n =>
   simp only[hS,qh,qd,qj] at hc; obtain⟨rfl,rfl⟩:=hc
   obtain⟨z,z',rfl,hz,hz'⟩:=two_ rfl
   simp only[ROp.run] at hr
   cases hst:storeA st.hp n z z' with
   | none=>simp[hst] at hr
   | some h' =>
    simp only[hst,qh,qd,qj] at hr; obtain⟨rfl,rfl⟩:=hr
    rw[ho]
    exact (store_ok hh hS hz hz' hst).gives
 ·-- nilCheck
  rename_i x ho
  simp only[qd,qj] at hc; obtain⟨rfl,rfl⟩:=hc
  obtain⟨z,rfl,hz⟩:=one_ rfl
  obtain⟨h1,rfl⟩:=same_some hr
  rw[ho]
  cases z<;>simp only[nilchkA,reduceCtorEq,qd] at h1<;>subst h1
  ·have hz':=hz
   simp only[VRel] at hz'
   obtain⟨_,hz'⟩:=hz'
   exact⟨_,Γ,.inl (by simp only[hz']; rfl),hz,hh,Ev.refl _ _⟩
  ·have hz':=hz
   simp only[VRel] at hz'
   obtain⟨_,_,hz',_⟩:=hz'
   exact⟨_,Γ,.inl (by simp only[hz']; rfl),hz,hh,Ev.refl _ _⟩
  ·have hz':=hz
   simp only[VRel] at hz'
   obtain⟨_,hz',_⟩:=hz'
   exact⟨_,Γ,.inl (by simp only[hz']; rfl),hz,hh,Ev.refl _ _⟩
  ·have hz':=hz
   simp only[VRel] at hz'
   obtain⟨_,hz',_⟩:=hz'
   exact⟨_,Γ,.inl (by simp only[hz']; rfl),hz,hh,Ev.refl _ _⟩
 ·-- binOp
  rename_i op t x y ty ho
  simp only[qd,qj] at hc; obtain⟨rfl,rfl⟩:=hc
  obtain⟨z,z',rfl,hz,hz'⟩:=two_ rfl
  obtain⟨h1,rfl⟩:=same_some hr
  rw[ho]
  exact (bin_ok hh hz hz' h1).gives
 ·-- unOp
  rename_i op t x ho
  simp only[qd,qj] at hc; obtain⟨rfl,rfl⟩:=hc
  obtain⟨z,rfl,hz⟩:=one_ rfl
  obtain⟨h1,rfl⟩:=same_some hr
  rw[ho]
  exact (un_ok hh hz h1).gives
 ·-- convert
  rename_i src dst x ho
  cases hC:compConv P src dst with
  | none=>simp[hC] at hc
  | some c =>
   simp only[hC,qh,qd,qj] at hc; obtain⟨rfl,rfl⟩:=hc
   obtain⟨z,rfl,hz⟩:=one_ rfl
   have he0:execOp a.eval o=(do pure (.value (← convert src dst (a.eval x)))):=by unfold execOp; rw[ho]
   show Gives P Γ st.hp (execOp a.eval o) v hp'
   rw[he0]
   clear he0
   unfold compConv at hC
   split at hC
   ·rename_i k' k hs1 hs2
    simp only[qd] at hC; subst hC
    cases z<;>simp only[ROp.run,reduceCtorEq,qd,qj] at hr
    obtain⟨rfl,rfl⟩:=hr
    simp only[VRel] at hz
    rw[hz]
    exact (OpOk.same hh (v:=.int k (k.wrap _)) (by simp[convert,run_underlying hs1,run_underlying hs2,Conv.intToInt]; rfl) (by simp[VRel])).gives
   ·rename_i k' hs1 hs2
    simp only[qd] at hC; subst hC
    cases z<;>simp only[ROp.run,reduceCtorEq,qd,qj] at hr
    obtain⟨rfl,rfl⟩:=hr
    simp only[VRel] at hz
    rw[hz]
    rename_i n
    exact (OpOk.same hh (v:=.string (Utf8.encode n)) (by simp[convert,run_underlying hs1,run_underlying hs2,Conv.intToString]) (by simp[VRel])).gives
   ·rename_i hs1 hs2
    simp only[qd] at hC; subst hC
    cases z<;>simp only[ROp.run,reduceCtorEq,qd,qj] at hr
    obtain⟨rfl,rfl⟩:=hr
    simp only[VRel] at hz
    rw[hz]
    exact (OpOk.same hh (v:=.string _) (by simp[convert,run_underlying hs1,run_underlying hs2]; rfl) (by simp[VRel])).gives
   ·rename_i e hs1 hs2
    split at hC
    ·rename_i he
     simp only[qd] at hC; subst hC
     exact (s2b_ok hh hs1 hs2 he hz hr).gives
    ·cases hC
   ·rename_i e hs1 hs2
    split at hC
    ·rename_i he
     simp only[qd] at hC; subst hC
     obtain⟨h1,rfl⟩:=same_some hr
     exact (b2s_ok hh hs1 hs2 he hz h1).gives
    ·cases hC
   ·rename_i e e' hs1 hs2
    split at hC
    ·rename_i hsd
     subst hsd
     split at hC
     ·rename_i he
      simp only[qd] at hC; subst hC
      obtain⟨h1,rfl⟩:=same_some hr
      exact (conv_ok hh hs1 he hz h1).gives
     ·cases hC
    ·cases hC
   ·cases hC
 ·-- makeInterface
  rename_i t x ho
  split at hc
  ·cases hc
  ·cases hc
  ·rename_i hu1 hu2
   simp only[qd,qj] at hc; obtain⟨rfl,rfl⟩:=hc
   obtain⟨z,rfl,hz⟩:=one_ rfl
   simp only[ROp.run,qd,qj] at hr; obtain⟨rfl,rfl⟩:=hr
   rw[ho]
   cases hu:P.underlying t with
   | none=>exact (hu2 hu).elim
   | some d =>
    refine (OpOk.same hh (v:=.iface t (a.eval x)) ?_ (by simp only[VRel]; exact⟨_,rfl,hz⟩)).gives
    cases d<;>first|(exact (hu1 _ hu).elim)|simp[Instr.makeInterface,run_underlying hu]
 ·-- makeFunc
  rename_i f first captured ho
  split at hc
  ·rename_i h0
   simp only[qd,qj] at hc; obtain⟨rfl,rfl⟩:=hc
   simp only[ROp.run,qd,qj] at hr; obtain⟨rfl,rfl⟩:=hr
   rw[ho]
   have hf:first = #[]:=Array.eq_empty_of_size_eq_zero h0
   subst hf
   refine (OpOk.same hh (v:=.func (.func f) #[] ⟨captured.toList.map a.eval⟩) ?_ (by simp only[VRel]; exact⟨_,rfl,hx⟩)).gives
   have hcap:captured.map a.eval=⟨captured.toList.map a.eval⟩:=by apply Array.ext'; simp
   simp only[Instr.makeFunc,qO,hcap]
   simp
  ·split at hc
   ·rename_i _ h0
    simp only[qd,qj] at hc; obtain⟨rfl,rfl⟩:=hc
    simp only[ROp.run,qd,qj] at hr; obtain⟨rfl,rfl⟩:=hr
    rw[ho]
    have hf:captured = #[]:=Array.eq_empty_of_size_eq_zero h0
    subst hf
    refine (OpOk.same hh (v:=.func (.func f) ⟨first.toList.map a.eval⟩ #[]) ?_ (by simp only[VRel]; exact⟨_,rfl,hx⟩)).gives
    have hcap:first.map a.eval=⟨first.toList.map a.eval⟩:=by apply Array.ext'; simp
    simp only[Instr.makeFunc,qO,hcap]
    simp
   ·cases hc
 ·-- makeSlice
  rename_i t l c ho
  split at hc
  ·rename_i e sz bytes he
   cases hZ:zeroP P e with
   | none=>simp[hZ] at hc
   | some Z =>
    simp only[hZ,qh,qd,qj] at hc; obtain⟨rfl,rfl⟩:=hc
    obtain⟨z,z',rfl,hz,hz'⟩:=two_ rfl
    rw[ho]
    exact (make_ok hh he hZ hz hz' hr).gives
  ·cases hc
 ·-- slice
  rename_i t x lo hi mx ho
  have hsplit:∀ {sz:Nat} {R:ROp},ops=x :: (lo.toList++hi.toList++mx.toList)→∃ z rest,xs=z :: rest∧VRel Γ z (a.eval x)∧VRels Γ rest ((lo.toList++hi.toList++mx.toList).map a.eval):=by
   rintro sz R rfl
   rcases xs with _|⟨z,rest⟩
   ·simp[VRels] at hx
   ·rw[qB] at hx
    simp only[VRels,xc] at hx
    obtain⟨v',vs',⟨rfl,rfl⟩,h1,h2⟩:=hx
    exact⟨z,rest,rfl,h1,h2⟩
  have he0:execOp a.eval o=(do pure (.value (← Instr.sliceAt t (a.eval x) (lo.map a.eval) (hi.map a.eval) (mx.map a.eval)))):=by unfold execOp; rw[ho]
  show Gives P Γ st.hp (execOp a.eval o) v hp'
  rw[he0]
  clear he0
  split at hc
  ·rename_i e sz hsl
   simp only[qd,qj] at hc; obtain⟨rfl,rfl⟩:=hc
   obtain⟨z,rest,rfl,hz,hrest⟩:=hsplit (sz:=0) (R:=.mov) rfl
   simp only[ROp.run] at hr
   split at hr
   ·rename_i la lb lc hb3
    split at hr
    ·cases hr
    ·rename_i hstr
     obtain⟨h1,rfl⟩:=same_some hr
     obtain⟨b1,b2,b3⟩:=bounds3_rel hrest hb3
     refine (slice_ok hh (.inl ⟨e,hsl⟩) hz b1 b2 b3 h1 ?_).gives
     obtain⟨hu,_⟩:=sliceP_some hsl
     constructor
     ·rintro⟨s,rfl⟩
      exact absurd rfl hstr
     ·intro h; rw[hu] at h; cases h
   ·cases hr
  ·rename_i hsl hu
   simp only[qd,qj] at hc; obtain⟨rfl,rfl⟩:=hc
   obtain⟨z,rest,rfl,hz,hrest⟩:=hsplit (sz:=0) (R:=.mov) rfl
   simp only[ROp.run] at hr
   split at hr
   ·rename_i la lb lc hb3
    split at hr
    ·rename_i hstr
     obtain⟨h1,rfl⟩:=same_some hr
     obtain⟨b1,b2,b3⟩:=bounds3_rel hrest hb3
     refine (slice_ok hh (.inr hu) hz b1 b2 b3 h1 ⟨fun _=>hu,fun _=>?_⟩).gives
     cases z<;>simp[isStrA] at hstr
     exact⟨_,rfl⟩
    ·cases hr
   ·cases hr
  ·rename_i n sz sh _ har _
   simp only[qd,qj] at hc; obtain⟨rfl,rfl⟩:=hc
   obtain⟨z,rest,rfl,hz,hrest⟩:=hsplit (sz:=0) (R:=.mov) rfl
   simp only[ROp.run] at hr
   split at hr
   ·rename_i la lb lc hb3
    obtain⟨h1,rfl⟩:=same_some hr
    obtain⟨b1,b2,b3⟩:=bounds3_rel hrest hb3
    exact (aslice_ok hh har hz b1 b2 b3 h1).gives
   ·cases hr
  ·cases hc
 ·-- fieldAddr
  rename_i s x f ho
  cases hF:fieldP P s f with
  | none=>simp[hF] at hc
  | some p =>
   obtain⟨off,sh⟩:=p
   simp only[hF,qh,qd,qj] at hc; obtain⟨rfl,rfl⟩:=hc
   obtain⟨z,rfl,hz⟩:=one_ rfl
   obtain⟨h1,rfl⟩:=same_some hr
   rw[ho]
   exact (faddr_ok hh hF hz h1).gives
 ·-- field
  rename_i s x f ho
  cases hF:fieldP P s f with
  | none=>simp[hF] at hc
  | some p =>
   obtain⟨off,sh⟩:=p
   simp only[hF,qh,qd,qj] at hc; obtain⟨rfl,rfl⟩:=hc
   obtain⟨z,rfl,hz⟩:=one_ rfl
   obtain⟨h1,rfl⟩:=same_some hr
   rw[ho]
   exact (field_ok hh hF hz h1).gives
 ·-- indexAddr
  rename_i t x i ho
  rw[ho]
  split at hc
  ·rename_i e sz hsl
   simp only[qd,qj] at hc; obtain⟨rfl,rfl⟩:=hc
   obtain⟨z,z',rfl,hz,hz'⟩:=two_ rfl
   obtain⟨h1,rfl⟩:=same_some hr
   exact (iaddr_ok hh hsl hz hz' h1).gives
  ·rename_i n sz sh _ har
   simp only[qd,qj] at hc; obtain⟨rfl,rfl⟩:=hc
   obtain⟨z,z',rfl,hz,hz'⟩:=two_ rfl
   obtain⟨h1,rfl⟩:=same_some hr
   exact (aaddr_ok hh har hz hz' h1).gives
  ·cases hc
 ·-- index
  rename_i t x i ho
  rw[ho]
  split at hc
  ·rename_i hu
   simp only[qd,qj] at hc; obtain⟨rfl,rfl⟩:=hc
   obtain⟨z,z',rfl,hz,hz'⟩:=two_ rfl
   obtain⟨h1,rfl⟩:=same_some hr
   exact (indexS_ok hh hu hz hz' h1).gives
  ·rename_i n sz sh har _
   simp only[qd,qj] at hc; obtain⟨rfl,rfl⟩:=hc
   obtain⟨z,z',rfl,hz,hz'⟩:=two_ rfl
   obtain⟨h1,rfl⟩:=same_some hr
   exact (indexA_ok hh har hz hz' h1).gives
  ·cases hc
 ·-- extract
  rename_i x i ho
  simp only[qd,qj] at hc; obtain⟨rfl,rfl⟩:=hc
  obtain⟨z,rfl,hz⟩:=one_ rfl
  rw[ho]
  cases z<;>simp only[ROp.run,reduceCtorEq] at hr
  case tup vs =>
   obtain⟨h1,rfl⟩:=same_some hr
   simp only[VRel] at hz
   obtain⟨us,hz,hus⟩:=hz
   have hlt:=(List.getElem?_eq_some_iff.1 h1).1
   have hlt2:i<us.length:=by rw[← hus.length]; exact hlt
   have hg:=hus.get i
   simp only[List.getD,h1,List.getElem?_eq_getElem hlt2,Option.getD_some] at hg
   refine (OpOk.same hh (v:=us[i]) ?_ hg).gives
   rw[hz]
   simp[Instr.extract,hlt2]
 ·-- a builtin
  rename_i b args ts ho
  cases hB:compBuiltin P b ts.toList with
  | none=>simp[hB] at hc
  | some c =>
   simp only[hB,qh,qd,qj] at hc; obtain⟨rfl,rfl⟩:=hc
   have he0:execOp a.eval o=builtin b ts o.type (args.map fun | .const _=>true|_=>false) (args.map a.eval):=by
    unfold execOp; rw[ho]; rfl
   show Gives P Γ st.hp (execOp a.eval o) v hp'
   rw[he0]
   clear he0
   have hargs:args.map a.eval=⟨args.toList.map a.eval⟩:=by apply Array.ext'; simp
   rw[hargs]
   generalize hvs:args.toList.map a.eval=vs at hx
   have hts:ts=⟨ts.toList⟩:=rfl
   unfold compBuiltin at hB
   split at hB
   ·rename_i t hts'
    cases hl:lenP P t with
    | none=>simp[hl] at hB
    | some k =>
     simp only[hl,qh,qd] at hB; subst hB
     simp only[ROp.run] at hr
     split at hr
     ·split at hr
      ·rename_i x hf
       obtain⟨h1,rfl⟩:=same_some hr
       obtain⟨u,rfl,hu⟩:=hx.one'
       rw[hts,hts']
       exact (len_ok hh hl hu hf h1).gives
      ·cases hr
     ·cases hr
   ·rename_i t tx hts'
    split at hB
    ·rename_i e sz bytes he hk
     simp only[qd] at hB; subst hB
     simp only[ROp.run] at hr
     split at hr
     ·obtain⟨u,u',rfl,hu,hu'⟩:=hx.two'
      rw[hts,hts']
      exact (app_ok hh he hk hu hu' hr).gives
     ·cases hr
    ·rename_i e sz bytes he hk
     split at hB
     ·rename_i k Z hk2 hZ
      simp only[qd] at hB; subst hB
      simp only[ROp.run] at hr
      split at hr
      ·obtain⟨u,u',rfl,hu,hu'⟩:=hx.two'
       rw[hts,hts']
       exact (appz_ok hh he hk2 hZ hu hu' hr).gives
      ·cases hr
     ·cases hB
    ·cases hB
   ·rename_i t hts'
    split at hB
    ·rename_i e he
     simp only[qd] at hB; subst hB
     simp only[ROp.run] at hr
     split at hr
     ·obtain⟨h1,rfl⟩:=same_some hr
      obtain⟨u,rfl,hu⟩:=hx.one'
      rw[hts,hts']
      exact (cap_ok hh he hu h1).gives
     ·cases hr
    ·cases hB
   ·rename_i t hts'
    split at hB
    ·rename_i e sz bytes he
     cases hZ:zeroP P e with
     | none=>simp[hZ] at hB
     | some Z =>
      simp only[hZ,qh,qd] at hB; subst hB
      simp only[ROp.run] at hr
      split at hr
      ·rename_i x
       cases hcl:clearA st.hp Z x with
       | none=>simp[hcl] at hr
       | some h' =>
        simp only[hcl,qh,qd,qj] at hr; obtain⟨rfl,rfl⟩:=hr
        obtain⟨u,rfl,hu⟩:=hx.one'
        rw[hts,hts']
        exact (clear_ok hh he hZ hu hcl).gives
      ·cases hr
    ·cases hB
   ·rename_i t tx hts'
    split at hB
    ·rename_i e sz bytes he hk
     simp only[qd] at hB; subst hB
     simp only[ROp.run] at hr
     split at hr
     ·obtain⟨u,u',rfl,hu,hu'⟩:=hx.two'
      rw[hts,hts']
      exact (copy_ok hh he hk hu hu' hr).gives
     ·cases hr
    ·cases hB
   ·simp only[qd] at hB; subst hB
    obtain⟨h1,rfl⟩:=same_some hr
    exact (min_ok hh hx h1).gives
   ·simp only[qd] at hB; subst hB
    obtain⟨h1,rfl⟩:=same_some hr
    exact (max_ok hh hx h1).gives
   ·rename_i t t2 hts'
    split at hB
    ·rename_i kk kt e hm
     simp only[qd] at hB; subst hB
     simp only[ROp.run] at hr
     split at hr
     ·rename_i m k
      cases hs:delA st.hp kk m k with
      | none=>simp[hs] at hr
      | some h' =>
       simp only[hs,qh,qd,qj] at hr; obtain⟨rfl,rfl⟩:=hr
       obtain⟨u,u',rfl,hu,hu'⟩:=hx.two'
       rw[hts,hts']
       exact (del_ok hh hm hu hu' hs).gives
     ·cases hr
    ·cases hB
   ·cases hB
 ·-- makeMap
  rename_i t r ho
  rw[ho]
  split at hc
  ·simp only[qd,qj] at hc; obtain⟨rfl,rfl⟩:=hc
   have:xs=[]:=qq (by simpa using hx.length)
   subst this
   simp only[ROp.run,qd] at hr
   have:=mkmap_ok (P:=P) (t:=t) hh
   rw[hr] at this
   exact this.gives
  ·split at hc
   ·rename_i r a b hu
    simp only[qd,qj] at hc; obtain⟨rfl,rfl⟩:=hc
    obtain⟨z,rfl,hz⟩:=one_ rfl
    simp only[ROp.run] at hr
    split at hr
    ·cases (by assumption:true=false)
    ·rename_i heq
     simp only[qd] at hr
     simp only[xc,and_true] at heq
     subst heq
     simp only[VRel] at hz
     simp only[qh,hz]
     refine OpOk.gives ?_
     have key:∀ (k:IntKind) (n:Int),OpOk P Γ st.hp (Instr.makeMap t (some (.int k n))) v hp':=fun k n=>by
      have:=mkmapR_ok (P:=P) (k:=k) (n:=n) hh hu
      rwa[hr] at this
     exact key _ _
    ·cases hr
   ·cases hc
 ·-- lookup
  rename_i t m k ok ho
  rw[ho]
  split at hc
  ·rename_i kk kt e hm
   cases hZ:zvP P e with
   | none=>simp[hZ] at hc
   | some z =>
    simp only[hZ,qh,qd,qj] at hc; obtain⟨rfl,rfl⟩:=hc
    obtain⟨y,y',rfl,hy,hy'⟩:=two_ rfl
    simp only[ROp.run] at hr
    obtain⟨h1,rfl⟩:=same_some hr
    exact (look_ok hh hm hZ hy hy' h1).gives
  ·cases hc
 ·-- mapUpdate
  rename_i t m k x ho
  rw[ho]
  cases hm:mapP P t with
  | none=>simp[hm] at hc
  | some q =>
   obtain⟨kk,kt,e⟩:=q
   simp only[hm,qh,qd,qj] at hc; obtain⟨rfl,rfl⟩:=hc
   simp only[ROp.run] at hr
   split at hr
   ·rename_i m' k' v'
    cases hs:mapupA st.hp kk m' k' v' with
    | none=>simp[hs] at hr
    | some h' =>
     simp only[hs,qh,qd,qj] at hr; obtain⟨rfl,rfl⟩:=hr
     obtain⟨u1,u2,u3,hu,h1,h2,h3⟩:=hx.three'
     simp at hu; obtain⟨rfl,rfl,rfl⟩:=hu
     exact (mapup_ok hh hm h1 h2 h3 hs).gives
   ·cases hr
 ·-- insert
  rename_i t m k x ho
  rw[ho]
  cases hm:mapP P t with
  | none=>simp[hm] at hc
  | some q =>
   obtain⟨kk,kt,e⟩:=q
   simp only[hm,qh,qd,qj] at hc; obtain⟨rfl,rfl⟩:=hc
   simp only[ROp.run] at hr
   split at hr
   ·rename_i m' k' v'
    cases hs:mapupA st.hp kk m' k' v' with
    | none=>simp[hs] at hr
    | some h' =>
     simp only[hs,qh,qd,qj] at hr; obtain⟨rfl,rfl⟩:=hr
     obtain⟨u1,u2,u3,hu,h1,h2,h3⟩:=hx.three'
     simp at hu; obtain⟨rfl,rfl,rfl⟩:=hu
     exact (mapup_ok hh hm h1 h2 h3 hs).gives
   ·cases hr
 ·-- range
  rename_i t x ho
  rw[ho]
  split at hc
  ·rename_i a b hu
   simp only[qd,qj] at hc; obtain⟨rfl,rfl⟩:=hc
   obtain⟨z,rfl,hz⟩:=one_ rfl
   simp only[ROp.run] at hr
   exact (range_ok hh hu hz hr).gives
  ·rename_i hu
   simp only[qd,qj] at hc; obtain⟨rfl,rfl⟩:=hc
   obtain⟨z,rfl,hz⟩:=one_ rfl
   simp only[ROp.run] at hr
   exact (rangeS_ok hh hu hz hr).gives
  ·cases hc
 ·-- next
  rename_i it s ho
  rw[ho]
  split at hc
  ·simp only[qd,qj] at hc; obtain⟨rfl,rfl⟩:=hc
   obtain⟨z,rfl,hz⟩:=one_ rfl
   simp only[ROp.run] at hr
   exact (next_ok hh hz hr).gives
  ·simp only[qd,qj] at hc; obtain⟨rfl,rfl⟩:=hc
   obtain⟨z,rfl,hz⟩:=one_ rfl
   simp only[ROp.run] at hr
   exact (nextS_ok hh hz hr).gives
 ·-- entry
  rename_i it ho
  rw[ho]
  simp only[qd,qj] at hc; obtain⟨rfl,rfl⟩:=hc
  obtain⟨z,rfl,hz⟩:=one_ rfl
  simp only[ROp.run] at hr
  obtain⟨h1,rfl⟩:=same_some hr
  exact (ent_ok hh hz h1).gives
 ·cases hc
end Go.Gi
