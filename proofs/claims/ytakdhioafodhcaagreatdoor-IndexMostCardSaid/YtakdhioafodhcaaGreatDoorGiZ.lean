/- The operations as a compiled list: what each is, and that it does what it says. -/
/- cap; appending so many zeros to a slice without elements and room. -/
/- copy; a []byte taken for a []byte. -/
import Derived.Test.YtakdhioafodhcaaGreatDoorGiH
set_option linter.unusedVariables false
set_option linter.unusedSimpArgs false
namespace Go.Gi
open _root_.Go.IntKind renaming wrap → qU
open _root_.List renaming eq_nil_of_length_eq_zero → qq, getElem?_eq_some_iff → qf
open _root_.Nat renaming mul_le_mul_right → xj, add_assoc → xy, le_refl → qk
open _root_.Go.Gi.OpOk renaming same → qE
open _root_.Option renaming map_some → qh
open _root_.Option.some renaming injEq → qd
open _root_.Prod.mk renaming injEq → qj
open _root_.Go.Result renaming andThen_ok → qy
open _root_.Go.Sem renaming run_bind → qN, run_pure → qO
section
set_option linter.unusedSectionVars false
variable [Mx]
open Go
def unA (op:UnOp):AV→Option AV
 | .bool b=>match op with
  | .not=>some (.bool (!b))
  | _=>none
 | .int k n=>match op with
  | .neg=>some (.int k (k.wrap (0 - n)))
  | _=>none
 | _=>none
theorem un_ok {P:Program} {Γ:Cx} {hp:HP} (h:HSim Γ hp) {op:UnOp} {x r:AV} {u:Value} (hx:VRel Γ x u) (hr:unA op x=some r):OpOk P Γ hp (Op.unary op u) r hp:=by
 cases x<;>simp only[unA,reduceCtorEq] at hr<;>cases op<;>simp only[reduceCtorEq,qd] at hr<;>subst hr<;>simp only[VRel] at hx<;>subst hx
 ·exact qE h (v:=.int _ _) (by simp only[Op.unary,Op.intArith,qO]; rfl) (by simp[VRel])
 ·exact qE h (v:=.bool _) (by simp only[Op.unary,qO]; rfl) (by simp[VRel])
def nilchkA:AV→Option AV
 | .ptr id off=>some (.ptr id off)
 | .fptr cs off=>some (.fptr cs off)
 | .func f cs=>some (.func f cs)
 | .iface t v=>some (.iface t v)
 | _=>none
def fieldA (off:Nat) (sh:Option Nat):AV→Option AV
 | .agg cs=>pickA sh cs off
 | _=>none
theorem pick_part {P:Program} {Γ:Cx} {t:TypeId} {sh:Option Nat} (hsh:shapeP P t=some sh) {cs:List AV} {vs:List Value} (hv:VRels Γ cs vs) (h1:∀ u ∈ vs,one u=true) {off:Nat} {r:AV} (h:pickA sh cs off=some r) :
  ∃ v,(part t ⟨vs⟩ off).run P Γ.w=.ok v Γ.w∧VRel Γ r v:=by
 have hl:=hv.length
 cases sh with
 | none =>
  simp only[pickA] at h
  cases ha:cs[off]? with
  | none=>simp[ha] at h
  | some a =>
   rw[ha] at h
   simp only at h
   split at h
   ·cases h
    have hlt:off<vs.length:=by rw[← hl]; exact (qf.1 ha).1
    have hg:=hv.get off
    simp only[List.getD,ha,List.getElem?_eq_getElem hlt,Option.getD_some] at hg
    exact⟨vs[off],by simp[part,shapeP_one hsh,hlt],hg⟩
   ·cases h
 | some n =>
  simp only[pickA] at h
  split at h
  ·cases h
   refine⟨.agg ⟨(vs.drop off).take n⟩,?_,?_⟩
   ·simp only[part,qN,(shapeP_agg hsh Γ.w).1,(shapeP_agg hsh Γ.w).2,qy,if_true,qO]
    congr 2
    apply Array.ext'
    simp[List.extract]
   ·simp only[VRel]
    exact⟨_,rfl,(hv.drop off).take n,fun u hu=>h1 u (List.mem_of_mem_drop (List.mem_of_mem_take hu))⟩
  ·cases h
theorem field_ok {P:Program} {Γ:Cx} {hp:HP} (h:HSim Γ hp) {s:TypeId} {f off:Nat} {sh:Option Nat} (hf:fieldP P s f=some (off,sh)) {x r:AV} {v:Value} (hv:VRel Γ x v) (hr:fieldA off sh x=some r):OpOk P Γ hp (Instr.field s v f) r hp:=by
 unfold fieldP at hf
 split at hf
 ·rename_i fs hu
  split at hf
  ·rename_i fd hfd
   split at hf
   ·rename_i n sh' hsz hsh
    simp only[qd,qj] at hf
    obtain⟨rfl,rfl⟩:=hf
    cases x<;>simp only[fieldA,reduceCtorEq] at hr
    case agg cs =>
     simp only[VRel] at hv
     obtain⟨vs,rfl,hvs,h1⟩:=hv
     obtain⟨u,q1,q2⟩:=pick_part (P:=P) hsh hvs h1 hr
     exact qE h (by simp[Instr.field,run_underlying hu,hfd,asAgg,q1]) q2
   ·cases hf
  ·cases hf
 ·cases hf
def indexSA (x i:AV):Option AV:=
 match x,i with
 | .str s,.int _ i=>if 0≤i then match s[i.toNat]? with
  | some b=>some (byteA b)
  | none=>none else none
 | _,_=>none
theorem indexS_ok {P:Program} {Γ:Cx} {hp:HP} (h:HSim Γ hp) {t:TypeId} (ht:P.underlying t=some .string) {x i r:AV} {u v:Value} (hx:VRel Γ x u) (hi:VRel Γ i v) (hr:indexSA x i=some r):OpOk P Γ hp (Instr.index t u v) r hp:=by
 cases x<;>cases i<;>simp only[indexSA,reduceCtorEq] at hr
 case str.int s k n =>
  split at hr
  ·rename_i h0
   split at hr
   ·rename_i b hb
    simp only[qd] at hr; subst hr
    simp only[VRel] at hx hi
    subst hx hi
    have hlt:=(qf.1 hb).1
    have hget:(⟨s.toArray⟩:ByteArray)[n.toNat]? = some b:=by
     have h1:n.toNat<(⟨s.toArray⟩:ByteArray).size:=by rw[byteSize]; exact hlt
     rw[getElem?_pos (⟨s.toArray⟩:ByteArray) n.toNat h1]
     have:=(qf.1 hb).2
     rw[← this]
     rfl
    refine qE h (v:=.int .u8 b.toNat) ?_ (by simp[VRel,byteA])
    simp only[Instr.index,asIntOf,qN,qO,qy,run_underlying ht,if_pos h0,hget]
   ·cases hr
  ·cases hr
def indexAA (n sz:Nat) (sh:Option Nat) (x i:AV):Option AV:=
 match x,i with
 | .agg cs,.int _ i=>if 0≤i∧i<n then pickA sh cs (i.toNat*sz) else none
 | _,_=>none
def arrayP (P:Program) (t:TypeId):Option (Nat × Nat × Option Nat):=
 match P.underlying t with
 | some (.array n e)=>match sizeP P e,shapeP P e with
  | some sz,some sh=>some (n,sz,sh)
  | _,_=>none
 | _=>none
theorem indexA_ok {P:Program} {Γ:Cx} {hp:HP} (h:HSim Γ hp) {t:TypeId} {n sz:Nat} {sh:Option Nat} (ht:arrayP P t=some (n,sz,sh)) {x i r:AV} {u v:Value} (hx:VRel Γ x u) (hi:VRel Γ i v) (hr:indexAA n sz sh x i=some r) :
  OpOk P Γ hp (Instr.index t u v) r hp:=by
 unfold arrayP at ht
 split at ht
 ·rename_i m e hu
  split at ht
  ·rename_i sz' sh' hsz hsh
   simp only[qd,qj] at ht
   obtain⟨rfl,rfl,rfl⟩:=ht
   cases x<;>cases i<;>simp only[indexAA,reduceCtorEq] at hr
   case agg.int cs k j =>
    split at hr
    ·rename_i hj
     simp only[VRel] at hx hi
     obtain⟨vs,rfl,hvs,h1⟩:=hx
     subst hi
     obtain⟨y,q1,q2⟩:=pick_part (P:=P) hsh hvs h1 hr
     refine qE h ?_ q2
     simp only[Instr.index,asIntOf,qN,qO,qy,run_underlying hu,if_pos hj,sizeP_run hsz,q1]
    ·cases hr
  ·cases ht
 ·cases ht
def aaddrA (n sz:Nat) (x i:AV):Option AV:=
 match i with
 | .int _ i=>if 0≤i∧i<n then faddrA (i.toNat*sz) x else none
 | _=>none
theorem aaddr_ok {P:Program} {Γ:Cx} {hp:HP} (h:HSim Γ hp) {t:TypeId} {n sz:Nat} {sh:Option Nat} (ht:arrayP P t=some (n,sz,sh)) {x i r:AV} {u v:Value} (hx:VRel Γ x u) (hi:VRel Γ i v) (hr:aaddrA n sz x i=some r) :
  OpOk P Γ hp (Instr.indexAt t u v) r hp:=by
 unfold arrayP at ht
 split at ht
 ·rename_i m e hu
  split at ht
  ·rename_i sz' sh' hsz hsh
   simp only[qd,qj] at ht
   obtain⟨rfl,rfl,rfl⟩:=ht
   unfold aaddrA at hr
   split at hr
   ·rename_i k j
    split at hr
    ·rename_i hj
     simp only[VRel] at hi
     subst hi
     have key:∀ a:Addr,u=.pointer (some a)→(Instr.indexAt t u (.int k j)).run P Γ.w=.ok (.pointer (some (a.add (j.toNat*sz')))) Γ.w:=by
      rintro a rfl
      simp only[Instr.indexAt,asIntOf,Instr.sureAddr,qN,qO,run_underlying hu,qy,if_pos hj,sizeP_run hsz]
     cases x<;>simp only[faddrA,reduceCtorEq,qd] at hr
     case ptr id o =>
      subst hr
      simp only[VRel] at hx
      obtain⟨hid,rfl⟩:=hx
      refine qE h (key _ rfl) ?_
      simp only[VRel,add_at]
      exact⟨hid,by rw[xy]⟩
     case fptr cs o =>
      subst hr
      simp only[VRel] at hx
      obtain⟨b,o',rfl,hb,hc⟩:=hx
      refine qE h (key _ rfl) ?_
      simp only[VRel,add_at]
      exact⟨b,o',by rw[xy],hb,hc⟩
    ·cases hr
   ·cases hr
  ·cases ht
 ·cases ht
def asliceA (hp:HP) (n sz:Nat) (x:AV) (lo hi mx:Option AV):Option AV:=
 match bndA lo,bndA hi,bndA mx with
 | some lo,some hi,some mx =>
  match x with
  | .ptr id off=>match hp[id]? with
   | some (some (.row _ cs))=>if off+n*sz≤cs.length∧0<n*sz then (cutA n n lo hi mx).map fun (l,h,m)=>.sl id (off+l*sz) (h - l) sz (m - l) true else none
   | _=>none
  | _=>none
 | _,_,_=>none
theorem aslice_ok {P:Program} {Γ:Cx} {hp:HP} (h:HSim Γ hp) {t:TypeId} {n sz:Nat} {sh:Option Nat} (ht:arrayP P t=some (n,sz,sh)) {x r:AV} {lo hi mx:Option AV} {v:Value} {vl vh vm:Option Value}
  (hv:VRel Γ x v) (hl:bndV lo vl) (hh:bndV hi vh) (hm:bndV mx vm) (hr:asliceA hp n sz x lo hi mx=some r):OpOk P Γ hp (Instr.sliceAt t v vl vh vm) r hp:=by
 unfold arrayP at ht
 split at ht
 ·rename_i m' e hu
  split at ht
  ·rename_i sz' sh' hsz hsh
   simp only[qd,qj] at ht
   obtain⟨rfl,rfl,rfl⟩:=ht
   unfold asliceA at hr
   split at hr
   ·rename_i lo' hi' mx' kl kh km
    split at hr
    ·rename_i id off
     split at hr
     ·rename_i e' cs hx
      split at hr
      ·rename_i hfit
       cases hcut:cutA m' m' lo' hi' mx' with
       | none=>simp[hcut] at hr
       | some q =>
        obtain⟨l,hq,m⟩:=q
        simp only[hcut,qh,qd] at hr
        subst hr
        simp only[VRel] at hv
        obtain⟨hid,rfl⟩:=hv
        obtain⟨hrun,b1,b2,b3,b4⟩:=sliceBounds_run (P:=P) (w:=Γ.w) (isSlice:=false) kl kh km hl hh hm hcut (qk _) (qk _)
        have hM:(if mx'.isSome=true then m else m')=m:=by
         cases hmx:mx' with
         | none=>simp[b4 hmx]
         | some y=>simp
        rw[hM] at hrun
        have hmn:m≤m':=by
         cases hmx:mx' with
         | none=>rw[b4 hmx]; exact qk _
         | some y=>exact b3 (by rw[hmx]; rfl)
        have hb:=(h.blk id _ hx).1
        simp only[BRel] at hb
        obtain⟨⟨c,fr,hc,_⟩,hcs⟩:=hb
        obtain⟨c⟩:=c
        have hfits:=row_fits hcs hc
        refine qE h (v:=.slice (some (if m=l then ⟨(Γ.β id).1,(Γ.β id).2+off,none⟩ else (⟨(Γ.β id).1,(Γ.β id).2+off,none⟩:Addr).add (l*sz'))) (hq - l) (m - l)) ?_ ?_
        ·simp only[Instr.sliceAt,qN,run_underlying hu,qy,Instr.sureAddr,qO,hrun,sizeP_run hsz]
        ·simp only[VRel]
         have hmul:m*sz'≤m'*sz':=xj _ hmn
         have hmul2:(m - l)*sz'=m*sz' - l*sz':=Nat.sub_mul _ _ _
         have hmul3:l*sz'≤m*sz':=xj _ (by omega)
         have hcl:(Γ.β id).2+cs.length≤c.length:=by
          rcases hfits with hf|hf
          ·exact hf
          ·subst hf; simp only[List.length_nil] at hfit; omega
         by_cases hml:m=l
         ·rw[if_pos hml]
          exact⟨hid,_,_,e',c.length,rfl,.inl (by omega),by omega,qk _,by simp,by simp[World.shape?,hc],by omega⟩
         ·rw[if_neg hml,add_at]
          exact⟨hid,_,_,e',c.length,rfl,.inr (by omega),by omega,qk _,by simp,by simp[World.shape?,hc],by omega⟩
      ·cases hr
     ·cases hr
    ·cases hr
   ·cases hr
  ·cases ht
 ·cases ht
def minmaxA (mx:Bool):List AV→Option AV
 | []=>none
 | .int k a :: rest=>go k a rest
 | _=>none
where
 go (k:IntKind) (a:Int):List AV→Option AV
  | []=>some (.int k a)
  | .int _ b :: rest=>go k (if mx then (if b > a then b else a) else (if b<a then b else a)) rest
  | _=>none
theorem min_ok {P:Program} {Γ:Cx} {hp:HP} (h:HSim Γ hp) {ts:Array TypeId} {ty:TypeId} {xs:List AV} {vs:List Value} (hv:VRels Γ xs vs) {r:AV} (hr:minmaxA false xs=some r):OpOk P Γ hp (Builtin.min_ ts ty ⟨vs⟩) r hp:=by
 have go:∀ (rest:List AV) (us:List Value) (k:IntKind) (a:Int) (r:AV),VRels Γ rest us→minmaxA.go false k a rest=some r→∃ v,(us.foldlM Builtin.min2 (.int k a)).run P Γ.w=.ok v Γ.w∧VRel Γ r v:=by
  intro rest
  induction rest with
  | nil=>intro us k a r hu hr; simp only[VRels] at hu; subst hu; simp only[minmaxA.go,qd] at hr; subst hr; exact⟨_,rfl,by simp[VRel]⟩
  | cons x rest ih =>
   intro us k a r hu hr
   simp only[VRels] at hu
   obtain⟨v,us',rfl,hv,hu⟩:=hu
   cases x<;>simp only[minmaxA.go,reduceCtorEq] at hr
   simp only[VRel] at hv
   subst hv
   obtain⟨v',q1,q2⟩:=ih us' k _ r hu hr
   exact⟨v',by simp only[List.foldlM_cons,Builtin.min2,qN,qO,qy]; simpa using q1,q2⟩
 rcases xs with _|⟨x,xs⟩
 ·simp[minmaxA] at hr
 ·cases x<;>simp only[minmaxA,reduceCtorEq] at hr
  simp only[VRels] at hv
  obtain⟨v,vs',rfl,hv,hvs⟩:=hv
  simp only[VRel] at hv
  subst hv
  obtain⟨v',q1,q2⟩:=go _ _ _ _ _ hvs hr
  exact qE h (by simpa[Builtin.min_] using q1) q2
theorem max_ok {P:Program} {Γ:Cx} {hp:HP} (h:HSim Γ hp) {ts:Array TypeId} {ty:TypeId} {xs:List AV} {vs:List Value} (hv:VRels Γ xs vs) {r:AV} (hr:minmaxA true xs=some r):OpOk P Γ hp (Builtin.max_ ts ty ⟨vs⟩) r hp:=by
 have go:∀ (rest:List AV) (us:List Value) (k:IntKind) (a:Int) (r:AV),VRels Γ rest us→minmaxA.go true k a rest=some r→∃ v,(us.foldlM Builtin.max2 (.int k a)).run P Γ.w=.ok v Γ.w∧VRel Γ r v:=by
  intro rest
  induction rest with
  | nil=>intro us k a r hu hr; simp only[VRels] at hu; subst hu; simp only[minmaxA.go,qd] at hr; subst hr; exact⟨_,rfl,by simp[VRel]⟩
  | cons x rest ih =>
   intro us k a r hu hr
   simp only[VRels] at hu
   obtain⟨v,us',rfl,hv,hu⟩:=hu
   cases x<;>simp only[minmaxA.go,reduceCtorEq] at hr
   simp only[VRel] at hv
   subst hv
   obtain⟨v',q1,q2⟩:=ih us' k _ r hu hr
   exact⟨v',by simp only[List.foldlM_cons,Builtin.max2,qN,qO,qy]; simpa using q1,q2⟩
 rcases xs with _|⟨x,xs⟩
 ·simp[minmaxA] at hr
 ·cases x<;>simp only[minmaxA,reduceCtorEq] at hr
  simp only[VRels] at hv
  obtain⟨v,vs',rfl,hv,hvs⟩:=hv
  simp only[VRel] at hv
  subst hv
  obtain⟨v',q1,q2⟩:=go _ _ _ _ _ hvs hr
  exact qE h (by simpa[Builtin.max_] using q1) q2
end
section
set_option linter.unusedSectionVars false
variable [Mx]
open Go
def capA:AV→Option AV
 | .nils | .esl=>some (.int .i64 0)
 | .sl _ _ _ _ lo true=>some (.int .i64 lo)
 | _=>none
theorem cap_ok {P:Program} {Γ:Cx} {hp:HP} (h:HSim Γ hp) {t ty e:TypeId} (ht:P.underlying t=some (.slice e)) {x r:AV} {v:Value} (hv:VRel Γ x v) (hr:capA x=some r):OpOk P Γ hp (Builtin.cap_ #[t] ty #[v]) r hp:=by
 unfold capA at hr
 split at hr
 ·simp only[qd] at hr; subst hr
  simp only[VRel] at hv; subst hv
  exact qE h (v:=.int .i64 0) (by simp[Builtin.cap_,run_underlying ht,goInt]) (by simp[VRel])
 ·simp only[qd] at hr; subst hr
  simp only[VRel] at hv
  rcases hv with rfl|⟨_,rfl⟩
  ·exact qE h (v:=.int .i64 0) (by simp[Builtin.cap_,run_underlying ht,goInt]) (by simp[VRel])
  ·exact qE h (v:=.int .i64 0) (by simp[Builtin.cap_,run_underlying ht,goInt]) (by simp[VRel])
 ·rename_i id off len sz lo
  simp only[qd] at hr; subst hr
  simp only[VRel] at hv
  obtain⟨_,o,c,_,_,rfl,_,_,_,k3,_⟩:=hv
  have:=k3 trivial
  subst this
  exact qE h (v:=.int .i64 c) (by simp[Builtin.cap_,run_underlying ht,goInt]) (by simp[VRel])
 ·cases hr
def emptyA:AV→Bool
 | .nils | .esl=>true
 | _=>false
def appzA (e:TypeId) (Z:List AV) (bytes:Nat) (hp:HP) (d x:AV):Option (AV × HP):=
 if emptyA d=true then
  match x with
  | .int _ n=>if 0≤n∧n.toNat*bytes≤140737488355328∧n≤9223372036854775807 then (if n.toNat=0 then some (d,hp) else some (.sl hp.length 0 n.toNat Z.length n.toNat false,hp++[some (.row e (zerosA Z n.toNat))])) else none
  | _=>none
 else none
theorem wrap64' {n:Int} (h1:0≤n) (h2:n≤9223372036854775807):qU .i64 n=n:=by
 have e:(2:Int) ^ 64=18446744073709551616:=by decide
 have e':(2:Int) ^ (64 - 1)=9223372036854775808:=by decide
 simp only[qU,IntKind.bits,IntKind.signed,Bool.true_and,decide_eq_true_eq,e,e']
 split<;>omega
theorem appz_ok {P:Program} {Γ:Cx} {hp hp':HP} (h:HSim Γ hp) {t tx ty e:TypeId} {sz bytes:Nat} (ht:elemP P t=some (e,sz,bytes)) {k:IntKind} (hx:P.underlying tx=some (.int k)) {Z:List AV} (hz:zeroP P e=some Z) {d x r:AV} {v u:Value} (hv:VRel Γ d v) (hu:VRel Γ x u)
  (hr:appzA e Z bytes hp d x=some (r,hp')):OpOk P Γ hp (Builtin.append_ #[t,tx] ty #[v,u]) r hp':=by
 obtain⟨hut,i,z,hi,hzz,hzs,rfl,rfl⟩:=elemP_some ht
 obtain⟨i',z',hi',hz',hs',hZl,key⟩:=zeroP_some hz
 rw[hi] at hi'; cases hi'
 rw[hzz] at hz'; cases hz'
 unfold appzA at hr
 split at hr
 ·rename_i hd
  split at hr
  ·rename_i k' n
   simp only[VRel] at hu
   subst hu
   split at hr
   ·rename_i hb
    obtain⟨h0,h1,h2⟩:=hb
    have hw:=wrap64' h0 h2
    have hv':∃ a:Option Addr,v=.slice a 0 0:=by
     cases d<;>simp only[emptyA,Bool.false_eq_true] at hd
     ·simp only[VRel] at hv; exact⟨none,hv⟩
     ·simp only[VRel] at hv
      rcases hv with hv|⟨b,hv⟩
      ·exact⟨none,hv⟩
      ·exact⟨_,hv⟩
    obtain⟨a,rfl⟩:=hv'
    have hl0:¬ n<0:=by omega
    have hl1:¬ (281474976710656<n*(i.bytes:Int)):=by
     obtain⟨m,rfl⟩:∃ m:Nat,n=m:=⟨n.toNat,by omega⟩
     rw[Int.toNat_natCast] at h1
     rw[← Int.natCast_mul]
     omega
    split at hr
    ·rename_i hn0
     simp only[qd,qj] at hr
     obtain⟨rfl,rfl⟩:=hr
     have:n=0:=by omega
     subst this
     refine qE h (v:=.slice a 0 0) ?_ hv
     cases a<;>simp[Builtin.append_,run_underlying hut,run_underlying hx,sizeOf,typeInfo,hi,asInt,asIntOf,hw,storeCells]
    ·rename_i hn0
     simp only[qd,qj] at hr
     obtain⟨rfl,rfl⟩:=hr
     obtain⟨q1,q2⟩:=zeros_rel (key Γ).1 (key Γ).2 n.toNat
     have hzc:(Builtin.zeroCells z.cells n.toNat).toList=(List.replicate n.toNat z.cells.toList).flatten:=cycle_list z.cells n.toNat
     rw[← hzc] at q1 q2
     have hnt:0<n.toNat:=by omega
     have hfirst:∀ w,(Builtin.firstCells i.size 0 (.slice a 0 0)).run P w=.ok #[] w:=by
      intro w
      cases a with
      | none=>exact run_firstCells_none w i.size 0 0 0
      | some a=>have:=run_firstCells_some (P:=P) w i.size 0 a 0 0 [] (by simp) (fun j u hj=>by simp at hj); simpa using this
     have hcap:=growslice_fits (need:=n.toNat) (old:=0) hnt h1
     have hge:=grownCap_ge Γ.w n.toNat 0 e
     obtain⟨Δ,p1,p2,p3,p4⟩:=grown_row (P:=P) h e q1 q2 (Builtin.zeroCells z.cells (grownCap Γ.w n.toNat 0 e - n.toNat)).toList (grownCap Γ.w n.toNat 0 e) n.toNat i.size (by
      rw[List.length_append,Array.length_toList,Array.length_toList,size_zeroCells,size_zeroCells,hzs,← Nat.add_mul]
      exact xj _ (by omega)) hge
     refine⟨_,Δ,?_,by rw[← hZl] at p2; exact p2,p3,p4⟩
     have g1:¬ n≤0:=by omega
     have g2:¬ 9223372036854775807<max n 0:=by omega
     have g3:¬ 281474976710656<Builtin.nextslicecap n.toNat 0*i.bytes:=by omega
     simp[Builtin.append_,run_underlying hut,run_underlying hx,sizeOf,typeInfo,zeroValue,hi,hzz,asInt,asIntOf,hw,hl0,hl1,hfirst,g1,g2,g3,Question.forced,newRow]
     rw[p1]
     simp only[grownCap]
     have hs0:n.toNat*i.size=0→Builtin.zeroCells z.cells n.toNat = #[]:=fun h=>Array.eq_empty_of_size_eq_zero (by rw[size_zeroCells,hzs]; exact h)
     split
     ·rename_i h0
      rw[hs0 h0]
      simp
     ·congr 3
      apply Array.ext'
      simp
   ·cases hr
  ·cases hr
 ·cases hr
end
section
set_option linter.unusedSectionVars false
variable [Mx]
open Go
theorem HP.set_same {hp:HP} {id:Nat} {x:Option Blk} (hx:hp[id]? = some x):hp.set id x=hp:=by
 apply List.ext_getElem?
 intro j
 rw[List.getElem?_set]
 split
 ·rename_i hj
  subst hj
  rw[if_pos (qf.1 hx).1,hx]
 ·rfl
def shortA (sz n:Nat):AV→Option AV
 | .sl id off len sz' lo ex=>if n≤len then some (.sl id off n sz' lo ex) else none
 | .fsl cs len=>if n≤len then some (.fsl (cs.take (n*sz)) n) else none
 | .str s=>if n=s.length then some (.str s) else none
 | .nils=>if n=0 then some .nils else none
 | .esl=>if n=0 then some .esl else none
 | .enn=>if n=0 then some .enn else none
 | _=>none
theorem short_rel {Γ:Cx} {sz n:Nat} {x x':AV} {v:Value} (hv:VRel Γ x v) (h:shortA sz n x=some x'):∃ v',VRel Γ x' v'∧Builtin.firstCells sz n v'=Builtin.firstCells sz n v:=by
 cases x<;>simp only[shortA,reduceCtorEq] at h
 case str =>
  split at h
  ·cases h; exact⟨v,hv,rfl⟩
  ·cases h
 case nils =>
  split at h
  ·cases h; exact⟨v,hv,rfl⟩
  ·cases h
 case esl =>
  split at h
  ·cases h; exact⟨v,hv,rfl⟩
  ·cases h
 case enn =>
  split at h
  ·cases h; exact⟨v,hv,rfl⟩
  ·cases h
 case sl id off len sz' lo ex =>
  split at h
  ·rename_i hn
   cases h
   simp only[VRel] at hv
   obtain⟨hi,o,c,e,m,rfl,ho,k1,k2,k3,k4,k5⟩:=hv
   refine⟨.slice (some ⟨(Γ.β id).1,o,none⟩) n c,?_,rfl⟩
   simp only[VRel]
   exact⟨hi,o,c,e,m,rfl,ho,by omega,k2,k3,k4,k5⟩
  ·cases h
 case fsl cs len =>
  split at h
  ·rename_i hn
   cases h
   simp only[VRel] at hv
   rcases hv with ⟨rfl|⟨a0,rfl⟩,rfl,rfl⟩|⟨b,o,c,rfl,k1,k2,k3⟩
   ·refine⟨.slice none 0 0,?_,rfl⟩
    have:n=0:=by omega
    subst this
    simp[VRel,NilS]
   ·refine⟨.slice (some a0) 0 0,?_,?_⟩
    ·have:n=0:=by omega
     subst this
     simp[VRel,NilS]
    ·have:n=0:=by omega
     subst this
     rfl
   ·refine⟨.slice (some ⟨b,o,none⟩) n c,?_,rfl⟩
    simp only[VRel]
    refine .inr ⟨b,o,c,rfl,by omega,?_,k3.take _⟩
    rcases k2 with rfl|k2
    ·exact .inl (by simp)
    ·exact .inr k2
  ·cases h
def copyA (hp:HP) (sz:Nat) (d x:AV):Option (AV × HP):=
 match srcA hp sz x with
 | some (_,m)=>match d with
  | .nils | .esl | .enn=>some (.int .i64 0,hp)
  | .sl id off len sz' lo ex=>match shortA sz (min m len) x with
   | some x'=>match srcA hp sz x' with
    | some (new,k)=>match hp[id]? with
     | some (some (.row e cs))=>if (sz'=sz∧off+len*sz≤cs.length)∧k=min m len then some (.int .i64 (min m len:Nat),hp.set id (some (.row e (over cs off new)))) else none
     | _=>none
    | none=>none
   | none=>none
  | _=>none
 | none=>none
theorem nat_min (a b:Nat):Nat.min a b=min a b:=rfl
theorem copy_ok {P:Program} {Γ:Cx} {hp hp':HP} (h:HSim Γ hp) {t tx ty e:TypeId} {sz bytes:Nat} (ht:elemP P t=some (e,sz,bytes)) (hk:seqP P tx=true) {d x r:AV} {v u:Value} (hv:VRel Γ d v) (hu:VRel Γ x u)
  (hr:copyA hp sz d x=some (r,hp')):OpOk P Γ hp (Builtin.copy_ #[t,tx] ty #[v,u]) r hp':=by
 obtain⟨hut,i,z,hi,hz,hzs,rfl,rfl⟩:=elemP_some ht
 unfold copyA at hr
 split at hr
 ·rename_i _ as m hsrc
  obtain⟨news,hS,hN,hO⟩:=srcA_src h (seqP_some hk) hu hsrc
  have zero:∀ (base:Option Addr) (c:Nat),v=.slice base 0 c→(Builtin.firstCells i.size 0 u).run P Γ.w=.ok #[] Γ.w→OpOk P Γ hp (Builtin.copy_ #[t,tx] ty #[v,u]) (.int .i64 0) hp:=by
   intro base c hb hf
   subst hb
   refine qE h (v:=.int .i64 0) ?_ (by simp[VRel])
   cases base<;>simp[Builtin.copy_,run_underlying hut,sizeOf,typeInfo,hi,hS.len,hf,storeCells,goInt]
  have f0:(Builtin.firstCells i.size 0 u).run P Γ.w=.ok #[] Γ.w:=by
   rcases hS.kind with _|_
   all_goals
    cases u<;>try (have:=hS.cells; simp[Builtin.firstCells,stuck] at this; done)
    case slice base len c =>
     cases base with
     | none=>rfl
     | some a=>simp[Builtin.firstCells,loadCells,loadCellsFrom]
    case string s=>simp[Builtin.firstCells]
  split at hr
  ·cases hr
   simp only[VRel] at hv
   exact zero none 0 hv f0
  ·cases hr
   simp only[VRel] at hv
   rcases hv with hv|⟨b,hv⟩
   ·exact zero none 0 hv f0
   ·exact zero _ 0 hv f0
  ·cases hr
   simp only[VRel] at hv
   obtain⟨a0,c,hv,_⟩:=hv
   exact zero _ c hv f0
  ·rename_i id off len sz' lo ex
   split at hr
   ·rename_i x' hx'
    split at hr
    ·rename_i new k hsrc'
     split at hr
     ·rename_i e' cs hx
      split at hr
      ·rename_i hc
       obtain⟨⟨rfl,hl⟩,rfl⟩:=hc
       cases hr
       obtain⟨u',hu',hfc⟩:=short_rel hu hx'
       obtain⟨news',hS',hN',hO'⟩:=srcA_src h (seqP_some hk) hu' hsrc'
       simp only[VRel] at hv
       obtain⟨hi0,o,c,e2,mm,rfl,ho,k1,k2,k3,k4,k5⟩:=hv
       have hnl:new.length=min m len*i.size:=by rw[hN'.length,hS'.newsLen]
       have hcells:=hS'.cells
       rw[hfc] at hcells
       by_cases h0:min m len=0
       ·have hnew:new=[]:=qq (by rw[hnl,h0,Nat.zero_mul])
        have hnews:news'=[]:=qq (by rw[← hN'.length,hnew]; rfl)
        subst hnew hnews
        rw[over_nil]
        have hset:hp.set id (some (.row e' cs))=hp:=HP.set_same hx
        rw[hset]
        refine qE h (v:=.int .i64 (min m len:Nat)) ?_ (by simp[VRel])
        rw[h0] at hcells
        simp[Builtin.copy_,run_underlying hut,sizeOf,typeInfo,hi,hS.len,nat_min,h0,hcells,storeCells,goInt]
       ·have hlen0:len≠0:=by omega
        have ho':o=(Γ.β id).2+off:=by
         rcases ho with ho|ho
         ·omega
         ·exact ho
        have hle:min m len*i.size≤len*i.size:=xj _ (Nat.min_le_right _ _)
        obtain⟨Δ,r1,r2,r3,r4,r5,r6⟩:=write_row (P:=P) (off:=off) h hx hN' hO' (by omega) (.inl (by omega))
        refine⟨.int .i64 (min m len:Nat),Δ,?_,by simp[VRel],r2,r3⟩
        rw[← ho'] at r1
        simp[Builtin.copy_,run_underlying hut,sizeOf,typeInfo,hi,hS.len,nat_min,hcells,r1,goInt]
      ·cases hr
     ·cases hr
    ·cases hr
   ·cases hr
  ·cases hr
 ·cases hr
def convA (hp:HP) (x:AV):Option AV:=
 match x with
 | .sl id _ _ _ _ _=>match hp[id]? with
  | some (some (.row _ _))=>some x
  | _=>none
 | _=>none
theorem conv_ok {P:Program} {Γ:Cx} {hp:HP} (h:HSim Γ hp) {t e:TypeId} (ht:P.underlying t=some (.slice e)) (he:P.underlying e=some (.int .u8)) {x r:AV} {v:Value} (hv:VRel Γ x v) (hr:convA hp x=some r):OpOk P Γ hp (convert t t v) r hp:=by
 unfold convA at hr
 split at hr
 ·rename_i id off len sz lo ex
  split at hr
  ·rename_i e1 cs hx
   cases hr
   have hv':=hv
   simp only[VRel] at hv
   obtain⟨hi0,o,c,e2,mm,rfl,ho,k1,k2,k3,k4,k5⟩:=hv
   obtain⟨hb,hf,hlt⟩:=h.blk id _ hx
   simp only[BRel] at hb
   obtain⟨⟨cc,fr,hc,hfr0,hfr⟩,hcs⟩:=hb
   obtain⟨flo,fhi⟩:=fr
   simp only at hfr0 hfr
   let fr':Nat × Nat:=if flo == fhi then (cc.size,cc.size+1) else (min flo cc.size,max fhi (cc.size+1))
   have hw:(Γ.w.freeze ⟨(Γ.β id).1,cc.size,none⟩ 1)=setB Γ.w (Γ.β id).1 (.cells cc e1 fr'):=by
    have he1:∀ e',Γ.w.heap[(Γ.β id).1]? = some (.cells cc e' (flo,fhi))→True:=fun _ _=>trivial
    simp only[World.freeze,setB,Nat.one_ne_zero,if_false]
    congr 1
    apply Array.ext_getElem?
    intro j
    rw[Array.getElem?_modify,Array.getElem?_setIfInBounds]
    split
    ·rename_i hj
     subst hj
     rw[hc]
     simp only[qh]
     rfl
    ·rfl
   have hsh:∀ s,Γ.w.shape? (Γ.β id).1=some s→(setB Γ.w (Γ.β id).1 (.cells cc e1 fr')).shape? (Γ.β id).1=some s:=by
    intro s hs
    simp only[World.shape?,hc] at hs
    simp only[World.shape?,setB_eq _ _ hlt]
    exact hs
   have le:Le Γ (Γ.setB (Γ.β id).1 (.cells cc e1 fr')):=Le.setB hf hsh
   have hwr:=h.write hx (.cells cc e1 fr') (.row e1 cs) hsh (by
    simp only[BRel]
    refine⟨⟨cc,fr',setB_eq _ _ hlt,?_,?_⟩,CellsAt.of fun i a ha=>?_⟩
    ·simp only[fr']
     split
     ·exact Nat.le_succ _
     ·simp only; omega
    ·intro j hj
     simp only[fr']
     split
     ·simp only; omega
     ·rename_i hne
      have hne':flo≠fhi:=by simpa using hne
      have:cc.size≤flo:=by
       rcases Nat.lt_or_ge flo cc.size with hlt' | hge
       ·exact absurd ⟨qk _,by omega⟩ (hfr flo hlt')
       ·exact hge
      simp only
      omega
    ·obtain⟨u,q1,q2,q3⟩:=hcs.get i a ha
     refine⟨u,?_,q2,q3.le le⟩
     simp only[World.cell?,hc] at q1
     simp only[World.cell?,Cx.setB,setB_eq _ _ hlt]
     exact q1)
   have hset:hp.set id (some (.row e1 cs))=hp:=HP.set_same hx
   rw[hset] at hwr
   refine⟨.slice (some ⟨(Γ.β id).1,o,none⟩) len c,_,?_,hv'.le le,hwr.1,hwr.2⟩
   have hshape:Γ.w.shape? (Γ.β id).1=some (e1,cc.size):=by simp[World.shape?,hc]
   simp only[convert,qN,run_underlying ht,qy,beq_self_eq_true,run_underlying he]
   show ((markStringish ⟨(Γ.β id).1,o,none⟩).run P Γ.w).andThen _=_
   have hm:(markStringish ⟨(Γ.β id).1,o,none⟩).run P Γ.w=.ok () (Γ.w.freeze ⟨(Γ.β id).1,cc.size,none⟩ 1):=by
    simp[markStringish,shape,Sem.run,hshape,freeze,bind,Sem.bind,pure]
   rw[hm]
   simp only[qy,qO,hw]
   rfl
  ·cases hr
 ·cases hr
end
end Go.Gi
