/- Bytes, whole numbers and truth values as elements; glob.fold, Match's comparing functions, glob.Check: what they give. -/
/- Slices of our own, whole: what the operations do with them. -/
/- glob.Fold, bytes.Count of one byte, bytes.Repeat of one: what they give. -/
/- outlawkit.Own, as compiled: a list in memory of its own; what is appended to it. -/
/- slices.IndexFunc, as compiled. -/
/- Functions of package slices, as compiled, for elements of any one kind: Equal, Index, Contains, ContainsFunc; outlawkit.Same. -/
import Derived.Test.YtakdhioafodhcaaGreatDoorGoK
import Derived.Test.YtakdhioafodhcaaGreatDoorGiXA
import Derived.Test.YtakdhioafodhcaaGreatDoorGiXB
set_option linter.unusedVariables false
set_option linter.unusedSimpArgs false
set_option linter.unusedSectionVars false
namespace Go.Gi
open _root_.Bool renaming and_self → xb
open _root_.Go.Proofs.Tryz renaming prog → qi
open _root_.Int renaming toNat_natCast → xk
open _root_.List renaming eq_nil_of_length_eq_zero → qq, getElem?_append_right → xh, getElem?_eq_some_iff → qf, getElem?_eq_getElem → qg, take_of_length_le → xg, getElem?_set_ne → qv, length_append → qo, take_add_one → xn, length_take → xd, take_length → xl, length_map → qL, drop_zero → xJ
open _root_.Nat renaming reduceEqDiff → qa, add_zero → xN, sub_self → xX, le_refl → qk, mul_one → xC
open _root_.Option renaming map_some → qh
open _root_.Go.Gi.TabOk renaming none → qJ
section
set_option linter.unusedSectionVars false
variable [Mx]
open Go Go.Proofs
theorem hmG:qi.follows .mixedOrders=true:=by kernel_rfl
def R1.u8:R1 UInt8 where
 v c:=.int .u8 c.toNat
 un:=fun
  | .int .u8 n=>if 0≤n∧n<256 then some (UInt8.ofNat n.toNat) else none
  | _=>none
 un_v c:=by
  have:=c.toNat_lt
  show (if (0:Int)≤c.toNat∧(c.toNat:Int)<256 then some (UInt8.ofNat (c.toNat:Int).toNat) else none)=_
  rw[if_pos (by omega),xk,UInt8.ofNat_toNat]
 un_some x a h:=by
  split at h
  ·split at h
   ·rename_i n hn
    cases h
    rw[UInt8.toNat_ofNat_of_lt' (show n.toNat<256 by omega),Int.toNat_of_nonneg hn.1]
   ·cases h
  ·cases h
def encB:Enc UInt8 where
 c b:=[.int .u8 b.toNat]
 sz:=1
 pos:=by omega
 len _:=rfl
 nd _:=rfl
 ip:=true
 pl _ _:=rfl
 fz _ _:=rfl
 dec:=fun
  | [x]=>R1.u8.un x
  | _=>none
 dec_c b:=R1.u8.un_v b
 dec_some cs a h:=by
  split at h
  ·rw[R1.u8.un_some _ _ h]; rfl
  ·cases h
def encI:Enc Int where
 c b:=[.int .i64 b]
 sz:=1
 pos:=by omega
 len _:=rfl
 nd _:=rfl
 ip:=true
 pl _ _:=rfl
 fz _ _:=rfl
 dec:=fun
  | [.int .i64 n]=>some n
  | _=>none
 dec_c b:=rfl
 dec_some cs a h:=by
  split at h
  ·cases h; rfl
  ·cases h
def encT:Enc Bool where
 c b:=[.bool b]
 sz:=1
 pos:=by omega
 len _:=rfl
 nd _:=rfl
 ip:=true
 pl _ _:=rfl
 fz _ _:=rfl
 dec:=fun
  | [.bool n]=>some n
  | _=>none
 dec_c b:=rfl
 dec_some cs a h:=by
  split at h
  ·cases h; rfl
  ·cases h
def foldB (c:UInt8):UInt8:=if 65≤c.toNat∧c.toNat≤90 then UInt8.ofNat (c.toNat+32) else c
theorem foldB_up {c:UInt8} (h1:65≤c.toNat) (h2:c.toNat≤90):(foldB c).toNat=c.toNat+32:=by
 unfold foldB
 rw[if_pos ⟨h1,h2⟩,UInt8.toNat_ofNat_of_lt' (show c.toNat+32<256 by omega)]
theorem foldB_lo {c:UInt8} (h:c.toNat<65∨90<c.toNat):foldB c=c:=by
 unfold foldB
 rw[if_neg (by omega)]
theorem foldB_eq {a b:UInt8}:((foldB a).toNat:Int)=(foldB b).toNat↔foldB a=foldB b:=by
 rw[← UInt8.toNat_inj]
 omega
theorem u8_eqI {a b:UInt8}:(a.toNat:Int)=b.toNat↔a=b:=by
 rw[← UInt8.toNat_inj]
 omega
theorem pFold (c:UInt8):PCF qi 45 [.int .u8 c.toNat] (.int .u8 (foldB c).toNat):=by
 have hlt:=c.toNat_lt
 refine pcf_e hmG (qJ _) comp45 (by decide) (by simp) (nidL_ok rfl) ?_
 by_cases h1:65≤c.toNat
 ·by_cases h2:c.toNat≤90
  ·refine vcE.ex (by simp (disch:=omega) only[go_sem,↓reduceIte,qa,reduceCtorEq,wrap_u8]; rfl) ?_
   refine⟨_,rfl,?_⟩
   rw[foldB_up h1 h2]
   rfl
  ·refine vcE.e0 ?_
   refine⟨_,rfl,?_⟩
   rw[foldB_lo (by omega)]
   rfl
 ·refine vcE.e0 ?_
  refine⟨_,rfl,?_⟩
  rw[foldB_lo (by omega)]
  rfl
def sameB (f:Bool) (c b:UInt8):Bool:=if f then decide (foldB c=foldB b) else decide (c=b)
def G0:Tab:=Tab.none.addR 45 (.cons .u8 .nil) fun p=>.rd true (.int .u8 (foldB p.1).toNat)
theorem G0_ok:TabOk qi G0:=(qJ _).addR fun p=>pFold p.1
theorem G0_fold (c:UInt8):G0 45 [.int .u8 c.toNat]=some (.rd true (.int .u8 (foldB c).toNat)):=Tab.addR_self _ _ (.cons .u8 .nil) _ (c,())
def checkG (p:List UInt8):Int:=if p=[] then 2 else if p.length > 255 then 4 else 0
theorem pCheck (p:List UInt8):PCF qi 28 [.str p] (.int .i64 (checkG p)):=by
 refine pcf_e hmG (qJ _) comp28 (by decide) (by simp) (nidL_ok rfl) ?_
 unfold checkG
 repeat' (first|refine vcE.seq ?_|refine vcE.block ?_|(refine vcE.condTrue ?_ ?_; first|rfl|(simp (disch:=first|assumption|omega) only[go_sem,↓reduceIte]<;>rfl))|(refine vcE.condFalse ?_ ?_; first|rfl|(simp (disch:=first|assumption|omega) only[go_sem,↓reduceIte]<;>rfl))|(refine vcE.condND _ rfl (fun hc=>?_) (fun hc=>?_)<;>try (exfalso; first|omega|contradiction))|(refine vcE.condD _ rfl (fun hc=>?_) (fun hc=>?_)<;>try (exfalso; first|omega|contradiction))|(refine vcE.condNB _ rfl (fun hc=>?_) (fun hc=>?_)<;>try (exfalso; first|omega|contradiction))|(refine vcE.condB _ rfl (fun hc=>?_) (fun hc=>?_)<;>try (exfalso; first|omega|contradiction))|(apply vcE.ex; (simp (disch:=first|assumption|omega) only[go_sem,↓reduceIte,reduceCtorEq]<;>rfl))|fail)
 all_goals refine⟨_,rfl,?_⟩
 all_goals simp (disch:=omega) only[if_pos,if_neg, *]
 all_goals rfl
end
section
set_option linter.unusedSectionVars false
variable [Mx]
open Go
variable {α:Type}
theorem set_get {hp:HP} {id:Nat} {x y:Option Blk} (h:hp[id]? = some y):(hp.set id x)[id]? = some x:=by
 have:=(qf.1 h).1
 simp[this]
theorem set_get_ne {hp:HP} {id j:Nat} {x:Option Blk} (h:id≠j):(hp.set id x)[j]? = hp[j]?:=qv h
theorem app_get {hp new:HP} {id:Nat} {y:Option Blk} (h:hp[id]? = some y):(hp++new)[id]? = some y:=by
 have:=(qf.1 h).1
 rw[List.getElem?_append_left this,h]
theorem get_lt {hp:HP} {id:Nat} {y:Option Blk} (h:hp[id]? = some y):id<hp.length:=(qf.1 h).1
theorem Enc.cs_map1 (E:Enc α) {f:α→AV} (h:∀ a,E.c a=[f a]):∀ l:List α,E.cs l=l.map f
 | []=>rfl
 | a :: l=>by simp only[Enc.cs,h,List.map_cons,E.cs_map1 h l,List.cons_append,List.nil_append]
section
variable (E:Enc α) {hp:HP} {id:Nat} {e:TypeId} {l:List α} {lo:Nat} {ex:Bool}
theorem Enc.sl_frz (h:hp[id]? = some (some (.row e (E.cs l)))):frz hp (.sl id 0 l.length E.sz lo ex)=some (E.S l):=by
 simp only[frz,h]
 rw[if_pos (by rw[E.cs_len,E.cs_nid]; simp),xJ,xg (by rw[E.cs_len]; exact qk _)]
 rfl
theorem Enc.sl_fresh (h:hp[id]? = some (some (.row e (E.cs l)))) (hi:E.ip=true:=by rfl):fresh hp (.sl id 0 l.length E.sz lo ex)=some (E.S l):=by
 simp only[fresh,h]
 rw[if_pos (by rw[E.cs_len,E.cs_plain hi]; simp),xJ,xg (by rw[E.cs_len]; exact qk _)]
 rfl
theorem Enc.sl_src (h:hp[id]? = some (some (.row e (E.cs l)))):srcA hp E.sz (.sl id 0 l.length E.sz lo ex)=some (E.cs l,l.length):=by
 simp only[srcA,h]
 rw[if_pos ⟨trivial,by rw[E.cs_len]; omega⟩,xJ,xg (by rw[E.cs_len]; exact qk _)]
theorem Enc.pick1 (h1:E.sz=1) {i:Nat} {a:α} {v:AV} (ha:l[i]? = some a) (hv:E.c a=[v]) (ho:oneA v=true):pickA none (E.cs l) i=some v:=by
 have:=E.pick_part ha (sh:=none) (o:=0) (by rw[h1]; exact qk _)
 rw[h1,xC,xN,hv] at this
 rw[this]
 simp[pickA,ho]
theorem Enc.sl_load1 (h1:E.sz=1) (h:hp[id]? = some (some (.row e (E.cs l)))) {i:Nat} {a:α} {v:AV} (ha:l[i]? = some a) (hv:E.c a=[v]) (ho:oneA v=true):loadA hp none (.ptr id i)=some v:=by
 simp only[loadA,rowA,h,E.pick1 h1 ha hv ho]
theorem Enc.sl_store (h:hp[id]? = some (some (.row e (E.cs l)))) {i:Nat} (hi:i<l.length) {b:α} {v:AV} (hv:cellsA v=E.c b) (ht:∀ vs,v≠.tup vs):storeA hp E.sz (.ptr id (i*E.sz)) v=some (hp.set id (some (.row e (E.cs (l.set i b))))):=by
 have hm:(i+1)*E.sz≤l.length*E.sz:=Nat.mul_le_mul_right _ hi
 rw[Nat.succ_mul] at hm
 have ho:over (E.cs l) (i*E.sz) (E.c b)=E.cs (l.set i b):=E.over_el (qg hi)
 simp only[storeA,h]
 cases v<;>first|(exact absurd rfl (ht _))|(simp only[hv,E.len,E.cs_len]; rw[if_pos ⟨trivial,hm⟩,ho])
theorem Enc.sl_store1 (h1:E.sz=1) (h:hp[id]? = some (some (.row e (E.cs l)))) {i:Nat} (hi:i<l.length) {b:α} {v:AV} (hv:cellsA v=E.c b) (ht:∀ vs,v≠.tup vs):storeA hp 1 (.ptr id i) v=some (hp.set id (some (.row e (E.cs (l.set i b))))):=by
 have:=E.sl_store h hi hv ht
 rwa[h1,xC] at this
theorem Enc.sl_app {bytes:Nat} {m:List α} {x:AV} (h:hp[id]? = some (some (.row e (E.cs l)))) (hx:srcA hp E.sz x=some (E.cs m,m.length)) (hm:0<m.length) (hb:(l.length+m.length)*bytes≤140737488355328) (hn:l.length+m.length≤9223372036854775807) :
  appA e E.sz bytes hp (.sl id 0 l.length E.sz l.length false) x=some (.sl hp.length 0 (l++m).length E.sz (l++m).length false,hp.set id none++[some (.row e (E.cs (l++m)))]):=by
 simp only[appA,hx,h]
 rw[if_neg (by omega),if_pos ⟨trivial,by rw[E.cs_len]; omega⟩,if_neg (by omega),if_pos ⟨hb,hn⟩]
 simp only[Bool.false_eq_true,if_false,xJ]
 rw[if_pos ⟨by rw[E.cs_len]; omega,trivial⟩,E.cs_app,qo]
theorem Enc.nils_app {bytes:Nat} {m:List α} {x:AV} (hx:srcA hp E.sz x=some (E.cs m,m.length)) (hm:0<m.length) (hb:m.length*bytes≤140737488355328) (hn:m.length≤9223372036854775807) :
  appA e E.sz bytes hp .nils x=some (.sl hp.length 0 m.length E.sz m.length false,hp++[some (.row e (E.cs m))]):=by
 simp only[appA,hx]
 rw[if_neg (by omega),if_pos ⟨hb,hn⟩]
end
def bld (id len sz:Nat):AV:=if len=0 then .nils else .sl id 0 len sz len false
theorem bld_pos {id len sz:Nat} (h:0<len):bld id len sz=.sl id 0 len sz len false:=by
 unfold bld
 rw[if_neg (by omega)]
def BldAt (E:Enc α) (hp:HP) (id:Nat) (e:TypeId) (l:List α):Prop:=l=[]∨hp[id]? = some (some (.row e (E.cs l)))
theorem BldAt.nil (E:Enc α) (hp:HP) (id:Nat) (e:TypeId):BldAt E hp id e []:=.inl rfl
theorem BldAt.app {E:Enc α} {hp:HP} {id:Nat} {e:TypeId} {l:List α} (h:BldAt E hp id e l) (new:HP):BldAt E (hp++new) id e l:=h.elim .inl fun h=>.inr (app_get h)
theorem bld_one (id len sz:Nat):oneA (bld id len sz)=true:=by
 unfold bld
 split<;>rfl
theorem bld_cells (id len sz:Nat):cellsA (bld id len sz)=[bld id len sz]:=by
 unfold bld
 split<;>rfl
theorem bld_notTup (id len sz:Nat) (vs:List AV):bld id len sz≠.tup vs:=by
 unfold bld
 split<;>simp
theorem bld_len (hp:HP) (id len sz:Nat):lenA hp (bld id len sz)=some (.int .i64 len):=by
 unfold bld
 split
 ·rename_i h; subst h; rfl
 ·rfl
theorem bld_fits (id len sz:Nat):lenFits .slice (bld id len sz)=true:=by
 unfold bld
 split<;>rfl
theorem BldAt.frz {E:Enc α} {hp:HP} {id:Nat} {e:TypeId} {l:List α} (h:BldAt E hp id e l):Gi.frz hp (bld id l.length E.sz)=some (E.S l):=by
 rcases h with rfl|h
 ·rfl
 ·by_cases h0:l.length=0
  ·have:=qq h0
   subst this
   rfl
  ·rw[bld_pos (by omega)]
   exact E.sl_frz h
theorem BldAt.fresh {E:Enc α} {hp:HP} {id:Nat} {e:TypeId} {l:List α} (h:BldAt E hp id e l) (hi:E.ip=true:=by rfl):Gi.fresh hp (bld id l.length E.sz)=some (E.S l):=by
 rcases h with rfl|h
 ·rfl
 ·by_cases h0:l.length=0
  ·have:=qq h0
   subst this
   rfl
  ·rw[bld_pos (by omega)]
   exact E.sl_fresh h hi
theorem BldAt.src {E:Enc α} {hp:HP} {id:Nat} {e:TypeId} {l:List α} (h:BldAt E hp id e l):srcA hp E.sz (bld id l.length E.sz)=some (E.cs l,l.length):=by
 rcases h with rfl|h
 ·rfl
 ·by_cases h0:l.length=0
  ·have:=qq h0
   subst this
   rfl
  ·rw[bld_pos (by omega)]
   exact E.sl_src h
def bldH (hp:HP) (id len:Nat) (b:Blk):HP:=(if len=0 then hp else hp.set id none)++[some b]
theorem bldH_len (hp:HP) (id len:Nat) (b:Blk):(bldH hp id len b).length=hp.length+1:=by
 unfold bldH
 split<;>simp
theorem BldAt.more {E:Enc α} {hp:HP} {id:Nat} {e:TypeId} {l m:List α} (h:BldAt E hp id e l) {bytes:Nat} {x:AV} (hx:srcA hp E.sz x=some (E.cs m,m.length)) (hm:0<m.length) (hb:(l.length+m.length)*bytes≤140737488355328) (hn:l.length+m.length≤9223372036854775807) :
  appA e E.sz bytes hp (bld id l.length E.sz) x=some (bld hp.length (l++m).length E.sz,bldH hp id l.length (.row e (E.cs (l++m)))):=by
 have hpos:0<(l++m).length:=by simp; omega
 rw[bld_pos hpos]
 by_cases h0:l.length=0
 ·have:=qq h0
  subst this
  simp only[bld,List.length_nil,if_true,bldH]
  rw[E.nils_app hx hm (by simpa using hb) (by simpa using hn)]
  simp
 ·rw[bld_pos (by omega)]
  rcases h with rfl|h
  ·simp at h0
  ·rw[E.sl_app h hx hm hb hn,bldH,if_neg h0]
theorem BldAt.moreAt (E:Enc α) (hp:HP) (id len:Nat) (e:TypeId) (l:List α):BldAt E (bldH hp id len (.row e (E.cs l))) hp.length e l:=by
 refine .inr ?_
 unfold bldH
 split
 ·simp
 ·rw[xh (by simp)]
  simp
theorem bldH_other {hp:HP} {id len:Nat} {b:Blk} {j:Nat} {y:Option Blk} (h:hp[j]? = some y) (hj:len=0∨j≠id):(bldH hp id len b)[j]? = some y:=by
 unfold bldH
 split
 ·exact app_get h
 ·refine app_get ?_
  rw[qv (by omega)]
  exact h
theorem app_none {e:TypeId} {sz bytes:Nat} {hp:HP} {id len:Nat} {x:AV} (hx:srcA hp sz x=some ([],0)):appA e sz bytes hp (bld id len sz) x=some (bld id len sz,hp):=by
 unfold bld
 split<;>simp[appA,hx]
theorem iaddr_sl {sz id off len lo i:Nat} {ex:Bool} {k:IntKind} (h:i<len):iaddrA sz (.sl id off len sz lo ex) (.int k (i:Int))=some (.ptr id (off+i*sz)):=by
 simp only[iaddrA]
 rw[if_pos ⟨trivial,by omega,by omega⟩,xk]
theorem iaddr_sl1 {id len lo i:Nat} {ex:Bool} {k:IntKind} (h:i<len):iaddrA 1 (.sl id 0 len 1 lo ex) (.int k (i:Int))=some (.ptr id i):=by
 rw[iaddr_sl h,Nat.zero_add,xC]
theorem vcE.ext {P:Program} {hint:Nat→Nat} {T:Tab} {n:Nat} {d:Option Nat} {xs:List Opd} {g:Option (Nat × Bool)} {tm:Env} {hp:HP} {Q:Exit→Env→HP→Prop} {f:FuncId} {caps ys:List AV} {K:AV→HP→Prop} (hw:wantedE tm g=true) (he:evsE tm xs=.func f caps :: ys) (hc:AExt P f (ys++caps) hp K) (hk:∀ r hp',K r hp'→Q .normal (putE tm d r) hp'):vcE P hint T n (.reg [⟨d,.call none,xs,g⟩]) tm hp Q:=by
 intro hm hT hs l Q' hl hq
 simp only[okS,List.all_cons,List.all_nil,Bool.and_true,IOp.inR,Bool.and_eq_true] at hs
 obtain⟨⟨h1,h2⟩,h3⟩:=hs
 show vop P _ _ _
 unfold vop
 rw[if_pos (by rw[hl.wanted h3]; exact hw)]
 simp only
 rw[hl.evs h1,he]
 exact Or.inr (hc.mono fun r hp' hr=>hq _ _ _ _ hl.put (hk r hp' hr))
end
section
set_option linter.unusedSectionVars false
variable [Mx]
open Go Go.Proofs
theorem encB_cs (s:List UInt8):encB.cs s=s.map byteA:=encB.cs_map1 (fun _=>rfl) s
theorem encT_zeros (n:Nat):zerosA [.bool false] n=encT.cs (List.replicate n false):=by
 rw[encT.cs_map1 (f:=.bool) (fun _=>rfl)]
 simp[zerosA]
theorem unbyte_encB:∀ s:List UInt8,unbyte (encB.cs s)=some s
 | []=>rfl
 | c :: s=>by
  have h:=c.toNat_lt
  show (if (0:Int)≤c.toNat∧(c.toNat:Int)<256 then (unbyte (encB.cs s)).map (UInt8.ofNat (c.toNat:Int).toNat :: ·) else none)=_
  rw[if_pos (by omega),unbyte_encB s,xk,UInt8.ofNat_toNat]
  rfl
theorem s2b_encB (hp:HP) (e:TypeId) (s:List UInt8):s2bA hp e (.str s)=some (.sl hp.length 0 s.length 1 s.length false,hp++[some (.row e (encB.cs s))]):=by
 rw[encB_cs]
 rfl
def doneTo {α:Type} (f:α→α) (s:List α) (i:Nat):List α:=(s.take i).map f++s.drop i
theorem doneTo_len {α:Type} (f:α→α) (s:List α) (i:Nat):(doneTo f s i).length=s.length:=by
 simp only[doneTo,qo,qL,xd,List.length_drop]
 omega
theorem doneTo_get {α:Type} {f:α→α} {s:List α} {i:Nat} {c:α} (h:s[i]? = some c):(doneTo f s i)[i]? = some c:=by
 have hlt:=(qf.1 h).1
 unfold doneTo
 rw[xh (by simp; omega)]
 simp only[qL,xd,List.getElem?_drop]
 rw[Nat.min_eq_left (by omega),xX,xN,h]
theorem doneTo_set {α:Type} {f:α→α} {s:List α} {i:Nat} {c:α} (h:s[i]? = some c):(doneTo f s i).set i (f c)=doneTo f s (i+1):=by
 obtain⟨hlt,he⟩:=qf.1 h
 unfold doneTo
 rw[List.set_append_right _ _ (by simp; omega)]
 simp only[qL,xd]
 rw[Nat.min_eq_left (by omega),xX,List.drop_eq_getElem_cons hlt,he,List.set_cons_zero,xn,h]
 simp
theorem doneTo_zero {α:Type} (f:α→α) (s:List α):doneTo f s 0=s:=by simp[doneTo]
theorem doneTo_all {α:Type} (f:α→α) (s:List α):doneTo f s s.length=s.map f:=by simp[doneTo]
theorem pFoldS (s:List UInt8) (hl:s.length≤4611686018427387904):PCF qi 33 [.str s] (.str (s.map foldB)):=by
 refine pcf_e hmG G0_ok comp33 (by decide) (by simp) (nidL_ok rfl) ?_
 refine vcE.s1 (k:=vcE.step (by simp only[go_sem,↓reduceIte,reduceCtorEq,s2b_encB]; rfl) (vcE.then (fun e tm hp=>e=.normal∧tm 3=.sl 0 0 s.length 1 s.length false∧hp=[some (.row 5 (encB.cs (s.map foldB)))]) ?_ ?_))
 ·refine vcE.s1 (k:=vcE.block (vcE.count (by intro l tm hp h; simp at h)
   (fun i tm hp=>tm 3=.sl 0 0 s.length 1 s.length false∧tm 8=.int .i64 s.length∧tm 9=.int .i64 i∧hp=[some (.row 5 (encB.cs (doneTo foldB s i)))]) s.length ⟨?_,?_,?_,?_⟩ ?_ ?_))
  ·rfl
  ·rfl
  ·rfl
  ·rw[doneTo_zero]
  ·rintro i tm hp hi ⟨e3,e8,e9,rfl⟩
   obtain⟨c,hc⟩:∃ c,s[i]? = some c:=⟨_,qg hi⟩
   have hlen:=doneTo_len foldB s i
   have hld:=encB.sl_load1 (hp:=[some (.row 5 (encB.cs (doneTo foldB s i)))]) (id:=0) (e:=5) rfl rfl (doneTo_get (f:=foldB) hc) (v:=.int .u8 c.toNat) rfl rfl
   have hst:=encB.sl_store1 (hp:=[some (.row 5 (encB.cs (doneTo foldB s i)))]) (id:=0) (e:=5) (l:=doneTo foldB s i) rfl rfl (i:=i) (by omega) (b:=foldB c) (v:=.int .u8 (foldB c).toNat) rfl (by simp)
   rw[doneTo_set hc] at hst
   simp only[loadA,rowA,List.getElem?_cons_zero] at hld
   refine vcE.ex (by simp (disch:=omega) only[go_sem,↓reduceIte,e9,e8,qa,e3,iaddr_sl1,↓hld,frzL.eq_2,G0_fold,nidL.eq_2,↓hst]; rfl) ?_
   refine⟨?_,?_,?_,rfl⟩
   all_goals simp only[upd_app,qa,↓reduceIte,e3,e8]
   all_goals rfl
  ·rintro tm hp ⟨e3,e8,e9,rfl⟩
   refine vcE.ex (by simp (disch:=omega) only[go_sem,↓reduceIte,e8,e9]; rfl) ?_
   refine⟨rfl,?_,?_⟩
   ·simp only[upd_app,qa,↓reduceIte,e3]
   ·rw[doneTo_all]
 ·rintro e tm hp ⟨rfl,h3,rfl⟩
  have hs:=encB.sl_src (hp:=[some (.row 5 (encB.cs (s.map foldB)))]) (id:=0) (e:=5) (l:=s.map foldB) (lo:=s.length) (ex:=false) rfl
  rw[qL] at hs
  have hb:b2sA [some (.row 5 (encB.cs (s.map foldB)))] (.sl 0 0 s.length 1 s.length false)=some (.str (s.map foldB)):=by
   unfold b2sA
   rw[show (1:Nat)=encB.sz from rfl,hs]
   simp only[unbyte_encB,qh]
  refine vcE.ex (by simp only[go_sem,↓reduceIte,h3,hb]; rfl) ?_
  exact⟨_,rfl,rfl⟩
end
section
set_option linter.unusedSectionVars false
variable [Mx]
open Go
variable {α:Type}
def OwnS (E:Enc α) (hp:HP) (v:AV) (e:TypeId) (l:List α):Prop:=∃ id ex,v=.sl id 0 l.length E.sz l.length ex∧hp[id]? = some (some (.row e (E.cs l)))
section
variable {E:Enc α} {hp:HP} {v:AV} {e:TypeId} {l:List α}
theorem OwnS.frz (h:OwnS E hp v e l):Gi.frz hp v=some (E.S l):=by
 obtain⟨id,ex,rfl,h⟩:=h
 exact E.sl_frz h
theorem OwnS.fresh (h:OwnS E hp v e l) (hi:E.ip=true:=by rfl):Gi.fresh hp v=some (E.S l):=by
 obtain⟨id,ex,rfl,h⟩:=h
 exact E.sl_fresh h hi
theorem OwnS.src (h:OwnS E hp v e l):srcA hp E.sz v=some (E.cs l,l.length):=by
 obtain⟨id,ex,rfl,h⟩:=h
 exact E.sl_src h
theorem OwnS.len (h:OwnS E hp v e l) (hp2:HP):lenA hp2 v=some (.int .i64 l.length):=by
 obtain⟨id,ex,rfl,h⟩:=h
 rfl
theorem OwnS.fits (h:OwnS E hp v e l):lenFits .slice v=true:=by
 obtain⟨id,ex,rfl,h⟩:=h
 rfl
theorem OwnS.one (h:OwnS E hp v e l):oneA v=true:=by
 obtain⟨id,ex,rfl,h⟩:=h
 rfl
theorem OwnS.cells (h:OwnS E hp v e l):cellsA v=[v]:=by
 obtain⟨id,ex,rfl,h⟩:=h
 rfl
theorem OwnS.notTup (h:OwnS E hp v e l):Gi.notTup v=true:=by
 obtain⟨id,ex,rfl,h⟩:=h
 rfl
end
end
section
set_option linter.unusedSectionVars false
variable [Mx]
open Go
variable {α:Type}
def idx (p:α→Bool) (l:List α):Int:=match l.findIdx? p with
 | some i=>i
 | none => -1
theorem idx_some {p:α→Bool} {l:List α} {i:Nat} {a:α} (h:l[i]? = some a) (ha:p a=true) (hb:∀ j,j<i→∀ b,l[j]? = some b→p b=false):idx p l=i:=by
 obtain⟨h1,h2⟩:=qf.1 h
 have:l.findIdx? p=some i:=by
  rw[List.findIdx?_eq_some_iff_getElem]
  refine⟨h1,by rw[h2]; exact ha,fun j hj=>?_⟩
  have:=hb j hj l[j] (qg (by omega))
  simp[this]
 simp only[idx,this]
theorem idx_none {p:α→Bool} {l:List α} (hb:∀ j,j<l.length→∀ b,l[j]? = some b→p b=false):idx p l = -1:=by
 have:l.findIdx? p=none:=by
  rw[List.findIdx?_eq_none_iff]
  intro x hx
  obtain⟨j,hj,he⟩:=List.mem_iff_getElem.1 hx
  exact hb j hj x (by rw[qg hj,he])
 simp only[idx,this]
end
section
set_option linter.unusedSectionVars false
variable [Mx]
open Go
variable {α:Type} [DecidableEq α]
structure El (α:Type) [DecidableEq α] where
 E:Enc α
 v:α→AV
 sh:Option Nat
 K:EqK
 pk:∀ {l:List α} {i:Nat} {a:α},l[i]? = some a→pickA sh (E.cs l) (i*E.sz)=some (v a)
 nt:∀ a,notTup (v a)=true
 ce:∀ a,cellsA (v a)=E.c a
 nv:∀ a,nid (v a)=true
 fz:∀ hp a,frz hp (v a)=some (v a)
 eq:∀ a b,binA .eql K (v a) (v b)=some (.bool (decide (a=b)))
 ne:∀ a b,binA .neq K (v a) (v b)=some (.bool (!decide (a=b)))
theorem frz_aggE (E:Enc α) (hp:HP) (a:α):frz hp (.agg (E.c a))=some (.agg (E.c a)):=by
 simp only[frz,E.fz]
def El.st (E:Enc α) (ls:List Leaf) (h:∀ a b,eqA (.st ls) (.agg (E.c a)) (.agg (E.c b))=some (decide (a=b))):El α where
 E:=E
 v a:=.agg (E.c a)
 sh:=some E.sz
 K:=.st ls
 pk h:=E.pick h
 nt _:=rfl
 ce _:=rfl
 nv a:=by simp only[nid,E.nd]
 fz hp a:=frz_aggE E hp a
 eq a b:=by simp only[binA,h,qh]
 ne a b:=by simp only[binA,h,qh]
abbrev regX (d:Bool) (t:Tr) (is:List IOp):IC:=cond d (.regD .wild is t) (.reg is)
theorem regX_t (t:Tr) (is:List IOp):regX true t is=.regD .wild is t:=rfl
theorem regX_f (t:Tr) (is:List IOp):regX false t is=.reg is:=rfl
theorem take_step {l m:List α} {i:Nat} (h:l.take i=m.take i) {a:α} (h1:l[i]? = some a) (h2:m[i]? = some a):l.take (i+1)=m.take (i+1):=by
 rw[xn,xn,h,h1,h2]
abbrev equalB (sz:Nat) (sh:Option Nat) (K:EqK) (d:Bool):IC:=(IC.seq (IC.reg [⟨some 14,.op (.bin .lss .prim),[.t 13,.t 12],none⟩]) (IC.seq (IC.cond (.t 14) IC.skip (IC.exit 0)) (IC.seq (IC.block 1 (IC.seq (IC.reg [⟨some 15,.op (.mov),[.t 13],none⟩,⟨some 5,.op (.mov),[.t 15],none⟩]) (IC.seq (regX d (.take 0 (.take 1 (.take 2 (.take 3 (.take 4 (.take 5 (.take 6 (.take 7 (.take 8 (.done)))))))))) [⟨some 16,.op (.mov),[.t 0],none⟩,
 ⟨some 17,.op (.mov),[.t 5],none⟩,
 ⟨some 18,.op (.iaddr sz),[.t 16,.t 17],none⟩,
 ⟨some 19,.op (.load sh),[.t 18],none⟩,
 ⟨some 20,.op (.mov),[.t 1],none⟩,
 ⟨some 21,.op (.mov),[.t 5],none⟩,
 ⟨some 22,.op (.iaddr sz),[.t 20,.t 21],none⟩,
 ⟨some 23,.op (.load sh),[.t 22],none⟩,
 ⟨some 24,.op (.bin .neq K),[.t 19,.t 23],none⟩]) (IC.cond (.t 24) (IC.seq (IC.reg [⟨some 4,.op (.mov),[.c (.bool false)],none⟩]) IC.ret) IC.skip)))) (IC.reg [⟨some 25,.op (.bin .add .prim),[.t 13,.c (.int .i64 1)],none⟩,⟨some 13,.op (.mov),[.t 25],none⟩]))))
abbrev equalC (sz:Nat) (sh:Option Nat) (K:EqK) (d:Bool):IC:=(IC.seq (IC.reg [⟨some 4,.op (.mov),[.c (.bool false)],none⟩]) (IC.seq (IC.seq (IC.reg [⟨some 6,.op (.mov),[.t 0],none⟩,
 ⟨some 7,.op (.len .slice),[.t 6],none⟩,
 ⟨some 8,.op (.mov),[.t 1],none⟩,
 ⟨some 9,.op (.len .slice),[.t 8],none⟩,
 ⟨some 10,.op (.bin .neq .prim),[.t 7,.t 9],none⟩]) (IC.cond (.t 10) (IC.seq (IC.reg [⟨some 4,.op (.mov),[.c (.bool false)],none⟩]) IC.ret) IC.skip)) (IC.seq (IC.seq (IC.reg [⟨some 11,.op (.mov),[.t 0],none⟩,
 ⟨some 12,.op (.len .slice),[.t 11],none⟩,
 ⟨some 13,.op (.mov),[.c (.int .i64 0)],none⟩]) (IC.block 0 (IC.loop (equalB sz sh K d)))) (IC.seq (IC.reg [⟨some 4,.op (.mov),[.c (.bool true)],none⟩]) IC.ret))))
theorem equal_pc {P:Program} (hm:P.follows .mixedOrders=true) {hint:Nat→Nat} {f:FuncId} (L:El α) (d:Bool) (hf:compF P hint f=some ⟨equalC L.E.sz L.sh L.K d,26,[.t 4]⟩) {l m:List α} (hl:l.length≤4611686018427387904) (hm2:m.length≤4611686018427387904):PCF P f [L.E.S l,L.E.S m] (.bool (decide (l=m))):=by
 refine pcf_e hm (qJ _) hf (by cases d<;>rfl) (by simp) (nidL_ok (by simp only[nidL,Enc.S_nid,xb])) ?_
 by_cases hlm:l.length=m.length
 ·refine vcE.s1 (k:=vcE.step (by simp (disch:=first|assumption|omega) only[go_sem,↓reduceIte,qa,reduceCtorEq,Enc.S_len]; rfl) (vcE.then (fun e tm hp=>(e=.normal∧l=m)∨(e=.ret∧tm 4=.bool false∧l≠m)) ?_ ?_))
  ·refine vcE.s1 (k:=vcE.block (vcE.count (by intro l tm hp h; simp at h)
    (fun i tm hp=>tm 0=L.E.S l∧tm 1=L.E.S m∧tm 12=.int .i64 l.length∧tm 13=.int .i64 i∧l.take i=m.take i) l.length ⟨?_,?_,?_,?_,?_⟩ ?_ ?_))
   ·rfl
   ·rfl
   ·rfl
   ·rfl
   ·simp
   ·rintro i tm hp hi ⟨e0,e1,e12,e13,hE⟩
    obtain⟨a,ha⟩:∃ a,l[i]? = some a:=⟨_,qg hi⟩
    obtain⟨b,hb⟩:∃ b,m[i]? = some b:=⟨_,qg (by omega)⟩
    have hia:iaddrA L.E.sz (L.E.S l) (.int .i64 i)=some (.fptr (L.E.cs l) (i*L.E.sz)):=L.E.S_iaddr hi
    have hib:iaddrA L.E.sz (L.E.S m) (.int .i64 i)=some (.fptr (L.E.cs m) (i*L.E.sz)):=L.E.S_iaddr (by omega)
    have hp1:=L.pk ha
    have hp2:=L.pk hb
    have hne:=L.ne a b
    by_cases hab:a=b
    ·rw[decide_eq_true hab] at hne
     cases d
     all_goals refine vcE.ex (by simp (disch:=first|assumption|omega) only[go_sem,↓reduceIte,e13,e12,qa,regX_f,exC.eq_2,reduceCtorEq,e0,hia,↓hp1,e1,hib,↓hp2,↓hne,exC.eq_3,exOps.eq_2]; rfl) ?_
     all_goals refine⟨?_,?_,?_,?_,take_step hE ha (by rw[hab]; exact hb)⟩
     all_goals simp only[upd_app,qa,↓reduceIte,e0,e1,e12]
     all_goals rfl
    ·rw[decide_eq_false hab] at hne
     have hlm2:l≠m:=by
      rintro rfl
      rw[ha] at hb
      cases hb
      exact hab rfl
     cases d
     all_goals refine vcE.ex (by simp (disch:=first|assumption|omega) only[go_sem,↓reduceIte,e13,e12,qa,regX_f,exC.eq_2,reduceCtorEq,e0,hia,↓hp1,e1,hib,↓hp2,↓hne,exC.eq_3,exOps.eq_2]; rfl) ?_
     all_goals refine .inr ⟨rfl,?_,hlm2⟩
     all_goals simp only[upd_app,↓reduceIte]
   ·rintro tm hp ⟨e0,e1,e12,e13,hE⟩
    refine vcE.ex (by simp (disch:=omega) only[go_sem,↓reduceIte,e12,e13]; rfl) ?_
    refine .inl ⟨rfl,?_⟩
    rw[xl,hlm,xl] at hE
    exact hE
  ·rintro e tm hp (⟨rfl,h⟩|⟨rfl,h4,h⟩)
   ·refine vcE.e0 ?_
    refine⟨_,rfl,?_⟩
    rw[decide_eq_true h]
    rfl
   ·refine⟨_,rfl,?_⟩
    rw[h4,decide_eq_false h]
    rfl
 ·have hlm':¬ ((l.length:Int)=m.length):=by omega
  refine vcE.ex (by simp (disch:=first|assumption|omega) only[go_sem,↓reduceIte,qa,reduceCtorEq,Enc.S_len]; rfl) ?_
  refine⟨_,rfl,?_⟩
  rw[decide_eq_false (fun e=>hlm (by rw[e]))]
  rfl
abbrev sameLB (sz:Nat) (sh:Option Nat) (K:EqK) (d:Bool):IC:=(IC.seq (IC.seq (IC.reg [⟨some 11,.op (.mov),[.t 5],none⟩,
 ⟨some 12,.op (.mov),[.t 0],none⟩,
 ⟨some 13,.op (.len .slice),[.t 12],none⟩,
 ⟨some 14,.op (.bin .lss .prim),[.t 11,.t 13],none⟩]) (IC.cond (.t 14) IC.skip (IC.exit 0))) (IC.seq (IC.block 1 (IC.seq (regX d (.take 0 (.take 1 (.take 2 (.take 3 (.take 4 (.take 5 (.take 6 (.take 7 (.take 8 (.done)))))))))) [⟨some 17,.op (.mov),[.t 0],none⟩,
 ⟨some 18,.op (.mov),[.t 5],none⟩,
 ⟨some 19,.op (.iaddr sz),[.t 17,.t 18],none⟩,
 ⟨some 20,.op (.load sh),[.t 19],none⟩,
 ⟨some 21,.op (.mov),[.t 1],none⟩,
 ⟨some 22,.op (.mov),[.t 5],none⟩,
 ⟨some 23,.op (.iaddr sz),[.t 21,.t 22],none⟩,
 ⟨some 24,.op (.load sh),[.t 23],none⟩,
 ⟨some 25,.op (.bin .neq K),[.t 20,.t 24],none⟩]) (IC.cond (.t 25) (IC.seq (IC.reg [⟨some 4,.op (.mov),[.c (.bool false)],none⟩]) IC.ret) IC.skip))) (IC.reg [⟨some 15,.op (.mov),[.t 5],none⟩,
 ⟨some 16,.op (.bin .add .prim),[.t 15,.c (.int .i64 1)],none⟩,
 ⟨some 5,.op (.mov),[.t 16],none⟩])))
abbrev sameLC (sz:Nat) (sh:Option Nat) (K:EqK) (d:Bool):IC:=(IC.seq (IC.reg [⟨some 4,.op (.mov),[.c (.bool false)],none⟩]) (IC.seq (IC.seq (IC.reg [⟨some 6,.op (.mov),[.t 0],none⟩,
 ⟨some 7,.op (.len .slice),[.t 6],none⟩,
 ⟨some 8,.op (.mov),[.t 1],none⟩,
 ⟨some 9,.op (.len .slice),[.t 8],none⟩,
 ⟨some 10,.op (.bin .neq .prim),[.t 7,.t 9],none⟩]) (IC.cond (.t 10) (IC.seq (IC.reg [⟨some 4,.op (.mov),[.c (.bool false)],none⟩]) IC.ret) IC.skip)) (IC.seq (IC.seq (IC.reg [⟨some 5,.op (.mov),[.c (.int .i64 0)],none⟩]) (IC.block 0 (IC.loop (sameLB sz sh K d)))) (IC.seq (IC.reg [⟨some 4,.op (.mov),[.c (.bool true)],none⟩]) IC.ret))))
theorem same_pc {P:Program} (hm:P.follows .mixedOrders=true) {hint:Nat→Nat} {f:FuncId} (L:El α) (d:Bool) (hf:compF P hint f=some ⟨sameLC L.E.sz L.sh L.K d,26,[.t 4]⟩) {l m:List α} (hl:l.length≤4611686018427387904):PCF P f [L.E.S l,L.E.S m] (.bool (decide (l=m))):=by
 refine pcf_e hm (qJ _) hf (by cases d<;>rfl) (by simp) (nidL_ok (by simp only[nidL,Enc.S_nid,xb])) ?_
 by_cases hlm:l.length=m.length
 ·refine vcE.s1 (k:=vcE.step (by simp (disch:=first|assumption|omega) only[go_sem,↓reduceIte,qa,reduceCtorEq,Enc.S_len]; rfl) (vcE.then (fun e tm hp=>(e=.normal∧l=m)∨(e=.ret∧tm 4=.bool false∧l≠m)) ?_ ?_))
  ·refine vcE.s1 (k:=vcE.block (vcE.count (by intro l tm hp h; simp at h)
    (fun i tm hp=>tm 0=L.E.S l∧tm 1=L.E.S m∧tm 5=.int .i64 i∧l.take i=m.take i) l.length ⟨?_,?_,?_,?_⟩ ?_ ?_))
   ·rfl
   ·rfl
   ·rfl
   ·simp
   ·rintro i tm hp hi ⟨e0,e1,e5,hE⟩
    obtain⟨a,ha⟩:∃ a,l[i]? = some a:=⟨_,qg hi⟩
    obtain⟨b,hb⟩:∃ b,m[i]? = some b:=⟨_,qg (by omega)⟩
    have hia:iaddrA L.E.sz (L.E.S l) (.int .i64 i)=some (.fptr (L.E.cs l) (i*L.E.sz)):=L.E.S_iaddr hi
    have hib:iaddrA L.E.sz (L.E.S m) (.int .i64 i)=some (.fptr (L.E.cs m) (i*L.E.sz)):=L.E.S_iaddr (by omega)
    have hp1:=L.pk ha
    have hp2:=L.pk hb
    have hne:=L.ne a b
    by_cases hab:a=b
    ·rw[decide_eq_true hab] at hne
     cases d
     all_goals refine vcE.ex (by simp (disch:=first|assumption|omega) only[go_sem,↓reduceIte,e5,reduceCtorEq,e0,qa,regX_f,exC.eq_2,hia,↓hp1,e1,hib,↓hp2,↓hne,exC.eq_3,exOps.eq_2]; rfl) ?_
     all_goals refine⟨?_,?_,?_,take_step hE ha (by rw[hab]; exact hb)⟩
     all_goals simp only[upd_app,qa,↓reduceIte,e0,e1]
     all_goals rfl
    ·rw[decide_eq_false hab] at hne
     have hlm2:l≠m:=by
      rintro rfl
      rw[ha] at hb
      cases hb
      exact hab rfl
     cases d
     all_goals refine vcE.ex (by simp (disch:=first|assumption|omega) only[go_sem,↓reduceIte,e5,reduceCtorEq,e0,qa,regX_f,exC.eq_2,hia,↓hp1,e1,hib,↓hp2,↓hne,exC.eq_3,exOps.eq_2]; rfl) ?_
     all_goals refine .inr ⟨rfl,?_,hlm2⟩
     all_goals simp only[upd_app,↓reduceIte]
   ·rintro tm hp ⟨e0,e1,e5,hE⟩
    refine vcE.ex (by simp (disch:=omega) only[go_sem,↓reduceIte,qa,reduceCtorEq,e0,e5,Enc.S_len]; rfl) ?_
    refine .inl ⟨rfl,?_⟩
    rw[xl,hlm,xl] at hE
    exact hE
  ·rintro e tm hp (⟨rfl,h⟩|⟨rfl,h4,h⟩)
   ·refine vcE.e0 ?_
    refine⟨_,rfl,?_⟩
    rw[decide_eq_true h]
    rfl
   ·refine⟨_,rfl,?_⟩
    rw[h4,decide_eq_false h]
    rfl
 ·have hlm':¬ ((l.length:Int)=m.length):=by omega
  refine vcE.ex (by simp (disch:=first|assumption|omega) only[go_sem,↓reduceIte,qa,reduceCtorEq,Enc.S_len]; rfl) ?_
  refine⟨_,rfl,?_⟩
  rw[decide_eq_false (fun e=>hlm (by rw[e]))]
  rfl
end
end Go.Gi
