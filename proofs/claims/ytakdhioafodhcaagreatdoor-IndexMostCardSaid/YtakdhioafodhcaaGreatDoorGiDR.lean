/- bytes.IndexAny of * and ?: its parts. -/
/- bytes.IndexAny of * and ?, byte by byte. -/
/- bytes.IndexAny of * and ?, bytes.ContainsAny, glob.Literal: what they give. -/
/- Whole numbers sorted: slices.Sort at []int. -/
/- An index's globs, told without a memory. -/
/- Regions whose order is drawn, with calls told by their contracts; a map's entries gone through. -/
import Derived.Test.YtakdhioafodhcaaGreatDoorGiYR
import Derived.Test.YtakdhioafodhcaaGreatDoorGiGlJ
import Derived.Test.YtakdhioafodhcaaGreatDoorGoK
import Derived.Test.YtakdhioafodhcaaGreatDoorGiSL
import Derived.Test.YtakdhioafodhcaaGreatDoorGiDfE
import Derived.Test.YtakdhioafodhcaaGreatDoorGiFN
set_option linter.unusedVariables false
set_option linter.unusedSimpArgs false
namespace Go.Gi
open _root_.Bool renaming false_eq_true → qA, and_eq_true → qp, not_true → xB, true_or → zj
open _root_.Go.Gi.Enc renaming S_nid → xu
open _root_.Go.Proofs.Tryz renaming prog → qi
open _root_.Int renaming natCast_nonneg → zE, toNat_natCast → xk
open _root_.List renaming pairwise_iff_getElem → zn, getElem?_eq_getElem → qg, getElem?_cons_zero → ql, getElem?_cons_succ → qw, mem_of_getElem? → xa, getD_cons_zero → qF, getD_cons_succ → xF, mem_singleton → qQ, append_assoc → qV, length_cons → qr, cons_append → qZ, all_eq_true → xr, filter_cons → xK, append_nil → qt, length_nil → qx, nil_append → qz, map_append → qC, mem_append → qM, mem_filter → xI, mem_map → xw
open _root_.Nat renaming eq_of_beq_eq_true → xo, reduceEqDiff → qa, reduceAdd → qs
open _root_.Option renaming map_some → qh
open _root_.Go.Gi.Tab renaming addO_self → xe, addR_self → xL
open _root_.Go.Gi.TabOk renaming none → qJ, addO → xp, addR → xY
section
set_option linter.unusedSectionVars false
variable [Mx]
open Go Go.Proofs
def wildb (c:UInt8):Bool:=c == 42 || c == 63
def idxW:List UInt8→Nat→Int
 | [],_ => -1
 | c :: l,i=>if wildb c=true then i else idxW l (i+1)
def FW (l:List UInt8) (i:Nat):Prop:=∀ j c,j<i→l[j]? = some c→wildb c=false
theorem FW.zero (l:List UInt8):FW l 0:=fun j c h=>by omega
theorem FW.more {l:List UInt8} {i k:Nat} (h:FW l i) (hk:∀ j c,i≤j→j<k→l[j]? = some c→wildb c=false):FW l k:=fun j c hj hc=>by
 by_cases h1:j<i
 ·exact h j c h1 hc
 ·exact hk j c (by omega) hj hc
theorem idxW_drop {l:List UInt8}:∀ {i:Nat},i≤l.length→FW l i→idxW l 0=idxW (l.drop i) i
 | 0,_,_=>by simp
 | i+1,hi,h=>by
  rw[idxW_drop (i:=i) (by omega) (fun j c hj hc=>h j c (by omega) hc)]
  have hc:l[i]? = some l[i]:=qg (by omega)
  rw[drop_at hc,idxW,if_neg (by rw[h i _ (by omega) hc]; simp)]
theorem idxW_at {l:List UInt8} {i:Nat} {c:UInt8} (h:FW l i) (hc:l[i]? = some c) (hw:wildb c=true):idxW l 0=i:=by
 rw[idxW_drop (Nat.le_of_lt (List.getElem?_eq_some_iff.1 hc).1) h,drop_at hc,idxW,if_pos hw]
theorem idxW_none {l:List UInt8} {i:Nat} (h:FW l i) (hi:l.length≤i):idxW l 0 = -1:=by
 rw[idxW_drop (i:=l.length) (Nat.le_refl _) (fun j c hj hc=>h j c (by omega) hc),List.drop_length,idxW]
theorem wildb_lo {c:UInt8} (h:128≤c.toNat):wildb c=false:=by
 have h1:c≠42:=fun e=>by rw[e] at h; exact absurd h (by decide)
 have h2:c≠63:=fun e=>by rw[e] at h; exact absurd h (by decide)
 simp[wildb,h1,h2]
def idxB (c:UInt8):List UInt8→Nat→Int
 | [],_ => -1
 | x :: xs,i=>cond (Nat.beq x.toNat c.toNat) i (idxB c xs (i+1))
theorem idxB_eq (c:UInt8) (pre bs:List UInt8):(match (List.range' pre.length bs.length).find? (fun i=>(⟨(pre++bs).toArray⟩:ByteArray)[i]! == c) with
  | some i=>goInt i
  | none=>goInt (-1))=.int .i64 (idxB c bs pre.length):=by
 induction bs generalizing pre with
 | nil=>rfl
 | cons x xs ih =>
  have hx:(⟨(pre++x :: xs).toArray⟩:ByteArray)[pre.length]! = x:=by
   have:pre.length<(⟨(pre++x :: xs).toArray⟩:ByteArray).size:=by simp[ByteArray.size]
   rw[getElem!_pos (⟨(pre++x :: xs).toArray⟩:ByteArray) pre.length this]
   show (pre++x :: xs)[pre.length]'_=x
   simp
  have h2:=ih (pre++[x])
  simp only[qV,qZ,qz,List.length_append,qr,qx,Nat.zero_add] at h2
  simp only[qr,List.range'_succ,List.find?_cons,hx,idxB]
  cases hb:Nat.beq x.toNat c.toNat
  ·have hne:(x == c)=false:=by
    refine Bool.eq_false_iff.2 fun h=>?_
    have:=LawfulBEq.eq_of_beq h
    subst this
    rw[Nat.beq_refl] at hb
    cases hb
   simp only[hne,cond_false]
   exact h2
  ·have:x=c:=UInt8.toNat_inj.1 (xo hb)
   subst this
   simp only[beq_self_eq_true,cond_true]
   rfl
theorem idx_extA {P : Program} {g : FuncId} {fn : Func} (hfn : P.funcs[g]? = some fn) (hname : (fn.name == "runtime.NumGoroutine") = false) (hb : fn.body.isNone = true) (hn : (Extern.findNext fn).isNone = true) (hf : Extern.find fn = some Extern.BytealgIndexByte.indexByte) {x : AV} {c : Int} {hp : HP} {ys : List AV} {n : Nat} {bs : List UInt8} (hs : srcA hp 1 x = some (ys, n)) (hu : unbyte ys = some bs) : AExt P g [x, .int .u8 c] hp fun a b => a = .int .i64 (idxB c.toNat.toUInt8 bs 0) ∧ b = hp := by
 intro Γ vs hh hl hv
 obtain⟨v,u,rfl,h1,h2⟩:=hv.two'
 simp only[VRel] at h2
 subst h2
 refine⟨.int .i64 (idxB c.toNat.toUInt8 bs 0),_,hp,Γ,?_,by simp only[VRel],hh,Ev.refl _ _,rfl,rfl⟩
 refine run_extern hfn hname hb hn hf _ _ ?_
 have he:Extern.BytealgIndexByte.indexByte ⟨[v,.int .u8 c]⟩=(do
   let b ← Extern.Bytes.bytesOf v
   let c ← Extern.Bytes.asByte (.int .u8 c)
   match (List.range b.size).find? fun i=>b[i]! == c with
   | some i=>pure (goInt i)
   | none=>pure (goInt (-1))):=rfl
 have hc:(Extern.Bytes.asByte (.int .u8 c)).run P Γ.w=.ok c.toNat.toUInt8 Γ.w:=rfl
 rw[he]
 simp only[Sem.run_bind,bytesA_run hh h1 hs hu,Result.andThen_ok,hc]
 have h3:=idxB_eq c.toNat.toUInt8 [] bs
 rw[qx,qz] at h3
 have h4:(⟨bs.toArray⟩:ByteArray).size=bs.length:=rfl
 rw[h4,List.range_eq_range',← h3]
 split<;>rfl
def ibI (c:UInt8):Int:=if c=42 then 0 else if c=63 then 1 else -1
theorem ibI_ge (c:UInt8):decide (ibI c≥0)=wildb c:=by
 unfold ibI wildb
 by_cases h1:c=42
 ·subst h1; rfl
 by_cases h2:c=63
 ·subst h2; rfl
 simp[h1,h2]
theorem ext_ibs (c:UInt8) {hp:HP}:AExt qi 77 [.str [42,63],.int .u8 c.toNat] hp fun r hp'=>r=.int .i64 (ibI c)∧hp'=hp:=by
 have hs:srcA hp 1 (.str [42,63])=some ([.int .u8 42,.int .u8 63],2):=rfl
 have h:=idx_extA (P:=qi) (g:=77) (fn:=Tryz.f77) (c:=c.toNat) (by kernel_rfl) (by kernel_rfl) (by kernel_rfl) (by kernel_rfl) (by kernel_rfl) hs (show unbyte [.int .u8 42,.int .u8 63]=some [42,63] from rfl)
 have e:idxB (c.toNat:Int).toNat.toUInt8 [42,63] 0=ibI c:=by
  rw[show (c.toNat:Int).toNat.toUInt8=c by simp]
  unfold ibI
  by_cases h1:c=42
  ·subst h1; rfl
  by_cases h2:c=63
  ·subst h2; rfl
  have e1:(42:UInt8).toNat≠c.toNat:=fun e=>h1 (UInt8.toNat_inj.1 e.symm)
  have e2:(63:UInt8).toNat≠c.toNat:=fun e=>h2 (UInt8.toNat_inj.1 e.symm)
  have b1:Nat.beq (42:UInt8).toNat c.toNat=false:=Bool.eq_false_iff.2 fun h=>e1 (xo h)
  have b2:Nat.beq (63:UInt8).toNat c.toNat=false:=Bool.eq_false_iff.2 fun h=>e2 (xo h)
  simp only[idxB,b1,b2,cond_false,if_neg h1,if_neg h2]
 rw[e] at h
 exact h
def setC:List AV:=(List.range 256).map fun n=>.bool (Nat.beq n 42 || Nat.beq n 63)
def setZ:List AV:=List.replicate 256 (.bool false)
theorem setZ_len:setZ.length=256:=by unfold setZ; rw[List.length_replicate]
def setO (R:List AV) (n:Nat):List AV:=over R n [.bool true]
theorem setO_len {R:List AV} (h:R.length=256) {n:Nat} (hn:n<256):(setO R n).length=256:=by
 unfold setO
 rw[over_length _ _ _ (by simp; omega),h]
set_option maxRecDepth 100000 in
theorem setC_fresh (hp:HP):freshL hp setC=some setC:=by kernel_rfl
set_option maxRecDepth 100000 in
theorem setO_two:setO (setO setZ 42) 63=setC:=by kernel_rfl
set_option maxRecDepth 100000 in
theorem r80_eq:r80_0=[⟨some 2,.op (.alloc 138 setZ),[],none⟩,⟨some 3,.op .mov,[.c (.bool false)],none⟩]:=rfl
theorem setO_store {R:List AV} {t:TypeId} (h:R.length=256) {n:Nat} (hn:n<256):storeA [some (.row t R)] 1 (.ptr 0 n) (.bool true)=some [some (.row t (setO R n))]:=by
 simp only[storeA,ql,cellsA,List.length_singleton,h]
 rw[if_pos ⟨trivial,by omega⟩]
 rfl
theorem set_all {R:List AV} {t:TypeId} (h:R.length=256):storeA [some (.row t R)] 256 (.ptr 0 0) (.agg R)=some [some (.row t R)]:=by
 simp only[storeA,ql,cellsA,h]
 rw[if_pos ⟨trivial,by omega⟩]
 simp[over,h]
theorem set_load {R:List AV} {t:TypeId} (h:R.length=256):loadA [some (.row t R)] (some 256) (.ptr 0 0)=some (.agg R):=by
 simp only[loadA,rowA,ql,pickA,h]
 simp[← h]
theorem set_addr {n:Nat} (hn:n<256):aaddrA 256 1 (.ptr 0 0) (.int .u8 n)=some (.ptr 0 n):=by
 simp only[aaddrA]
 rw[if_pos (by omega)]
 simp[faddrA]
set_option maxRecDepth 100000 in
theorem setC_nid:nidL setC=true:=by kernel_rfl
set_option maxRecDepth 100000 in
theorem pSet:PCF qi 80 [.str [42,63]] (.tup [.agg setC,.bool true]):=by
 refine pcf_e hmG (qJ _) comp80 (by rfl) (by simp) (nidL_ok rfl) ?_
 rw[show c80=IC.seq (IC.reg r80_0) _ from rfl,r80_eq]
 have hl:=setZ_len
 have hn:=setC_nid
 have hfr:=setC_fresh [some (Blk.row 138 setC)]
 have h2:=setO_two
 generalize setZ=Z at *
 generalize setC=C at *
 have l1:=setO_len hl (n:=42) (by omega)
 have l2:=setO_len l1 (n:=63) (by omega)
 refine vcE.step (by simp (disch:=first|assumption|omega) only[exC,exOps,exOp,wantedE,↓reduceIte,ROp.run,evsE,allocA,qx,qz,putE,evE]; rfl) (vcE.then (fun e tm H=>e=.normal∧H=[some (.row 138 C)]∧tm 2=.ptr 0 0) ?_ ?_)
 ·refine vcE.step (by simp (disch:=first|assumption|omega) only[exC,exOps,exOp,wantedE,↓reduceIte,ROp.run,evsE,evE,putE]; rfl) (vcE.block (vcE.count (by intro l tm hp h; simp at h) (fun i tm H=>H=[some (.row 138 (if i=0 then Z else if i=1 then setO Z 42 else C))]∧tm 0=.str [42,63]∧tm 2=.ptr 0 0∧tm 4=.int .i64 i) 2 ⟨rfl,rfl,rfl,rfl⟩ ?_ ?_))
  ·rintro i tm H hi ⟨rfl,t0,t2,t4⟩
   rcases (show i=0∨i=1 by omega) with rfl|rfl
   ·have s1:=setO_store (t:=138) hl (n:=42) (by omega)
    have a1:=set_addr (n:=42) (by omega)
    have u1:UInt8.toNat 42=42:=rfl
    have g1:¬ ((42:Nat):Int)≥128:=by decide
    refine vcE.ex (by simp (disch:=first|assumption|omega) only[exC,exOps,exOp,wantedE,↓reduceIte,ROp.run,evsE,evE,t4,putE,ty,reduceCtorEq,t0,tz,same,qr,qx,qs,qh,qa,binA,intA,dec_true,indexSA,zE,xk,ql,byteA,u1,g1,decide_false,t2,↓a1,↓s1]; rfl) ?_
    refine⟨rfl,?_,?_,?_⟩
    all_goals simp only[upd_app,qa,↓reduceIte,t0,t2]
    rfl
   ·have s1:=setO_store (t:=138) l1 (n:=63) (by omega)
    have a1:=set_addr (n:=63) (by omega)
    have u1:UInt8.toNat 63=63:=rfl
    have g1:¬ ((63:Nat):Int)≥128:=by decide
    rw[h2] at s1
    refine vcE.ex (by simp (disch:=first|assumption|omega) only[exC,exOps,exOp,wantedE,↓reduceIte,ROp.run,evsE,evE,t4,reduceCtorEq,putE,ty,t0,tz,same,qr,qx,qs,qh,qa,binA,intA,dec_true,indexSA,zE,xk,qw,ql,byteA,u1,g1,decide_false,t2,↓a1,↓s1]; rfl) ?_
    refine⟨rfl,?_,?_,?_⟩
    all_goals simp only[upd_app,qa,↓reduceIte,t0,t2]
    rfl
  ·rintro tm H ⟨rfl,t0,t2,t4⟩
   refine vcE.ex (by simp (disch:=first|assumption|omega) only[exC,exOps,exOp,wantedE,↓reduceIte,ROp.run,evsE,evE,t4,reduceCtorEq,qa,putE,ty,t0,tz,same,qr,qx,qs,qh,binA,intA,dec_false]; rfl) ?_
   exact⟨rfl,rfl,by simp only[upd_app,qa,↓reduceIte,t2]⟩
 ·rintro e tm H ⟨rfl,rfl,t2⟩
  rw[h2] at l2
  have q1:=set_load (t:=138) l2
  have q2:=set_all (t:=138) l2
  refine vcE.ex (by simp (disch:=first|assumption|omega) only[exC,exOps,exOp,wantedE,↓reduceIte,ROp.run,evsE,evE,t2,same,↓q1,qh,putE,ty,qa,↓q2]; rfl) ?_
  refine⟨.tup [.agg C,.bool true],?_,?_⟩
  ·have e0:resE1 (upd (upd tm 20 (.agg C)) 3 (.bool true)) [some (Blk.row 138 C)] (.cell 2 (some 256))=some (.agg C):=by
    simp only[resE1,upd_app,qa,↓reduceIte,t2,q1]
   have e1:resE1 (upd (upd tm 20 (.agg C)) 3 (.bool true)) [some (Blk.row 138 C)] (.t 3)=some (.bool true):=by
    simp only[resE1,upd_app,↓reduceIte]
   simp only[resE,resEL,e0,e1]
  ·simp only[fresh_tup,freshL,fresh_agg,hfr,fresh_bool]
theorem setC_len:setC.length=256:=by unfold setC; rw[List.length_map,List.length_range]
theorem setC_at (c:UInt8):pickA none setC c.toNat=some (.bool (wildb c)):=by
 have:=c.toNat_lt
 simp only[pickA,setC,List.getElem?_map]
 rw[List.getElem?_range (by omega)]
 simp only[qh,oneA,if_true]
 congr 2
 unfold wildb
 by_cases h1:c=42
 ·subst h1; rfl
 by_cases h2:c=63
 ·subst h2; rfl
 have e1:Nat.beq c.toNat 42=false:=Bool.eq_false_iff.2 fun h=>h1 (UInt8.toNat_inj.1 (xo h))
 have e2:Nat.beq c.toNat 63=false:=Bool.eq_false_iff.2 fun h=>h2 (UInt8.toNat_inj.1 (xo h))
 rw[e1,e2]
 simp[h1,h2]
theorem pShould (n:Int):PCF qi 79 [.int .i64 n] (.bool (decide (8<n))):=by
 refine pcf_e hmG (qJ _) comp79 (by decide) (by simp) (nidL_ok rfl) ?_
 by_cases h:8<n
 ·refine vcE.ex (by simp (disch:=omega) only[exC,exOps,exOp,wantedE,↓reduceIte,ROp.run,evsE,evE,putE,ty,reduceCtorEq,qF,same,binA,intA,dec_true,qh]; rfl) ?_
  rw[decide_eq_true h]
  exact⟨_,rfl,rfl⟩
 ·refine vcE.ex (by simp (disch:=omega) only[exC,exOps,exOp,wantedE,↓reduceIte,ROp.run,evsE,evE,putE,ty,reduceCtorEq,qF,same,binA,intA,dec_false,qh]; rfl) ?_
  rw[decide_eq_false h]
  exact⟨_,rfl,rfl⟩
theorem pContains (c:UInt8):PCF qi 81 [.fptr setC 0,.int .u8 c.toNat] (.bool (wildb c)):=by
 have hcl:=c.toNat_lt
 have ha:aaddrA 256 1 (.fptr setC 0) (.int .u8 c.toNat)=some (.fptr setC c.toNat):=by
  simp only[aaddrA]
  rw[if_pos (by omega)]
  simp[faddrA]
 have hp:=setC_at c
 have hn:=setC_nid
 generalize setC=S at ha hp hn ⊢
 refine pcf_e hmG (qJ _) comp81 (by decide) (by simp) (nidL_ok (by simp only[nidL,nid,hn]; rfl)) ?_
 refine vcE.ex (by simp (disch:=omega) only[exC,exOps,exOp,wantedE,↓reduceIte,ROp.run,evsE,evE,putE,ty,reduceCtorEq,qF,qa,xF,same,nilchkA,qh,ha,loadA,rowA,↓hp]; rfl) ?_
 exact⟨_,rfl,rfl⟩
end
section
set_option linter.unusedSectionVars false
variable [Mx]
open Go Go.Proofs
theorem dec42:Utf8.decode ⟨[42,63].toArray⟩ 0=(42,1):=by rfl
theorem dec63:Utf8.decode ⟨[42,63].toArray⟩ 1=(63,1):=by rfl
theorem nx0 {hp:HP} {id:Nat} (h:hp[id]? = some (some (.iter [.str [42,63]] 0 [] 0))):nextSA hp (.ptr id 0)=some (.tup [.bool true,.int .i64 0,.int .i32 42],hp.set id (some (.iter [.str [42,63]] 1 [] 0))):=by
 simp only[nextSA,h,dec42]
 rfl
theorem nx1 {hp:HP} {id:Nat} (h:hp[id]? = some (some (.iter [.str [42,63]] 1 [] 0))):nextSA hp (.ptr id 0)=some (.tup [.bool true,.int .i64 1,.int .i32 63],hp.set id (some (.iter [.str [42,63]] 2 [] 0))):=by
 simp only[nextSA,h,dec63]
 rfl
theorem nx2 {hp:HP} {id:Nat} (h:hp[id]? = some (some (.iter [.str [42,63]] 2 [] 0))):nextSA hp (.ptr id 0)=some (.tup [.bool false],hp):=by
 simp only[nextSA,h]
 rfl
theorem rng2 {rr:Int} (h42:rr≠42) (h63:rr≠63) {tm:Env} {hp:HP} {id:Nat} (e13:tm 13=.int .i32 rr) (e121:tm 121=.ptr id 0) (hx:hp[id]? = some (some (.iter [.str [42,63]] 0 [] 0))) (hint:Nat→Nat) (T:Tab) (n:Nat) :
  vcE qi hint T n (IC.block 6 (IC.loop b56_2)) tm hp fun e tm' hp'=>e=.normal∧tm' 0=tm 0∧tm' 1=tm 1∧tm' 11=tm 11∧tm' 12=tm 12:=by
 refine vcE.block (vcE.loop (by intro l tm hp h; simp at h) (fun m tm' hp'=>tm' 0=tm 0∧tm' 1=tm 1∧tm' 11=tm 11∧tm' 12=tm 12∧tm' 13=.int .i32 rr∧tm' 121=.ptr id 0∧((m=2∧hp'[id]? = some (some (.iter [.str [42,63]] 0 [] 0)))∨(m=1∧hp'[id]? = some (some (.iter [.str [42,63]] 1 [] 0)))∨(m=0∧hp'[id]? = some (some (.iter [.str [42,63]] 2 [] 0))))) 2 ⟨rfl,rfl,rfl,rfl,e13,e121,.inl ⟨rfl,hx⟩⟩ ?_)
 rintro m tm' hp' ⟨h0,h1,h11,h12,h13,h121,⟨rfl,hx⟩|⟨rfl,hx⟩|⟨rfl,hx⟩⟩
 ·have hn:=nx0 hx
  have hl:=HP.lt hx
  refine vcE.ex (by simp (disch:=omega) only[exC,exOps,exOp,wantedE,↓reduceIte,ROp.run,evsE,evE,h121,hn,putE,ty,same,ql,qh,qa,qw,h13,binA,intA,dec_false]; rfl) ?_
  refine⟨1,by omega,?_,?_,?_,?_,?_,?_,.inr (.inl ⟨rfl,by simp[hl]⟩)⟩
  all_goals simp only[upd_app,qa,↓reduceIte,h0,h1,h11,h12,h13,h121]
 ·have hn:=nx1 hx
  have hl:=HP.lt hx
  refine vcE.ex (by simp (disch:=omega) only[exC,exOps,exOp,wantedE,↓reduceIte,ROp.run,evsE,evE,h121,hn,putE,ty,same,ql,qh,qa,qw,h13,binA,intA,dec_false]; rfl) ?_
  refine⟨0,by omega,?_,?_,?_,?_,?_,?_,.inr (.inr ⟨rfl,by simp[hl]⟩)⟩
  all_goals simp only[upd_app,qa,↓reduceIte,h0,h1,h11,h12,h13,h121]
 ·have hn:=nx2 hx
  refine vcE.ex (by simp (disch:=omega) only[exC,exOps,exOp,wantedE,↓reduceIte,ROp.run,evsE,evE,h121,hn,putE,ty,same,ql,qh]; rfl) ?_
  refine⟨rfl,?_,?_,?_,?_⟩
  all_goals simp only[upd_app,qa,↓reduceIte,h0,h1,h11,h12]
theorem S_from {l:List UInt8} {i:Nat} (h:i≤l.length):sliceA 1 (encB.S l) (some (.int .i64 i)) none none=some (encB.S (l.drop i)):=by
 have e1:(i:Int).toNat=i:=rfl
 simp[sliceA,bndA,cutA,Enc.S,encB_cs]
 exact⟨h,List.take_of_length_le (by simp)⟩
def WI (l:List UInt8) (i:Nat) (tm:Env):Prop:=tm 0=encB.S l∧tm 1=.str [42,63]∧tm 12=.int .i64 i∧i≤l.length∧FW l i
theorem rnd {l:List UInt8} (hl:l.length≤4294967296) {i:Nat} {tm:Env} {hp:HP} (h:WI l i tm) (hi:i<l.length) (hint:Nat→Nat) (T:Tab) (n:Nat) :
  vcE qi hint T n b56_3 tm hp fun e tm' hp'=>(e=.normal∧∃ k,i<k∧WI l k tm')∨(e=.ret∧tm' 4=.int .i64 (idxW l 0)):=by
 obtain⟨e0,e1,e12,_,hf⟩:=h
 obtain⟨c,hc⟩:∃ c,l[i]? = some c:=⟨_,qg hi⟩
 have hcl:=c.toNat_lt
 have ha:=enc_addr hc
 have hp_:=enc_pick hc
 refine vcE.step (by simp (disch:=omega) only[exC,exOps,exOp,wantedE,↓reduceIte,ROp.run,evsE,evE,e12,putE,ty,reduceCtorEq,e0,same,qh,qa,binA,intA,dec_true]; rfl) ?_
 by_cases h128:c.toNat<128
 ·refine vcE.seq (vcE.block (vcE.step (by simp (disch:=omega) only[exC,exOps,exOp,wantedE,↓reduceIte,ROp.run,evsE,evE,ty,reduceCtorEq,e0,putE,qa,e12,same,ha,qh,loadA,rowA,↓hp_,wrap_i32]; rfl) (vcE.seq (vcE.step (by simp (disch:=omega) only[exC,exOps,exOp,wantedE,↓reduceIte,ROp.run,evsE,evE,ty,putE,same,binA,intA,dec_true,qh]; rfl) (vcE.condTrue (by rfl) (vcE.seq (vcE.seq ?_)))))))
  rw[show r56_35=r56_35.take 5++((r56_35.drop 5).take 1++r56_35.drop 6) from rfl]
  refine vcE.app (vcE.ex (by simp (disch:=omega) only[exC,List.take,exOps,exOp,wantedE,↓reduceIte,ROp.run,evsE,evE,ty,qa,e1,putE,reduceCtorEq,e0,e12,same,ha,qh,loadA,rowA,↓hp_]; rfl) ⟨rfl,vcE.app (vcE.ext (f:=77) (caps:=[]) (ys:=[.str [42,63],.int .u8 c.toNat]) rfl ?_ (ext_ibs c) ?_)⟩)
  ·simp only[evsE,evE,upd_app,qa,↓reduceIte]
  rintro r hp' ⟨rfl,rfl⟩
  refine⟨rfl,?_⟩
  cases hw:wildb c
  ·have hg:decide (ibI c≥0)=false:=by rw[ibI_ge,hw]
   refine vcE.ex (by simp (disch:=omega) only[exC,List.drop,putE,exOps,exOp,wantedE,↓reduceIte,ROp.run,evsE,evE,ty,same,binA,intA,hg,qh]; rfl) ?_
   refine vcE.ex (by simp (disch:=omega) only[exC,evE,ty,↓reduceIte]; rfl) ?_
   refine vcE.ex (by simp (disch:=omega) only[exC,exOps,exOp,wantedE,↓reduceIte,ROp.run,evsE,evE,putE]; rfl) ?_
   refine vcE.ex (by simp (disch:=omega) only[exC,exOps,exOp,wantedE,↓reduceIte,ROp.run,evsE,evE,ty,qa,e12,putE,same,binA,intA,qh]; rfl) ?_
   refine .inl ⟨rfl,i+1,by omega,?_,?_,?_,hi,hf.more fun j d h1 h2 hd=>?_⟩
   ·simp only[upd_app,qa,↓reduceIte,e0]
   ·simp only[upd_app,qa,↓reduceIte,e1]
   ·simp only[upd_app,↓reduceIte]; rfl
   ·obtain rfl:j=i:=by omega
    rw[hc] at hd
    cases hd
    exact hw
  ·have hg:decide (ibI c≥0)=true:=by rw[ibI_ge,hw]
   refine vcE.ex (by simp (disch:=omega) only[exC,List.drop,putE,exOps,exOp,wantedE,↓reduceIte,ROp.run,evsE,evE,ty,same,binA,intA,hg,qh]; rfl) ?_
   refine vcE.ex (by simp (disch:=omega) only[exC,evE,ty,↓reduceIte,exOps,exOp,wantedE,ROp.run,evsE,qa,e12,putE]; rfl) ?_
   refine .inr ⟨rfl,?_⟩
   rw[idxW_at hf hc hw]
   rfl
 ·have h0:(l.drop i)[0]? = some c:=by rw[List.getElem?_drop,Nat.add_zero]; exact hc
  obtain⟨rr,w,hP,hw1,hw2,hw3,hw4,hw5⟩:=pDecodeRune h0 (by omega)
  rw[List.length_drop] at hw2
  have hsl:=S_from (l:=l) (i:=i) (by omega)
  have hnid:NoIdL [encB.S (l.drop i)]:=nidL_ok (by simp only[nidL,xu]; rfl)
  have hcall:=PCF.view hP (NoIdL.frz hnid hp)
  refine vcE.then (fun e tm' hp'=>e=.normal∧tm' 0=encB.S l∧tm' 1=.str [42,63]∧tm' 12=.int .i64 i∧tm' 11=.int .i64 w) ?_ ?_
  ·refine vcE.block (vcE.step (by simp (disch:=omega) only[exC,exOps,exOp,wantedE,↓reduceIte,ROp.run,evsE,evE,ty,reduceCtorEq,e0,putE,qa,e12,same,ha,qh,loadA,rowA,↓hp_,wrap_i32]; rfl) ?_)
   refine vcE.step (by simp (disch:=omega) only[exC,exOps,exOp,wantedE,↓reduceIte,ROp.run,evsE,evE,ty,putE,same,binA,intA,dec_false,qh]; rfl) (vcE.seq ?_)
   rw[show r56_38=r56_38.take 3++((r56_38.drop 3).take 1++r56_38.drop 4) from rfl]
   refine vcE.app (vcE.ex (by simp (disch:=omega) only[exC,List.take,exOps,exOp,wantedE,↓reduceIte,ROp.run,evsE,evE,ty,reduceCtorEq,e0,putE,qa,e12,bounds3,same,hsl,qh]; rfl) ⟨rfl,vcE.app (vcE.call (f:=82) (caps:=[]) (ys:=[encB.S (l.drop i)]) rfl (by rfl) hcall ?_)⟩)
   rintro r hp' ⟨rfl,rfl⟩
   refine⟨rfl,?_⟩
   refine vcE.ex (by simp (disch:=omega) only[exC,List.drop,putE,exOps,exOp,wantedE,↓reduceIte,ROp.run,evsE,evE,ty,same,ql,qh,qa,qw]; rfl) ?_
   by_cases hr:rr=65533
   ·subst hr
    refine vcE.step (by simp (disch:=omega) only[exC,exOps,exOp,wantedE,↓reduceIte,ROp.run,evsE,evE,ty,qa,putE,same,binA,intA,decide_true,qh]; rfl) ?_
    refine vcE.step (by simp (disch:=omega) only[exC,exOps,exOp,wantedE,↓reduceIte,ROp.run,evsE,evE,ty,qa,e1,putE,rangeSA]; rfl) ?_
    refine (rng2 (rr:=65533) (by omega) (by omega) (id:=hp'.length) ?_ ?_ ?_ hint _ n).mono ?_
    ·simp only[upd_app,qa,↓reduceIte]
    ·simp only[upd_app,↓reduceIte]
    ·simp
    ·rintro e tm' hp'' ⟨rfl,k0,k1,k11,k12⟩
     simp only[upd_app,qa,↓reduceIte] at k0 k1 k11 k12
     exact⟨rfl,by rw[k0,e0],by rw[k1,e1],by rw[k12,e12],by rw[k11]⟩
   ·refine vcE.seq ?_
    refine vcE.step (by simp (disch:=omega) only[exC,exOps,exOp,wantedE,↓reduceIte,ROp.run,evsE,evE,ty,qa,putE,same,binA,intA,dec_false,qh]; rfl) ?_
    refine vcE.condTrue (by rfl) ?_
    by_cases hw':w=2
    ·subst hw'
     have hne:decide ([42,63]=(Utf8.encode rr).data.toList)=false:=decide_eq_false fun h=>enc_ne rr h.symm
     refine vcE.seq (vcE.ex (by simp (disch:=omega) only[exC,exOps,exOp,wantedE,↓reduceIte,ROp.run,evsE,evE,ty,qa,e1,putE,tz,same,qr,qx,qs,qh,binA,intA,decide_true,strA,hne]; rfl) ?_)
     refine⟨rfl,?_,?_,?_,?_⟩
     all_goals simp only[upd_app,qa,↓reduceIte,e0,e1,e12]
    ·have h3:=hw5 (by omega)
     have hel:=enc_long h3
     have hle:(w:Int)≤4∧3≤w:=by omega
     refine vcE.step (by simp (disch:=omega) only[exC,exOps,exOp,wantedE,↓reduceIte,ROp.run,evsE,evE,ty,qa,e1,putE,tz,same,qr,qx,qs,qh,binA,intA,dec_false]; rfl) ?_
     by_cases hm:(w:Int)≤Mx.m
     ·refine vcE.step (by simp (disch:=omega) only[exC,exOps,exOp,wantedE,↓reduceIte,ROp.run,evsE,evE,glob0,same,loadA,rowA,pickA,ql,tz,qh,putE,ty,qa,binA,intA,dec_true]; rfl) ?_
      refine vcE.condTrue (by rfl) (vcE.seq (vcE.seq ?_))
      rw[show r56_44=r56_44.take 3++((r56_44.drop 3).take 1++r56_44.drop 4) from rfl]
      refine vcE.app (vcE.ex (by simp (disch:=omega) only[exC,List.take,exOps,exOp,wantedE,↓reduceIte,ROp.run,evsE,evE,ty,qa,e1,putE]; rfl) ⟨rfl,vcE.app (vcE.ext (f:=83) (caps:=[]) (ys:=[.str [42,63],.str (Utf8.encode rr).data.toList]) rfl (by rfl) (ext_index (by rw[hel]; omega) (by rw[hel]; exact hm) (by rw[hel]; omega)) ?_)⟩)
      rintro r hp' ⟨rfl,rfl⟩
      refine⟨rfl,?_⟩
      refine vcE.ex (by simp (disch:=omega) only[exC,List.drop,putE,exOps,exOp,wantedE,↓reduceIte,ROp.run,evsE,evE,ty,same,binA,intA,dec_false,qh]; rfl) ?_
      refine vcE.ex (by simp (disch:=omega) only[exC,evE,ty,↓reduceIte]; rfl) ?_
      refine vcE.ex (by simp (disch:=omega) only[exC]; rfl) ?_
      refine⟨rfl,?_,?_,?_,?_⟩
      all_goals simp only[upd_app,qa,↓reduceIte,e0,e1,e12]
     ·refine vcE.step (by simp (disch:=omega) only[exC,exOps,exOp,wantedE,↓reduceIte,ROp.run,evsE,evE,glob0,same,loadA,rowA,pickA,ql,tz,qh,putE,ty,qa,binA,intA,dec_false]; rfl) ?_
      refine vcE.condFalse (by rfl) ?_
      refine vcE.ex (by simp (disch:=omega) only[exC]; rfl) ?_
      refine vcE.step (by simp (disch:=omega) only[exC,exOps,exOp,wantedE,↓reduceIte,ROp.run,evsE,evE,ty,qa,e1,putE,rangeSA]; rfl) ?_
      refine (rng2 (rr:=rr) (by omega) (by omega) (id:=hp'.length) ?_ ?_ ?_ hint _ n).mono ?_
      ·simp only[upd_app,qa,↓reduceIte]
      ·simp only[upd_app,↓reduceIte]
      ·simp
      ·rintro e tm' hp'' ⟨rfl,k0,k1,k11,k12⟩
       simp only[upd_app,qa,↓reduceIte] at k0 k1 k11 k12
       exact⟨rfl,by rw[k0,e0],by rw[k1,e1],by rw[k12,e12],by rw[k11]⟩
  ·rintro e tm' hp' ⟨rfl,k0,k1,k12,k11⟩
   refine vcE.ex (by simp (disch:=omega) only[exC,exOps,exOp,wantedE,↓reduceIte,ROp.run,evsE,evE,k12,putE,ty,qa,k11,same,binA,intA,qh]; rfl) ?_
   refine .inl ⟨rfl,i+w,by omega,?_,?_,?_,by omega,hf.more fun j d h1 h2 hd=>?_⟩
   ·simp only[upd_app,qa,↓reduceIte,k0]
   ·simp only[upd_app,qa,↓reduceIte,k1]
   ·simp only[upd_app,↓reduceIte]; rfl
   ·refine wildb_lo (hw3 (j - i) d (by omega) ?_)
    rw[List.getElem?_drop,show i+(j - i)=j by omega]
    exact hd
theorem rng0 {tm:Env} {hp:HP} {id:Nat} (e28:tm 28=.ptr id 0) (hx:hp[id]? = some (some (.iter [.str [42,63]] 0 [] 0))) (hint:Nat→Nat) (T:Tab) (n:Nat) :
  vcE qi hint T n (IC.block 0 (IC.loop b56_0)) tm hp fun e tm' hp'=>e=.normal:=by
 refine vcE.block (vcE.loop (by intro l tm hp h; simp at h) (fun m tm' hp'=>tm' 28=.ptr id 0∧((m=2∧hp'[id]? = some (some (.iter [.str [42,63]] 0 [] 0)))∨(m=1∧hp'[id]? = some (some (.iter [.str [42,63]] 1 [] 0)))∨(m=0∧hp'[id]? = some (some (.iter [.str [42,63]] 2 [] 0))))) 2 ⟨e28,.inl ⟨rfl,hx⟩⟩ ?_)
 rintro m tm' hp' ⟨h28,⟨rfl,hx⟩|⟨rfl,hx⟩|⟨rfl,hx⟩⟩
 ·have hn:=nx0 hx
  have hl:=HP.lt hx
  refine vcE.ex (by simp (disch:=omega) only[exC,exOps,exOp,wantedE,↓reduceIte,ROp.run,evsE,evE,h28,hn,putE,ty,same,ql,qh,qa,qw,binA,intA,dec_false]; rfl) ?_
  refine⟨1,by omega,?_,.inr (.inl ⟨rfl,by simp[hl]⟩)⟩
  simp only[upd_app,qa,↓reduceIte,h28]
 ·have hn:=nx1 hx
  have hl:=HP.lt hx
  refine vcE.ex (by simp (disch:=omega) only[exC,exOps,exOp,wantedE,↓reduceIte,ROp.run,evsE,evE,h28,hn,putE,ty,same,ql,qh,qa,qw,binA,intA,dec_false]; rfl) ?_
  refine⟨0,by omega,?_,.inr (.inr ⟨rfl,by simp[hl]⟩)⟩
  simp only[upd_app,qa,↓reduceIte,h28]
 ·have hn:=nx2 hx
  refine vcE.ex (by simp (disch:=omega) only[exC,exOps,exOp,wantedE,↓reduceIte,ROp.run,evsE,evE,h28,hn,putE,ty,same,ql,qh]; rfl) ?_
  rfl
end
section
set_option linter.unusedSectionVars false
variable [Mx]
open Go Go.Proofs
open Classical in
noncomputable def sHas:List AV→Option Res
 | [.fptr cs 0,.int .u8 n]=>if cs=setC∧0≤n∧n<256 then some (.rd true (.bool (wildb n.toNat.toUInt8))) else none
 | _=>none
noncomputable def T33:Tab:=((Tab.none.addR 79 (.cons .i64 .nil) fun p=>.rd true (.bool (decide (8<p.1)))).addO 80 (.cons .str .nil) fun p=>if p.1=[42,63] then some (.rd true (.tup [.agg setC,.bool true])) else none).add 81 sHas
theorem T33_ok:TabOk qi T33:=by
 refine TabOk.add (xp (xY (qJ _) ?_) ?_) ?_
 ·exact fun p=>pShould p.1
 ·intro p r h
  split at h
  ·rename_i hp
   cases h
   show PCF _ _ [.str p.1] _
   rw[hp]
   exact pSet
  ·cases h
 ·intro xs r h
  unfold sHas at h
  split at h
  ·rename_i cs n
   split at h
   ·rename_i hc
    obtain⟨h1,h2,h3⟩:=hc
    cases h
    rw[h1]
    have:=pContains n.toNat.toUInt8
    have e:((n.toNat.toUInt8).toNat:Int)=n:=by
     rw[show n.toNat.toUInt8=UInt8.ofNat n.toNat from rfl,UInt8.toNat_ofNat_of_lt' (show n.toNat<256 by omega),Int.toNat_of_nonneg h2]
    rw[e] at this
    exact this
   ·cases h
  ·cases h
theorem T33_has (c:UInt8):T33 81 [.fptr setC 0,.int .u8 c.toNat]=some (.rd true (.bool (wildb c))):=by
 have hcl:=c.toNat_lt
 unfold T33 Tab.add
 rw[if_pos rfl]
 simp only[sHas]
 rw[if_pos ⟨trivial,by omega,by omega⟩,show (c.toNat:Int).toNat.toUInt8=c by simp]
theorem T33_set:T33 80 [.str [42,63]]=some (.rd true (.tup [.agg setC,.bool true])):=by
 unfold T33 Tab.add
 rw[if_neg (by decide)]
 refine (xe _ _ (.cons .str .nil) _ ([42,63],())).trans ?_
 rw[if_pos rfl]
theorem T33_should (n:Int):T33 79 [.int .i64 n]=some (.rd true (.bool (decide (8<n)))):=by
 unfold T33 Tab.add
 rw[if_neg (by decide)]
 rw[Tab.addO_ne _ _ _ _ rfl]
 exact xL _ _ (.cons .i64 .nil) _ (n,())
set_option maxRecDepth 100000 in
theorem r21_eq:r56_21=[⟨some 55,.op .mov,[.t 1],none⟩,⟨some 56,.call none,[.f 80,.t 55],none⟩,⟨some 54,.op .mov,[.t 56],none⟩,⟨some 57,.op (.extract 0),[.t 54],none⟩,⟨some 58,.op (.extract 1),[.t 54],none⟩,⟨some 7,.op (.alloc 138 setZ),[],none⟩,⟨none,.op (.store 256),[.t 7,.t 57],none⟩,⟨some 8,.op .mov,[.t 58],none⟩]:=by kernel_rfl
theorem idxW_one {l:List UInt8} {c:UInt8} (h:l[0]? = some c) (hl:l.length=1):idxW l 0=if wildb c=true then 0 else -1:=by
 match l,hl with
 | [d],_=>simp at h; subst h; rfl
theorem pIndexAny (l:List UInt8) (hl:l.length≤4294967296):PCF qi 56 [encB.S l,.str [42,63]] (.int .i64 (idxW l 0)):=by
 refine pcf_e hmG T33_ok comp56 (by rfl) (by simp) (nidL_ok (by simp only[nidL,xu]; rfl)) ?_
 refine vcE.step (by simp only[exC,exOps,exOp,wantedE,↓reduceIte,ROp.run,evsE,evE,putE]; rfl) ?_
 refine vcE.step (by simp (disch:=omega) only[exC,exOps,exOp,wantedE,↓reduceIte,ROp.run,evsE,evE,ty,qa,xF,qF,putE,same,binA,strA,reduceCtorEq,qh]; rfl) ?_
 by_cases h1:l.length=1
 ·obtain⟨c,hc⟩:∃ c,l[0]? = some c:=⟨_,qg (by omega)⟩
  have hcl:=c.toNat_lt
  have ha:iaddrA 1 (encB.S l) (.int .i64 0)=some (.fptr (encB.cs l) 0):=enc_addr hc
  have hp:=enc_pick hc
  have h1':(l.length:Int)=1:=by omega
  rw[idxW_one hc h1]
  refine vcE.seq (vcE.step (by simp (disch:=omega) only[exC,exOps,exOp,wantedE,↓reduceIte,ROp.run,evsE,evE,ty,reduceCtorEq,qF,putE,same,h1',qh,binA,intA,decide_true]; rfl) (vcE.condTrue (by rfl) ?_))
  refine vcE.step (by simp (disch:=omega) only[exC,exOps,exOp,wantedE,↓reduceIte,ROp.run,evsE,evE,ty,reduceCtorEq,qF,putE,same,ha,qh,loadA,rowA,↓hp,wrap_i32]; rfl) ?_
  by_cases h128:c.toNat<128
  ·refine vcE.step (by simp (disch:=omega) only[exC,exOps,exOp,wantedE,↓reduceIte,ROp.run,evsE,evE,ty,putE,same,binA,intA,dec_false,qh]; rfl) (vcE.seq (vcE.seq ?_))
   rw[show r56_12=r56_12.take 4++((r56_12.drop 4).take 1++r56_12.drop 5) from rfl]
   refine vcE.app (vcE.ex (by simp (disch:=omega) only[exC,List.take,exOps,exOp,wantedE,↓reduceIte,ROp.run,evsE,evE,ty,qa,xF,qF,putE,reduceCtorEq,same,ha,qh,loadA,rowA,↓hp]; rfl) ⟨rfl,vcE.app (vcE.ext (f:=77) (caps:=[]) (ys:=[.str [42,63],.int .u8 c.toNat]) rfl (by rfl) (ext_ibs c) ?_)⟩)
   rintro r hp' ⟨rfl,rfl⟩
   refine⟨rfl,?_⟩
   cases hw:wildb c
   ·have hg:decide (ibI c≥0)=false:=by rw[ibI_ge,hw]
    refine vcE.ex (by simp (disch:=omega) only[exC,List.drop,putE,exOps,exOp,wantedE,↓reduceIte,ROp.run,evsE,evE,ty,same,binA,intA,hg,qh]; rfl) ?_
    refine vcE.ex (by simp (disch:=omega) only[exC,evE,ty,↓reduceIte]; rfl) ?_
    refine vcE.ex (by simp (disch:=omega) only[exC,exOps,exOp,wantedE,↓reduceIte,ROp.run,evsE,evE,putE]; rfl) ?_
    exact⟨_,rfl,rfl⟩
   ·have hg:decide (ibI c≥0)=true:=by rw[ibI_ge,hw]
    refine vcE.ex (by simp (disch:=omega) only[exC,List.drop,putE,exOps,exOp,wantedE,↓reduceIte,ROp.run,evsE,evE,ty,same,binA,intA,hg,qh]; rfl) ?_
    refine vcE.ex (by simp (disch:=omega) only[exC,evE,ty,↓reduceIte,exOps,exOp,wantedE,ROp.run,evsE,putE]; rfl) ?_
    exact⟨_,rfl,rfl⟩
  ·rw[if_neg (by rw[wildb_lo (by omega)]; simp)]
   refine vcE.seq (vcE.step (by simp (disch:=omega) only[exC,exOps,exOp,wantedE,↓reduceIte,ROp.run,evsE,evE,ty,putE,same,binA,intA,dec_true,qh]; rfl) (vcE.condTrue (by rfl) ?_))
   refine vcE.seq (vcE.step (by simp (disch:=omega) only[exC,exOps,exOp,wantedE,↓reduceIte,ROp.run,evsE,evE,ty,qa,xF,qF,putE,rangeSA,qx,qz]; rfl) ?_)
   refine (rng0 (id:=0) ?_ ?_ _ _ _).mono ?_
   ·simp only[upd_app,↓reduceIte]
   ·rfl
   ·rintro e tm' hp' rfl
    refine vcE.ex (by simp (disch:=omega) only[exC,exOps,exOp,wantedE,↓reduceIte,ROp.run,evsE,evE,putE]; rfl) ?_
    exact⟨_,rfl,rfl⟩
 ·refine vcE.step (by simp (disch:=omega) only[exC,exOps,exOp,wantedE,↓reduceIte,ROp.run,evsE,evE,ty,reduceCtorEq,qF,putE,same,qh,binA,intA,dec_false]; rfl) ?_
  refine vcE.step (by simp (disch:=omega) only[exC,exOps,exOp,wantedE,↓reduceIte,ROp.run,evsE,evE,ty,qa,xF,qF,putE,tz,same,qr,qx,qs,qh,binA,intA,dec_false]; rfl) ?_
  have hsh:=T33_should l.length
  by_cases h8:8<l.length
  ·have h8':decide ((8:Int)<l.length)=true:=decide_eq_true (by omega)
   rw[h8'] at hsh
   refine vcE.seq (vcE.step (by simp (disch:=omega) only[exC,exOps,exOp,wantedE,↓reduceIte,ROp.run,evsE,evE,ty,reduceCtorEq,qF,putE,same,qh,qt,frzL,tz,hsh,Cls.isFree,callCls,nidL]; rfl) (vcE.condTrue (by rfl) (vcE.seq ?_)))
   rw[r21_eq]
   have hset:=T33_set
   have hdz:List.drop 256 setZ=[]:=List.drop_eq_nil_of_le (by rw[setZ_len]; exact Nat.le_refl _)
   refine vcE.ex (by simp (disch:=omega) only[exC,exOps,exOp,wantedE,↓reduceIte,ROp.run,evsE,evE,ty,qa,xF,qF,putE,qt,frzL,tz,hset,Cls.isFree,callCls,nidL,same,ql,qh,qw,allocA,qx,qz,storeA_eq,setC_len,setZ_len,Nat.reduceLeDiff,decide_true,over,List.take_zero,hdz,List.set_cons_zero]; rfl) ?_
   refine vcE.step (by simp (disch:=omega) only[exC,exOps,exOp,wantedE,↓reduceIte,ROp.run,evsE,evE,ty,putE]; rfl) (vcE.condTrue (by rfl) (vcE.then (fun e tm hp=>(e=.normal∧idxW l 0 = -1)∨(e=.ret∧tm 4=.int .i64 (idxW l 0))) ?_ ?_))
   ·refine vcE.step (by simp (disch:=omega) only[exC,exOps,exOp,wantedE,↓reduceIte,ROp.run,evsE,evE,ty,reduceCtorEq,qF,putE,same,qh]; rfl) (vcE.block (vcE.loop (by intro l tm hp h; simp at h) (fun m tm hp => ∃ i:Nat,tm 60=encB.S l∧tm 61=.int .i64 l.length∧tm 62=.int .i64 i∧tm 7=.ptr 0 0∧hp=[some (.row 138 setC)]∧i≤l.length∧FW l i∧m=l.length - i) l.length ⟨0,rfl,rfl,rfl,rfl,rfl,Nat.zero_le _,FW.zero _,rfl⟩ ?_))
    rintro m tm hp ⟨i,e60,e61,e62,e7,rfl,hil,hf,rfl⟩
    by_cases hi:i<l.length
    ·obtain⟨c,hc⟩:∃ c,l[i]? = some c:=⟨_,qg hi⟩
     have hcl:=c.toNat_lt
     have ha:=enc_addr hc
     have hp_:=enc_pick hc
     have hh:=T33_has c
     have hn:=setC_nid
     cases hw:wildb c<;>rw[hw] at hh
     ·refine vcE.ex (by simp (disch:=omega) only[exC,exOps,exOp,wantedE,↓reduceIte,ROp.run,evsE,evE,e62,e61,same,binA,intA,dec_true,qh,putE,ty,qa,e60,ha,loadA,rowA,↓hp_,e7,qt,frzL,frz_ptr,ql,hn,tz,hh,Cls.isFree,callCls,nidL]; rfl) ?_
      refine⟨_,?_,i+1,?_,?_,?_,?_,rfl,hi,hf.more fun j d h1 h2 hd=>?_,rfl⟩
      ·omega
      ·simp only[upd_app,qa,↓reduceIte,e60]
      ·simp only[upd_app,qa,↓reduceIte,e61]
      ·simp only[upd_app,↓reduceIte]; rfl
      ·simp only[upd_app,qa,↓reduceIte,e7]
      ·obtain rfl:j=i:=by omega
       rw[hc] at hd
       cases hd
       exact hw
     ·refine vcE.ex (by simp (disch:=omega) only[exC,exOps,exOp,wantedE,↓reduceIte,ROp.run,evsE,evE,e62,e61,same,binA,intA,dec_true,qh,putE,ty,qa,e60,ha,loadA,rowA,↓hp_,e7,qt,frzL,frz_ptr,ql,hn,tz,hh,Cls.isFree,callCls,nidL]; rfl) ?_
      refine .inr ⟨rfl,?_⟩
      rw[idxW_at hf hc hw]
      rfl
    ·refine vcE.ex (by simp (disch:=omega) only[exC,exOps,exOp,wantedE,↓reduceIte,ROp.run,evsE,evE,e62,e61,same,binA,intA,dec_false,qh,putE,ty]; rfl) ?_
     exact .inl ⟨rfl,idxW_none hf (by omega)⟩
   ·rintro e tm hp (⟨rfl,hn⟩|⟨rfl,h4⟩)
    ·refine vcE.ex (by simp (disch:=omega) only[exC,exOps,exOp,wantedE,↓reduceIte,ROp.run,evsE,evE,putE]; rfl) ?_
     exact⟨_,rfl,by rw[hn]; rfl⟩
    ·exact⟨_,rfl,by simp only[h4]; rfl⟩
  ·have h8':decide ((8:Int)<l.length)=false:=decide_eq_false (by omega)
   rw[h8'] at hsh
   refine vcE.step (by simp (disch:=omega) only[exC,exOps,exOp,wantedE,↓reduceIte,ROp.run,evsE,evE,ty,reduceCtorEq,qF,putE,same,qh,qt,frzL,tz,hsh,Cls.isFree,callCls,nidL]; rfl) ?_
   refine vcE.step (by simp (disch:=omega) only[exC,exOps,exOp,wantedE,↓reduceIte,ROp.run,evsE,evE,putE]; rfl) ?_
   refine vcE.then (fun e tm hp=>(e=.normal∧idxW l 0 = -1)∨(e=.ret∧tm 4=.int .i64 (idxW l 0))) ?_ ?_
   ·refine vcE.step (by simp (disch:=omega) only[exC,exOps,exOp,wantedE,↓reduceIte,ROp.run,evsE,evE,putE]; rfl) (vcE.block (vcE.loop (by intro l tm hp h; simp at h) (fun m tm hp => ∃ i,WI l i tm∧m=l.length - i) l.length ⟨0,⟨rfl,rfl,rfl,Nat.zero_le _,FW.zero _⟩,rfl⟩ ?_))
    rintro m tm hp ⟨i,hW,rfl⟩
    by_cases hi:i<l.length
    ·refine (rnd hl hW hi _ _ _).mono ?_
     rintro e tm' hp' (⟨rfl,k,hk,hW'⟩|⟨rfl,h4⟩)
     ·have:=hW'.2.2.2.1
      exact⟨_,by omega,k,hW',rfl⟩
     ·exact .inr ⟨rfl,h4⟩
    ·obtain⟨e0,e1,e12,hil,hf⟩:=hW
     refine vcE.ex (by simp (disch:=omega) only[exC,exOps,exOp,wantedE,↓reduceIte,ROp.run,evsE,evE,e12,putE,ty,reduceCtorEq,e0,same,qh,qa,binA,intA,dec_false]; rfl) ?_
     exact .inl ⟨rfl,idxW_none hf (by omega)⟩
   ·rintro e tm hp (⟨rfl,hn⟩|⟨rfl,h4⟩)
    ·refine vcE.ex (by simp (disch:=omega) only[exC,exOps,exOp,wantedE,↓reduceIte,ROp.run,evsE,evE,putE]; rfl) ?_
     exact⟨_,rfl,by rw[hn]; rfl⟩
    ·exact⟨_,rfl,by simp only[h4]; rfl⟩
theorem idxW_ge (l:List UInt8):decide (idxW l 0≥0)=l.any wildb:=by
 have key:∀ (l:List UInt8) (i:Nat),decide (idxW l i≥0)=l.any wildb:=by
  intro l
  induction l with
  | nil=>intro i; rfl
  | cons c l ih =>
   intro i
   rw[idxW,List.any_cons]
   cases hw:wildb c
   ·rw[if_neg (by simp),ih,Bool.false_or]
   ·rw[if_pos rfl,zj]
    exact decide_eq_true (by omega)
 exact key l 0
theorem pContainsAny (l:List UInt8) (hl:l.length≤4294967296):PCF qi 46 [encB.S l,.str [42,63]] (.bool (l.any wildb)):=by
 have hT:TabOk qi (Tab.none.addO 56 (.cons (.S encB) (.cons .str .nil)) fun p=>if p.1=l∧p.2.1=[42,63] then some (.rd true (.int .i64 (idxW l 0))) else none):=by
  refine xp (qJ _) fun p r hr=>?_
  split at hr
  ·rename_i hx
   cases hr
   show PCF _ _ [encB.S p.1,.str p.2.1] _
   rw[hx.1,hx.2]
   exact pIndexAny l hl
  ·cases hr
 have hcall:(Tab.none.addO 56 (.cons (.S encB) (.cons .str .nil)) fun p=>if p.1=l∧p.2.1=[42,63] then some (.rd true (.int .i64 (idxW l 0))) else none) 56 [encB.S l,.str [42,63]]=some (.rd true (.int .i64 (idxW l 0))):=by
  refine (xe _ _ (.cons (.S encB) (.cons .str .nil)) _ (l,[42,63],())).trans ?_
  rw[if_pos ⟨rfl,rfl⟩]
 have hge:=idxW_ge l
 generalize (Tab.none.addO 56 (.cons (.S encB) (.cons .str .nil)) fun p=>if p.1=l∧p.2.1=[42,63] then some (.rd true (.int .i64 (idxW l 0))) else none)=T at hT hcall
 refine pcf_e hmG hT comp46 (by decide) (by simp) (nidL_ok (by simp only[nidL,xu]; rfl)) ?_
 refine vcE.ex (by simp only[exC,exOps,exOp,wantedE,↓reduceIte,ROp.run,evsE,evE,putE,ty,reduceCtorEq,qF,qa,xF,qt,frzL,tz,hcall,Cls.isFree,callCls,nidL,same,binA,intA,hge,qh]; rfl) ?_
 exact⟨_,rfl,rfl⟩
def litP (p:List UInt8):AV:=if p.any wildb=true then .tup [.str [],.bool false] else .tup [.str p,.bool true]
theorem pLiteral (p:List UInt8) (hl:p.length≤1000000):PCF qi 29 [.str p] (litP p):=by
 have hT:TabOk qi (Tab.none.addO 46 (.cons (.S encB) (.cons .str .nil)) fun q=>if q.1=p∧q.2.1=[42,63] then some (.rd true (.bool (p.any wildb))) else none):=by
  refine xp (qJ _) fun q r hr=>?_
  split at hr
  ·rename_i hx
   cases hr
   show PCF _ _ [encB.S q.1,.str q.2.1] _
   rw[hx.1,hx.2]
   exact pContainsAny p (by omega)
  ·cases hr
 have hcall:(Tab.none.addO 46 (.cons (.S encB) (.cons .str .nil)) fun q=>if q.1=p∧q.2.1=[42,63] then some (.rd true (.bool (p.any wildb))) else none) 46 [encB.S p,.str [42,63]]=some (.rd true (.bool (p.any wildb))):=by
  refine (xe _ _ (.cons (.S encB) (.cons .str .nil)) _ (p,[42,63],())).trans ?_
  rw[if_pos ⟨rfl,rfl⟩]
 generalize (Tab.none.addO 46 (.cons (.S encB) (.cons .str .nil)) fun q=>if q.1=p∧q.2.1=[42,63] then some (.rd true (.bool (p.any wildb))) else none)=T at hT hcall
 have hfr:frz [some (.row 5 (encB.cs p))] (.sl 0 0 p.length 1 p.length false)=some (encB.S p):=encB.sl_frz (hp:=[some (.row 5 (encB.cs p))]) (id:=0) (e:=5) (l:=p) (lo:=p.length) (ex:=false) rfl
 refine pcf_e hmG hT comp29 (by decide) (by simp) (nidL_ok rfl) ?_
 unfold litP
 cases hw:p.any wildb<;>rw[hw] at hcall
 ·refine vcE.ex (by simp (disch:=omega) only[exC,exOps,exOp,wantedE,↓reduceIte,ROp.run,evsE,evE,putE,ty,reduceCtorEq,qF,s2b_encB,qx,qz,qt,frzL,↓hfr,tz,hcall,Cls.isFree,callCls,nidL]; rfl) ?_
  exact⟨_,rfl,rfl⟩
 ·refine vcE.ex (by simp (disch:=omega) only[exC,exOps,exOp,wantedE,↓reduceIte,ROp.run,evsE,evE,putE,ty,reduceCtorEq,qF,s2b_encB,qx,qz,qt,frzL,↓hfr,tz,hcall,Cls.isFree,callCls,nidL]; rfl) ?_
  exact⟨_,rfl,rfl⟩
end
section
set_option linter.unusedSectionVars false
variable [Mx]
open Go Go.Proofs
def elIn:El1 Int where
 E:=encI
 v c:=.int .i64 c
 hv _:=rfl
 one _:=rfl
 nt _ _ h:=by cases h
 ce _:=rfl
 nv _:=rfl
 fz _ _:=rfl
def ltZ (x y:Int):Bool:=decide (x<y)
theorem swoZ:Sort.SWO ltZ:=by
 refine⟨fun x=>?_,fun x y z h1 h2=>?_,fun x y z h1 h2=>?_⟩
 all_goals simp only[ltZ,decide_eq_true_eq,decide_eq_false_iff_not] at *
 all_goals omega
theorem ltZ_tot (x y:Int) (h1:ltZ x y=false) (h2:ltZ y x=false):x=y:=by
 simp only[ltZ,decide_eq_false_iff_not] at h1 h2
 omega
theorem pNaNI (c:Int):PCF qi 100 [.int .i64 c] (.bool false):=by
 refine pcf_e hmG (qJ _) comp100 (by decide) (by simp) (nidL_ok rfl) ?_
 refine vcE.ex (by simp (disch:=first|assumption|omega) only[go_sem,↓reduceIte,qa,reduceCtorEq,xB]; rfl) ?_
 exact⟨_,rfl,rfl⟩
def N0:Tab:=Tab.none.addR 100 (.cons .i64 .nil) fun _=>.rd true (.bool false)
theorem N0_ok:TabOk qi N0:=xY (qJ _) fun p=>pNaNI p.1
theorem N0_nan (c:Int):N0 100 [.int .i64 c]=some (.rd true (.bool false)):=
 xL _ _ (.cons .i64 .nil) _ (c,())
theorem pLessI (x y:Int):PCF qi 72 [.int .i64 x,.int .i64 y] (.bool (ltZ x y)):=by
 refine pcf_e hmG N0_ok comp72 (by decide) (by simp) (nidL_ok rfl) ?_
 have h1:=N0_nan x
 refine vcE.ex (by simp (disch:=first|assumption|omega) only[go_sem,↓reduceIte,qa,reduceCtorEq,h1,zj]; rfl) ?_
 refine⟨_,rfl,?_⟩
 simp only[upd_app,↓reduceIte,ltZ]
 rfl
def N1:Tab:=N0.addR 72 (.cons .i64 (.cons .i64 .nil)) fun p=>.rd true (.bool (ltZ p.1 p.2.1))
theorem N1_ok:TabOk qi N1:=xY N0_ok fun p=>pLessI p.1 p.2.1
theorem N1_less:Lss elIn ltZ N1 72:=fun x y=>xL _ _ (.cons .i64 (.cons .i64 .nil)) _ (x,y,())
def srtI:SrtF qi 72 where
 fsd:=95
 fins:=66
 fhs:=67
 fo2:=118
 fmd:=99
 fma:=98
 fcp:=69
 frv:=70
 fl64:=76
 fl32:=75
 fbl:=53
 fnp:=96
 fxs:=97
 fbp:=68
 fpi:=71
 fpe:=73
 fpt:=74
 fpdq:=52
 ti:=3
 tx:=154
 hsd':=hintL [(3,6),(5,6),(6,6)]
 hins':=hintL [(4,6),(6,6)]
 hhs':=hintL [(10,6)]
 ho2':=hintL [(1,6)]
 hmd':=fun _=>0
 hma':=fun _=>0
 hcp':=fun _=>0
 hrv':=hintL [(3,6)]
 h64':=fun _=>0
 hbl':=fun _=>0
 hnp':=fun _=>0
 hxs':=hintL [(1,6),(2,6),(3,6)]
 hbp':=hintL [(10,6)]
 hpi':=hintL [(5,6),(11,6),(16,6),(17,6),(22,6),(23,6)]
 hpe':=hintL [(1,6),(3,6),(5,6),(8,6)]
 hpt':=hintL [(1,6),(3,6),(5,6),(8,6),(10,6),(13,6),(15,6),(18,6),(21,6)]
 hpdq':=hintL [(17,6)]
 hsd:=by kernel_rfl
 hins:=by kernel_rfl
 hhs:=by kernel_rfl
 ho2:=by kernel_rfl
 hmd:=by kernel_rfl
 hma:=by kernel_rfl
 hcp:=by kernel_rfl
 hrv:=by kernel_rfl
 h64:=by kernel_rfl
 hbl:=by kernel_rfl
 hnp:=by kernel_rfl
 hxs:=by kernel_rfl
 hbp:=by kernel_rfl
 hpi:=by kernel_rfl
 hpe:=by kernel_rfl
 hpt:=by kernel_rfl
 hpdq:=by kernel_rfl
end
section
set_option linter.unusedSectionVars false
variable [Mx]
open Go Go.Proofs
structure Gl where
 id:Int
 pat:List UInt8
 fold:Bool
def Gl.c (g:Gl):List AV:=[.int .i64 g.id,.str g.pat,.bool g.fold]
def Gl.lit (g:Gl):Bool:=!g.pat.any wildb
def Gl.key (g:Gl):List UInt8:=if g.fold then g.pat.map foldB else g.pat
def Gl.at_ (f:Bool) (k:List UInt8) (g:Gl):Bool:=g.lit && (g.fold == f) && decide (g.key=k)
def Gl.au (most:Int) (g:Gl):Aut:=newA g.pat g.fold most
def Gl.hit (most:Int) (t:List UInt8) (g:Gl):Bool:=if g.lit then decide (g.key=if g.fold then t.map foldB else t) else (g.au most).takes t
def hasG (G:List Gl) (id:Int):Bool:=G.any fun g=>decide (g.id=id)
def errPut (G:List Gl) (g:Gl):Int:=if g.id<0 then 2 else if hasG G g.id then 8 else if checkG g.pat≠0 then checkG g.pat else if 200≤G.length then 13 else 0
def putG (G:List Gl) (g:Gl):List Gl:=if errPut G g=0 then G++[g] else G
def errDrop (G:List Gl) (id:Int):Int:=if hasG G id then 0 else 12
def dropG (G:List Gl) (id:Int):List Gl:=G.filter fun g => !decide (g.id=id)
def idsG (f:Bool) (k:List UInt8) (G:List Gl):List Int:=(G.filter (Gl.at_ f k)).map Gl.id
def hitG (most:Int) (t:List UInt8) (G:List Gl):List Int:=(G.filter (Gl.hit most t)).map Gl.id
structure GOk2 (G:List Gl):Prop where
 nd:(G.map Gl.id).Nodup
 pos:∀ g ∈ G,0≤g.id
 chk:∀ g ∈ G,checkG g.pat=0
 len:G.length≤200
theorem hasG_iff {G:List Gl} {id:Int}:hasG G id=true↔∃ g ∈ G,g.id=id:=by
 simp[hasG,List.any_eq_true]
theorem hasG_not {G:List Gl} {id:Int} (h:hasG G id=false):∀ g ∈ G,g.id≠id:=fun g hg he=>by
 have:=hasG_iff.2 ⟨g,hg,he⟩
 rw[h] at this
 cases this
theorem errPut_ok {G:List Gl} {g:Gl} (h:errPut G g=0):0≤g.id∧hasG G g.id=false∧checkG g.pat=0∧G.length<200:=by
 unfold errPut at h
 split at h
 ·omega
 split at h
 ·omega
 split at h
 ·rename_i h1; exact absurd h h1
 split at h
 ·omega
 ·rename_i h1 h2 h3 h4
  refine⟨by omega,by simpa using h2,?_,by omega⟩
  exact Classical.byContradiction fun h=>h3 h
theorem GOk2.put {G:List Gl} (h:GOk2 G) {g:Gl} (he:errPut G g=0):GOk2 (G++[g]):=by
 obtain⟨h1,h2,h3,h4⟩:=errPut_ok he
 refine⟨?_,?_,?_,by simp; omega⟩
 ·rw[qC,List.nodup_append]
  refine⟨h.nd,by simp,?_⟩
  intro a ha b hb
  simp only[List.map_cons,List.map_nil,qQ] at hb
  subst hb
  obtain⟨x,hx,rfl⟩:=xw.1 ha
  exact hasG_not h2 x hx
 ·intro x hx
  rcases qM.1 hx with hx|hx
  ·exact h.pos x hx
  ·rw[qQ.1 hx]; exact h1
 ·intro x hx
  rcases qM.1 hx with hx|hx
  ·exact h.chk x hx
  ·rw[qQ.1 hx]; exact h3
theorem GOk2.drop {G:List Gl} (h:GOk2 G) (id:Int):GOk2 (dropG G id):=
 ⟨(List.filter_sublist.map _).nodup h.nd,fun g hg=>h.pos g (xI.1 hg).1,fun g hg=>h.chk g (xI.1 hg).1,Nat.le_trans (List.length_filter_le _ _) h.len⟩
theorem idsG_put (f:Bool) (k:List UInt8) (G:List Gl) (g:Gl):idsG f k (G++[g])=idsG f k G++if g.at_ f k then [g.id] else []:=by
 simp only[idsG,List.filter_append,xK,List.filter_nil,qC]
 cases g.at_ f k<;>rfl
theorem idsG_drop (f:Bool) (k:List UInt8) (G:List Gl) (id:Int):idsG f k (dropG G id)=(idsG f k G).filter fun a => !decide (a=id):=by
 simp only[idsG,dropG,List.filter_map,List.filter_filter,Function.comp_def]
 congr 1
 apply List.filter_congr
 intro g _
 exact Bool.and_comm _ _
theorem idsG_drop_ne {f:Bool} {k:List UInt8} {G:List Gl} {g:Gl} (hn:(G.map Gl.id).Nodup) (hg:g ∈ G) (h:g.at_ f k=false):idsG f k (dropG G g.id)=idsG f k G:=by
 rw[idsG_drop]
 refine List.filter_eq_self.2 fun a ha=>?_
 obtain⟨x,hx,rfl⟩:=xw.1 ha
 obtain⟨hx1,hx2⟩:=xI.1 hx
 have:x.id≠g.id:=fun he=>by
  have hxg:x=g:=by
   have:=List.pairwise_map.1 hn
   rcases List.mem_iff_getElem.1 hx1 with ⟨i,hi,rfl⟩
   rcases List.mem_iff_getElem.1 hg with ⟨j,hj,rfl⟩
   rcases Nat.lt_trichotomy i j with hij|rfl|hij
   ·exact absurd he (zn.1 this i j hi hj hij)
   ·rfl
   ·exact absurd he.symm (zn.1 this j i hj hi hij)
  rw[hxg,h] at hx2
  cases hx2
 simp[this]
theorem hit_perm (most:Int) (t:List UInt8) (G:List Gl):(idsG false t G++(idsG true (t.map foldB) G++((G.filter fun g => !g.lit).filter fun g=>(g.au most).takes t).map Gl.id)).Perm (hitG most t G):=by
 simp only[idsG,hitG,← qC]
 refine List.Perm.map _ ?_
 induction G with
 | nil=>exact List.Perm.refl _
 | cons g G ih =>
  have e:Gl.hit most t g=(Gl.at_ false t g || (Gl.at_ true (t.map foldB) g || (!g.lit && (g.au most).takes t))):=by
   unfold Gl.hit Gl.at_
   cases g.lit<;>cases g.fold<;>simp
  have ex:(Gl.at_ false t g=true→Gl.at_ true (t.map foldB) g=false∧g.lit=true)∧(Gl.at_ true (t.map foldB) g=true→g.lit=true):=by
   unfold Gl.at_
   cases g.lit<;>cases g.fold<;>simp
  simp only[xK,e]
  cases h1:Gl.at_ false t g
  ·cases h2:Gl.at_ true (t.map foldB) g
   ·cases h3:g.lit
    ·cases h4:(g.au most).takes t
     ·simpa[h4] using ih
     ·simp only[qA,if_false,Bool.not_false,if_true,Bool.and_true,Bool.or_true,h4,xK]
      rw[← qV]
      refine List.perm_middle.trans ?_
      rw[qV]
      exact ih.cons _
    ·simpa[h3] using ih
   ·have h3:=ex.2 h2
    simp only[h3,qA,if_false,xB,Bool.false_and,Bool.or_false,Bool.or_true,if_true,qZ]
    exact List.perm_middle.trans (ih.cons _)
  ·obtain⟨h2,h3⟩:=ex.1 h1
   simp only[h2,h3,qA,if_false,xB,zj,if_true,qZ]
   exact ih.cons _
end
section
set_option linter.unusedSectionVars false
variable [Mx]
open Go
def dvT (P:Program) (T:Tab) (n:Nat) (w:Cls) (is:List IOp) (t:Tr) (tm:Env) (hp:HP) (K:Env→HP→Prop):Prop:=
 TabOk P T→is.all (·.inR n)=true→∀ (l:List AV) (Q:St→Prop),Is n tm l→(∀ tm' hp' l',Is n tm' l'→K tm' hp'→Q ⟨l',hp'⟩)→vopsT P w is t ⟨l,hp⟩ Q
theorem vcE.dv {P:Program} {hint:Nat→Nat} {T:Tab} {n:Nat} {w:Cls} {is:List IOp} {t:Tr} {tm:Env} {hp:HP} {Q:Exit→Env→HP→Prop} (K:Env→HP→Prop) (h:dvT P T n w is t tm hp K) (k:∀ tm' hp',K tm' hp'→Q .normal tm' hp'):vcE P hint T n (.regD w is t) tm hp Q:=
 vcE.drawn fun l Q' hl hq hT hr=>h hT hr l Q' hl fun tm' hp' l' h1 h2=>hq _ _ _ h1 (k _ _ h2)
def takesT:List Nat→Tr→Tr
 | [],t=>t
 | i :: l,t=>.take i (takesT l t)
def pickO (is:List IOp):List Nat→List IOp
 | []=>[]
 | i :: l=>match is[i]? with
  | none=>pickO is l
  | some o=>o :: pickO is l
section
variable {P:Program} {T:Tab} {n:Nat} {w:Cls} {is:List IOp} {t:Tr} {tm tm':Env} {hp hp':HP} {K:Env→HP→Prop}
theorem dvT.done (h:K tm hp):dvT P T n w is .done tm hp K:=fun _ _ l Q hl hq=>by
 simp only[vopsT]
 exact hq _ _ _ hl h
theorem dvT.ops (js:List Nat) (h:exOps w T (pickO is js) tm hp=some (tm',hp')) (k:dvT P T n w is t tm' hp' K):dvT P T n w is (takesT js t) tm hp K:=by
 intro hT hr
 have k':=k hT hr
 clear k
 induction js generalizing tm hp with
 | nil =>
  simp only[pickO,exOps,Option.some.injEq,Prod.mk.injEq] at h
  obtain⟨rfl,rfl⟩:=h
  exact k'
 | cons i js ih =>
  intro l Q hl hq
  simp only[takesT,vopsT,opA1]
  simp only[pickO] at h
  cases hi:is[i]? with
  | none =>
   rw[hi] at h
   exact ih h l Q hl hq
  | some o =>
   rw[hi] at h
   simp only[exOps] at h
   split at h
   ·rename_i tm1 hp1 h1
    have ho:o.inR n=true:=xr.1 hr o (xa hi)
    obtain⟨v,h2,h3⟩:=exOp_yields (w:=w) hT ho hl h1
    exact .inl ⟨v,hp1,h2,ih h _ Q h3 hq⟩
   ·cases h
theorem dvT.call {i:Nat} {d:Option Nat} {xs:List Opd} {g:FuncId} {ys:List AV} {v:AV} {h:HP} (hi:is[i]? = some ⟨d,.call none,xs,none⟩) (he:evsE tm xs=.func g [] :: ys) (hc:ACalls P g ys hp fun r hp'=>r=v∧hp'=h) (hw:match callCls w d with | .free=>False | .pure=>h=hp | .alloc => ∃ new,h=hp++new|_=>True) (k:dvT P T n w is t (putE tm d v) h K):dvT P T n w is (.take i t) tm hp K:=by
 intro hT hr l Q hl hq
 simp only[vopsT,opA1,hi]
 have ho:=xr.1 hr _ (xa hi)
 simp only[IOp.inR,qp] at ho
 obtain⟨⟨h1,h2⟩,h3⟩:=ho
 refine .inl ⟨v,h,?_,k hT hr _ Q hl.put hq⟩
 unfold YieldsA
 rw[if_pos (by rfl)]
 refine⟨.func g [],ys,by rw[hl.evs h1,he],?_,?_,?_,Or.inl (by rw[qt]; exact hc)⟩
 ·intro e; rw[e] at hw; exact hw.elim
 ·intro e; rw[e] at hw; exact hw
 ·intro e; rw[e] at hw; exact hw
theorem dvT.many {i:Nat} {d:Option Nat} {xs:List Opd} {gd:Option (Nat × Bool)} {g:FuncId} {ys:List AV} {K':AV→HP→Prop} (hi:is[i]? = some ⟨d,.call none,xs,gd⟩) (hwt:wantedE tm gd=true) (he:evsE tm xs=.func g [] :: ys) (hc:ACalls P g ys hp K') (hm:w.many=true) (hne:∃ r h,K' r h) (hal:callCls w d=.alloc→∀ r h,K' r h→∃ new,h=hp++new) (k:∀ r h,K' r h→dvT P T n w is t (putE tm d r) h K):dvT P T n w is (.take i t) tm hp K:=by
 intro hT hr l Q hl hq
 simp only[vopsT,opA1,hi]
 have ho:=xr.1 hr _ (xa hi)
 simp only[IOp.inR,qp] at ho
 obtain⟨⟨h1,h2⟩,h3⟩:=ho
 refine .inr ⟨K',⟨by rw[hl.wanted h3]; exact hwt,hm,hal,none,.func g [],ys,rfl,by rw[hl.evs h1,he],Or.inl (by rw[qt]; exact hc)⟩,hne,fun r h hv=>k r h hv hT hr _ Q hl.put hq⟩
def dvF (P:Program) (T:Tab) (n:Nat) (w:Cls) (is:List IOp) (x:Nat × Tr) (tm:Env) (hp:HP) (K:Env→HP→Prop):Prop:=
 TabOk P T→is.all (·.inR n)=true→∀ (l:List AV) (Q:St→Prop),Is n tm l→(∀ tm' hp' l',Is n tm' l'→K tm' hp'→Q ⟨l',hp'⟩)→opA P w is x.1 (fun st'=>vopsT P w is x.2 st' Q) ⟨l,hp⟩
theorem dvF.of {x:Nat × Tr} (h:dvT P T n w is (.take x.1 x.2) tm hp K):dvF P T n w is x tm hp K:=by
 intro hT hr l Q hl hq
 have:=h hT hr l Q hl hq
 simp only[vopsT] at this
 exact this.opA
theorem dvF.many {i:Nat} {d:Option Nat} {xs:List Opd} {gd:Option (Nat × Bool)} {g:FuncId} {ys:List AV} {K':AV→HP→Prop} (hi:is[i]? = some ⟨d,.call none,xs,gd⟩) (hwt:wantedE tm gd=true) (he:evsE tm xs=.func g [] :: ys) (hc:ACalls P g ys hp K') (hm:w.many=true) (hal:callCls w d=.alloc→∀ r h,K' r h→∃ new,h=hp++new) (k:∀ r h,K' r h→dvT P T n w is t (putE tm d r) h K):dvF P T n w is (i,t) tm hp K:=by
 intro hT hr l Q hl hq
 simp only[opA,hi]
 have ho:=xr.1 hr _ (xa hi)
 simp only[IOp.inR,qp] at ho
 obtain⟨⟨h1,h2⟩,h3⟩:=ho
 exact .inr ⟨K',⟨by rw[hl.wanted h3]; exact hwt,hm,hal,none,.func g [],ys,rfl,by rw[hl.evs h1,he],Or.inl (by rw[qt]; exact hc)⟩,fun r h hv=>k r h hv hT hr _ Q hl.put hq⟩
theorem dvT.fork {l:List (Nat × Tr)} (h:∀ x ∈ l,dvF P T n w is x tm hp K):dvT P T n w is (.fork l) tm hp K:=by
 intro hT hr ll Q hl hq
 simp only[vopsT]
 induction l with
 | nil=>simp only[vopsTs]
 | cons x l ih =>
  obtain⟨i,t⟩:=x
  simp only[vopsTs]
  exact⟨h (i,t) List.mem_cons_self hT hr ll Q hl hq,ih fun y hy=>h y (List.mem_cons_of_mem _ hy)⟩
theorem dvT.fork1 {x:Nat × Tr} (h:dvF P T n w is x tm hp K):dvT P T n w is (.fork [x]) tm hp K:=dvT.fork fun y hy=>by
 rw[qQ.1 hy]
 exact h
theorem dvT.fork2 {x y:Nat × Tr} (h1:dvF P T n w is x tm hp K) (h2:dvF P T n w is y tm hp K):dvT P T n w is (.fork [x,y]) tm hp K:=dvT.fork fun z hz=>by
 rcases List.mem_cons.1 hz with rfl|hz
 ·exact h1
 ·rw[qQ.1 hz]
  exact h2
end
end
end Go.Gi
