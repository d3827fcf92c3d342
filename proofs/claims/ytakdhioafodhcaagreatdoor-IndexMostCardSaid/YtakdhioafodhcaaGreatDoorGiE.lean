/- Slices: cutting, appending, making, and to and from strings. -/
/- Constants, composite values, makes, and conversions between strings and bytes. -/
import Derived.Test.YtakdhioafodhcaaGreatDoorGiC
import Derived.Deep.AppendSrc
import Derived.Laws.AppendOwn
import Derived.Laws.MakeOwn
import Derived.Laws.IdiomStrings
import Derived.Laws.BytesString
set_option linter.unusedVariables false
set_option linter.unusedSimpArgs false
namespace Go.Gi
open _root_.Bool renaming false_eq_true → qA
open _root_.List renaming eq_nil_of_length_eq_zero → qq, getElem?_append_right → xh, getElem?_append_left → qm, replicate_succ → zb, length_append → qo, getElem?_set → xH, flatMap_cons → zA, length_cons → qr, append_nil → qt, mem_append → qM, mem_cons → xm, mem_map → xw
open _root_.Nat renaming mul_le_mul_right → xj, le_trans → xM, le_refl → qk
open _root_.Go.Gi.OpOk renaming same → qE
open _root_.Option renaming isSome_none → zC, map_some → qh
open _root_.Option.some renaming injEq → qd
open _root_.Prod.mk renaming injEq → qj
open _root_.Go.Result renaming andThen_ok → qy
open _root_.Go.Sem renaming run_bind → qN, run_pure → qO
section
set_option linter.unusedSectionVars false
variable [Mx]
open Go
def bndA:Option AV→Option (Option Int)
 | none=>some none
 | some (.int _ n)=>some (some n)
 | _=>none
def cutA (len cap:Nat) (lo hi mx:Option Int):Option (Nat × Nat × Nat):=
 let m:Int:=mx.getD cap
 let h:Int:=hi.getD len
 let l:Int:=lo.getD 0
 if (mx.isSome→hi.isSome)∧m≤cap∧0≤h∧(hi.isNone∨h≤m)∧0≤l∧l≤h then some (l.toNat,h.toNat,m.toNat) else none
def sliceA (sz:Nat) (x:AV) (lo hi mx:Option AV):Option AV:=
 match bndA lo,bndA hi,bndA mx with
 | some lo,some hi,some mx =>
  match x with
  | .sl id off len sz' cap ex =>
   if sz'=sz then (cutA len cap lo hi mx).map fun (l,h,m)=>.sl id (off+l*sz) (h - l) sz (m - l) (ex || mx.isSome) else none
  | .fsl cs len=>(cutA len len lo hi mx).map fun (l,h,m)=>if mx.isSome∧m=l then .esl else .fsl ((cs.drop (l*sz)).take ((h - l)*sz)) (h - l)
  | .nils=>(cutA 0 0 lo hi mx).map fun _=>.nils
  | .esl=>(cutA 0 0 lo hi mx).map fun _=>.esl
  | .str s=>if mx.isSome then none else (cutA s.length s.length lo hi none).map fun (l,h,_)=>.str ((s.drop l).take (h - l))
  | _=>none
 | _,_,_=>none
def bndV (a:Option AV) (v:Option Value):Prop:=
 match a,v with
 | none,none=>True
 | some (.int k n),some v=>v=.int k n
 | some _,some _=>True
 | _,_=>False
theorem sliceBound_run {P:Program} {w:World} {k:IntKind} {n:Int} {y:Nat} {code:BoundsCode} (h0:0≤n) (h1:n≤y):(Instr.sliceBound (.int k n) y code).run P w=.ok n.toNat w:=by
 simp[Instr.sliceBound,asIntOf,h0,h1]
theorem sliceBounds_run {P:Program} {w:World} {isSlice:Bool} {len cap cap':Nat} {lo hi mx:Option AV} {lo' hi' mx':Option Int} {vl vh vm:Option Value} {l h m:Nat}
  (kl:bndA lo=some lo') (kh:bndA hi=some hi') (km:bndA mx=some mx') (hl:bndV lo vl) (hh:bndV hi vh) (hm:bndV mx vm) (hc:cutA len cap lo' hi' mx'=some (l,h,m)) (hcap:cap≤cap') (hlen:len≤cap) :
  (Instr.sliceBounds isSlice len cap' vl vh vm).run P w=.ok (l,h,if mx'.isSome then m else cap') w∧l≤h∧h≤m∧(mx'.isSome=true→m≤cap)∧(mx'=none→m=cap):=by
 unfold cutA at hc
 simp only at hc
 split at hc
 ·rename_i hcond
  obtain⟨c1,c2,c3,c4,c5,c6⟩:=hcond
  simp only[qd,qj] at hc
  obtain⟨rfl,rfl,rfl⟩:=hc
  have num:∀ (a:Option AV) (v:Option Value) (n':Option Int),bndA a=some n'→bndV a v→(n'=none∧v=none)∨∃ k n,n'=some n∧v=some (.int k n):=by
   intro a v n' h1 h2
   rcases a with _|a
   ·simp only[bndA,qd] at h1
    rcases v with _|v
    ·exact .inl ⟨h1.symm,rfl⟩
    ·simp[bndV] at h2
   ·cases a<;>simp only[bndA] at h1<;>try contradiction
    rcases v with _|v
    ·simp[bndV] at h2
    ·simp only[bndV] at h2
     simp only[qd] at h1
     exact .inr ⟨_,_,h1.symm,by rw[h2]⟩
  rcases num lo vl lo' kl hl with ⟨rfl,rfl⟩|⟨k1,n1,rfl,rfl⟩<;>rcases num hi vh hi' kh hh with ⟨rfl,rfl⟩|⟨k2,n2,rfl,rfl⟩<;>rcases num mx vm mx' km hm with ⟨rfl,rfl⟩|⟨k3,n3,rfl,rfl⟩ <;>
   simp only[zC,qA,false_implies,Option.getD_none,Option.isNone_none,true_or,Int.toNat_natCast,if_false,forall_const,and_true,Option.isSome_some,implies_true,Option.getD_some,Option.isNone_some,false_or,if_true,reduceCtorEq] at c1 c2 c3 c4 c5 c6 ⊢
  case inl.inl.inl=>exact⟨by simp[Instr.sliceBounds],by omega⟩
  case inl.inr.inl=>exact⟨by simp[Instr.sliceBounds,sliceBound_run c3 (show n2≤(cap':Int) by omega)],by omega⟩
  case inl.inr.inr =>
   refine⟨?_,by omega⟩
   simp only[Instr.sliceBounds,qN,sliceBound_run (show 0≤n3 by omega) (show n3≤(cap':Int) by omega),qO,qy,sliceBound_run c3 (show n2≤(n3.toNat:Int) by omega)]
   simp
  case inr.inl.inl =>
   refine⟨?_,by omega⟩
   simp only[Instr.sliceBounds,qN,qO,qy,sliceBound_run c5 c6]
  case inr.inr.inl =>
   refine⟨?_,by omega⟩
   simp only[Instr.sliceBounds,qN,qO,qy,sliceBound_run c3 (show n2≤(cap':Int) by omega),sliceBound_run c5 (show n1≤(n2.toNat:Int) by omega)]
  case inr.inr.inr =>
   refine⟨?_,by omega⟩
   simp only[Instr.sliceBounds,qN,sliceBound_run (show 0≤n3 by omega) (show n3≤(cap':Int) by omega),qO,qy,sliceBound_run c3 (show n2≤(n3.toNat:Int) by omega),sliceBound_run c5 (show n1≤(n2.toNat:Int) by omega)]
 ·cases hc
theorem extract_data (s:List UInt8) (l h:Nat) (hl:l≤h) (hh:h≤s.length):(⟨s.toArray⟩:ByteArray).extract l h=⟨((s.drop l).take (h - l)).toArray⟩:=by
 apply ByteArray.ext
 apply Array.ext'
 rw[ByteArray.data_extract]
 simp
theorem slice_ok {P:Program} {Γ:Cx} {hp:HP} (h:HSim Γ hp) {t:TypeId} {sz:Nat} (ht:(∃ e,sliceP P t=some (e,sz))∨P.underlying t=some .string) {x r:AV} {lo hi mx:Option AV} {v:Value} {vl vh vm:Option Value}
  (hv:VRel Γ x v) (hl:bndV lo vl) (hh:bndV hi vh) (hm:bndV mx vm) (hr:sliceA sz x lo hi mx=some r) (hk:(∃ s,x=.str s)↔P.underlying t=some .string) :
  OpOk P Γ hp (Instr.sliceAt t v vl vh vm) r hp:=by
 unfold sliceA at hr
 split at hr
 ·rename_i lo' hi' mx' kl kh km
  have notstr:∀ y,x=y→(∀ s,y≠.str s)→∃ e,P.underlying t=some (.slice e)∧sizeP P e=some sz:=by
   intro y hy hs
   rcases ht with ⟨e,ht⟩|ht
   ·exact⟨e,sliceP_some ht⟩
   ·obtain⟨s,rfl⟩:=hk.2 ht
    exact absurd hy.symm (hs s)
  have nilrun:∀ (e:TypeId),P.underlying t=some (.slice e)→sizeP P e=some sz→∀ {l hq m:Nat},cutA 0 0 lo' hi' mx'=some (l,hq,m)→(∀ a0:Option Addr,(Instr.sliceAt t (.slice a0 0 0) vl vh vm).run P Γ.w=.ok (.slice a0 0 0) Γ.w)∧l=0∧hq=0∧m=0:=by
   intro e hu hs l hq m hcut
   obtain⟨hrun,b1,b2,b3,b4⟩:=sliceBounds_run (P:=P) (w:=Γ.w) (isSlice:=true) kl kh km hl hh hm hcut (qk _) (qk _)
   have hm0:(if mx'.isSome=true then m else 0)=0:=by
    cases hmx:mx' with
    | none=>simp
    | some y=>rw[hmx] at b3; have:=b3 rfl; simp; omega
   rw[hm0] at hrun
   have hl0:m=0:=by
    cases hmx:mx' with
    | none=>exact b4 hmx
    | some y=>rw[hmx] at b3; have:=b3 rfl; omega
   obtain rfl:l=0:=by omega
   obtain rfl:hq=0:=by omega
   refine⟨fun a0=>?_,rfl,rfl,hl0⟩
   cases a0<;>(simp only[Instr.sliceAt,qN,run_underlying hu,qy,Instr.slice,hrun,sizeP_run hs,qO]; simp)
  split at hr
  ·rename_i id off len sz' cap ex
   split at hr
   ·rename_i hsz
    subst hsz
    obtain⟨e,hu,hs⟩:=notstr _ rfl (by simp)
    cases hcut:cutA len cap lo' hi' mx' with
    | none=>simp[hcut] at hr
    | some q =>
     obtain⟨l,hq,m⟩:=q
     simp only[hcut,qh,qd] at hr
     subst hr
     simp only[VRel] at hv
     obtain⟨hi0,o,c,e',m',rfl,ho,k1,k2,k3,k4,k5⟩:=hv
     obtain⟨hrun,b1,b2,b3,b4⟩:=sliceBounds_run (P:=P) (w:=Γ.w) (isSlice:=true) kl kh km hl hh hm hcut k2 k1
     generalize hM:(if mx'.isSome=true then m else c)=M at hrun
     have hMm:m≤M∧M≤c∧(mx'.isSome=true→M=m)∧(ex=true→M=m):=by
      cases hmx:mx' with
      | none=>subst hmx; simp at hM; subst hM; have:=b4 rfl; exact⟨by omega,by omega,by simp,fun hex=>by have:=k3 hex; omega⟩
      | some y=>rw[hmx] at hM b3; simp at hM; subst hM; have:=b3 rfl; exact⟨by omega,by omega,fun _=>rfl,fun _=>rfl⟩
     obtain⟨q1,q2,q3,q4⟩:=hMm
     have e0:(Instr.sliceAt t (.slice (some ⟨(Γ.β id).1,o,none⟩) len c) vl vh vm).run P Γ.w=.ok (.slice (some ⟨(Γ.β id).1,if M=l then o else o+l*sz',none⟩) (hq - l) (M - l)) Γ.w:=by
      simp only[Instr.sliceAt,qN,run_underlying hu,qy,Instr.slice,hrun,sizeP_run hs,qO]
      split<;>simp[add_at]
     refine qE h e0 ?_
     simp only[VRel]
     refine⟨hi0,_,_,e',m',rfl,?_,by omega,by omega,?_,k4,?_⟩
     ·rcases ho with ho|ho
      ·left; omega
      ·by_cases hMl:M=l
       ·left; omega
       ·right; rw[if_neg hMl,ho]; omega
     ·intro hex
      simp only[Bool.or_eq_true] at hex
      rcases hex with hex|hex
      ·have:=q4 hex; omega
      ·have:=q3 hex; omega
     ·have hmul:M*sz'≤c*sz':=xj _ q2
      have hmul2:(M - l)*sz'=M*sz' - l*sz':=Nat.sub_mul _ _ _
      have hmul3:l*sz'≤M*sz':=xj _ (by omega)
      split<;>omega
   ·cases hr
  ·rename_i cs len
   obtain⟨e,hu,hs⟩:=notstr _ rfl (by simp)
   cases hcut:cutA len len lo' hi' mx' with
   | none=>simp[hcut] at hr
   | some q =>
    obtain⟨l,hq,m⟩:=q
    simp only[hcut,qh,qd] at hr
    simp only[VRel] at hv
    rcases hv with ⟨hv,rfl,rfl⟩|⟨b,o,c,rfl,k1,k2,k3⟩
    ·obtain⟨e1,rfl,rfl,rfl⟩:=nilrun e hu hs hcut
     subst hr
     rcases hv with rfl|⟨a0,rfl⟩
     ·refine qE h (v:=.slice none 0 0) (e1 _) ?_
      split<;>simp[VRel,NilS]
     ·refine qE h (v:=.slice (some a0) 0 0) (e1 _) ?_
      split<;>simp[VRel,NilS]
    obtain⟨hrun,b1,b2,b3,b4⟩:=sliceBounds_run (P:=P) (w:=Γ.w) (isSlice:=true) kl kh km hl hh hm hcut k1 (qk _)
    generalize hM:(if mx'.isSome=true then m else c)=M at hrun
    have hMm:m≤M∧M≤c:=by
     cases hmx:mx' with
     | none=>subst hmx; simp at hM; subst hM; have:=b4 rfl; exact⟨by omega,by omega⟩
     | some y=>rw[hmx] at hM b3; simp at hM; subst hM; have:=b3 rfl; exact⟨by omega,by omega⟩
    have e0:(Instr.sliceAt t (.slice (some ⟨b,o,none⟩) len c) vl vh vm).run P Γ.w=.ok (.slice (some ⟨b,if M=l then o else o+l*sz,none⟩) (hq - l) (M - l)) Γ.w:=by
     simp only[Instr.sliceAt,qN,run_underlying hu,qy,Instr.slice,hrun,sizeP_run hs,qO]
     split<;>simp[add_at]
    refine qE h e0 ?_
    subst hr
    split
    ·rename_i hz
     have hMm':M=m:=by rw[if_pos hz.1] at hM; exact hM.symm
     have z1:hq - l=0:=by omega
     have z2:M - l=0:=by omega
     rw[z1,z2]
     simp only[VRel]
     exact .inr ⟨_,rfl⟩
    simp only[VRel]
    refine .inr ⟨b,_,_,rfl,by omega,?_,?_⟩
    ·rcases k2 with rfl|k2
     ·left; simp
     ·exact .inr k2
    ·by_cases hMl:M=l
     ·have:hq - l=0:=by omega
      rw[this]; simp[CellsAt]
     ·rw[if_neg hMl]; exact (k3.drop (l*sz)).take _
  ·obtain⟨e,hu,hs⟩:=notstr _ rfl (by simp)
   cases hcut:cutA 0 0 lo' hi' mx' with
   | none=>simp[hcut] at hr
   | some q =>
    obtain⟨l,hq,m⟩:=q
    simp only[hcut,qh,qd] at hr
    subst hr
    simp only[VRel] at hv
    subst hv
    exact qE h (v:=.slice none 0 0) ((nilrun e hu hs hcut).1 _) (by simp[VRel])
  ·obtain⟨e,hu,hs⟩:=notstr _ rfl (by simp)
   cases hcut:cutA 0 0 lo' hi' mx' with
   | none=>simp[hcut] at hr
   | some q =>
    obtain⟨l,hq,m⟩:=q
    simp only[hcut,qh,qd] at hr
    subst hr
    simp only[VRel] at hv
    rcases hv with rfl|⟨a0,rfl⟩
    ·exact qE h (v:=.slice none 0 0) ((nilrun e hu hs hcut).1 _) (by simp[VRel,NilS])
    ·exact qE h (v:=.slice (some a0) 0 0) ((nilrun e hu hs hcut).1 _) (by simp[VRel,NilS])
  ·rename_i s
   have hu:P.underlying t=some .string:=hk.1 ⟨s,rfl⟩
   split at hr
   ·cases hr
   ·rename_i hmx
    have hmx':mx'=none:=by simpa using hmx
    subst hmx'
    have hvm:vm=none:=by
     rcases mx with _|a
     ·rcases vm with _|u
      ·rfl
      ·simp[bndV] at hm
     ·cases a<;>simp[bndA] at km
    subst hvm
    cases hcut:cutA s.length s.length lo' hi' none with
    | none=>simp[hcut] at hr
    | some q =>
     obtain⟨l,hq,m⟩:=q
     simp only[hcut,qh,qd] at hr
     subst hr
     simp only[VRel] at hv
     subst hv
     obtain⟨hrun,b1,b2,b3,b4⟩:=sliceBounds_run (P:=P) (w:=Γ.w) (isSlice:=false) kl kh km hl hh hm hcut (qk _) (qk _)
     have hsz:(⟨s.toArray⟩:ByteArray).size=s.length:=by simp[ByteArray.size]
     refine qE h (v:=.string ⟨((s.drop l).take (hq - l)).toArray⟩) ?_ (by simp[VRel])
     simp only[Instr.sliceAt,Instr.slice,zC,qA,if_false,qN,run_underlying hu,qy,hsz,hrun,qO]
     rw[extract_data s l hq b1 (by have:=b4 rfl; omega)]
  ·cases hr
 ·cases hr
def byteA (b:UInt8):AV:=.int .u8 b.toNat
def srcA (hp:HP) (sz:Nat):AV→Option (List AV × Nat)
 | .nils=>some ([],0)
 | .esl=>some ([],0)
 | .enn=>some ([],0)
 | .fsl cs len=>if cs.length=len*sz then some (cs,len) else none
 | .sl id off len sz' _ _=>match hp[id]? with
  | some (some (.row _ cs))=>if sz'=sz∧off+len*sz≤cs.length then some ((cs.drop off).take (len*sz),len) else none
  | _=>none
 | .str s=>if sz=1 then some (s.map byteA,s.length) else none
 | _=>none
theorem one_oneCell' {v:Value}:v.oneCell'=one v:=by cases v<;>rfl
theorem sl_cells {Γ:Cx} {hp:HP} (h:HSim Γ hp) {id off len sz c o:Nat} {e:TypeId} {cs:List AV} (hx:hp[id]? = some (some (.row e cs))) (ho:c=0∨o=(Γ.β id).2+off) (hlc:len≤c) (hl:off+len*sz≤cs.length) :
  CellsAt Γ ((cs.drop off).take (len*sz)) (Γ.β id).1 o:=by
 have hb:=(h.blk id _ hx).1
 simp only[BRel] at hb
 rcases ho with ho|ho
 ·have:len=0:=by omega
  subst this; simp[CellsAt]
 ·subst ho
  exact (hb.2.drop off).take _
theorem srcA_src {P:Program} {Γ:Cx} {hp:HP} (h:HSim Γ hp) {sz:Nat} {tx:TypeId} (hk:(∃ e',P.underlying tx=some (.slice e'))∨P.underlying tx=some .string) {x:AV} {v:Value} (hv:VRel Γ x v) {as:List AV} {n:Nat} (hs:srcA hp sz x=some (as,n)) :
  ∃ news,Src P sz tx v n news Γ.w∧VRels Γ as news∧∀ u ∈ news,one u=true:=by
 have mk:∀ (a:Addr) (c:Nat) (vs:List Value) (b o:Nat),a=⟨b,o,none⟩→VRels Γ as vs→(∀ u ∈ vs,one u=true)→(∀ j u,vs[j]? = some u→Γ.w.cell? ⟨b,o+j,none⟩=some u)→vs.length=n*sz →
   v=.slice (some a) n c→∃ news,Src P sz tx v n news Γ.w∧VRels Γ as news∧∀ u ∈ news,one u=true:=by
  intro a c vs b o ha h1 h2 h3 h4 hv
  subst hv ha
  exact⟨vs,⟨hk,fun _=>rfl,run_firstCells_some _ sz n _ n c vs h4 (fun j u hj=>by rw[add_at]; exact h3 j u hj),run_firstCells_some _ sz n _ n c vs h4 (fun j u hj=>by rw[add_at]; exact h3 j u hj),h4,fun u hu=>by rw[one_oneCell']; exact h2 u hu⟩,h1,h2⟩
 have none_:as=[]→n=0→NilS v→∃ news,Src P sz tx v n news Γ.w∧VRels Γ as news∧∀ u ∈ news,one u=true:=by
  rintro rfl rfl (rfl|⟨a,rfl⟩)
  ·exact⟨[],⟨hk,fun _=>rfl,run_firstCells_none _ sz 0 0 0,run_firstCells_none _ sz 0 0 0,by simp,fun _ hu=>by cases hu⟩,by simp[VRels],fun _ hu=>by cases hu⟩
  ·exact⟨[],⟨hk,fun _=>rfl,run_firstCells_some _ sz 0 _ 0 0 [] (by simp) (fun j u hj=>by simp at hj),run_firstCells_some _ sz 0 _ 0 0 [] (by simp) (fun j u hj=>by simp at hj),by simp,fun _ hu=>by cases hu⟩,by simp[VRels],fun _ hu=>by cases hu⟩
 cases x<;>simp only[srcA] at hs<;>try contradiction
 case nils =>
  simp only[qd,qj] at hs
  obtain⟨rfl,rfl⟩:=hs
  simp only[VRel] at hv
  subst hv
  exact⟨[],⟨hk,fun _=>rfl,run_firstCells_none _ sz 0 0 0,run_firstCells_none _ sz 0 0 0,by simp,fun _ hu=>by cases hu⟩,by simp[VRels],fun _ hu=>by cases hu⟩
 case enn =>
  simp only[qd,qj] at hs
  obtain⟨rfl,rfl⟩:=hs
  simp only[VRel] at hv
  obtain⟨a,c,rfl,_⟩:=hv
  exact⟨[],⟨hk,fun _=>rfl,run_firstCells_some _ sz 0 _ 0 c [] (by simp) (fun j u hj=>by simp at hj),run_firstCells_some _ sz 0 _ 0 c [] (by simp) (fun j u hj=>by simp at hj),by simp,fun _ hu=>by cases hu⟩,by simp[VRels],fun _ hu=>by cases hu⟩
 case esl =>
  simp only[qd,qj] at hs
  obtain⟨rfl,rfl⟩:=hs
  simp only[VRel] at hv
  exact none_ rfl rfl hv
 case fsl cs len =>
  split at hs
  ·rename_i hl
   simp only[qd,qj] at hs
   obtain⟨rfl,rfl⟩:=hs
   simp only[VRel] at hv
   rcases hv with ⟨hv,rfl,rfl⟩|⟨b,o,c,rfl,k1,k2,k3⟩
   ·exact none_ rfl rfl hv
   obtain⟨vs,q1,q2,q3,q4⟩:=k3.list
   exact mk _ c vs b o rfl q1 q3 q4 (by rw[q2,hl]) rfl
  ·cases hs
 case sl id off len sz' lo ex =>
  split at hs
  ·rename_i e cs hx
   split at hs
   ·rename_i hl
    simp only[qd,qj] at hs
    obtain⟨rfl,rfl⟩:=hs
    simp only[VRel] at hv
    obtain⟨hi,o,c,e',m,rfl,ho,k1,k2,k3,k4,k5⟩:=hv
    obtain⟨vs,q1,q2,q3,q4⟩:=(sl_cells h hx ho (xM k1 k2) hl.2).list
    exact mk _ c vs _ o rfl q1 q3 q4 (by rw[q2]; simp; omega) rfl
   ·cases hs
  ·cases hs
 case str s =>
  split at hs
  ·rename_i h1
   subst h1
   simp only[qd,qj] at hs
   obtain⟨rfl,rfl⟩:=hs
   simp only[VRel] at hv
   subst hv
   have hn:(⟨s.toArray⟩:ByteArray).size=s.length:=by simp[ByteArray.size]
   have hb:byteCells ⟨s.toArray⟩=s.map fun b=>Value.int .u8 b.toNat:=by simp[byteCells]
   have hr:∀ s:List UInt8,VRels Γ (s.map byteA) (s.map fun b=>Value.int .u8 b.toNat):=by
    intro s
    induction s with
    | nil=>simp[VRels]
    | cons b s ih=>simp only[List.map_cons,VRels]; exact⟨_,_,rfl,by simp[byteA,VRel],ih⟩
   refine⟨s.map fun b=>Value.int .u8 b.toNat,⟨hk,fun _=>by simp[Builtin.lenOf,hn],?_,?_,by simp,fun u hu=>?_⟩,hr s,fun u hu=>?_⟩
   ·have:=firstCells_string (P:=P) ⟨s.toArray⟩ Γ.w; rw[hn,hb] at this; exact this
   ·have:=firstCells_string (P:=P) ⟨s.toArray⟩ Γ.w.drew; rw[hn,hb] at this; exact this
   ·obtain⟨_,_,rfl⟩:=xw.1 hu; rfl
   ·obtain⟨_,_,rfl⟩:=xw.1 hu; rfl
  ·cases hs
def appA (e:TypeId) (sz bytes:Nat) (hp:HP) (d x:AV):Option (AV × HP):=
 match srcA hp sz x with
 | none=>none
 | some (new,m) =>
  match d with
  | .nils=>if m=0 then some (.nils,hp) else
   if m*bytes≤140737488355328∧m≤9223372036854775807 then some (.sl hp.length 0 m sz m false,hp++[some (.row e new)]) else none
  | .fsl cs len=>if m=0 then some (.fsl cs len,hp) else none
  | .esl=>if m=0 then some (.esl,hp) else
   if m*bytes≤140737488355328∧m≤9223372036854775807 then some (.sl hp.length 0 m sz m false,hp++[some (.row e new)]) else none
  | .sl id off len sz' lo ex =>
   if m=0 then some (.sl id off len sz' lo ex,hp) else
   match hp[id]? with
   | some (some (.row e' cs)) =>
    if sz'=sz∧off+len*sz≤cs.length then
     if len+m≤lo then
      if off+(len+m)*sz≤cs.length then some (.sl id off (len+m) sz lo ex,hp.set id (some (.row e' (over cs (off+len*sz) new)))) else none
     else if (len+m)*bytes≤140737488355328∧len+m≤9223372036854775807 then
      if ex then some (.sl hp.length 0 (len+m) sz (len+m) false,hp++[some (.row e ((cs.drop off).take (len*sz)++new))])
      else if off+len*sz=cs.length∧e'=e then some (.sl hp.length 0 (len+m) sz (len+m) false,hp.set id none++[some (.row e (cs.drop off++new))]) else none
     else none
    else none
   | _=>none
  | _=>none
def elemP (P:Program) (t:TypeId):Option (TypeId × Nat × Nat):=
 match P.underlying t with
 | some (.slice e)=>match P.info? e with
  | some i=>match i.zero with
   | some z=>if z.cells.size=i.size then some (e,i.size,i.bytes) else none
   | none=>none
  | none=>none
 | _=>none
theorem elemP_some {P:Program} {t e:TypeId} {sz bytes:Nat} (h:elemP P t=some (e,sz,bytes)) :
  P.underlying t=some (.slice e)∧∃ i z,P.info? e=some i∧i.zero=some z∧z.cells.size=sz∧i.size=sz∧i.bytes=bytes:=by
 unfold elemP at h
 split at h
 ·rename_i e' hu
  split at h
  ·rename_i i hi
   split at h
   ·rename_i z hz
    split at h
    ·rename_i hs
     simp only[qd,qj] at h
     obtain⟨rfl,rfl,rfl⟩:=h
     exact⟨hu,i,z,hi,hz,hs,rfl,rfl⟩
    ·cases h
   ·cases h
  ·cases h
 ·cases h
def seqP (P:Program) (t:TypeId):Bool:=
 match P.underlying t with
 | some (.slice _) | some .string=>true
 | _=>false
theorem seqP_some {P:Program} {t:TypeId} (h:seqP P t=true):(∃ e',P.underlying t=some (.slice e'))∨P.underlying t=some .string:=by
 unfold seqP at h
 split at h
 ·rename_i e hu; exact .inl ⟨e,hu⟩
 ·rename_i hu; exact .inr hu
 ·cases h
theorem size_zeroCells (z:Array Value) (n:Nat):(Builtin.zeroCells z n).size=n*z.size:=by simp[Builtin.zeroCells]
theorem grown_row {P:Program} {Γ:Cx} {hp:HP} (h:HSim Γ hp) (e:TypeId) {as:List AV} {vs:List Value} (hvs:VRels Γ as vs) (h1:∀ u ∈ vs,one u=true) (more:List Value) (c len sz:Nat) (hc:c*sz≤(vs++more).length) (hlc:len≤c) :
  ∃ Δ:Cx,Δ.w=Γ.w.drew.alloc (.cells ⟨vs++more⟩ e)∧VRel Δ (.sl hp.length 0 len sz len false) (.slice (some ⟨Γ.w.heap.size,0,none⟩) len c)∧HSim Δ (hp++[some (.row e as)])∧Ev Γ hp Δ (hp++[some (.row e as)]):=by
 have h':=h.drewN 1
 obtain⟨Δ,r1,r2,r3,r4,r5,r6⟩:=newRow_ok (P:=P) h' e (hvs.le (Le.drewN Γ 1)) h1 more
 have hw:Δ.w=Γ.w.drew.alloc (.cells ⟨vs++more⟩ e):=by
  simp only[newRow,qN,run_newObj,qy,qO,Result.ok.injEq] at r1
  exact r1.2.symm
 refine⟨Δ,hw,?_,r2,(Ev.drewN Γ hp 1).trans r3⟩
 simp only[VRel]
 refine⟨by have:=h.len; simp[Cx.drewN] at r4; omega,0,c,e,(vs++more).length,?_,.inr ?_,qk _,hlc,by simp,?_,?_⟩
 ·rw[r5]; rfl
 ·rw[r5]
 ·rw[r5]; exact r6
 ·omega
set_option maxHeartbeats 1000000 in
theorem app_ok {P:Program} {Γ:Cx} {hp hp':HP} (h:HSim Γ hp) {t tx ty e:TypeId} {sz bytes:Nat} (ht:elemP P t=some (e,sz,bytes)) (hk:seqP P tx=true) {d x r:AV} {v u:Value} (hv:VRel Γ d v) (hu:VRel Γ x u)
  (hr:appA e sz bytes hp d x=some (r,hp')):OpOk P Γ hp (Builtin.append_ #[t,tx] ty #[v,u]) r hp':=by
 obtain⟨hut,i,z,hi,hz,hzs,rfl,rfl⟩:=elemP_some ht
 unfold appA at hr
 split at hr
 ·cases hr
 ·rename_i new m hsrc
  obtain⟨news,hS,hN,hO⟩:=srcA_src h (seqP_some hk) hu hsrc
  have hNl:=hN.length
  have grow:∀ (base:Option Addr) (len c:Nat) (olds:List Value) (as:List AV),VRels Γ as olds→(∀ u ∈ olds,one u=true)→olds.length=len*i.size →
    (Builtin.firstCells i.size len (.slice base len c)).run P Γ.w.drew=.ok olds.toArray Γ.w.drew→c<len+m→(len+m)*i.bytes≤140737488355328→len+m≤9223372036854775807 →
    ∃ v' Δ,(Builtin.append_ #[t,tx] ty #[.slice base len c,u]).run P Γ.w=.ok v' Δ.w∧VRel Δ (.sl hp.length 0 (len+m) i.size (len+m) false) v'∧HSim Δ (hp++[some (.row e (as++new))])∧Ev Γ hp Δ (hp++[some (.row e (as++new))]):=by
   intro base len c olds as ho h1 hol hf hc hb h63
   have hrun:=run_append_grow_src (P:=P) Γ.w t tx ty e i z hut hi hz base len c olds hf u m news hS hc (by omega) (growslice_fits hc hb)
   have hge:=grownCap_ge Γ.w (len+m) c e
   obtain⟨Δ,q1,q2,q3,q4⟩:=grown_row (P:=P) h e (ho.append hN) (fun u hu=>(qM.1 hu).elim (h1 u) (hO u)) (Builtin.zeroCells z.cells (grownCap Γ.w (len+m) c e - (len+m))).toList (grownCap Γ.w (len+m) c e) (len+m) i.size (by
    have hzl:(Builtin.zeroCells z.cells (grownCap Γ.w (len+m) c e - (len+m))).toList.length=(grownCap Γ.w (len+m) c e - (len+m))*i.size:=by
     rw[Array.length_toList,size_zeroCells,hzs]
    rw[qo,qo,hzl,hol,hS.newsLen,← Nat.add_mul,← Nat.add_mul]
    exact xj _ (by omega)) hge
   refine⟨_,Δ,?_,q2,q3,q4⟩
   rw[hrun,q1]
   congr 3
   apply Array.ext'
   simp
  split at hr
  ·-- nil
   simp only[VRel] at hv
   subst hv
   split at hr
   ·rename_i hm
    simp only[qd,qj] at hr
    obtain⟨rfl,rfl⟩:=hr
    subst hm
    have hn0:news=[]:=qq (by rw[hS.newsLen]; simp)
    subst hn0
    refine qE h (v:=.slice none 0 0) ?_ (by simp[VRel])
    rcases hS.kind with ⟨e',hk'⟩|hk'<;>simp[Builtin.append_,run_underlying hut,run_underlying hk',sizeOf,typeInfo,hi,hS.len,hS.cells]
   ·rename_i hm
    split at hr
    ·rename_i hb
     simp only[qd,qj] at hr
     obtain⟨rfl,rfl⟩:=hr
     have hg:=grow none 0 0 [] [] (by simp[VRels]) (fun _ hu=>by cases hu) (by simp) (run_firstCells_none _ i.size 0 0 0) (by omega) (by simpa using hb.1) (by omega)
     unfold OpOk
     simpa using hg
    ·cases hr
  ·-- frozen
   rename_i cs len
   split at hr
   ·rename_i hm
    simp only[qd,qj] at hr
    obtain⟨rfl,rfl⟩:=hr
    subst hm
    have hn0:news=[]:=qq (by rw[hS.newsLen]; simp)
    subst hn0
    have hv':=hv
    simp only[VRel] at hv
    rcases hv with ⟨rfl|⟨a0,rfl⟩,_⟩|⟨b,o,c,rfl,k1,k2,k3⟩
    ·refine qE h (v:=.slice none 0 0) ?_ hv'
     rcases hS.kind with ⟨e',hk'⟩|hk'<;>simp[Builtin.append_,run_underlying hut,run_underlying hk',sizeOf,typeInfo,hi,hS.len,hS.cells]
    ·refine qE h (v:=.slice (some a0) 0 0) ?_ hv'
     rcases hS.kind with ⟨e',hk'⟩|hk'<;>simp[Builtin.append_,run_underlying hut,run_underlying hk',sizeOf,typeInfo,hi,hS.len,hS.cells,storeCells]
    refine qE h (v:=.slice (some ⟨b,o,none⟩) len c) ?_ hv'
    rcases hS.kind with ⟨e',hk'⟩|hk'<;>simp[Builtin.append_,run_underlying hut,run_underlying hk',sizeOf,typeInfo,hi,hS.len,hS.cells,k1,storeCells]
   ·cases hr
  ·-- no room
   simp only[VRel] at hv
   have hv':∃ a:Option Addr,v=.slice a 0 0∧(a=none∨∃ b,a=some b):=by
    rcases hv with rfl|⟨b,rfl⟩
    ·exact⟨none,rfl,.inl rfl⟩
    ·exact⟨_,rfl,.inr ⟨b,rfl⟩⟩
   obtain⟨a,rfl,ha⟩:=hv'
   split at hr
   ·rename_i hm
    simp only[qd,qj] at hr
    obtain⟨rfl,rfl⟩:=hr
    subst hm
    have hn0:news=[]:=qq (by rw[hS.newsLen]; simp)
    subst hn0
    refine qE h (v:=.slice a 0 0) ?_ (by simpa only[VRel] using hv)
    rcases hS.kind with ⟨e',hk'⟩|hk'<;>rcases ha with rfl|⟨b,rfl⟩<;>simp[Builtin.append_,run_underlying hut,run_underlying hk',sizeOf,typeInfo,hi,hS.len,hS.cells,storeCells]
   ·rename_i hm
    split at hr
    ·rename_i hb
     simp only[qd,qj] at hr
     obtain⟨rfl,rfl⟩:=hr
     have hfirst:(Builtin.firstCells i.size 0 (.slice a 0 0)).run P Γ.w.drew=.ok ([]:List Value).toArray Γ.w.drew:=by
      rcases ha with rfl|⟨b,rfl⟩
      ·exact run_firstCells_none _ i.size 0 0 0
      ·exact run_firstCells_some _ i.size 0 _ 0 0 [] (by simp) (fun j u hj=>by simp at hj)
     have hg:=grow a 0 0 [] [] (by simp[VRels]) (fun _ hu=>by cases hu) (by simp) hfirst (by omega) (by simpa using hb.1) (by omega)
     unfold OpOk
     simpa using hg
    ·cases hr
  ·-- ours
   rename_i id off len sz' lo ex
   have hv':=hv
   simp only[VRel] at hv
   obtain⟨hi0,o,c,e2,mm,rfl,ho,k1,k2,k3,k4,k5⟩:=hv
   split at hr
   ·rename_i hm
    simp only[qd,qj] at hr
    obtain⟨rfl,rfl⟩:=hr
    subst hm
    have hn0:news=[]:=qq (by rw[hS.newsLen]; simp)
    subst hn0
    have hlc:len≤c:=xM k1 k2
    refine qE h (v:=.slice (some ⟨(Γ.β id).1,o,none⟩) len c) ?_ hv'
    rcases hS.kind with ⟨e',hk'⟩|hk'<;>simp[Builtin.append_,run_underlying hut,run_underlying hk',sizeOf,typeInfo,hi,hS.len,hS.cells,hlc,storeCells]
   ·rename_i hm
    split at hr
    ·rename_i e' cs hx
     split at hr
     ·rename_i hl
      obtain⟨rfl,hl⟩:=hl
      have hadd:len*i.size+m*i.size=(len+m)*i.size:=(Nat.add_mul _ _ _).symm
      have hnl:new.length=m*i.size:=by rw[hNl,hS.newsLen]
      -- in place
      have place:len+m≤c→(off+(len+m)*i.size≤cs.length∨∃ e' m',Γ.w.shape? (Γ.β id).1=some (e',m')∧(Γ.β id).2+(off+len*i.size)+new.length≤m') →
        ∃ Δ:Cx,(Builtin.append_ #[t,tx] ty #[.slice (some ⟨(Γ.β id).1,o,none⟩) len c,u]).run P Γ.w=.ok (.slice (some ⟨(Γ.β id).1,o,none⟩) (len+m) c) Δ.w∧HSim Δ (hp.set id (some (.row e' (over cs (off+len*i.size) new)))) ∧
         Ev Γ hp Δ (hp.set id (some (.row e' (over cs (off+len*i.size) new))))∧Δ.β=Γ.β∧Δ.n=Γ.n∧Δ.Fz=Γ.Fz:=by
       intro hc
       have ho' : o = (Γ.β id).2 + off := by rcases ho with ho | ho
                                             ·omega
                                             ·exact ho
       have hpl:(Γ.β id).2+(off+len*i.size)=o+len*i.size:=by omega
       have hfl:off+(len+m)*i.size≤cs.length→off+len*i.size+new.length≤cs.length:=by intro h'; omega
       intro hroom
       obtain⟨Δ,r1,r2,r3,r4⟩:=write_row (P:=P) (off:=off+len*i.size) h hx hN hO hl (hroom.imp hfl (fun h'=>h'))
       refine⟨Δ,?_,r2,r3,r4⟩
       rw[hpl] at r1
       rcases hS.kind with ⟨e3,hk'⟩|hk'<;>simp[Builtin.append_,run_underlying hut,run_underlying hk',sizeOf,typeInfo,hi,hS.len,hS.cells,hc,add_at,r1]
      split at hr
      ·rename_i hin
       split at hr
       ·rename_i hfit
        simp only[qd,qj] at hr
        obtain⟨rfl,rfl⟩:=hr
        obtain⟨Δ,r1,r2,r3,r4,r5,r6⟩:=place (by omega) (.inl hfit)
        refine⟨_,Δ,r1,?_,r2,r3⟩
        simp only[VRel]
        rw[r4,r5]
        exact⟨hi0,o,c,e2,mm,rfl,ho,hin,k2,k3,r3.le.shape _ _ k4,k5⟩
       ·cases hr
      ·rename_i hin
       split at hr
       ·rename_i hb
        have hcells:=sl_cells h hx ho (xM k1 k2) hl
        obtain⟨olds,p1,p2,p3,p4⟩:=hcells.list
        have hol:olds.length=len*i.size:=by rw[p2]; simp; omega
        have hfirst:(Builtin.firstCells i.size len (.slice (some ⟨(Γ.β id).1,o,none⟩) len c)).run P Γ.w.drew=.ok olds.toArray Γ.w.drew:=
         run_firstCells_some _ i.size len _ len c olds hol (fun j u hj=>by rw[add_at]; exact p4 j u hj)
        split at hr
        ·rename_i hex
         simp only[qd,qj] at hr
         obtain⟨rfl,rfl⟩:=hr
         exact grow _ len c olds _ p1 p3 hol hfirst (by have:=k3 hex; omega) hb.1 hb.2
        ·split at hr
         ·rename_i hex hfr
          obtain⟨hfr,rfl⟩:=hfr
          simp only[qd,qj] at hr
          obtain⟨rfl,rfl⟩:=hr
          by_cases hc:len+m≤c
          ·-- there was room: the row gets a new name
           have ho' : o = (Γ.β id).2 + off := by rcases ho with ho | ho
                                                 ·omega
                                                 ·exact ho
           obtain⟨Δ,r1,r2,r3,r4,r5,r6⟩:=place hc (.inr ⟨e2,mm,k4,by
            have:(len+m)*i.size≤c*i.size:=xj _ hc
            omega⟩)
           have hx':(hp.set id (some (.row e' (over cs (off+len*i.size) new))))[id]? = some (some (.row e' (over cs (off+len*i.size) new))):=by
            rw[xH]; simp[HP.lt hx]
           have hov:over cs (off+len*i.size) new=cs++new:=by
            simp only[over]
            rw[hfr,List.take_length,List.drop_eq_nil_of_le (by omega),qt]
           have hB:=(r2.blk id _ hx').1
           have hre:=r2.rename hx' ((Δ.β id).1,(Δ.β id).2+off) rfl (.row e' (cs.drop off++new)) (by
            simp only[BRel] at hB ⊢
            refine⟨hB.1,?_⟩
            have hd:=(hB.2.drop off)
            rw[hov,List.drop_append_of_le_length (by omega)] at hd
            exact CellsAt.le (Le.know _ _) (fun _=>rfl) hd)
           have hset:(hp.set id (some (.row e' (over cs (off+len*i.size) new)))).set id none=hp.set id none:=by simp
           rw[hset] at hre
           refine⟨_,Δ.know ((Δ.β id).1,(Δ.β id).2+off),r1,?_,hre.1,r3.trans hre.2⟩
           have hn:Δ.n=hp.length:=by rw[r5,h.len]
           simp only[VRel,Cx.know,hn,if_true]
           refine⟨by omega,o,c,e2,mm,by rw[r4],.inr (by rw[r4]; omega),qk _,hc,by simp,?_,k5⟩
           rw[r4]; exact r3.le.shape _ _ k4
          ·-- there was none
           obtain⟨v',Δ,r1,r2,r3,r4⟩:=grow _ len c olds _ p1 p3 hol hfirst (by omega) hb.1 hb.2
           have hdt:(cs.drop off).take (len*i.size)=cs.drop off:=List.take_of_length_le (by simp; omega)
           rw[hdt] at r3 r4
           have hf:=r3.forget (hp.set id none++[some (.row e' (cs.drop off++new))]) (by simp) (by
            intro j y hy
            rcases HP.get_snoc hy with ⟨ej,ey⟩|hy
            ·simp only[List.length_set] at ej
             subst ej
             rw[xh (qk _)]
             simpa using ey
            ·rw[xH] at hy
             split at hy
             ·split at hy<;>cases hy
             ·rw[qm (HP.lt hy)]; exact hy)
           exact⟨v',Δ,r1,r2,hf.1,r4.trans hf.2⟩
         ·cases hr
       ·cases hr
     ·cases hr
    ·cases hr
  ·cases hr
end
section
set_option linter.unusedSectionVars false
variable [Mx]
open Go
theorem toList_length {α:Type} (xs:Array α):xs.toList.length=xs.size:=rfl
def constS:Value→Option AV
 | .int k n=>some (.int k n)
 | .bool b=>some (.bool b)
 | .string s=>some (.str s.data.toList)
 | .pointer none=>some .nilp
 | .slice none 0 0=>some .nils
 | .map none=>some .nilm
 | .nilFunc=>some .nilf
 | .nilIface=>some .nili
 | _=>none
def constL:List Value→Option (List AV)
 | []=>some []
 | v :: vs=>match constS v,constL vs with
  | some a,some as=>some (a :: as)
  | _,_=>none
def constA:Value→Option AV
 | .agg cs=>(constL cs.toList).map .agg
 | .tuple cs=>if cs.size=0 then some (.tup []) else none
 | v=>constS v
theorem constS_rel {Γ:Cx} {v:Value} {a:AV} (h:constS v=some a):VRel Γ a v∧one v=true∧oneA a=true:=by
 unfold constS at h
 split at h<;>simp only[qd,reduceCtorEq] at h<;>subst h<;>simp[VRel,one,oneA]
theorem constL_rel {Γ:Cx}:∀ {vs:List Value} {as:List AV},constL vs=some as→VRels Γ as vs∧∀ u ∈ vs,one u=true
 | [],as,h=>by simp only[constL,qd] at h; subst h; simp[VRels]
 | v :: vs,as,h=>by
  simp only[constL] at h
  split at h
  ·rename_i a as' h1 h2
   simp only[qd] at h
   subst h
   obtain⟨k1,k2,_⟩:=constS_rel (Γ:=Γ) h1
   obtain⟨k3,k4⟩:=constL_rel (Γ:=Γ) h2
   exact⟨by simp only[VRels]; exact⟨_,_,rfl,k1,k3⟩,fun u hu=>(xm.1 hu).elim (fun e=>e ▸ k2) (k4 u)⟩
  ·cases h
theorem constA_rel {Γ:Cx} {v:Value} {a:AV} (h:constA v=some a):VRel Γ a v:=by
 unfold constA at h
 split at h
 ·rename_i cs
  cases hl:constL cs.toList with
  | none=>simp[hl] at h
  | some as =>
   simp only[hl,qh,qd] at h
   subst h
   obtain⟨h1,h2⟩:=constL_rel (Γ:=Γ) hl
   simp only[VRel]
   exact⟨cs.toList,by simp,h1,h2⟩
 ·rename_i cs
  split at h
  ·rename_i h0
   simp only[qd] at h
   subst h
   have:cs = #[]:=Array.eq_empty_of_size_eq_zero h0
   subst this
   simp[VRel,VRels]
  ·cases h
 ·exact (constS_rel h).1
def zeroP (P:Program) (e:TypeId):Option (List AV):=
 match P.info? e with
 | some i=>match i.zero with
  | some z=>match constA z with
   | some (.tup _)=>none
   | some a=>if (cellsA a).length=i.size then some (cellsA a) else none
   | none=>none
  | none=>none
 | none=>none
theorem zeroP_some {P:Program} {e:TypeId} {Z:List AV} (h:zeroP P e=some Z):∃ i z,P.info? e=some i∧i.zero=some z∧z.cells.size=i.size∧Z.length=i.size ∧
  ∀ Γ:Cx,VRels Γ Z z.cells.toList∧∀ u ∈ z.cells.toList,one u=true:=by
 unfold zeroP at h
 split at h
 ·rename_i i hi
  split at h
  ·rename_i z hz
   split at h
   ·cases h
   ·rename_i a hnt ha
    split at h
    ·rename_i hl
     simp only[qd] at h
     subst h
     have hne:∀ l,a≠.tup l:=fun l e=>hnt l e
     have key:∀ Γ:Cx,VRels Γ (cellsA a) z.cells.toList∧∀ u ∈ z.cells.toList,one u=true:=fun Γ=>cells_rel (constA_rel ha) hne
     refine⟨i,z,hi,hz,?_,hl,key⟩
     have:=(key ⟨default,0,fun _=>(0,0),fun _=>False,fun _=>⟨#[],.skip,.skip⟩,0⟩).1.length
     rw[toList_length z.cells] at this
     omega
    ·cases h
   ·cases h
  ·cases h
 ·cases h
def zerosA (Z:List AV) (n:Nat):List AV:=
 match Z with
 | [z]=>List.replicate n z
 | Z=>(List.replicate n Z).flatten
theorem zerosA_eq (Z:List AV) (n:Nat):zerosA Z n=(List.replicate n Z).flatten:=by
 unfold zerosA
 split
 ·induction n with
  | zero=>rfl
  | succ n ih=>rw[zb,zb,List.flatten_cons,← ih]; rfl
 ·rfl
theorem cycle_list (z:Array Value):∀ n,((Array.range (n*z.size)).map (fun i=>z[i % z.size]!)).toList=(List.replicate n z.toList).flatten
 | 0=>by simp
 | n+1=>by
  have ih:=cycle_list z n
  simp only[Array.toList_map,Array.toList_range] at ih ⊢
  rw[Nat.add_mul,Nat.one_mul,List.range_add,List.map_append,ih,List.replicate_succ',List.flatten_append]
  congr 1
  simp only[List.flatten_cons,List.flatten_nil,qt,List.map_map]
  apply List.ext_getElem
  ·simp
  ·intro i h1 h2
   simp at h1
   simp[Nat.add_mod,Nat.mod_eq_of_lt h1,Nat.mul_mod_left,h1]
theorem zeros_rel {Γ:Cx} {Z:List AV} {z:List Value} (h:VRels Γ Z z) (h1:∀ u ∈ z,one u=true) (n:Nat):VRels Γ (zerosA Z n) (List.replicate n z).flatten∧∀ u ∈ (List.replicate n z).flatten,one u=true:=by
 rw[zerosA_eq]
 induction n with
 | zero=>simp[VRels]
 | succ n ih =>
  simp only[zb,List.flatten_cons]
  exact⟨h.append ih.1,fun u hu=>(qM.1 hu).elim (h1 u) (ih.2 u)⟩
def allocA (hp:HP) (e:TypeId) (Z:List AV):AV × HP:=(.ptr hp.length 0,hp++[some (.row e Z)])
theorem alloc_ok {P:Program} {Γ:Cx} {hp:HP} (h:HSim Γ hp) {e:TypeId} {Z:List AV} (hz:zeroP P e=some Z):OpOk P Γ hp (Instr.alloc e true (.tuple #[])) (allocA hp e Z).1 (allocA hp e Z).2:=by
 obtain⟨i,z,hi,hzz,hs,hl,key⟩:=zeroP_some hz
 obtain⟨Δ,r1,r2,r3,r4,r5,_⟩:=newRow_ok (P:=P) h e (key Γ).1 (key Γ).2 []
 refine⟨.pointer (some ⟨Γ.w.heap.size,0,none⟩),Δ,?_,?_,r2,r3⟩
 ·have:(⟨z.cells.toList++[]⟩:Array Value)=z.cells:=by simp
  rw[this] at r1
  simp[Instr.alloc,zeroValue,typeInfo,hi,hzz,newVar,r1]
 ·simp only[VRel,allocA]
  refine⟨?_,by rw[r5]⟩
  have:=r2.len
  simp at this; omega
def aggCells:List AV→Option (List AV)
 | []=>some []
 | .tup _ :: _=>none
 | x :: xs=>(aggCells xs).map (cellsA x ++ ·)
def partsOk (sz:Nat):List AV→Bool
 | []=>true
 | .tup _ :: _=>false
 | x :: xs=>(cellsA x).length == sz && partsOk sz xs
def flatA (xs:List AV):List AV:=xs.flatMap cellsA
theorem foldl_set (off:Nat):∀ (l:List Value) (k:Nat) (c:List Value),off+k+l.length≤c.length →
  ((l.zipIdx k).foldl (fun (cs:Array Value) (p:Value × Nat)=>cs.setIfInBounds (off+p.2) p.1) ⟨c⟩)=⟨over c (off+k) l⟩
 | [],k,c,_=>by simp[over_nil]
 | v :: l,k,c,h=>by
  simp only[List.zipIdx_cons,List.foldl_cons]
  have hs:(⟨c⟩:Array Value).setIfInBounds (off+k) v=⟨c.set (off+k) v⟩:=by simp
  rw[hs,foldl_set off l (k+1) (c.set (off+k) v) (by simp at h ⊢; omega),over_cons c (off+k) v l (by simp at h; omega)]
  rfl
theorem fill_all (sz:Nat):∀ (vs:List Value) (k:Nat) (c:List Value),(∀ v ∈ vs,v.cells.size=sz)→k*sz+vs.length*sz≤c.length →
  Instr.fill (fun i=>some (i*sz,sz)) ⟨c⟩ ((List.range' k vs.length).zip vs)=some ⟨over c (k*sz) (vs.flatMap fun v=>v.cells.toList)⟩
 | [],k,c,_,_=>by simp[Instr.fill,over_nil]
 | v :: vs,k,c,h1,h2=>by
  have hv:v.cells.size=sz:=h1 v (by simp)
  have hlen:k*sz+sz≤c.length:=by simp[Nat.add_mul] at h2; omega
  simp only[qr,List.range'_succ,List.zip_cons_cons,Instr.fill]
  rw[if_neg (by simp[hv]; omega)]
  have hf:(v.cells.zipIdx.foldl (fun (cs:Array Value) (p:Value × Nat)=>cs.setIfInBounds (k*sz+p.2) p.1) ⟨c⟩)=⟨over c (k*sz) v.cells.toList⟩:=by
   rw[← Array.foldl_toList,Array.toList_zipIdx]
   have:=foldl_set (k*sz) v.cells.toList 0 c (by simp[hv]; omega)
   simpa using this
  have hf':(v.cells.zipIdx.foldl (fun (cs:Array Value) (x:Value × Nat)=>match x with|(c,j)=>cs.setIfInBounds (k*sz+j) c) ⟨c⟩)=⟨over c (k*sz) v.cells.toList⟩:=hf
  rw[hf',fill_all sz vs (k+1) _ (fun u hu=>h1 u (by simp[hu])) (by
   rw[over_length _ _ _ (by simp[hv]; omega)]
   simp[Nat.add_mul] at h2 ⊢; omega)]
  congr 2
  have hvl:v.cells.toList.length=sz:=by simpa using hv
  apply List.ext_getElem?
  intro i
  have hfl:∀ (l:List Value),(∀ v ∈ l,v.cells.size=sz)→(l.flatMap fun v=>v.cells.toList).length=l.length*sz:=by
   intro l
   induction l with
   | nil=>simp
   | cons a l ih=>intro h; simp[ih (fun v hv=>h v (by simp[hv])),h a (by simp),Nat.add_mul,Nat.add_comm]
  have hfl':=hfl vs (fun u hu=>h1 u (by simp[hu]))
  have e1:(k+1)*sz=k*sz+sz:=by rw[Nat.add_mul,Nat.one_mul]
  rw[over_get _ _ _ (by rw[over_length _ _ _ (by simp[hv]; omega)]; omega),over_get _ _ _ (by omega),over_get _ _ _ (by omega)]
  simp only[zA,qo,hvl,hfl']
  by_cases c1:(k+1)*sz≤i∧i<(k+1)*sz+vs.length*sz
  ·rw[if_pos c1,if_pos (by omega),xh (by omega),hvl]
   congr 1; omega
  ·rw[if_neg c1]
   by_cases c2:k*sz≤i∧i<k*sz+sz
   ·rw[if_pos c2,if_pos (by omega),qm (by omega)]
   ·rw[if_neg c2,if_neg (by omega)]
theorem partsOk_rel {Γ:Cx} {sz:Nat}:∀ {xs:List AV} {vs:List Value},VRels Γ xs vs→partsOk sz xs=true →
  (∀ v ∈ vs,v.cells.size=sz)∧VRels Γ (flatA xs) (vs.flatMap fun v=>v.cells.toList)∧(∀ u ∈ vs.flatMap fun v=>v.cells.toList,one u=true)∧(flatA xs).length=xs.length*sz
 | [],vs,h,_=>by simp only[VRels] at h; subst h; simp[flatA,VRels]
 | x :: xs,vs,h,hp=>by
  simp only[VRels] at h
  obtain⟨v,vs',rfl,hv,h⟩:=h
  have ht:∀ l,x≠.tup l:=by rintro l rfl; simp[partsOk] at hp
  have hp':(cellsA x).length=sz∧partsOk sz xs=true:=by
   cases x<;>first|(simpa only[partsOk,Bool.and_eq_true,beq_iff_eq] using hp)|exact absurd rfl (ht _)
  obtain⟨k1,k2⟩:=cells_rel hv ht
  obtain⟨q1,q2,q3,q4⟩:=partsOk_rel h hp'.2
  have hl:=k1.length
  rw[toList_length v.cells] at hl
  refine⟨?_,?_,?_,?_⟩
  ·intro u hu
   rcases xm.1 hu with rfl|hu
   ·omega
   ·exact q1 u hu
  ·simp only[flatA,zA]
   exact k1.append q2
  ·intro u hu
   simp only[zA,qM] at hu
   exact hu.elim (k2 u) (q3 u)
  ·simp only[flatA,zA,qo,qr,Nat.add_mul,Nat.one_mul] at q4 ⊢
   omega
def litV (v:AV):List AV→AV
 | []=>.esl
 | _ :: _=>v
def bslA (hp:HP) (e:TypeId) (sz:Nat) (fz:Bool) (xs:List AV):Option (AV × HP):=
 if partsOk sz xs then
  if fz then some (litV (.fsl (flatA xs) xs.length) xs,hp)
  else some (.sl hp.length 0 xs.length sz xs.length true,hp++[some (.row e (flatA xs))])
 else none
theorem bsl_ok {P:Program} {Γ:Cx} {hp hp':HP} (h:HSim Γ hp) {t e:TypeId} {sz bytes:Nat} (ht:elemP P t=some (e,sz,bytes)) {fz:Bool} {xs:List AV} {vs:List Value} (hv:VRels Γ xs vs) (hsmall:xs.length*sz≤16777216) {r:AV}
  (hr:bslA hp e sz fz xs=some (r,hp')):OpOk P Γ hp (Instr.buildSlice t xs.length ⟨(List.range xs.length).zip vs⟩) r hp':=by
 obtain⟨hut,i,z,hi,hz,hzs,rfl,rfl⟩:=elemP_some ht
 unfold bslA at hr
 split at hr
 ·rename_i hp0
  obtain⟨k1,k2,k3,k4⟩:=partsOk_rel hv hp0
  have hl:=hv.length
  have hfill:∀ zero:Array Value,Instr.fill (fun j=>some (j*i.size,i.size)) ((Array.range (xs.length*i.size)).map (zero[· % zero.size]!)) ((List.range xs.length).zip vs)=some ⟨vs.flatMap fun v=>v.cells.toList⟩:=by
   intro zero
   have hsize:((Array.range (xs.length*i.size)).map (zero[· % zero.size]!)).toList.length=xs.length*i.size:=by simp
   generalize ((Array.range (xs.length*i.size)).map (zero[· % zero.size]!))=c at hsize
   obtain⟨c⟩:=c
   have:=fill_all i.size vs 0 c k1 (by simp at hsize ⊢; rw[← hl,hsize]; exact qk _)
   rw[List.range_eq_range',hl,this]
   congr 2
   have hfl:=k2.length
   simp only[over,Nat.zero_mul,List.take_zero,List.nil_append]
   rw[List.drop_eq_nil_of_le,qt]
   simp at hsize
   rw[← hfl,k4,hsize]
   omega
  have hb:¬ (xs.length*i.size > 2 ^ 24):=by omega
  have hsz:(sizeOf e).run P Γ.w=.ok i.size Γ.w:=by simp[sizeOf,typeInfo,hi]
  have hrun:(Instr.buildSlice t xs.length ⟨(List.range xs.length).zip vs⟩).run P Γ.w =
    ((newRow e ⟨vs.flatMap fun v=>v.cells.toList⟩).run P Γ.w).andThen fun a w=>.ok (.slice (some a) xs.length xs.length) w:=by
   simp only[Instr.buildSlice,qN,run_underlying hut,qy,hsz,if_neg hb]
   split
   ·simp only[qN,qO,qy,hfill #[]]
   ·have hzv:(zeroValue e).run P Γ.w=.ok z Γ.w:=by simp[zeroValue,typeInfo,hi,hz]
    simp only[qN,qO,qy,hzv,hfill z.cells]
  split at hr
  ·simp only[qd,qj] at hr
   obtain⟨rfl,rfl⟩:=hr
   obtain⟨Δ,r1,r2,r3,r4,r5⟩:=newRowFz_ok (P:=P) h e k2 k3
   refine⟨.slice (some ⟨Γ.w.heap.size,0,none⟩) xs.length xs.length,Δ,by rw[hrun,r1]; rfl,?_,r2,r3⟩
   cases xs with
   | nil =>
    simp only[litV,VRel,List.length_nil]
    exact .inr ⟨_,rfl⟩
   | cons x xs =>
    simp only[litV,VRel]
    exact .inr ⟨_,0,_,rfl,qk _,.inr r4,r5⟩
  ·simp only[qd,qj] at hr
   obtain⟨rfl,rfl⟩:=hr
   obtain⟨Δ,r1,r2,r3,r4,r5,r6⟩:=newRow_ok (P:=P) h e k2 k3 []
   simp only[qt] at r1 r6
   refine⟨.slice (some ⟨Γ.w.heap.size,0,none⟩) xs.length xs.length,Δ,by rw[hrun,r1]; rfl,?_,r2,r3⟩
   simp only[VRel]
   refine⟨by have:=r2.len; simp at this; omega,0,_,_,_,by rw[r5],.inr (by rw[r5]),qk _,qk _,by simp,by rw[r5]; exact r6,?_⟩
   have hfl:=k2.length
   rw[← hfl,k4]; omega
 ·cases hr
end
end Go.Gi
