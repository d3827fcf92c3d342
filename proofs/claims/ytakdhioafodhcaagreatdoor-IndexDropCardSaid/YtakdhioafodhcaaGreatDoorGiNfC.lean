/- bytes.Count of one byte; glob.Norm: what they give. -/
/- glob.Norm: what it gives. -/
/- The states of a glob: rows of places, told by numbers. -/
/- Loops over functions, told by what is so behind each round. -/
/- States: rows of places, and what the small methods give. -/
/- States: start, of, all, list: what they give. -/
/- States: a row as a list. -/
import Derived.Test.YtakdhioafodhcaaGreatDoorGiSL
import Derived.Test.YtakdhioafodhcaaGreatDoorGiGlobNL
import Derived.Test.YtakdhioafodhcaaGreatDoorGiXB
set_option linter.unusedVariables false
set_option linter.unusedSimpArgs false
namespace Go.Gi
section
set_option linter.unusedSectionVars false
variable [Mx]
open Go Go.Proofs
theorem countB_eq (c:UInt8):∀ (bs:List UInt8) (n:Int),bs.foldl (fun (n:Int) x=>if x == c then n+1 else n) n=n+bs.count c
 | [],n=>by simp
 | b :: bs,n=>by
  rw[List.foldl_cons,countB_eq c bs,List.count_cons]
  by_cases h:b=c
  ·subst h; simp; omega
  ·simp[h]
theorem ext_count {s:List UInt8} {c:UInt8} {hp:HP} {x:AV} {n:Nat} (hx:srcA hp 1 x=some (encB.cs s,n)):AExt Tryz.prog 108 [x,.int .u8 c.toNat] hp fun r hp'=>r=.int .i64 (s.count c)∧hp'=hp:=by
 have hc:countE hp [x,.int .u8 c.toNat]=some (.int .i64 (s.count c),hp,hp.length):=by
  simp only[countE,hx,unbyte_encB]
  rw[show (c.toNat:Int).toNat.toUInt8=c by simp,countB,countB_eq]
  simp
 exact count_extA (fn:=Tryz.f108) (by kernel_rfl) (by kernel_rfl) (by kernel_rfl) (by kernel_rfl) (by kernel_rfl) hc
theorem pCount (s:List UInt8) (c:UInt8):PCF Tryz.prog 84 [encB.S s,.fsl [.int .u8 c.toNat] 1] (.int .i64 (s.count c)):=by
 refine pcf_e hmG (TabOk.none _) comp84 (by decide) (by simp) (nidL_ok (by simp only[nidL,Enc.S_nid]; rfl)) ?_
 repeat' (first|refine vcE.seq ?_|refine vcE.block ?_|(refine vcE.condTrue ?_ ?_; first|rfl|(simp (disch:=first|assumption|omega) only[go_sem,↓reduceIte]<;>rfl))|(refine vcE.condFalse ?_ ?_; first|rfl|(simp (disch:=first|assumption|omega) only[go_sem,↓reduceIte,Nat.reduceEqDiff,reduceCtorEq,Nat.reduceAdd,Nat.reduceLeDiff]<;>rfl))|(refine vcE.condND _ rfl (fun hc=>?_) (fun hc=>?_)<;>try (exfalso; first|omega|contradiction))|(refine vcE.condD _ rfl (fun hc=>?_) (fun hc=>?_)<;>try (exfalso; first|omega|contradiction))|(refine vcE.condNB _ rfl (fun hc=>?_) (fun hc=>?_)<;>try (exfalso; first|omega|contradiction))|(refine vcE.condB _ rfl (fun hc=>?_) (fun hc=>?_)<;>try (exfalso; first|omega|contradiction))|(apply vcE.ex; (simp (disch:=first|assumption|omega) only[go_sem,↓reduceIte,Nat.reduceEqDiff,reduceCtorEq]<;>rfl))|fail)
 rw[show r84_4=r84_4.take 4++((r84_4.drop 4).take 1++r84_4.drop 5) from rfl]
 refine vcE.app (vcE.ex (by simp (disch:=omega) only[go_sem,↓reduceIte,Nat.reduceEqDiff,reduceCtorEq,iaddrA,List.take]; rfl) ⟨rfl,vcE.app (vcE.ext (f:=108) (caps:=[]) (ys:=[encB.S s,.int .u8 c.toNat]) rfl rfl (ext_count (s:=s) (c:=c) (n:=s.length) (by exact encB.S_src _ s)) ?_)⟩)
 rintro r hp' ⟨rfl,rfl⟩
 refine⟨rfl,?_⟩
 repeat' (first|refine vcE.seq ?_|refine vcE.block ?_|(refine vcE.condTrue ?_ ?_; first|rfl|(simp (disch:=first|assumption|omega) only[go_sem,↓reduceIte,Nat.reduceEqDiff,reduceCtorEq,Nat.reduceAdd,Nat.reduceLeDiff]<;>rfl))|(refine vcE.condFalse ?_ ?_; first|rfl|(simp (disch:=first|assumption|omega) only[go_sem,↓reduceIte,Nat.reduceEqDiff,reduceCtorEq,Nat.reduceAdd,Nat.reduceLeDiff]<;>rfl))|(refine vcE.condND _ rfl (fun hc=>?_) (fun hc=>?_)<;>try (exfalso; first|omega|contradiction))|(refine vcE.condD _ rfl (fun hc=>?_) (fun hc=>?_)<;>try (exfalso; first|omega|contradiction))|(refine vcE.condNB _ rfl (fun hc=>?_) (fun hc=>?_)<;>try (exfalso; first|omega|contradiction))|(refine vcE.condB _ rfl (fun hc=>?_) (fun hc=>?_)<;>try (exfalso; first|omega|contradiction))|(apply vcE.ex; (simp (disch:=first|assumption|omega) only[go_sem,↓reduceIte]<;>rfl))|fail)
 exact⟨_,rfl,rfl⟩
def G1:Tab:=((G0.addR 28 (.cons .str .nil) fun p=>.rd true (.int .i64 (checkG p.1))).addO 84 (.cons (.S encB) (.cons (.S encB) .nil)) fun p=>match p.2.1 with
 | [c]=>some (.rd true (.int .i64 (p.1.count c)))
 | _=>none).addO 85 (.cons (.S encB) (.cons .i64 .nil)) fun p=>if p.1=[63]∧0≤p.2.1∧p.2.1≤300 then some (.rd true (encB.S (List.replicate p.2.1.toNat 63))) else none
theorem encB_rep (n:Nat):encB.S (List.replicate n 63)=.fsl (List.replicate n (.int .u8 63)) n:=by
 simp only[Enc.S,encB_cs,List.map_replicate,List.length_replicate]
 rfl
theorem G1_ok:TabOk Tryz.prog G1:=by
 refine TabOk.addO (TabOk.addO (TabOk.addR G0_ok ?_) ?_) ?_
 ·exact fun p=>pCheck p.1
 ·intro p r h
  split at h
  ·rename_i c hc
   cases h
   have:=pCount p.1 c
   show PCF _ _ [encB.S p.1,encB.S p.2.1] _
   rw[hc]
   exact this
  ·cases h
 ·intro p r h
  split at h
  ·rename_i hc
   obtain⟨h1,h2,h3⟩:=hc
   cases h
   show PCF _ _ [encB.S p.1,.int .i64 p.2.1] _
   rw[h1,encB_rep]
   have:=pRepeat p.2.1.toNat (by omega)
   rw[Int.toNat_of_nonneg h2] at this
   exact this
  ·cases h
theorem G1_check (p:List UInt8):G1 28 [.str p]=some (.rd true (.int .i64 (checkG p))):=by
 rw[G1,Tab.addO_ne _ _ _ _ rfl,Tab.addO_ne _ _ _ _ rfl]
 exact Tab.addR_self _ _ (.cons .str .nil) _ (p,())
theorem G1_count (s:List UInt8) (c:UInt8):G1 84 [encB.S s,encB.S [c]]=some (.rd true (.int .i64 (s.count c))):=by
 rw[G1,Tab.addO_ne _ _ _ _ rfl]
 exact Tab.addO_self _ _ (.cons (.S encB) (.cons (.S encB) .nil)) _ (s,[c],())
theorem G1_repeat (n:Nat) (h:n≤300):G1 85 [encB.S [63],.int .i64 n]=some (.rd true (encB.S (List.replicate n 63))):=by
 rw[G1]
 refine (Tab.addO_self _ _ (.cons (.S encB) (.cons .i64 .nil)) _ ([63],(n:Int),())).trans ?_
 show (if ([63]:List UInt8)=[63]∧(0:Int)≤n∧(n:Int)≤300 then _ else _)=_
 rw[if_pos ⟨rfl,by omega,by omega⟩]
 simp
def wildB (c:UInt8):Prop:=c=42∨c=63
theorem run_loop {p:List UInt8} (hl:p.length≤4611686018427387904) {i:Nat} (hi:i<p.length) {tm:Env} {hp:HP} {n:Nat} (e0:tm 0=.str p) (e5:tm 5=.int .i64 i) (hint:Nat→Nat):vcE Tryz.prog hint G1 n (IC.block 2 (IC.loop b57_0)) tm hp fun e tm' hp'=>e=.normal∧hp'=hp∧tm' 0=tm 0∧tm' 3=tm 3∧tm' 4=tm 4∧∃ r:Nat,tm' 5=.int .i64 r∧i≤r∧r≤p.length∧(∀ k c,i≤k→k<r→p[k]? = some c→wildB c)∧∀ c,p[r]? = some c→¬ wildB c:=by
 refine vcE.block (vcE.loop (by intro l tm hp h; simp at h) (fun m tm' hp'=>hp'=hp∧tm' 0=tm 0∧tm' 3=tm 3∧tm' 4=tm 4∧∃ r:Nat,tm' 5=.int .i64 r∧i≤r∧r≤p.length∧(∀ k c,i≤k→k<r→p[k]? = some c→wildB c)∧m=p.length - r) (p.length - i) ⟨rfl,rfl,rfl,rfl,i,e5,Nat.le_refl _,by omega,fun k c h1 h2=>by omega,rfl⟩ ?_)
 rintro m tm' hp' ⟨rfl,h0,h3,h4,r,h5,hir,hrl,hw,rfl⟩
 rw[e0] at h0
 by_cases hr:r<p.length
 ·obtain⟨c,hc⟩:∃ c,p[r]? = some c:=⟨_,List.getElem?_eq_getElem hr⟩
  have hstep:wildB c→∀ k d,i≤k→k<r+1→p[k]? = some d→wildB d:=fun hwc k d k1 k2 hd=>by
   by_cases hk:k=r
   ·subst hk
    rw[hc] at hd
    cases hd
    exact hwc
   ·exact hw k d k1 (by omega) hd
  by_cases h42:c.toNat=42
  ·refine vcE.ex (by simp (disch:=omega) only[go_sem,↓reduceIte,Nat.reduceEqDiff,reduceCtorEq,h0,h5,hc,h42]; rfl) ?_
   refine⟨_,by omega,rfl,?_,?_,?_,r+1,?_,by omega,hr,hstep (.inl (UInt8.toNat_inj.1 h42)),rfl⟩
   all_goals simp only[upd_app,Nat.reduceEqDiff,↓reduceIte,h0,h3,h4,e0]
   all_goals rfl
  ·by_cases h63:c.toNat=63
   ·refine vcE.ex (by simp (disch:=omega) only[go_sem,↓reduceIte,Nat.reduceEqDiff,reduceCtorEq,h0,h5,hc,h63]; rfl) ?_
    refine⟨_,by omega,rfl,?_,?_,?_,r+1,?_,by omega,hr,hstep (.inr (UInt8.toNat_inj.1 h63)),rfl⟩
    all_goals simp only[upd_app,Nat.reduceEqDiff,↓reduceIte,h0,h3,h4,e0]
    all_goals rfl
   ·refine vcE.ex (by simp (disch:=omega) only[go_sem,↓reduceIte,Nat.reduceEqDiff,reduceCtorEq,h0,h5,hc]; rfl) ?_
    refine⟨rfl,rfl,?_,?_,?_,r,?_,hir,hrl,hw,?_⟩
    all_goals try simp only[upd_app,Nat.reduceEqDiff,↓reduceIte,h0,h3,h4,h5,e0]
    rintro d hd (h|h)
    ·rw[hc] at hd; cases hd; exact h42 (by rw[h]; rfl)
    ·rw[hc] at hd; cases hd; exact h63 (by rw[h]; rfl)
 ·refine vcE.ex (by simp (disch:=omega) only[go_sem,↓reduceIte,Nat.reduceEqDiff,reduceCtorEq,h0,h5]; rfl) ?_
  refine⟨rfl,rfl,?_,?_,?_,r,?_,hir,hrl,hw,fun d hd=>?_⟩
  all_goals try simp only[upd_app,Nat.reduceEqDiff,↓reduceIte,h0,h3,h4,h5,e0]
  rw[List.getElem?_eq_none (by omega)] at hd
  cases hd
end
section
set_option linter.unusedSectionVars false
variable [Mx]
open Go Go.Proofs
theorem take_wild {p:List UInt8} {i r:Nat} (h:∀ k c,i≤k→k<r→p[k]? = some c→wildB c):∀ c ∈ (p.drop i).take (r - i),c=42∨c=63:=by
 intro c hc
 obtain⟨k,hk,he⟩:=List.mem_iff_getElem.1 hc
 simp only[List.length_take,List.length_drop] at hk
 rw[List.getElem_take,List.getElem_drop] at he
 exact h (i+k) c (by omega) (by omega) (by rw[← he]; exact List.getElem?_eq_getElem (by omega))
theorem drop_split {p:List UInt8} {i r:Nat} (h1:i≤r):p.drop i=(p.drop i).take (r - i)++p.drop r:=by
 conv=>lhs; rw[← List.take_append_drop (r - i) (p.drop i)]
 rw[List.drop_drop,show i+(r - i)=r by omega]
theorem rest_plain {p:List UInt8} {r:Nat} (h:∀ c,p[r]? = some c→¬ wildB c):p.drop r=[]∨∃ c q,p.drop r=c :: q∧c≠42∧c≠63:=by
 cases hc:p[r]? with
 | none=>exact .inl (List.drop_eq_nil_iff.2 (List.getElem?_eq_none_iff.1 hc))
 | some c =>
  have:=h c hc
  exact .inr ⟨c,_,drop_at hc,fun e=>this (.inl e),fun e=>this (.inr e)⟩
theorem norm_run {p:List UInt8} {i r:Nat} (h1:i≤r) (hw:∀ k c,i≤k→k<r→p[k]? = some c→wildB c) (he:∀ c,p[r]? = some c→¬ wildB c) :
  normS false (p.drop i)=List.replicate (((p.drop i).take (r - i)).count 63) 63++((if ((p.drop i).take (r - i)).count 63<((p.drop i).take (r - i)).length then [42] else [])++normS false (p.drop r)):=by
 have hwt:=take_wild hw
 conv=>lhs; rw[drop_split h1]
 rw[normS_wild _ _ _ hwt,normS_end _ _ (rest_plain he),Bool.false_or]
 congr 2
 by_cases h42:42 ∈ (p.drop i).take (r - i)
 ·rw[decide_eq_true h42,if_pos rfl,if_pos ((count_wild hwt).2 h42)]
 ·rw[decide_eq_false h42,if_neg (by simp),if_neg (fun h=>h42 ((count_wild hwt).1 h))]
def NI (p:List UInt8) (i:Nat) (tm:Env) (hp:HP):Prop:=
 ∃ id O,tm 0=.str p∧tm 3=bld id O.length 1∧tm 4=.int .i64 i∧BldAt encB hp id 5 O∧O++normS false (p.drop i)=normB p∧i≤p.length
theorem src_one {hp:HP} {e:TypeId} {c:UInt8} {ex:Bool}:srcA (hp++[some (.row e [.int .u8 c.toNat])]) 1 (.sl hp.length 0 1 1 1 ex)=some (encB.cs [c],1):=by
 have:=encB.sl_src (hp:=hp++[some (.row e [.int .u8 c.toNat])]) (id:=hp.length) (e:=e) (l:=[c]) (lo:=1) (ex:=ex) (by simp; rfl)
 exact this
theorem frz_one {hp:HP} {e:TypeId} {c:UInt8} {ex:Bool}:frz (hp++[some (.row e [.int .u8 c.toNat])]) (.sl hp.length 0 1 1 1 ex)=some (encB.S [c]):=by
 have:=encB.sl_frz (hp:=hp++[some (.row e [.int .u8 c.toNat])]) (id:=hp.length) (e:=e) (l:=[c]) (lo:=1) (ex:=ex) (by simp; rfl)
 exact this
theorem conv_one {hp:HP} {e:TypeId} {cs:List AV} {n lo:Nat} {ex:Bool}:convA (hp++[some (.row e cs)]) (.sl hp.length 0 n 1 lo ex)=some (.sl hp.length 0 n 1 lo ex):=by
 simp[convA]
theorem frz_row {hp:HP} {e:TypeId} {w:List UInt8} {new:HP}:frz (hp++[some (.row e (encB.cs w))]++new) (.sl hp.length 0 w.length 1 w.length false)=some (encB.S w):=
 encB.sl_frz (e:=e) (l:=w) (app_get (by simp))
theorem sslice_str {p:List UInt8} {i r:Nat} (h1:i≤r) (h2:r≤p.length):sliceA 0 (.str p) (some (.int .i64 i)) (some (.int .i64 r)) none=some (.str ((p.drop i).take (r - i))):=by
 have e1:(i:Int).toNat=i:=rfl
 simp[sliceA,bndA,cutA]
 omega
theorem BldAt.any {α:Type} {E:Enc α} {hp:HP} {id:Nat} {e:TypeId} {l m:List α} (h:BldAt E hp id e l) {bytes:Nat} {x:AV} (hx:srcA hp E.sz x=some (E.cs m,m.length)) (hb:(l.length+m.length)*bytes≤140737488355328) (hn:l.length+m.length≤9223372036854775807) :
  ∃ id' hp',appA e E.sz bytes hp (bld id l.length E.sz) x=some (bld id' (l++m).length E.sz,hp')∧BldAt E hp' id' e (l++m):=by
 by_cases h0:0<m.length
 ·exact⟨_,_,h.more hx h0 hb hn,BldAt.moreAt E _ _ _ _ _⟩
 ·have:=List.eq_nil_of_length_eq_zero (show m.length=0 by omega)
  subst this
  rw[List.append_nil]
  exact⟨id,hp,app_none hx,h⟩
theorem norm_round {p:List UInt8} (hl:p.length≤300) {i:Nat} {tm:Env} {hp:HP} (h:NI p i tm hp) (hint:Nat→Nat) {n:Nat} (hi:i<p.length):vcE Tryz.prog hint G1 n b57_1 tm hp fun e tm' hp'=>e=.normal∧∃ k,i<k∧NI p k tm' hp':=by
 obtain⟨id,O,e0,e3,e4,hb,hO,hip⟩:=h
 have hOl:O.length≤300:=by
  have:=congrArg List.length hO
  have:=normB_len p
  simp only[List.length_append] at *
  omega
 refine vcE.step (by simp (disch:=omega) only[go_sem,↓reduceIte,Nat.reduceEqDiff,reduceCtorEq,e0,e4]; rfl) (vcE.block (vcE.step (by simp (disch:=omega) only[go_sem,↓reduceIte,Nat.reduceEqDiff,e4]; rfl) (vcE.then _ (run_loop (by omega) hi (p:=p) (i:=i) (by simp only[upd_app,Nat.reduceEqDiff,↓reduceIte,e0]) (by simp only[upd_app,↓reduceIte]) hint) ?_)))
 rintro e tm' hp' ⟨rfl,rfl,h0,h3,h4,r,h5,hir,hrl,hw,he⟩
 simp only[upd_app,Nat.reduceEqDiff,↓reduceIte,e0,e3,e4] at h0 h3 h4
 by_cases hr:r=i
 ·subst hr
  obtain⟨c,hc⟩:∃ c,p[r]? = some c:=⟨_,List.getElem?_eq_getElem hi⟩
  have happ:=(hb.app [some (.row 5 [.int .u8 c.toNat])]).more (bytes:=1) (m:=[c]) (src_one (ex:=true)) (by simp) (by simp; omega) (by simp; omega)
  simp only[show encB.sz=1 from rfl] at happ
  have hn:O++[c]++normS false (p.drop (r+1))=normB p:=by
   rw[← hO,drop_at hc,normS_plain (fun e=>he c hc (.inl e)) (fun e=>he c hc (.inr e))]
   simp
  refine vcE.ex (by simp (disch:=omega) only[go_sem,↓reduceIte,Nat.reduceEqDiff,reduceCtorEq,h0,h3,h4,h5,hc,happ]; rfl) ?_
  refine⟨rfl,r+1,by omega,_,O++[c],?_,?_,?_,BldAt.moreAt encB _ _ _ _ _,hn,hi⟩
  all_goals simp only[upd_app,Nat.reduceEqDiff,↓reduceIte,h0]
  all_goals rfl
 ·have hlt:i<r:=by omega
  have hwl:((p.drop i).take (r - i)).length=r - i:=by rw[List.length_take,List.length_drop]; omega
  have hsl:=sslice_str hir hrl
  have hrun:=norm_run hir hw he
  generalize hW:(p.drop i).take (r - i)=w at *
  have hcnt:w.count 63≤w.length:=List.count_le_length
  have hO':O++List.replicate (w.count 63) 63++((if w.count 63<w.length then [42] else [])++normS false (p.drop r))=normB p:=by
   rw[← hO,hrun]
   simp only[List.append_assoc]
  have hOl':O.length+w.count 63≤300:=by
   have:=congrArg List.length hO'
   have:=normB_len p
   simp only[List.length_append,List.length_replicate] at *
   omega
  have hOl2:w.count 63<w.length→O.length+w.count 63+1≤300:=fun hc=>by
   have:=congrArg List.length hO'
   have:=normB_len p
   simp only[List.length_append,List.length_replicate,if_pos hc,List.length_cons,List.length_nil] at *
   omega
  have hrep:=G1_repeat (w.count 63) (by omega)
  have hcount:=G1_count w 63
  have c63:AV.int .u8 63=.int .u8 (63:UInt8).toNat:=rfl
  refine vcE.step (by simp (disch:=omega) only[go_sem,↓reduceIte,Nat.reduceEqDiff,h4,h5]; rfl) ?_
  refine vcE.step (by simp (disch:=omega) only[go_sem,↓reduceIte,reduceCtorEq,h0,Nat.reduceEqDiff,h4,h5,hsl,s2b_encB,c63,conv_one,frzL.eq_2,↓frz_row,↓frz_one,hcount,nidL.eq_2]; rfl) ?_
  obtain⟨id2,hp2,hap,hb2⟩:=((hb.app [some (.row 5 (encB.cs w))]).app [some (.row 5 [.int .u8 (63:UInt8).toNat])] |>.app [some (.row 5 [.int .u8 (63:UInt8).toNat])]).any (bytes:=1) (m:=List.replicate (w.count 63) 63) (x:=encB.S (List.replicate (w.count 63) 63)) (encB.S_src _ _) (by simp; omega) (by simp; omega)
  simp only[show encB.sz=1 from rfl] at hap
  refine vcE.step (by simp (disch:=omega) only[go_sem,↓reduceIte,Nat.reduceEqDiff,h3,c63,conv_one,frzL.eq_2,↓frz_one,hrep,nidL.eq_2,hap]; rfl) ?_
  refine vcE.seq (vcE.seq (vcE.ex (by simp (disch:=omega) only[go_sem,↓reduceIte,Nat.reduceEqDiff,h4,h5]; rfl) ?_))
  refine vcE.condD (w.count 63<w.length) ?_ (fun hc=>?_) (fun hc=>?_)
  ·simp only[evE,upd_app,↓reduceIte,hwl]
   congr 2
   exact propext (by omega)
  ·have hap2:=(hb2.app [some (.row 5 [.int .u8 (42:UInt8).toNat])]).more (bytes:=1) (m:=[42]) (src_one (ex:=true)) (by simp) (by simp; omega) (by simp; omega)
   simp only[show encB.sz=1 from rfl] at hap2
   have c42:AV.int .u8 42=.int .u8 (42:UInt8).toNat:=rfl
   refine vcE.ex (by simp (disch:=omega) only[go_sem,↓reduceIte,Nat.reduceEqDiff,c42,hap2]; rfl) ?_
   refine vcE.ex (by simp (disch:=omega) only[go_sem,↓reduceIte,Nat.reduceEqDiff,h5]; rfl) ?_
   refine⟨rfl,r,hlt,_,_,?_,?_,?_,BldAt.moreAt encB _ _ _ _ _,?_,hrl⟩
   ·simp only[upd_app,Nat.reduceEqDiff,↓reduceIte,h0]
   ·simp only[upd_app,Nat.reduceEqDiff,↓reduceIte]
   ·simp only[upd_app,↓reduceIte]
   ·rw[← hO',if_pos hc]
    simp only[List.append_assoc]
  ·refine vcE.e0 ?_
   refine vcE.ex (by simp (disch:=omega) only[go_sem,↓reduceIte,Nat.reduceEqDiff,h5]; rfl) ?_
   refine⟨rfl,r,hlt,id2,_,?_,?_,?_,hb2,?_,hrl⟩
   ·simp only[upd_app,Nat.reduceEqDiff,↓reduceIte,h0]
   ·simp only[upd_app,Nat.reduceEqDiff,↓reduceIte]
   ·simp only[upd_app,↓reduceIte]
   ·rw[← hO',if_neg hc]
    simp only[List.nil_append]
theorem pNorm (p:List UInt8) (hl:p.length≤300):PCF Tryz.prog 57 [.str p] (.str (normB p)):=by
 refine pcf_e hmG G1_ok comp57 (by decide) (by simp) (nidL_ok rfl) ?_
 refine vcE.s1 (k:=vcE.s1 (k:=vcE.then (fun e tm hp=>e=.normal∧∃ id,tm 3=bld id (normB p).length 1∧BldAt encB hp id 5 (normB p)) ?_ ?_))
 ·refine vcE.s1 (k:=vcE.block (vcE.loop (by intro l tm hp h; simp at h) (fun m tm hp => ∃ i,NI p i tm hp∧m=p.length - i) p.length ⟨0,⟨0,[],rfl,rfl,rfl,BldAt.nil _ _ _ _,rfl,Nat.zero_le _⟩,rfl⟩ ?_))
  rintro m tm hp ⟨i,hN,rfl⟩
  by_cases hi:i<p.length
  ·refine (norm_round hl hN _ hi).mono ?_
   rintro e tm' hp' ⟨rfl,k,hk,hN'⟩
   refine⟨p.length - k,?_,k,hN',rfl⟩
   have:=hN'.choose_spec.choose_spec.2.2.2.2.2
   omega
  ·obtain⟨id,O,e0,e3,e4,hb,hO,hip⟩:=hN
   obtain rfl:i=p.length:=by omega
   rw[List.drop_length] at hO
   simp only[normS,Bool.false_eq_true,if_false,List.append_nil] at hO
   subst hO
   refine vcE.ex (by simp (disch:=omega) only[go_sem,↓reduceIte,Nat.reduceEqDiff,reduceCtorEq,e0,e4]; rfl) ?_
   refine⟨rfl,id,?_,hb⟩
   simp only[upd_app,Nat.reduceEqDiff,↓reduceIte,e3]
 ·rintro e tm hp ⟨rfl,id,h3,hb⟩
  have hs:=hb.src
  have hb2:b2sA hp (bld id (normB p).length 1)=some (.str (normB p)):=by
   unfold b2sA
   rw[show (1:Nat)=encB.sz from rfl,hs]
   simp only[unbyte_encB,Option.map_some]
   by_cases h0:(normB p).length=0
   ·rw[h0]; rfl
   ·rw[bld_pos (by omega)]
  refine vcE.ex (by simp only[go_sem,↓reduceIte,h3,hb2]; rfl) ?_
  exact⟨_,rfl,rfl⟩
end
section
abbrev isStar (p:List UInt8) (i:Nat):Bool:=decide (p[i]? = some 42)
def clo (p:List UInt8) (b:Nat→Bool):Nat→Bool
 | 0=>b 0
 | j+1=>b (j+1) || (clo p b j && isStar p j)
def takes (s:UInt8→UInt8→Bool) (p:List UInt8) (i:Nat) (c:UInt8):Bool:=match p[i]? with
 | some a=>a != 42 && (a == 63 || s a c)
 | none=>false
def leads (s:UInt8→UInt8→Bool) (p:List UInt8) (r:Nat→Bool) (c:UInt8):Nat→Bool
 | 0=>r 0 && isStar p 0
 | j+1=>(r (j+1) && isStar p (j+1)) || (r j && takes s p j c)
def stepS (s:UInt8→UInt8→Bool) (p:List UInt8) (r:Nat→Bool) (c:UInt8):Nat→Bool:=clo p (leads s p r c)
def startS (p:List UInt8):Nat→Bool:=clo p fun j=>decide (j=0)
def atS (s:UInt8→UInt8→Bool) (p t:List UInt8) (i:Nat):Bool:=if isStar p i then gm s (p.take (i+1)) t else gm s (p.take i) t
def runS (s:UInt8→UInt8→Bool) (p:List UInt8):List UInt8→(Nat→Bool)→(Nat→Bool)
 | [],r=>r
 | c :: t,r=>runS s p t (stepS s p r c)
theorem clo_congr {p:List UInt8} {b b':Nat→Bool}:∀ {j:Nat},(∀ i,i≤j→b i=b' i)→clo p b j=clo p b' j
 | 0,h=>h 0 (Nat.le_refl _)
 | j+1,h=>by
  simp only[clo]
  rw[h (j+1) (Nat.le_refl _),clo_congr fun i hi=>h i (by omega)]
theorem leads_congr {s:UInt8→UInt8→Bool} {p:List UInt8} {r r':Nat→Bool} {c:UInt8} {j:Nat} (h:∀ i,i≤j→r i=r' i):leads s p r c j=leads s p r' c j:=by
 cases j with
 | zero=>simp only[leads,h 0 (Nat.le_refl _)]
 | succ j=>simp only[leads,h (j+1) (Nat.le_refl _),h j (by omega)]
theorem stepS_congr {s:UInt8→UInt8→Bool} {p:List UInt8} {r r':Nat→Bool} {c:UInt8} {j:Nat} (h:∀ i,i≤j→r i=r' i):stepS s p r c j=stepS s p r' c j:=
 clo_congr fun i hi=>leads_congr fun k hk=>h k (by omega)
theorem clo_iff {p:List UInt8} {b:Nat→Bool}:∀ {j:Nat},clo p b j=true↔∃ i,i≤j∧b i=true∧∀ m,i≤m→m<j→p[m]? = some 42
 | 0=>by
  simp only[clo]
  constructor
  ·exact fun h=>⟨0,Nat.le_refl _,h,fun m _ h2=>by omega⟩
  ·rintro⟨i,h1,h2,_⟩
   obtain rfl:i=0:=by omega
   exact h2
 | j+1=>by
  simp only[clo,Bool.or_eq_true,Bool.and_eq_true,clo_iff (j:=j),isStar,decide_eq_true_eq]
  constructor
  ·rintro (h|⟨⟨i,h1,h2,h3⟩,h4⟩)
   ·exact⟨j+1,Nat.le_refl _,h,fun m h5 h6=>by omega⟩
   ·refine⟨i,by omega,h2,fun m h5 h6=>?_⟩
    by_cases hm:m=j
    ·subst hm; exact h4
    ·exact h3 m h5 (by omega)
  ·rintro⟨i,h1,h2,h3⟩
   by_cases hi:i=j+1
   ·subst hi; exact .inl h2
   ·exact .inr ⟨⟨i,by omega,h2,fun m h5 h6=>h3 m h5 (by omega)⟩,h3 j (by omega) (by omega)⟩
theorem take_succ_some {p:List UInt8} {i:Nat} {a:UInt8} (h:p[i]? = some a):p.take (i+1)=p.take i++[a]:=by
 rw[List.take_add_one,h]
 rfl
theorem start_at {s:UInt8→UInt8→Bool} {p:List UInt8}:∀ {i:Nat},i≤p.length→startS p i=atS s p [] i
 | 0,_=>by
  simp only[startS,clo,decide_true]
  unfold atS
  by_cases h:isStar p 0=true
  ·rw[if_pos h]
   simp only[isStar,decide_eq_true_eq] at h
   rw[take_succ_some h]
   rw[gm_snoc42_nil]
   rfl
  ·rw[if_neg h]
   rfl
 | i+1,hi=>by
  have ih:=start_at (s:=s) (p:=p) (i:=i) (by omega)
  unfold startS at ih ⊢
  simp only[clo]
  rw[decide_eq_false (by omega),Bool.false_or,ih]
  have hlt:i<p.length:=by omega
  obtain⟨a,ha⟩:∃ a,p[i]? = some a:=⟨_,List.getElem?_eq_getElem hlt⟩
  have e:gm s (p.take (i+1)) []=(gm s (p.take (i+1)) [] && isStar p i):=by
   by_cases h42:a=42
   ·subst h42
    simp[isStar,ha]
   ·rw[take_succ_some ha,gm_snoc_nil h42]
    rfl
  have e2:(atS s p [] i && isStar p i)=gm s (p.take (i+1)) []:=by
   rw[e]
   unfold atS
   by_cases h:isStar p i=true
   ·rw[if_pos h]
   ·simp[Bool.eq_false_iff.2 h]
  rw[e2]
  unfold atS
  by_cases h:isStar p (i+1)=true
  ·rw[if_pos h]
   simp only[isStar,decide_eq_true_eq] at h
   rw[take_succ_some h,gm_snoc42_nil]
  ·rw[if_neg h]
theorem step_at {s:UInt8→UInt8→Bool} {p t:List UInt8} {c:UInt8} {r:Nat→Bool} (hr:∀ i,i≤p.length→r i=atS s p t i):∀ {j:Nat},j≤p.length→stepS s p r c j=atS s p (t++[c]) j
 | 0,_=>by
  simp only[stepS,clo,leads,hr 0 (Nat.zero_le _)]
  unfold atS
  by_cases h:isStar p 0=true
  ·rw[if_pos h,if_pos h,h]
   simp only[isStar,decide_eq_true_eq] at h
   rw[take_succ_some h]
   simp only[List.take_zero,List.nil_append,Bool.and_true]
   rw[(gm_any s t:gm s [42] t=true),(gm_any s (t++[c]):gm s [42] _=true)]
  ·rw[if_neg h,if_neg h,Bool.eq_false_iff.2 h,Bool.and_false]
   symm
   rw[Bool.eq_false_iff]
   intro hg
   rw[List.take_zero,gm_nil] at hg
   simp at hg
 | j+1,hj=>by
  have ih:=step_at (c:=c) hr (j:=j) (by omega)
  have hlt:j<p.length:=by omega
  obtain⟨a,ha⟩:∃ a,p[j]? = some a:=⟨_,List.getElem?_eq_getElem hlt⟩
  have h1:stepS s p r c (j+1)=(leads s p r c (j+1) || (stepS s p r c j && isStar p j)):=rfl
  rw[h1,ih]
  simp only[leads,hr (j+1) hj,hr j (by omega)]
  -- what is behind place j+1 without going on
  have key:((atS s p t j && takes s p j c) || (atS s p (t++[c]) j && isStar p j))=gm s (p.take (j+1)) (t++[c]):=by
   by_cases h42:a=42
   ·subst h42
    have hs:isStar p j=true:=by simp[isStar,ha]
    have ht:takes s p j c=false:=by simp[takes,ha]
    rw[ht,hs,Bool.and_false,Bool.false_or,Bool.and_true]
    unfold atS
    rw[if_pos hs]
   ·have hs:isStar p j=false:=by simp[isStar,ha,h42]
    rw[hs,Bool.and_false,Bool.or_false,take_succ_some ha]
    have:atS s p t j=gm s (p.take j) t:=by
     unfold atS
     rw[hs]
     rfl
    rw[this,Bool.eq_iff_iff,gm_snoc h42,Bool.and_eq_true]
    simp only[takes,ha,Bool.and_eq_true,bne_iff_ne,ne_eq,h42,not_false_eq_true,true_and,Bool.or_eq_true,beq_iff_eq]
  rw[Bool.or_assoc,key]
  by_cases h:isStar p (j+1)=true
  ·unfold atS
   rw[if_pos h,if_pos h,h,Bool.and_true]
   simp only[isStar,decide_eq_true_eq] at h
   rw[take_succ_some h,Bool.eq_iff_iff,Bool.or_eq_true,gm_snoc42_snoc]
  ·unfold atS
   rw[if_neg h,if_neg h,Bool.eq_false_iff.2 h,Bool.and_false,Bool.false_or]
theorem run_at {s:UInt8→UInt8→Bool} {p:List UInt8}:∀ (u:List UInt8) {t:List UInt8} {r:Nat→Bool},(∀ i,i≤p.length→r i=atS s p t i)→∀ i,i≤p.length→runS s p u r i=atS s p (t++u) i
 | [],t,r,hr,i,hi=>by rw[List.append_nil]; exact hr i hi
 | c :: u,t,r,hr,i,hi=>by
  have:=run_at u (t:=t++[c]) (r:=stepS s p r c) (fun j hj=>step_at hr hj) i hi
  rw[List.append_assoc] at this
  exact this
theorem at_end {s:UInt8→UInt8→Bool} (p t:List UInt8):atS s p t p.length=gm s p t:=by
 unfold atS
 rw[if_neg (by simp[isStar]),List.take_length]
end
section
set_option linter.unusedSectionVars false
variable [Mx]
open Go
theorem AW.rangeK {P:Program} {f:Operand} {o:Opd} (ho:opdP f=some o) {key:Nat} {ps:Array Tmp} {assign body:Code} (hk:lcP P key=⟨ps,assign,body⟩) {st:St} {fv:AV} (hv:o.ev st.tm=fv) {K:AV→HP→Prop}
  (hcall:RCall P fv st.hp.length (st.hp++[some (.loop st.tm key .ready none)]) K)
  {Q:Exit→St→Prop} (hK:∀ r hp2,K r hp2→∃ tms' key' ls pend,hp2[st.hp.length]? = some (some (.loop tms' key' ls pend))∧ls≠.busy∧match (pend:Option (Option Nat)) with
   | none=>Q .normal ⟨st.tm,hp2.set st.hp.length (some (.loop tms' key' .exhausted pend))⟩
   | some none=>Q .ret ⟨st.tm,hp2.set st.hp.length (some (.loop tms' key' .exhausted pend))⟩
   | some (some i)=>Q (.exit i) ⟨st.tm,hp2.set st.hp.length (some (.loop tms' key' .exhausted pend))⟩):AW P (.rangeFunc f ps assign body) st Q:=by
 intro q Γ a hp hs hl
 have hq0:q=none:=hp.resolve_right (by simp[plainC])
 subst hq0
 show (Code.rangeFunc f ps assign body).wpIn Fence.wide 0 P _ a Γ.w
 refine wpIn_rangeFunc ?_
 intro fn _
 -- the two new blocks
 obtain⟨hA,eA⟩:=hs.hp.newOther (.deferred (some []))
 let Γ1:Cx:=Γ.alloc (.deferred (some []))
 let obj:Obj:=.loop { state:=.ready,pending:=none,fn:=fn,tmps:=a.tmps,params:=ps,assign:=assign,body:=body,defers:=Γ.w.heap.size }
 have hlc:Γ.lc key=⟨ps,assign,body⟩:=by rw[hl,hk]
 let Γ2:Cx:=(Γ1.alloc obj).know (Γ1.w.heap.size,0)
 have hsz:Γ1.w.heap.size=Γ.w.heap.size+1:=by simp[Γ1,Cx.alloc]
 have le12:Le Γ1 Γ2:=(Le.alloc hA.fz obj).trans (Le.know _ _)
 have hB:HSim Γ2 (st.hp++[some (.loop st.tm key .ready none)])∧Ev Γ1 st.hp Γ2 (st.hp++[some (.loop st.tm key .ready none)]):=by
  refine hA.new obj (.loop st.tm key .ready none) ?_
  simp only[BRel]
  refine⟨fn,a.tmps.toList,Γ.w.heap.size,?_,(hs.tm.le eA.le).le le12⟩
  have:(Γ2.w).heap[Γ1.w.heap.size]? = some obj:=alloc_new _ _
  have hl2:Γ2.lc key=⟨ps,assign,body⟩:=hlc
  show Γ2.w.heap[Γ1.w.heap.size]? = _
  rw[this,hl2]
  simp only[obj,pendC]
 obtain⟨hB1,eB⟩:=hB
 have eAB:Ev Γ st.hp Γ2 (st.hp++[some (.loop st.tm key .ready none)]):=eA.trans eB
 have hn:Γ1.n=st.hp.length:=hA.len.symm
 have hyld:VRel Γ2 (.yld st.hp.length) (.func (.yield (Γ.w.heap.size+1)) #[] #[]):=by
  simp only[VRel]
  refine⟨by show st.hp.length<Γ1.n+1; omega,?_⟩
  have:(Γ2.β st.hp.length).1=Γ1.w.heap.size:=by simp[Γ2,Cx.know,Cx.alloc,hn]
  rw[this,hsz]
 have hfv:VRel Γ fv (a.eval f):=by rw[← hv]; exact opd_rel hs.hp.gl hs.tm ho
 -- what the call's function is
 have hfun:∃ (g:FuncId) (xs:List AV) (first caps:List Value),a.eval f=.func (.func g) ⟨first⟩ ⟨caps⟩∧VRels Γ2 xs (first++.func (.yield (Γ.w.heap.size+1)) #[] #[] :: caps)∧ACalls P g xs (st.hp++[some (.loop st.tm key .ready none)]) K:=by
  cases fv<;>simp only[RCall] at hcall
  case func g caps =>
   simp only[VRel] at hfv
   obtain⟨vs,h1,h2⟩:=hfv
   refine⟨g,_,[],vs,h1,?_,hcall⟩
   simp only[List.nil_append,VRels]
   exact⟨_,_,rfl,hyld,h2.le eAB.le⟩
  case bound g first =>
   simp only[VRel] at hfv
   obtain⟨vs,h1,h2⟩:=hfv
   refine⟨g,_,vs,[],h1,?_,hcall⟩
   exact (h2.le eAB.le).append (by simp only[VRels]; exact⟨_,_,rfl,hyld,rfl⟩)
 obtain⟨g,xs,first,caps,hf,hxs,hac⟩:=hfun
 obtain⟨⟨gfn,hgfn,hname,hbody⟩,hc⟩:=hac
 have hw2:Γ2.w=(Γ.w.alloc (.deferred (some []))).alloc obj:=rfl
 refine⟨Γ.w.heap.size+1,[{ target:=.collected Γ.w.heap.size,args:=#[] }],Γ2.w,{ target:=.fn (.func g) ⟨caps⟩,args:=⟨first⟩ ++ #[.func (.yield (Γ.w.heap.size+1)) #[] #[]] },Γ2.w,g,⟨first++.func (.yield (Γ.w.heap.size+1)) #[] #[] :: caps⟩,Γ2.w,?_,?_,fun _ _=>trivial,?_,(by intro h; cases h),?_⟩
 ·exact run_enterLoop_outer _ _ _ _ _
 ·simp only[resolve,hf]
  simp[Deferred.ofValue,Act.eval]
 ·have hn' : ¬ gfn.name = "runtime.NumGoroutine" := by simpa using hname
  have hb':¬ gfn.body=none:=by intro hb; rw[hb] at hbody; cases hbody
  simp[invoke,callFunc,hgfn,hn',hb']
 ·refine Fw_calls none (Calls.mono (hc Γ2 _ hB1 (eAB.le.lc.trans hl) hxs) ?_)
  rintro e w' ⟨v,a2,b2,Δ,rfl,rfl,h5,h6,h7,hkk⟩
  obtain⟨tms',key',ls,pend,hb,hne,hq⟩:=hK _ _ hkk
  obtain⟨fn',vs',d',e1,e2,turn⟩:=loop_turn h6 hb
  obtain⟨hT,eT⟩:=turn .exhausted pend
  have hβ:(Δ.β st.hp.length).1=Γ.w.heap.size+1:=by
   rw[h7.le.β _ (by show st.hp.length<Γ1.n+1; omega)]
   have:(Γ2.β st.hp.length).1=Γ1.w.heap.size:=by simp[Γ2,Cx.know,Cx.alloc,hn]
   rw[this,hsz]
  have hend:=run_endLoop (P:=P) e1 hne
  rw[hβ] at hend
  refine⟨pendC pend,_,hend,?_⟩
  -- the state behind
  let o':Obj:=.loop { state:=.exhausted,pending:=pendC pend,fn:=fn',tmps:=⟨vs'⟩,params:=(Δ.lc key').params,assign:=(Δ.lc key').assign,body:=(Δ.lc key').body,defers:=d' }
  let Θ:Cx:=Δ.setB (Δ.β st.hp.length).1 o'
  have eΘ:Ev Γ st.hp Θ (b2.set st.hp.length (some (.loop tms' key' .exhausted pend))):=(eAB.trans h7).trans eT
  have hwΘ:Θ.w=Δ.w.putObj (Γ.w.heap.size+1) o':=by
   show setB Δ.w (Δ.β st.hp.length).1 o'=_
   rw[hβ]
   rfl
  have marks:MarksOk Θ (b2.set st.hp.length (some (.loop tms' key' .exhausted pend))) ({ target:=.collected Γ.w.heap.size,args:=#[] } :: a.defers):=by
   obtain⟨q0,ks,q1,q2,q3⟩:=hs.df.ev eΘ
   have old:=hs.df
   have hk0:Γ1.w.heap[Γ.w.heap.size]? = some (.deferred (some [])):=alloc_new _ _
   have hk1:MarksOk Γ1 st.hp [{ target:=.collected Γ.w.heap.size,args:=#[] }]:=by
    refine⟨Nat.le_trans hs.df.1 eA.size,[Γ.w.heap.size],rfl,by simp,fun k hk=>?_⟩
    simp only[List.mem_singleton] at hk
    subst hk
    refine⟨hk0,?_,?_,hs.df.1⟩
    ·rintro⟨i,x,hx,e⟩
     have:=(hs.hp.blk i x hx).2.2
     have e':(Γ.β i).1=Γ.w.heap.size:=e
     omega
    ·intro hf
     have:=hs.hp.fz _ hf
     omega
   obtain⟨_,ks1,p1,p2,p3⟩:=hk1.ev ((eB.trans h7).trans eT)
   have hks1:ks1=[Γ.w.heap.size]:=by
    rcases ks1 with _|⟨x,_|⟨y,l⟩⟩<;>simp at p1
    rw[← p1]
   refine⟨q0,Γ.w.heap.size :: ks,by rw[q1]; rfl,?_,?_⟩
   ·rw[List.nodup_cons]
    refine⟨fun hm=>?_,q2⟩
    obtain⟨_,ks0,o1,o2,o3⟩:=old
    have hsame:ks0=ks:=by
     have:(ks0.map fun k=>({ target:=.collected k,args:=#[] }:Deferred))=ks.map fun k=>({ target:=.collected k,args:=#[] }:Deferred):=by rw[← o1,← q1]
     exact (List.map_inj_right (fun x y hxy=>by simpa using hxy)).1 this
    subst hsame
    have:=(Array.getElem?_eq_some_iff.1 (o3 _ hm).1).1
    omega
   ·intro k hk
    rcases List.mem_cons.1 hk with rfl|hk
    ·exact p3 _ (by rw[hks1]; simp)
    ·exact q3 k hk
  have hss:SSim Θ ⟨st.tm,b2.set st.hp.length (some (.loop tms' key' .exhausted pend))⟩ { a with defers:=[{ target:=.collected Γ.w.heap.size,args:=#[] }]++a.defers }:=⟨hs.tm.le eΘ.le,hT,marks⟩
  rw[← hwΘ]
  cases pend with
  | none=>exact⟨Θ,_,rfl,hss,eΘ,hq⟩
  | some p=>cases p with
   | none=>exact wpIn_ret ⟨Θ,_,rfl,hss,eΘ,hq⟩
   | some i=>exact wpIn_exit ⟨Θ,_,rfl,hss,eΘ,hq⟩
theorem ARound.ofK {P:Program} {id:Nat} {xs:List AV} {hp:HP} {tms:List AV} {key:Nat} (hb:hp[id]? = some (some (.loop tms key .ready none))) {ps:Array Tmp} {assign body:Code} (hk:lcP P key=⟨ps,assign,body⟩) (hpl:(plainC assign && plainC body)=true) (hps:xs.length=ps.size)
  {A:List AV→HP→Prop} {K:AV→HP→Prop} (ha:AW P assign ⟨setPs tms ps.toList xs,hp⟩ fun e st'=>e=.normal∧A st'.tm st'.hp)
  (hbody:∀ tm hp1,A tm hp1→∃ tms1 key1 pd1,hp1[id]? = some (some (.loop tms1 key1 .ready pd1))∧AW P body ⟨tm,hp1.set id (some (.loop tms1 key1 .busy pd1))⟩ fun e' st' => ∃ pe tms3 key3 ls3 pd3,pendOf e'=some pe∧st'.hp[id]? = some (some (.loop tms3 key3 ls3 pd3))∧K (.bool pe.isNone) (st'.hp.set id (some (.loop tms3 key3 (if pe.isNone then .ready else .done) pe)))) :
  ARound P id xs hp K:=by
 intro q Γ vs hh hl hv hid
 simp only[Bool.and_eq_true] at hpl
 obtain⟨h1,h2,h3⟩:=hh.blk id _ hb
 simp only[BRel] at h1
 obtain⟨fn,us,d,e1,e2⟩:=h1
 have hlc:Γ.lc key=⟨ps,assign,body⟩:=by rw[hl,hk]
 rw[hlc] at e1
 have hsize:(⟨vs⟩:Array Value).size=ps.size:=by have:=hv.length; simp only[List.size_toArray]; omega
 refine⟨fn,_,assign,body,run_yield e1 hsize,?_⟩
 have hQ:(Fw q).inRound (Γ.β id).1=Fw (some (Γ.β id).1):=by cases q<;>rfl
 refine roundIn_of_wpIn (Fw_fn q fn) ?_
 rw[hQ]
 have hrel:VRels Γ (setPs tms ps.toList xs) ((ps.zip ⟨vs⟩).foldl (fun (t:Array Value) (x:Nat × Value)=>t.setIfInBounds x.1 x.2) (⟨us⟩:Array Value)).toList:=by
  have:=setPs_rel (ps:=ps.toList) e2 hv
  have key:∀ (l:List (Nat × Value)) (t:Array Value),(l.foldl (fun t (x:Nat × Value)=>t.setIfInBounds x.1 x.2) t).toList=l.foldl (fun t (x:Nat × Value)=>t.set x.1 x.2) t.toList:=by
   intro l
   induction l with
   | nil=>intro t; rfl
   | cons x l ih=>intro t; simp only[List.foldl_cons]; rw[ih]; simp
  rw[← Array.foldl_toList,key]
  have hz:(ps.zip ⟨vs⟩).toList=ps.toList.zip vs:=by simp
  rw[hz]
  exact this
 let Γ0:=Γ.from_ Γ.w.heap.size
 have hs0:SSim Γ0 ⟨setPs tms ps.toList xs,hp⟩ { tmps:=(ps.zip ⟨vs⟩).foldl (fun (t:Array Value) (x:Nat × Value)=>t.setIfInBounds x.1 x.2) (⟨us⟩:Array Value),defers:=[] }:=⟨hrel.le (Le.from_ _ _),hh.from_ _,MarksOk.nil (Nat.le_refl _) _⟩
 refine wpIn_mono (ha (some (Γ.β id).1) Γ0 _ (.inr hpl.1) hs0 hl) ?_
 rintro e0 a1 w1 ⟨Δ,st1,rfl,k1,k2,rfl,k3⟩
 obtain⟨tms1,key1,pd1,hb1,hbody⟩:=hbody _ _ k3
 have hβ1:Δ.β id=Γ.β id:=k2.le.β id hid
 have hh1:HSim Δ st1.hp:=k1.hp
 obtain⟨fn1,us1,d1,f1,f2,turn1⟩:=loop_turn hh1 hb1
 obtain⟨hT1,eT1⟩:=turn1 .busy pd1
 rw[hβ1] at f1
 refine⟨_,run_beginRound f1 rfl,?_⟩
 let Δ1:Cx:=Δ.setB (Δ.β id).1 (.loop { state:=.busy,pending:=pendC pd1,fn:=fn1,tmps:=⟨us1⟩,params:=(Δ.lc key1).params,assign:=(Δ.lc key1).assign,body:=(Δ.lc key1).body,defers:=d1 })
 have hw1:Δ1.w=Δ.w.putObj (Γ.β id).1 (.loop { state:=.busy,pending:=pendC pd1,fn:=fn1,tmps:=⟨us1⟩,params:=(Δ.lc key1).params,assign:=(Δ.lc key1).assign,body:=(Δ.lc key1).body,defers:=d1 }):=by
  show setB Δ.w (Δ.β id).1 _=_
  rw[hβ1]
  rfl
 have e01:Ev Γ0 hp Δ1 (st1.hp.set id (some (.loop tms1 key1 .busy pd1))):=by
  exact k2.trans eT1
 have hs1:SSim Δ1 ⟨st1.tm,st1.hp.set id (some (.loop tms1 key1 .busy pd1))⟩ a1:=⟨k1.tm.le eT1.le,hT1,k1.df.ev eT1⟩
 rw[← hw1]
 refine wpIn_mono (hbody (some (Γ.β id).1) Δ1 a1 (.inr hpl.2) hs1 (e01.le.lc.trans hl)) ?_
 rintro e' a2 w2 ⟨Θ,st2,rfl,m1,m2,pe,tms3,key3,ls3,pd3,hpe,hb3,hKK⟩
 have hh3:HSim Θ st2.hp:=m1.hp
 have m2':=m2
 have hβ3:Θ.β id=Γ.β id:=(e01.trans m2').le.β id hid
 obtain⟨fn3,us3,d3,g1,g2,turn3⟩:=loop_turn hh3 hb3
 rw[hβ3] at g1
 have fin:∀ (jump:Option Code),jump=pendC pe→(jump.isNone=pe.isNone)→∃ v w',(Instr.endRound (Γ.β id).1 jump).run P Θ.w=.ok v w'∧∃ v' r hp' Δ',Ending.returned v=.returned v'∧Δ'.w=w'∧VRel Δ' r v'∧HSim Δ' hp'∧Ev Γ hp Δ' hp'∧K r hp':=by
  rintro jump rfl hj
  obtain⟨hT3,eT3⟩:=turn3 (if pe.isNone then .ready else .done) pe
  refine⟨_,_,run_endRound (pendC pe) g1,?_⟩
  let Ψ:Cx:=Θ.setB (Θ.β id).1 (.loop { state:=if pe.isNone then .ready else .done,pending:=pendC pe,fn:=fn3,tmps:=⟨us3⟩,params:=(Θ.lc key3).params,assign:=(Θ.lc key3).assign,body:=(Θ.lc key3).body,defers:=d3 })
  have eAll:Ev Γ0 hp Ψ (st2.hp.set id (some (.loop tms3 key3 (if pe.isNone then .ready else .done) pe))):=(e01.trans m2').trans eT3
  refine⟨_,.bool pe.isNone,_,Ψ.from_ Γ.s0,rfl,?_,by simp only[VRel,hj],hT3.from_ _,eAll.from_,hKK⟩
  show setB Θ.w (Θ.β id).1 _=_
  rw[hβ3,hj]
  rfl
 cases e'<;>simp only[pendOf,Option.some.injEq,reduceCtorEq] at hpe<;>subst hpe<;>simp only[roundPost]
 ·exact fin none rfl rfl
 ·exact fin _ rfl rfl
 ·exact fin _ rfl rfl
theorem vcE.rangeF {P:Program} {hint:Nat→Nat} {T:Tab} {n:Nat} {key nt:Nat} {o:Opd} {tm:Env} {hp:HP} {Q:Exit→Env→HP→Prop} {g:FuncId} {caps:List AV} (hv:evE tm o=.func g caps)
  (h:∀ l,Is n tm l→ACalls P g (.yld hp.length :: caps) (hp++[some (.loop l key .ready none)]) fun r hp2 => ∃ tms' key' ls pend,hp2[hp.length]? = some (some (.loop tms' key' ls pend))∧ls≠.busy∧Q (exitOf pend) tm (hp2.set hp.length (some (.loop tms' key' .exhausted pend)))):vcE P hint T n (.rangeF key nt o) tm hp Q:=by
 intro _ _ hok l Q' hl hq
 simp only[okS,Bool.and_eq_true] at hok
 show RangeW P key nt o ⟨l,hp⟩ Q'
 intro f ps a b ho hk
 have hev:o.ev l=.func g caps:=by rw[hl.ev hok.2,hv]
 refine AW.rangeK ho hk (st:=⟨l,hp⟩) (fv:=.func g caps) hev (h l hl) ?_
 rintro r hp2 ⟨tms',key',ls,pend,h1,h2,h3⟩
 refine⟨tms',key',ls,pend,h1,h2,?_⟩
 rcases pend with _|_|i
 ·exact hq _ _ _ _ hl h3
 ·exact hq _ _ _ _ hl h3
 ·exact hq _ _ _ _ hl h3
theorem AW.ofE {P:Program} (hm:P.follows .mixedOrders=true) {T:Tab} (hT:TabOk P T) {hint:Nat→Nat} {c:Code} {ic:IC} (hc:compC P hint c=some ic) (hpl:plainC c=true) {n:Nat} (hok:okS n ic=true) {tm:Env} {hp:HP} {l:List AV} (hl:Is n tm l) {Q:Exit→Env→HP→Prop} (hng:∀ l tm hp,¬ Q (.goto l) tm hp) (h:Gi.vcE P hint T n ic tm hp Q) :
  AW P c ⟨l,hp⟩ fun e st' => ∃ tm',Is n tm' st'.tm∧Q e tm' st'.hp:=by
 refine vc_sound hm hc (fun x hx=>by rw[plain_keys hpl] at hx; cases hx) (by rintro l st ⟨tm',_,h1⟩; exact hng _ _ _ h1) ?_
 refine h hm hT hok l _ hl ?_
 intro e' tm' hp2 l' hl' hq
 exact⟨tm',hl',hq⟩
theorem round_e {P:Program} (hm:P.follows .mixedOrders=true) {T:Tab} (hT:TabOk P T) {key:Nat} {li:LI} (hL:LOk P key li) {id:Nat} {tms xs:List AV} {hp:HP} (hb:hp[id]? = some (some (.loop tms key .ready none))) (hps:xs.length=li.ps.length) {tm:Env} (ht:Is li.nt tm (setPs tms li.ps xs)) {K:AV→HP→Prop}
  (h:∀ hint,vcE P hint T li.nt li.a tm hp fun e tm1 hp1=>e=.normal∧∃ tms1 key1 pd1,hp1[id]? = some (some (.loop tms1 key1 .ready pd1))∧vcE P hint T li.nt li.b tm1 (hp1.set id (some (.loop tms1 key1 .busy pd1))) fun e' tm3 hp3 => ∃ pe tms3 key3 ls3 pd3,pendOf e'=some pe∧hp3[id]? = some (some (.loop tms3 key3 ls3 pd3))∧K (.bool pe.isNone) (hp3.set id (some (.loop tms3 key3 (if pe.isNone then .ready else .done) pe)))) :
  ARound P id xs hp K:=by
 obtain⟨hint,k1,k2,k3,k4,k5⟩:=hL
 have hk2:=k2
 simp only[Bool.and_eq_true] at hk2 k5
 have ha:=AW.ofE hm hT k3 hk2.1 k5.1 (l:=setPs tms li.ps xs) ht (by rintro l tm hp ⟨h1,_⟩; cases h1) (h hint)
 refine ARound.ofK hb (ps:=(lcP P key).params) (assign:=(lcP P key).assign) (body:=(lcP P key).body) rfl k2 (by rw[hps,← k1,Array.length_toList]) (A:=fun tm1 hp1 => ∃ tm',Is li.nt tm' tm1∧∃ tms1 key1 pd1,hp1[id]? = some (some (.loop tms1 key1 .ready pd1))∧vcE P hint T li.nt li.b tm' (hp1.set id (some (.loop tms1 key1 .busy pd1))) fun e' tm3 hp3 => ∃ pe tms3 key3 ls3 pd3,pendOf e'=some pe∧hp3[id]? = some (some (.loop tms3 key3 ls3 pd3))∧K (.bool pe.isNone) (hp3.set id (some (.loop tms3 key3 (if pe.isNone then .ready else .done) pe)))) ?_ ?_
 ·rw[k1]
  exact ha.mono fun e st' ⟨tm',h1,h2,h3⟩=>⟨h2,tm',h1,h3⟩
 ·rintro tm1 hp1 ⟨tm',h1,tms1,key1,pd1,h2,h3⟩
  refine⟨tms1,key1,pd1,h2,?_⟩
  exact (AW.ofE hm hT k4 hk2.2 k5.2 h1 (by rintro l tm hp ⟨pe,_,_,_,_,h,_⟩; cases h) h3).mono fun e st' ⟨tm',_,h⟩=>h
theorem Is.setP {n:Nat} {tm:Env} {l:List AV} (h:Is n tm l) (p:Nat) (x:AV):Is n (upd tm p x) (setPs l [p] [x]):=h.put (d:=some p) (v:=x)
theorem vcE.callY {P:Program} {hint:Nat→Nat} {T:Tab} {n:Nat} {d:Option Nat} {xs:List Opd} {g:Option (Nat × Bool)} {tm:Env} {hp:HP} {Q:Exit→Env→HP→Prop} {id:Nat} {ys:List AV} {K:AV→HP→Prop} (hw:wantedE tm g=true) (he:evsE tm xs=.yld id :: ys) (hc:ARound P id ys hp K) (hk:∀ r hp',K r hp'→Q .normal (putE tm d r) hp'):vcE P hint T n (.reg [⟨d,.call none,xs,g⟩]) tm hp Q:=by
 intro hm hT hs l Q' hl hq
 simp only[okS,List.all_cons,List.all_nil,Bool.and_true,IOp.inR,Bool.and_eq_true] at hs
 obtain⟨⟨h1,h2⟩,h3⟩:=hs
 show vop P _ _ _
 unfold vop
 rw[if_pos (by rw[hl.wanted h3]; exact hw)]
 simp only
 rw[hl.evs h1,he]
 exact hc.mono fun r hp' hr=>hq _ _ _ _ hl.put (hk r hp' hr)
end
section
set_option linter.unusedSectionVars false
variable [Mx]
section
open Go Go.Proofs
def rowB (N:Nat) (b:Nat→Bool):List Bool:=(List.range N).map b
theorem rowB_len (N:Nat) (b:Nat→Bool):(rowB N b).length=N:=by simp[rowB]
theorem rowB_get {N:Nat} {b:Nat→Bool} {i:Nat} (h:i<N):(rowB N b)[i]? = some (b i):=by simp[rowB,h]
theorem rowB_set {N:Nat} {b:Nat→Bool} {i:Nat} (h:i<N):(rowB N b).set i true=rowB N (fun j=>b j || decide (j=i)):=by
 apply List.ext_getElem?
 intro j
 rw[List.getElem?_set]
 by_cases hj:j<N
 ·rw[rowB_get hj]
  by_cases hij:i=j
  ·subst hij
   rw[if_pos rfl,if_pos (by rw[rowB_len]; exact h),rowB_get h]
   simp
  ·rw[if_neg hij,rowB_get hj,decide_eq_false (fun e=>hij e.symm),Bool.or_false]
 ·rw[if_neg (by omega),List.getElem?_eq_none (by rw[rowB_len]; omega),List.getElem?_eq_none (by rw[rowB_len]; omega)]
theorem rowB_congr {N:Nat} {b b':Nat→Bool} (h:∀ i,i<N→b i=b' i):rowB N b=rowB N b':=by
 simp only[rowB]
 exact List.map_congr_left fun i hi=>h i (List.mem_range.1 hi)
theorem rowB_false (N:Nat):rowB N (fun _=>false)=List.replicate N false:=by
 rw[List.eq_replicate_iff]
 exact⟨rowB_len _ _,fun b hb=>by simp only[rowB,List.mem_map] at hb; obtain⟨_,_,h⟩:=hb; exact h.symm⟩
def nP (p:List UInt8) (f:Bool):AV:=.fptr [.str p,.bool f] 0
theorem nP_nid (p:List UInt8) (f:Bool):nid (nP p f)=true:=rfl
def nSt (p:List UInt8):Nat:=if p=[] then 0 else p.length+1
theorem pStates (p:List UInt8) (f:Bool) (hl:p.length≤4611686018427387904):PCF Tryz.prog 115 [nP p f] (.int .i64 (nSt p)):=by
 refine pcf_e hmG (TabOk.none _) comp115 (by decide) (by simp) (nidL_ok rfl) ?_
 unfold nSt
 by_cases h:p=[]
 ·refine vcE.ex (by simp (disch:=first|assumption|omega) only[go_sem,↓reduceIte,Nat.reduceEqDiff,reduceCtorEq,nP,nilchkA,isNilA]; rfl) ?_
  refine⟨_,rfl,?_⟩
  rw[if_pos h]
  rfl
 ·refine vcE.ex (by simp (disch:=first|assumption|omega) only[go_sem,↓reduceIte,Nat.reduceEqDiff,reduceCtorEq,nP,nilchkA,isNilA]; rfl) ?_
  refine⟨_,rfl,?_⟩
  rw[if_neg h]
  rfl
theorem pPattern (p:List UInt8) (f:Bool):PCF Tryz.prog 58 [nP p f] (.tup [.str p,.bool f]):=by
 refine pcf_e hmG (TabOk.none _) comp58 (by decide) (by simp) (nidL_ok rfl) ?_
 refine vcE.ex (by simp (disch:=omega) only[go_sem,↓reduceIte,Nat.reduceEqDiff,reduceCtorEq,nP,nilchkA,isNilA]; rfl) ?_
 exact⟨_,rfl,rfl⟩
def rch (p:List UInt8) (a:Nat):Nat→Bool:=clo p fun i=>decide (i=a)
theorem rch_iff {p:List UInt8} {a j:Nat}:rch p a j=true↔a≤j∧∀ m,a≤m→m<j→p[m]? = some 42:=by
 unfold rch
 rw[clo_iff]
 constructor
 ·rintro⟨i,h1,h2,h3⟩
  simp only[decide_eq_true_eq] at h2
  subst h2
  exact⟨h1,h3⟩
 ·rintro⟨h1,h2⟩
  exact⟨a,h1,by simp,h2⟩
def rowBlk (N:Nat) (b:Nat→Bool):Option Blk:=some (.row 4 (encT.cs (rowB N b)))
theorem cCome (p:List UInt8) (f:Bool) (hl:p.length≤4611686018427387904) {hp:HP} {id:Nat} {b:Nat→Bool} {lo:Nat} {ex:Bool} (h:hp[id]? = some (rowBlk (p.length+1) b)) {a:Nat} (ha:a≤p.length) :
  ACalls Tryz.prog 116 [nP p f,.sl id 0 (p.length+1) 1 lo ex,.int .i64 a] hp fun r hp'=>hp'=hp.set id (rowBlk (p.length+1) fun j=>b j || rch p a j):=by
 refine calls_e hmG (TabOk.none _) comp116 (by decide) (by simp) ?_
 have hst:∀ {hp:HP} {b:Nat→Bool} {i:Nat},hp[id]? = some (rowBlk (p.length+1) b)→i≤p.length→storeA hp 1 (.ptr id i) (.bool true)=some (hp.set id (rowBlk (p.length+1) fun j=>b j || decide (j=i))):=fun {hp b i} h hi=>by
  have:=encT.sl_store1 (l:=rowB (p.length+1) b) (e:=4) rfl h (i:=i) (by rw[rowB_len]; omega) (b:=true) (v:=.bool true) rfl (by simp)
  rw[rowB_set (by omega)] at this
  exact this
 have h1:=hst h ha
 refine vcE.step (by simp (disch:=omega) only[go_sem,↓reduceIte,Nat.reduceEqDiff,iaddr_sl1,↓h1]; rfl) (vcE.block (vcE.loop (by intro l tm hp h; simp[RetE] at h) (fun m tm hp' => ∃ k,a≤k∧k≤p.length∧m=p.length - k∧(∀ m,a≤m→m<k→p[m]? = some 42)∧tm 0=nP p f∧tm 1=.sl id 0 (p.length+1) 1 lo ex∧tm 2=.int .i64 k∧hp'=hp.set id (rowBlk (p.length+1) fun j=>b j || decide (a≤j∧j≤k))) (p.length - a) ⟨a,Nat.le_refl _,ha,rfl,fun m h1 h2=>by omega,?_,?_,?_,?_⟩ ?_))
 ·rfl
 ·rfl
 ·rfl
 ·congr 2
  funext j
  congr 1
  rw[decide_eq_decide]
  omega
 ·rintro m tm hp' ⟨k,hak,hkl,rfl,hstar,e0,e1,e2,rfl⟩
  have hh:(hp.set id (rowBlk (p.length+1) fun j=>b j || decide (a≤j∧j≤k)))[id]? = some (rowBlk (p.length+1) fun j=>b j || decide (a≤j∧j≤k)):=set_get h
  have fin:(p[k]?≠some 42)→hp.set id (rowBlk (p.length+1) fun j=>b j || decide (a≤j∧j≤k))=hp.set id (rowBlk (p.length+1) fun j=>b j || rch p a j):=fun hne=>by
   congr 2
   funext j
   congr 1
   rw[Bool.eq_iff_iff,rch_iff,decide_eq_true_eq]
   constructor
   ·rintro⟨h1,h2⟩
    exact⟨h1,fun m h3 h4=>hstar m h3 (by omega)⟩
   ·rintro⟨h1,h2⟩
    refine⟨h1,?_⟩
    by_cases hjk:j≤k
    ·exact hjk
    ·exact absurd (h2 k hak (by omega)) hne
  by_cases hk:k<p.length
  ·obtain⟨c,hc⟩:∃ c,p[k]? = some c:=⟨_,List.getElem?_eq_getElem hk⟩
   by_cases h42:c.toNat=42
   ·have h2:=hst (i:=k+1) hh (by omega)
    have hk1:((k:Int)+1)=((k+1:Nat):Int):=rfl
    refine vcE.ex (by simp (disch:=omega) only[go_sem,↓reduceIte,e2,reduceCtorEq,e0,nP,nilchkA,Nat.reduceEqDiff,hc,h42,hk1,e1,iaddr_sl1,↓h2]; rfl) ?_
    refine⟨_,?_,k+1,by omega,hk,rfl,?_,?_,?_,?_,?_⟩
    ·omega
    ·intro m h3 h4
     by_cases hm:m=k
     ·subst hm
      rw[hc]
      congr
      exact UInt8.toNat_inj.1 h42
     ·exact hstar m h3 (by omega)
    ·simp only[upd_app,Nat.reduceEqDiff,↓reduceIte,e0,nP]
    ·simp only[upd_app,Nat.reduceEqDiff,↓reduceIte,e1]
    ·simp only[upd_app,Nat.reduceEqDiff,↓reduceIte]
    ·rw[List.set_set]
     congr 2
     funext j
     rw[Bool.or_assoc]
     congr 1
     rw[Bool.eq_iff_iff]
     simp
     omega
   ·refine vcE.ex (by simp (disch:=omega) only[go_sem,↓reduceIte,Nat.reduceEqDiff,reduceCtorEq,nP,nilchkA,e0,e2,hc]; rfl) ?_
    refine⟨_,rfl,fin ?_⟩
    rw[hc]
    simp only[ne_eq,Option.some.injEq]
    rintro rfl
    exact h42 rfl
  ·refine vcE.ex (by simp (disch:=omega) only[go_sem,↓reduceIte,Nat.reduceEqDiff,reduceCtorEq,nP,nilchkA,e0,e2]; rfl) ?_
   refine⟨_,rfl,fin ?_⟩
   rw[List.getElem?_eq_none (by omega)]
   simp
end
section
open Go Go.Proofs
theorem make_row {hp:HP} {N:Nat} {k k':IntKind} (h:N≤140737488355328):makeA hp 4 [.bool false] 1 (.int k N) (.int k' N)=some (.sl hp.length 0 N 1 N true,hp++[rowBlk N (fun _=>false)]):=by
 simp only[makeA]
 rw[if_pos (by omega),Int.toNat_natCast,encT_zeros,rowBlk,rowB_false]
 rfl
theorem rowBlk_fresh {hp:HP} {id N lo:Nat} {b:Nat→Bool} {ex:Bool} (h:hp[id]? = some (rowBlk N b)):fresh hp (.sl id 0 N 1 lo ex)=some (encT.S (rowB N b)):=by
 have:=encT.sl_fresh (l:=rowB N b) (e:=4) (lo:=lo) (ex:=ex) h
 rw[rowB_len] at this
 exact this
theorem rowBlk_store {hp:HP} {id N i:Nat} {b:Nat→Bool} (h:hp[id]? = some (rowBlk N b)) (hi:i<N):storeA hp 1 (.ptr id i) (.bool true)=some (hp.set id (rowBlk N fun j=>b j || decide (j=i))):=by
 have:=encT.sl_store1 (l:=rowB N b) (e:=4) rfl h (i:=i) (by rw[rowB_len]; omega) (b:=true) (v:=.bool true) rfl (by simp)
 rw[rowB_set hi] at this
 exact this
theorem rowBlk_congr {N:Nat} {b b':Nat→Bool} (h:∀ i,i<N→b i=b' i):rowBlk N b=rowBlk N b':=by
 rw[rowBlk,rowB_congr h]
 rfl
def nV:Option (List UInt8 × Bool)→AV
 | none=>.nilp
 | some (p,f)=>nP p f
def nN:Option (List UInt8 × Bool)→Nat
 | none=>0
 | some (p,_)=>nSt p
def R1.nfa:R1 (Option (List UInt8 × Bool)) where
 v:=nV
 un:=fun
  | .nilp=>some none
  | .fptr [.str p,.bool f] 0=>some (some (p,f))
  | _=>none
 un_v a:=by
  cases a with
  | none=>rfl
  | some a=>rfl
 un_some x a h:=by
  split at h
  ·cases h; rfl
  ·cases h; rfl
  ·cases h
theorem nV_nid (x:Option (List UInt8 × Bool)):nid (nV x)=true:=by
 cases x with
 | none=>rfl
 | some a=>rfl
def nSmall:Option (List UInt8 × Bool)→Prop
 | none=>True
 | some (p,_)=>p.length≤1000000
theorem nN_small {x:Option (List UInt8 × Bool)} (h:nSmall x):nN x≤1000001:=by
 cases x with
 | none=>simp[nN]
 | some a =>
  obtain⟨p,f⟩:=a
  simp only[nSmall] at h
  simp only[nN,nSt]
  split<;>omega
instance (x:Option (List UInt8 × Bool)):Decidable (nSmall x):=by
 cases x with
 | none=>exact isTrue trivial
 | some a=>exact inferInstanceAs (Decidable (a.1.length≤1000000))
theorem pStatesV (x:Option (List UInt8 × Bool)) (h:nSmall x):PCF Tryz.prog 115 [nV x] (.int .i64 (nN x)):=by
 cases x with
 | none =>
  refine pcf_e hmG (TabOk.none _) comp115 (by decide) (by simp) (nidL_ok rfl) ?_
  refine vcE.ex (by simp (disch:=omega) only[go_sem,↓reduceIte,Nat.reduceEqDiff,reduceCtorEq,nV,isNilA]; rfl) ?_
  exact⟨_,rfl,rfl⟩
 | some a =>
  obtain⟨p,f⟩:=a
  simp only[nSmall] at h
  exact pStates p f (by omega)
def H0:Tab:=G1.addO 115 (.cons .nfa .nil) fun p=>if nSmall p.1 then some (.rd true (.int .i64 (nN p.1))) else none
theorem H0_ok:TabOk Tryz.prog H0:=by
 refine TabOk.addO G1_ok ?_
 intro p r h
 split at h
 ·rename_i hs
  cases h
  exact pStatesV p.1 hs
 ·cases h
theorem H0_states (x:Option (List UInt8 × Bool)) (h:nSmall x):H0 115 [nV x]=some (.rd true (.int .i64 (nN x))):=by
 refine (Tab.addO_self _ _ (.cons .nfa .nil) _ (x,())).trans ?_
 rw[if_pos h]
theorem pStart (p:List UInt8) (f:Bool) (h0:p≠[]) (hl:p.length≤1000000):PCF Tryz.prog 91 [nP p f] (encT.S (rowB (p.length+1) (startS p))):=by
 refine pcf_e hmG H0_ok comp91 (by decide) (by simp) (nidL_ok rfl) ?_
 have hN:nN (some (p,f))=p.length+1:=by simp[nN,nSt,h0]
 have hS:=H0_states (some (p,f)) hl
 rw[hN] at hS
 simp only[nV] at hS
 refine vcE.s1 (k:=vcE.step (by simp (disch:=omega) only[go_sem,↓reduceIte,reduceCtorEq,frzL.eq_2,show ∀ hp,frz hp (nP p f)=some (nP p f) from fun _=>rfl,hS,nidL.eq_2,nP_nid,make_row]; rfl) ?_)
 refine vcE.seq (vcE.s1 (k:=vcE.condTrue (by simp (disch:=omega) only[go_sem,↓reduceIte]) ?_))
 rw[show r91_3=r91_3.take 2++r91_3.drop 2 from rfl]
 refine vcE.app (vcE.e1 (k:=⟨rfl,vcE.call (f:=116) (caps:=[]) (ys:=[nP p f,.sl 0 0 (p.length+1) 1 (p.length+1) true,.int .i64 0]) rfl ?_ (cCome p f (by omega) (hp:=[rowBlk (p.length+1) fun _=>false]) (id:=0) (a:=0) rfl (by omega)) ?_⟩))
 ·rfl
 ·rintro r hp' rfl
  refine vcE.e0 ?_
  refine⟨_,rfl,?_⟩
  refine (rowBlk_fresh (N:=p.length+1) (b:=fun j=>false || rch p 0 j) (by rfl)).trans ?_
  simp only[Bool.false_or,rch,startS]
def ofS (l:List Int) (j:Nat):Bool:=decide ((j:Int) ∈ l)
theorem pOf (x:Option (List UInt8 × Bool)) (hx:nSmall x) (l:List Int) (hl:l.length≤1000000):PCF Tryz.prog 94 [nV x,encI.S l] (encT.S (rowB (nN x) (ofS l))):=by
 refine pcf_e hmG H0_ok comp94 (by decide) (by simp) (nidL_ok (by simp only[nidL,nV_nid,Enc.S_nid,Bool.and_self])) ?_
 have hS:=H0_states x hx
 have hN:=nN_small hx
 have hnid:=nV_nid x
 have hfz:∀ hp,frz hp (nV x)=some (nV x):=fun hp=>by
  cases x with
  | none=>rfl
  | some a=>rfl
 refine vcE.s1 (k:=vcE.step (by simp (disch:=omega) only[go_sem,↓reduceIte,reduceCtorEq,hS,hnid,hfz,make_row]; rfl) (vcE.then (fun e tm hp=>e=.normal∧tm 5=.sl 0 0 (nN x) 1 (nN x) true∧hp=[rowBlk (nN x) (ofS l)]) ?_ ?_))
 ·refine vcE.s1 (k:=vcE.block (vcE.count (by intro l tm hp h; simp at h)
   (fun i tm hp=>tm 5=.sl 0 0 (nN x) 1 (nN x) true∧tm 11=encI.S l∧tm 12=.int .i64 l.length∧tm 13=.int .i64 i∧hp=[rowBlk (nN x) (ofS (l.take i))]) l.length ⟨?_,?_,?_,?_,?_⟩ ?_ ?_))
  ·rfl
  ·rfl
  ·rfl
  ·rfl
  ·rfl
  ·rintro i tm hp hi ⟨e5,e11,e12,e13,rfl⟩
   obtain⟨a,ha⟩:∃ a,l[i]? = some a:=⟨_,List.getElem?_eq_getElem hi⟩
   have hia:iaddrA 1 (encI.S l) (.int .i64 i)=some (.fptr (encI.cs l) i):=by
    have:=encI.S_iaddr (k:=.i64) hi
    simpa[encI] using this
   have hpick:=encI.pick1 (l:=l) rfl ha (v:=.int .i64 a) rfl rfl
   have htk:l.take (i+1)=l.take i++[a]:=by rw[List.take_add_one,ha]; rfl
   have hsame:¬ (0≤a∧a<nN x)→rowBlk (nN x) (ofS (l.take (i+1)))=rowBlk (nN x) (ofS (l.take i)):=fun hn=>by
    refine rowBlk_congr fun j hj=>?_
    simp only[ofS,htk,List.mem_append,List.mem_singleton]
    congr 1
    apply propext
    constructor
    ·rintro (h|h)
     ·exact h
     ·omega
    ·exact .inl
   by_cases h1:0≤a
   ·by_cases h2:a<nN x
    ·obtain⟨n,rfl⟩:∃ n:Nat,a=n:=⟨a.toNat,by omega⟩
     have hst:=rowBlk_store (hp:=[rowBlk (nN x) (ofS (l.take i))]) (id:=0) (N:=nN x) (i:=n) rfl (by omega)
     refine vcE.ex (by simp (disch:=omega) only[go_sem,↓reduceIte,e13,e12,Nat.reduceEqDiff,e11,hia,↓hpick,e5,iaddr_sl1,↓hst]; rfl) ?_
     refine⟨?_,?_,?_,?_,?_⟩
     ·simp only[upd_app,Nat.reduceEqDiff,↓reduceIte,e5]
     ·simp only[upd_app,Nat.reduceEqDiff,↓reduceIte,e11]
     ·simp only[upd_app,Nat.reduceEqDiff,↓reduceIte,e12]
     ·simp only[upd_app,↓reduceIte]; rfl
     ·refine congrArg (fun b=>[b]) (rowBlk_congr fun j hj=>?_)
      simp only[ofS,htk,List.mem_append,List.mem_singleton]
      rw[Bool.eq_iff_iff]
      simp only[Bool.or_eq_true,decide_eq_true_eq]
      constructor
      ·rintro (h|h)
       ·exact .inl h
       ·exact .inr (by omega)
      ·rintro (h|h)
       ·exact .inl h
       ·exact .inr (by omega)
    ·refine vcE.ex (by simp (disch:=omega) only[go_sem,↓reduceIte,Nat.reduceEqDiff,e5,e11,e12,e13,hia,↓hpick]; rfl) ?_
     refine⟨?_,?_,?_,?_,?_⟩
     ·simp only[upd_app,Nat.reduceEqDiff,↓reduceIte,e5]
     ·simp only[upd_app,Nat.reduceEqDiff,↓reduceIte,e11]
     ·simp only[upd_app,Nat.reduceEqDiff,↓reduceIte,e12]
     ·simp only[upd_app,↓reduceIte]; rfl
     ·rw[hsame (by omega)]
   ·refine vcE.ex (by simp (disch:=omega) only[go_sem,↓reduceIte,Nat.reduceEqDiff,e11,e12,e13,hia,↓hpick]; rfl) ?_
    refine⟨?_,?_,?_,?_,?_⟩
    ·simp only[upd_app,Nat.reduceEqDiff,↓reduceIte,e5]
    ·simp only[upd_app,Nat.reduceEqDiff,↓reduceIte,e11]
    ·simp only[upd_app,Nat.reduceEqDiff,↓reduceIte,e12]
    ·simp only[upd_app,↓reduceIte]; rfl
    ·rw[hsame (by omega)]
  ·rintro tm hp ⟨e5,e11,e12,e13,rfl⟩
   refine vcE.ex (by simp (disch:=omega) only[go_sem,↓reduceIte,e12,e13]; rfl) ?_
   refine⟨rfl,?_,?_⟩
   ·simp only[upd_app,Nat.reduceEqDiff,↓reduceIte,e5]
   ·rw[List.take_length]
 ·rintro e tm hp ⟨rfl,h5,rfl⟩
  refine vcE.ex (by simp only[go_sem,↓reduceIte,h5]; rfl) ?_
  refine⟨_,rfl,?_⟩
  exact rowBlk_fresh (N:=nN x) (id:=0) rfl
theorem encT_iaddr {R:List Bool} {i:Nat} {k:IntKind} (h:i<R.length):iaddrA 1 (encT.S R) (.int k i)=some (.fptr (encT.cs R) i):=by
 have:=encT.S_iaddr (k:=k) h
 simpa[encT] using this
theorem encI_iaddr {R:List Int} {i:Nat} {k:IntKind} (h:i<R.length):iaddrA 1 (encI.S R) (.int k i)=some (.fptr (encI.cs R) i):=by
 have:=encI.S_iaddr (k:=k) h
 simpa[encI] using this
theorem cAll {R:List Bool} (hR:R.length≤4611686018427387904) {id:Nat} {J:Nat→HP→Prop} {S:HP→Prop} {hp0:HP} (h0:J 0 hp0)
  (hstep:∀ i hp,R[i]? = some true→J i hp→ARound Tryz.prog id [.int .i64 i] hp fun r hp'=>(r=.bool true∧J (i+1) hp')∨(r=.bool false∧S hp')) (hskip:∀ i hp,R[i]? = some false→J i hp→J (i+1) hp) :
  ACalls Tryz.prog 135 [.yld id,.fptr [encT.S R] 0] hp0 fun _ hp'=>J R.length hp'∨S hp':=by
 refine calls_e hmG (TabOk.none _) comp135 (by decide) (by simp) ?_
 refine vcE.s1 (k:=vcE.block (vcE.count (by intro l tm hp h; simp[RetE] at h) (fun i tm hp=>J i hp∧tm 0=.yld id∧tm 5=encT.S R∧tm 6=.int .i64 R.length∧tm 7=.int .i64 i) R.length ⟨h0,?_,?_,?_,?_⟩ ?_ ?_))
 ·rfl
 ·rfl
 ·rfl
 ·rfl
 ·rintro i tm hp hi ⟨hJ,e0,e5,e6,e7⟩
  obtain⟨c,hc⟩:∃ c,R[i]? = some c:=⟨_,List.getElem?_eq_getElem hi⟩
  have hpick:=encT.pick1 (l:=R) rfl hc (v:=.bool c) rfl rfl
  have hia:=encT_iaddr (k:=.i64) hi
  cases c
  ·refine vcE.ex (by simp (disch:=omega) only[go_sem,↓reduceIte,Nat.reduceEqDiff,e5,e6,e7,hia,↓hpick]; rfl) ?_
   refine⟨hskip i hp hc hJ,?_,?_,?_,?_⟩
   all_goals simp only[upd_app,Nat.reduceEqDiff,↓reduceIte,e0,e5,e6]
   rfl
  ·refine vcE.step (by simp (disch:=omega) only[go_sem,↓reduceIte,e6,e7]; rfl) (vcE.s0 ?_)
   refine vcE.seq (vcE.block (vcE.step (by simp (disch:=omega) only[go_sem,↓reduceIte,Nat.reduceEqDiff,e5,e7,hia,↓hpick]; rfl) (vcE.seq ?_)))
   rw[show r135_3=r135_3.take 4++((r135_3.drop 4).take 1++r135_3.drop 5) from rfl]
   refine vcE.app (vcE.e1 (k:=⟨rfl,vcE.app (vcE.callY (id:=id) (ys:=[.int .i64 i]) ?_ ?_ (hstep i hp hc hJ) ?_)⟩))
   ·simp only[wantedE,upd_app,Nat.reduceEqDiff,↓reduceIte]
    rfl
   ·simp only[evsE,evE,upd_app,Nat.reduceEqDiff,↓reduceIte,e0]
   ·rintro r hp' (⟨rfl,hJ'⟩|⟨rfl,hS⟩)
    ·refine⟨rfl,vcE.e0 ?_⟩
     refine vcE.e0 ?_
     refine vcE.ex (by simp (disch:=omega) only[go_sem,↓reduceIte,Nat.reduceEqDiff,e7]; rfl) ?_
     refine⟨hJ',?_,?_,?_,?_⟩
     all_goals simp only[upd_app,Nat.reduceEqDiff,↓reduceIte,e0,e5,e6]
     rfl
    ·refine⟨rfl,vcE.e0 ?_⟩
     refine vcE.e0 ?_
     exact⟨_,rfl,.inr hS⟩
 ·rintro tm hp ⟨hJ,e0,e5,e6,e7⟩
  refine vcE.ex (by simp (disch:=omega) only[go_sem,↓reduceIte,e6,e7]; rfl) ?_
  exact⟨_,rfl,.inl hJ⟩
theorem pAll (R:List Bool):PC Tryz.prog 117 [encT.S R] (.func 135 [.fptr [encT.S R] 0]):=by
 refine pc_e hmG (TabOk.none _) comp117 (by decide) (by simp) (nidL_ok (by simp only[nidL,Enc.S_nid,Bool.and_self])) ?_
 refine vcE.e0 ?_
 refine⟨_,rfl,?_⟩
 simp[upd,frz,frzL,nidL,Enc.S_nid]
def H1:Tab:=H0.addR 117 (.cons (.S encT) .nil) fun p=>.rd false (.func 135 [.fptr [encT.S p.1] 0])
theorem H1_ok:TabOk Tryz.prog H1:=TabOk.addR H0_ok fun p=>pAll p.1
theorem H1_all (R:List Bool):H1 117 [encT.S R]=some (.rd false (.func 135 [.fptr [encT.S R] 0])):=Tab.addR_self _ _ (.cons (.S encT) .nil) _ (R,())
end
section
open Go Go.Proofs
def listTo (R:List Bool) (k:Nat):List Int:=((List.range k).filter fun i=>decide (R[i]? = some true)).map fun (i:Nat)=>(i:Int)
theorem listTo_one {R:List Bool} {k:Nat} (h:R[k]? = some true):listTo R (k+1)=listTo R k++[(k:Int)]:=by
 simp[listTo,List.range_succ,List.filter_append,h]
theorem listTo_no {R:List Bool} {k:Nat} (h:R[k]? = some false):listTo R (k+1)=listTo R k:=by
 simp[listTo,List.range_succ,List.filter_append,h]
theorem listTo_len (R:List Bool) (k:Nat):(listTo R k).length≤k:=by
 simp only[listTo,List.length_map]
 exact Nat.le_trans (List.length_filter_le _ _) (by simp)
def listB (R:List Bool):List Int:=listTo R R.length
def LJ (R:List Bool) (l:List AV) (i:Nat) (hp:HP):Prop:=
 ∃ id,hp[0]? = some (some (.row 28 [bld id (listTo R i).length 1]))∧BldAt encI hp id 3 (listTo R i)∧(listTo R i=[]∨2≤id)∧hp[1]? = some (some (.loop l 92000 .ready none))∧i≤R.length
theorem src_int {hp:HP} {e:TypeId} {c:Int} {ex:Bool}:srcA (hp++[some (.row e [.int .i64 c])]) 1 (.sl hp.length 0 1 1 1 ex)=some (encI.cs [c],1):=by
 have:=encI.sl_src (hp:=hp++[some (.row e [.int .i64 c])]) (id:=hp.length) (e:=e) (l:=[c]) (lo:=1) (ex:=ex) (by simp; rfl)
 exact this
theorem list_round {R:List Bool} (hR:R.length≤1000000) {l:List AV} {tm0:Env} (hl:Is 13 tm0 l) (h3:tm0 3=.ptr 0 0) {i:Nat} {hp:HP} (hi:R[i]? = some true) (hJ:LJ R l i hp) :
  ARound Tryz.prog 1 [.int .i64 i] hp fun r hp'=>(r=.bool true∧LJ R l (i+1) hp')∨(r=.bool false∧False):=by
 obtain⟨id,g0,hb,hid,g1,hir⟩:=hJ
 have hil:=(List.getElem?_eq_some_iff.1 hi).1
 have hlen:=listTo_len R i
 refine round_e hmG (TabOk.none _) lok92000 g1 rfl (tm:=upd tm0 7 (.int .i64 i)) (hl.setP 7 _) ?_
 intro hint
 refine vcE.e0 ?_
 refine⟨rfl,l,_,none,g1,?_⟩
 have hb1:hp[1]? = some (some (.loop l 92000 .ready none)):=g1
 generalize hh:hp.set 1 (some (.loop l 92000 .busy none))=h1
 have k0:h1[0]? = some (some (.row 28 [bld id (listTo R i).length 1])):=by rw[← hh,set_get_ne (by omega)]; exact g0
 have k1:h1[1]? = some (some (.loop l 92000 .busy none)):=by rw[← hh]; exact set_get g1
 have kb:BldAt encI h1 id 3 (listTo R i):=by
  rcases hb with hb|hb
  ·exact .inl hb
  ·rcases hid with h|h
   ·exact .inl h
   ·exact .inr (by rw[← hh,set_get_ne (by omega)]; exact hb)
 have kl:2≤h1.length:=get_lt k1
 have happ:=(kb.app [some (.row 3 [.int .i64 (i:Int)])]).more (bytes:=8) (m:=[(i:Int)]) (src_int (ex:=true)) (by simp) (by simp; omega) (by simp; omega)
 simp only[show encI.sz=1 from rfl] at happ
 have hload:(h1)[0]? = some (some (.row 28 [bld id (listTo R i).length 1])):=k0
 have hother:∀ j y,(h1++[some (.row 3 [.int .i64 (i:Int)])])[j]? = some y→((listTo R i).length=0∨j≠id)→(bldH (h1++[some (.row 3 [.int .i64 (i:Int)])]) id (listTo R i).length (.row 3 (encI.cs (listTo R i++[(i:Int)]))))[j]? = some y:=fun j y h h'=>bldH_other h h'
 have hz:(listTo R i).length=0∨(0:Nat)≠id:=by
  rcases hid with h|h
  ·exact .inl (by rw[h]; rfl)
  ·exact .inr (by omega)
 have hz1:(listTo R i).length=0∨(1:Nat)≠id:=by
  rcases hid with h|h
  ·exact .inl (by rw[h]; rfl)
  ·exact .inr (by omega)
 have e0:=hother 0 _ (app_get k0) hz
 have e1:=hother 1 _ (app_get k1) hz1
 have hat:=BldAt.moreAt encI (h1++[some (.row 3 [.int .i64 (i:Int)])]) id (listTo R i).length 3 (listTo R i++[(i:Int)])
 have hlen2:(h1++[some (Blk.row 3 [.int .i64 (i:Int)])]).length=h1.length+1:=by simp
 refine vcE.ex (by simp (disch:=omega) only[go_sem,↓reduceIte,Nat.reduceEqDiff,h3,k0,bld_one,happ,e0,show ∀ a b c,notTup (bld a b c)=true from fun a b c=>by unfold bld; split<;>rfl,bld_cells,Nat.reduceLeDiff]; rfl) ?_
 refine⟨none,l,_,.busy,none,rfl,by rw[set_get_ne (by omega)]; exact e1,.inl ⟨rfl,(h1++[some (Blk.row 3 [.int .i64 (i:Int)])]).length,?_,?_,?_,?_,hil⟩⟩
 ·rw[set_get_ne (by omega),set_get e0,listTo_one hi]
 ·rw[listTo_one hi]
  rcases hat with h|h
  ·simp at h
  ·exact .inr (by rw[set_get_ne (by omega),set_get_ne (by omega)]; exact h)
 ·exact .inr (by omega)
 ·rw[set_get (y:=some (.loop l 92000 .busy none)) (by rw[set_get_ne (by omega)]; exact e1)]
  rfl
theorem cList (R:List Bool) (hR:R.length≤1000000):ACalls Tryz.prog 92 [encT.S R] [] fun r' hp' => ∃ id,r'=bld id (listB R).length 1∧BldAt encI hp' id 3 (listB R):=by
 refine calls_k hmG H1_ok comp92 keys92 (by decide) (by simp) ?_
 refine vcE.s1 (k:=vcE.s1 (k:=vcE.then (fun e tm hp=>e=.normal∧tm 3=.ptr 0 0∧∃ id,hp[0]? = some (some (.row 28 [bld id (listB R).length 1]))∧BldAt encI hp id 3 (listB R)) ?_ ?_))
 ·refine vcE.step (by simp (disch:=omega) only[go_sem,↓reduceIte,reduceCtorEq,H1_all,Enc.S_nid]; rfl) (vcE.block (vcE.rangeF (g:=135) (caps:=[.fptr [encT.S R] 0]) ?_ ?_))
  ·simp only[evE,upd_app,↓reduceIte]
  ·intro l hl
   refine (cAll (R:=R) (by omega) (id:=1) (J:=LJ R l) (S:=fun _=>False) (hp0:=[some (.row 28 [.nils]),some (.loop l 92000 .ready none)]) ⟨0,rfl,.inl rfl,.inl rfl,rfl,Nat.zero_le _⟩ ?_ ?_).mono ?_
   ·intro i hp hi hJ
    exact list_round hR hl (by simp only[upd_app,Nat.reduceEqDiff,↓reduceIte]) hi hJ
   ·rintro i hp hi ⟨id,g0,hb,hid,g1,hir⟩
    have hil:=(List.getElem?_eq_some_iff.1 hi).1
    exact⟨id,by rw[listTo_no hi]; exact g0,by rw[listTo_no hi]; exact hb,by rw[listTo_no hi]; exact hid,g1,hil⟩
   ·rintro r hp' (⟨id,g0,hb,hid,g1,hir⟩|h)
    ·refine⟨l,_,.ready,none,g1,by simp,rfl,?_,id,?_,?_⟩
     ·simp only[upd_app,Nat.reduceEqDiff,↓reduceIte]
     ·rw[set_get_ne (by simp)]
      exact g0
     ·rcases hb with h|h
      ·exact .inl h
      ·rcases hid with h' | h'
       ·exact .inl h'
       ·exact .inr (by rw[set_get_ne (by simp; omega)]; exact h)
    ·exact h.elim
 ·rintro e tm hp ⟨rfl,h3,id,g0,hb⟩
  refine vcE.ex (by simp (disch:=omega) only[go_sem,↓reduceIte,h3,g0,bld_one]; rfl) ?_
  exact⟨_,rfl,id,rfl,hb⟩
theorem pList (R:List Bool) (hR:R.length≤1000000):PCF Tryz.prog 92 [encT.S R] (encI.S (listB R)):=
 pcf_of (nidL_ok (by simp only[nidL,Enc.S_nid,Bool.and_self])) ((cList R hR).mono fun r hp' ⟨id,h1,h2⟩=>by subst h1; exact fresh_ok h2.fresh)
end
end
end Go.Gi
