/- States: a step. -/
/- States: New, Start, Step, Accepts, Run: what they give. -/
/- States: New, Pattern. -/
/- The classes of bytes: dfa.classes: what it gives. -/
/- Regions whose order is drawn, with several ways: each is followed. -/
import Derived.Test.YtakdhioafodhcaaGreatDoorGiNfC
import Derived.Test.YtakdhioafodhcaaGreatDoorGiGlobNL
import Derived.Test.YtakdhioafodhcaaGreatDoorGiXB
set_option linter.unusedVariables false
set_option linter.unusedSimpArgs false
namespace Go.Gi
section
set_option linter.unusedSectionVars false
variable [Mx]
open Go Go.Proofs
def accS (s:UInt8→UInt8→Bool) (p:List UInt8) (r:Nat→Bool) (c:UInt8):Nat→Nat→Bool
 | 0,_=>false
 | i+1,j=>accS s p r c i j || (r i && ((isStar p i && rch p i j) || (takes s p i c && rch p (i+1) j)))
theorem accS_iff {s:UInt8→UInt8→Bool} {p:List UInt8} {r:Nat→Bool} {c:UInt8} {j:Nat}:∀ {i:Nat},accS s p r c i j=true↔∃ k,k<i∧r k=true∧((isStar p k=true∧rch p k j=true)∨(takes s p k c=true∧rch p (k+1) j=true))
 | 0=>by simp[accS]
 | i+1=>by
  simp only[accS,Bool.or_eq_true,Bool.and_eq_true,accS_iff (i:=i)]
  constructor
  ·rintro (⟨k,h1,h2⟩|⟨h1,h2⟩)
   ·exact⟨k,by omega,h2⟩
   ·exact⟨i,by omega,h1,h2⟩
  ·rintro⟨k,h1,h2,h3⟩
   by_cases hk:k=i
   ·subst hk; exact .inr ⟨h2,h3⟩
   ·exact .inl ⟨k,by omega,h2,h3⟩
theorem isStar_end (p:List UInt8):isStar p p.length=false:=by simp[isStar]
theorem takes_end (s:UInt8→UInt8→Bool) (p:List UInt8) (c:UInt8):takes s p p.length c=false:=by simp[takes]
theorem accS_end {s:UInt8→UInt8→Bool} {p:List UInt8} {r:Nat→Bool} {c:UInt8} {j:Nat}:accS s p r c (p.length+1) j=accS s p r c p.length j:=by
 simp[accS,isStar_end,takes_end]
theorem accS_step {s:UInt8→UInt8→Bool} {p:List UInt8} {r:Nat→Bool} {c:UInt8} {j:Nat}:accS s p r c p.length j=stepS s p r c j:=by
 rw[Bool.eq_iff_iff,accS_iff,stepS,clo_iff]
 constructor
 ·rintro⟨k,h1,h2,⟨h3,h4⟩|⟨h3,h4⟩⟩
  ·rw[rch_iff] at h4
   refine⟨k,h4.1,?_,h4.2⟩
   cases k with
   | zero=>simp only[leads,h2,h3,Bool.and_self]
   | succ k=>simp only[leads,h2,h3,Bool.and_self,Bool.true_or]
  ·rw[rch_iff] at h4
   exact⟨k+1,h4.1,by simp only[leads,h2,h3,Bool.and_self,Bool.or_true],h4.2⟩
 ·rintro⟨i,h1,h2,h3⟩
  have hs:isStar p i=true→i<p.length:=fun h=>by
   simp only[isStar,decide_eq_true_eq] at h
   exact (List.getElem?_eq_some_iff.1 h).1
  have ht:∀ i,takes s p i c=true→i<p.length:=fun i h=>by
   unfold takes at h
   split at h
   ·rename_i a ha
    exact (List.getElem?_eq_some_iff.1 ha).1
   ·cases h
  cases i with
  | zero =>
   simp only[leads,Bool.and_eq_true] at h2
   exact⟨0,hs h2.2,h2.1,.inl ⟨h2.2,rch_iff.2 ⟨h1,h3⟩⟩⟩
  | succ i =>
   simp only[leads,Bool.or_eq_true,Bool.and_eq_true] at h2
   rcases h2 with h2|h2
   ·exact⟨i+1,hs h2.2,h2.1,.inl ⟨h2.2,rch_iff.2 ⟨h1,h3⟩⟩⟩
   ·exact⟨i,ht i h2.2,h2.1,.inr ⟨h2.2,rch_iff.2 ⟨h1,h3⟩⟩⟩
def stepH (p:List UInt8) (f:Bool) (c:UInt8) (acc:Nat→Bool) (b:Option Blk):HP:=
 [some (.row 84 [nP p f]),some (.row 5 [.int .u8 c.toNat]),rowBlk (p.length+1) acc,some (.row 150 [.sl 2 0 (p.length+1) 1 (p.length+1) true]),b]
def H2:Tab:=H1.addO 33 (.cons .str .nil) fun p=>if p.1.length≤1000000 then some (.rd true (.str (p.1.map foldB))) else none
theorem H2_ok:TabOk Tryz.prog H2:=by
 refine TabOk.addO H1_ok ?_
 intro p r h
 split at h
 ·cases h
  exact pFoldS p.1 (by omega)
 ·cases h
theorem H2_fold (s:List UInt8) (h:s.length≤1000000):H2 33 [.str s]=some (.rd true (.str (s.map foldB))):=by
 refine (Tab.addO_self _ _ (.cons .str .nil) _ (s,())).trans ?_
 rw[if_pos h]
theorem H2_all (R:List Bool):H2 117 [encT.S R]=some (.rd false (.func 135 [.fptr [encT.S R] 0])):=by
 rw[H2,Tab.addO_ne _ _ _ _ rfl]
 exact H1_all R
theorem b2s_one (hp:HP) (c:UInt8):b2sA hp (.fsl [.int .u8 c.toNat] 1)=some (.str [c]):=by
 have h:unbyte (encB.cs [c])=some [c]:=unbyte_encB [c]
 have h2:unbyte [.int .u8 (c.toNat:Int)]=some [c]:=h
 simp[b2sA,srcA,h2]
section
variable {p:List UInt8} {f:Bool} {c:UInt8} {r:Nat→Bool} {l:List AV} {tm0:Env}
def SK (p:List UInt8) (f:Bool) (c:UInt8) (r:Nat→Bool) (l:List AV) (i:Nat) (rv:AV) (hp':HP):Prop:=
 (rv=.bool true∧hp'=stepH p f c (accS (sameB f) p r c (i+1)) (some (.loop l 93000 .ready none))∧i<p.length)∨(rv=.bool false∧∃ l' st,st≠.busy∧hp'=stepH p f c (accS (sameB f) p r c p.length) (some (.loop l' 93000 st (some (some 0)))))
theorem step_tail {i:Nat} (hi:i<p.length) (ri:r i=true) {acc:Nat→Bool} (hacc:∀ j,acc j=accS (sameB f) p r c (i+1) j) {hp3:HP} (h3:hp3=stepH p f c acc (some (.loop l 93000 .busy none))) :
  ∃ pe tms3 key3 ls3 pd3,pendOf .normal=some pe∧hp3[4]? = some (some (.loop tms3 key3 ls3 pd3))∧SK p f c r l i (.bool pe.isNone) (hp3.set 4 (some (.loop tms3 key3 (if pe.isNone then .ready else .done) pe))):=by
 subst h3
 refine⟨none,l,_,.busy,none,rfl,rfl,.inl ⟨rfl,?_,hi⟩⟩
 rw[show acc=accS (sameB f) p r c (i+1) from funext hacc]
 rfl
theorem step_round (hl:p.length≤1000000) (hl0:Is 63 tm0 l) (t3:tm0 3=.ptr 0 0) (t5:tm0 5=.ptr 1 0) (t7:tm0 7=.ptr 3 0) {i:Nat} (hi:i≤p.length) (ri:r i=true) :
  ARound Tryz.prog 4 [.int .i64 i] (stepH p f c (accS (sameB f) p r c i) (some (.loop l 93000 .ready none))) (SK p f c r l i):=by
 refine round_e hmG H2_ok lok93000 (tms:=l) rfl rfl (tm:=upd tm0 15 (.int .i64 i)) (hl0.setP 15 _) ?_
 intro hint
 refine vcE.e0 ?_
 refine⟨rfl,l,_,none,rfl,?_⟩
 have hset:(stepH p f c (accS (sameB f) p r c i) (some (.loop l 93000 .ready none))).set 4 (some (.loop l 93000 .busy none))=stepH p f c (accS (sameB f) p r c i) (some (.loop l 93000 .busy none)):=rfl
 rw[hset]
 have frzN:∀ hp,frz hp (nP p f)=some (nP p f):=fun _=>rfl
 by_cases hip:i=p.length
 ·subst hip
  refine vcE.block (vcE.ex (by simp (disch:=omega) only[go_sem,↓reduceIte,Nat.reduceEqDiff,stepH,nP,nilchkA,t3]; rfl) ?_)
  simp only[Nat.reduceEqDiff,↓reduceIte]
  exact⟨some (some 0),l,_,.busy,none,rfl,rfl,.inr ⟨rfl,l,.done,by simp,rfl⟩⟩
 ·have hlt:i<p.length:=by omega
  obtain⟨a,ha⟩:∃ a,p[i]? = some a:=⟨_,List.getElem?_eq_getElem hlt⟩
  refine vcE.block (vcE.step (by simp (disch:=omega) only[go_sem,↓reduceIte,Nat.reduceEqDiff,stepH,nP,nilchkA,t3]; rfl) (vcE.step (by simp (disch:=omega) only[go_sem,↓reduceIte,Nat.reduceEqDiff,nilchkA,t3,ha]; rfl) (vcE.block (vcE.s0 ?_))))
  by_cases h42:a.toNat=42
  ·have hstar:isStar p i=true:=by
    simp only[isStar,decide_eq_true_eq,ha,Option.some.injEq]
    exact UInt8.toNat_inj.1 h42
   have htake:takes (sameB f) p i c=false:=by
    simp[takes,ha,show a=42 from UInt8.toNat_inj.1 h42]
   refine vcE.condTrue (by simp (disch:=omega) only[go_sem,↓reduceIte,h42]) ?_
   rw[show r93_8=r93_8.take 3++r93_8.drop 3 from rfl]
   refine vcE.app (vcE.ex (by simp (disch:=omega) only[go_sem,↓reduceIte,Nat.reduceEqDiff,t3,t7]; rfl) ⟨rfl,vcE.call (f:=116) (caps:=[]) (ys:=[nP p f,.sl 2 0 (p.length+1) 1 (p.length+1) true,.int .i64 i]) rfl ?_ (cCome p f (by omega) (id:=2) (b:=accS (sameB f) p r c i) rfl hi) ?_⟩)
   ·rfl
   ·rintro rv hp' rfl
    refine step_tail hlt ri (acc:=fun j=>accS (sameB f) p r c i j || rch p i j) (fun j=>?_) rfl
    simp only[accS,ri,hstar,htake,Bool.true_and,Bool.false_and,Bool.or_false]
  ·have hne:a≠42:=fun e=>h42 (by rw[e]; rfl)
   have hstar:isStar p i=false:=by simp[isStar,ha,hne]
   refine vcE.condFalse (by simp (disch:=omega) only[go_sem,↓reduceIte]) ?_
   have yes:takes (sameB f) p i c=true→∀ tm:Env,tm 36=.bool true→tm 3=.ptr 0 0→tm 7=.ptr 3 0→tm 8=.int .i64 i→vcE Tryz.prog hint H2 63 (IC.cond (.t 36) (IC.reg r93_12) IC.skip) tm (stepH p f c (accS (sameB f) p r c i) (some (.loop l 93000 .busy none))) (fun e tm3 hp3=>e=.normal∧∃ pe tms3 key3 ls3 pd3,pendOf .normal=some pe∧hp3[4]? = some (some (.loop tms3 key3 ls3 pd3))∧SK p f c r l i (.bool pe.isNone) (hp3.set 4 (some (.loop tms3 key3 (if pe.isNone then .ready else .done) pe)))):=by
    intro htake tm e36 e3 e7 e8
    refine vcE.condTrue (by simp only[evE,e36]) ?_
    rw[show r93_12=r93_12.take 4++r93_12.drop 4 from rfl]
    refine vcE.app (vcE.ex (by simp (disch:=omega) only[go_sem,↓reduceIte,Nat.reduceEqDiff,stepH,e3,e7,e8,nP]; rfl) ⟨rfl,vcE.call (f:=116) (caps:=[]) (ys:=[nP p f,.sl 2 0 (p.length+1) 1 (p.length+1) true,.int .i64 ((i+1:Nat):Int)]) rfl ?_ (cCome p f (by omega) (id:=2) (b:=accS (sameB f) p r c i) rfl (a:=i+1) (by omega)) ?_⟩)
    ·rfl
    ·rintro rv hp' rfl
     refine⟨rfl,step_tail hlt ri (acc:=fun j=>accS (sameB f) p r c i j || rch p (i+1) j) (fun j=>?_) rfl⟩
     simp only[accS,ri,hstar,htake,Bool.true_and,Bool.false_and,Bool.false_or]
   have no:takes (sameB f) p i c=false→∃ pe tms3 key3 ls3 pd3,pendOf .normal=some pe∧(stepH p f c (accS (sameB f) p r c i) (some (.loop l 93000 .busy none)))[4]? = some (some (.loop tms3 key3 ls3 pd3))∧SK p f c r l i (.bool pe.isNone) ((stepH p f c (accS (sameB f) p r c i) (some (.loop l 93000 .busy none))).set 4 (some (.loop tms3 key3 (if pe.isNone then .ready else .done) pe))):=fun htake=>by
    refine step_tail hlt ri (acc:=accS (sameB f) p r c i) (fun j=>?_) rfl
    simp only[accS,ri,hstar,htake,Bool.true_and,Bool.false_and,Bool.or_false]
   have fin:∀ {tm:Env} {hp:HP} {Q:Exit→Env→HP→Prop} {n:Nat} {ic:IC},vcE Tryz.prog hint H2 n ic tm hp (fun e tm3 hp3=>e=.normal∧Q .normal tm3 hp3)→vcE Tryz.prog hint H2 n ic tm hp Q:=fun h=>h.mono fun e tm hp ⟨h1,h2⟩=>by subst h1; exact h2
   have hsame:a.toNat≠63→takes (sameB f) p i c=sameB f a c:=fun h63=>by
    have:a≠63:=fun e=>h63 (by rw[e]; rfl)
    have h1:(a == 42)=false:=by simpa using hne
    have h2:(a == 63)=false:=by simpa using this
    simp only[takes,ha,bne,h1,h2,Bool.not_false,Bool.true_and,Bool.false_or]
   by_cases h63:a.toNat=63
   ·have htake:takes (sameB f) p i c=true:=by
     simp[takes,ha,show a=63 from UInt8.toNat_inj.1 h63]
    refine vcE.step (by simp (disch:=omega) only[go_sem,↓reduceIte,Nat.reduceEqDiff,h63]; rfl) (fin (yes htake _ ?_ ?_ ?_ ?_))
    all_goals simp only[upd_app,Nat.reduceEqDiff,↓reduceIte,t3,t7]
   ·by_cases hac:a=c
    ·subst hac
     have htake:takes (sameB f) p i a=true:=by
      rw[hsame h63]
      cases f<;>simp[sameB]
     refine vcE.step (by simp (disch:=omega) only[go_sem,↓reduceIte,Nat.reduceEqDiff,stepH,t5]; rfl) (fin (yes htake _ ?_ ?_ ?_ ?_))
     all_goals simp only[upd_app,Nat.reduceEqDiff,↓reduceIte,t3,t7]
    ·have hac':¬ (a.toNat:Int)=c.toNat:=fun e=>hac (u8_eqI.1 e)
     cases f
     ·have htake:takes (sameB false) p i c=false:=by
       rw[hsame h63]
       simp[sameB,hac]
      refine vcE.step (by simp (disch:=first|assumption|omega) only[go_sem,↓reduceIte,Nat.reduceEqDiff,t3,t5,nilchkA]; rfl) (vcE.e0 ?_)
      exact no htake
     ·have hfa:=H2_fold [a] (by simp)
      have hfc:=H2_fold [c] (by simp)
      by_cases hfo:foldB a=foldB c
      ·have htake:takes (sameB true) p i c=true:=by
        rw[hsame h63]
        simp[sameB,hfo]
       refine vcE.step (by simp (disch:=first|assumption|omega) only[go_sem,↓reduceIte,Nat.reduceEqDiff,t5,exOps.eq_2,t3,nilchkA,b2s_one,frzL.eq_2,hfa,List.map_cons,hfo,List.map_nil,nidL.eq_2,hfc,stepH,nP]; rfl) (fin (yes htake _ ?_ ?_ ?_ ?_))
       all_goals simp only[upd_app,Nat.reduceEqDiff,↓reduceIte,t3,t7]
      ·have htake:takes (sameB true) p i c=false:=by
        rw[hsame h63]
        simp[sameB,hfo]
       have hfo2:¬ ([foldB a]=[foldB c]):=by simpa using hfo
       refine vcE.step (by simp (disch:=first|assumption|omega) only[go_sem,↓reduceIte,Nat.reduceEqDiff,t5,exOps.eq_2,t3,nilchkA,b2s_one,frzL.eq_2,hfa,List.map_cons,List.map_nil,nidL.eq_2,hfc]; rfl) (vcE.e0 ?_)
       exact no htake
end
theorem pStep (p:List UInt8) (f:Bool) (c:UInt8) (h0:p≠[]) (hl:p.length≤1000000) (r:Nat→Bool):PCF Tryz.prog 93 [nP p f,encT.S (rowB (p.length+1) r),.int .u8 c.toNat] (encT.S (rowB (p.length+1) (stepS (sameB f) p r c))):=by
 have hx:NoIdL [nP p f,encT.S (rowB (p.length+1) r),.int .u8 c.toNat]:=nidL_ok (by simp only[nidL,Enc.S_nid,nP_nid,nid_int,Bool.and_self])
 refine pcf_of hx ((calls_k hmG H2_ok comp93 keys93 (by decide) (by simp) (K:=fun r' hp'=>fresh hp' r'=some (encT.S (rowB (p.length+1) (stepS (sameB f) p r c)))) ?_).mono fun _ _=>fresh_ok)
 have hrl:=rowB_len (p.length+1) r
 have hlen:lenA [some (.row 84 [nP p f]),some (.row 5 [.int .u8 c.toNat])] (encT.S (rowB (p.length+1) r))=some (.int .i64 ((p.length+1:Nat):Int)):=by rw[encT.S_len,hrl]
 have hN:notTup (nP p f)=true:=rfl
 have hC:cellsA (nP p f)=[nP p f]:=rfl
 have hsm:((p.length+1:Nat):Int)=(p.length:Int)+1:=rfl
 have hmk:=make_row (hp:=[some (.row 84 [nP p f]),some (.row 5 [.int .u8 c.toNat])]) (N:=p.length+1) (k:=.i64) (k':=.i64) (by omega)
 have hall:=H2_all (rowB (p.length+1) r)
 refine vcE.step (by simp (disch:=omega) only[go_sem,↓reduceIte,Nat.reduceEqDiff,hN,hC]; rfl) (vcE.step (by simp (disch:=omega) only[go_sem,↓reduceIte,Nat.reduceEqDiff,Nat.reduceAdd,Nat.reduceLeDiff,↓hlen,↓hmk]; rfl) (vcE.then (fun e tm hp=>e=.normal∧tm 7=.ptr 3 0∧∃ b,hp=stepH p f c (stepS (sameB f) p r c) b) ?_ ?_))
 ·refine vcE.step (by simp (disch:=omega) only[go_sem,↓reduceIte,Nat.reduceEqDiff,hall,Enc.S_nid]; rfl) (vcE.block (vcE.rangeF (g:=135) (caps:=[.fptr [encT.S (rowB (p.length+1) r)] 0]) ?_ ?_))
  ·simp only[evE,upd_app,↓reduceIte]
  ·intro l hl'
   have hfin:stepH p f c (accS (sameB f) p r c p.length)=stepH p f c (stepS (sameB f) p r c):=by rw[show accS (sameB f) p r c p.length=stepS (sameB f) p r c from funext fun j=>accS_step]
   refine (cAll (R:=rowB (p.length+1) r) (by omega) (id:=4) (J:=fun i hp=>i≤p.length+1∧hp=stepH p f c (accS (sameB f) p r c i) (some (.loop l 93000 .ready none))) (S:=fun hp => ∃ l' st,st≠.busy∧hp=stepH p f c (accS (sameB f) p r c p.length) (some (.loop l' 93000 st (some (some 0))))) (hp0:=stepH p f c (fun _=>false) (some (.loop l 93000 .ready none))) ⟨Nat.zero_le _,rfl⟩ ?_ ?_).mono ?_
   ·rintro i hp hi ⟨hir,rfl⟩
    have hlt:=(List.getElem?_eq_some_iff.1 hi).1
    rw[hrl] at hlt
    rw[rowB_get hlt] at hi
    refine (step_round hl hl' ?_ ?_ ?_ (show i≤p.length by omega) (by simpa using hi)).mono ?_
    ·simp only[upd_app,Nat.reduceEqDiff,↓reduceIte]
    ·simp only[upd_app,Nat.reduceEqDiff,↓reduceIte]
    ·simp only[upd_app,Nat.reduceEqDiff,↓reduceIte]
    ·rintro rv hp' (⟨h1,h2,h3⟩|⟨h1,l',st,h2,h3⟩)
     ·exact .inl ⟨h1,by omega,h2⟩
     ·exact .inr ⟨h1,l',st,h2,h3⟩
   ·rintro i hp hi ⟨hir,rfl⟩
    have hlt:=(List.getElem?_eq_some_iff.1 hi).1
    rw[hrl] at hlt
    rw[rowB_get hlt] at hi
    have hri:r i=false:=by simpa using hi
    refine⟨by omega,?_⟩
    rw[show accS (sameB f) p r c (i+1)=accS (sameB f) p r c i from funext fun j=>by simp[accS,hri]]
   ·rintro rv hp' (⟨h1,h2⟩|⟨l',st,h2,h3⟩)
    ·rw[hrl] at h2
     subst h2
     refine⟨l,_,.ready,none,rfl,by simp,rfl,?_,some (.loop l 93000 .exhausted none),?_⟩
     ·simp only[upd_app,Nat.reduceEqDiff,↓reduceIte]
     ·rw[show accS (sameB f) p r c (p.length+1)=stepS (sameB f) p r c from funext fun j=>accS_end.trans accS_step]
      rfl
    ·subst h3
     refine⟨l',_,st,some (some 0),rfl,h2,?_⟩
     simp only[exitOf,↓reduceIte]
     refine⟨trivial,?_,some (.loop l' 93000 .exhausted (some (some 0))),?_⟩
     ·simp only[upd_app,Nat.reduceEqDiff,↓reduceIte]
     ·rw[hfin]
      rfl
 ·rintro e tm hp ⟨rfl,h7,b,rfl⟩
  refine vcE.ex (by simp (disch:=omega) only[go_sem,↓reduceIte,stepH,h7]; rfl) ?_
  refine⟨_,rfl,?_⟩
  exact rowBlk_fresh (N:=p.length+1) (id:=2) rfl
end
section
set_option linter.unusedSectionVars false
variable [Mx]
open Go Go.Proofs
theorem vcE.callB {P:Program} {hint:Nat→Nat} {T:Tab} {n:Nat} {d:Option Nat} {xs:List Opd} {g:Option (Nat × Bool)} {tm:Env} {hp:HP} {Q:Exit→Env→HP→Prop} {f:FuncId} {first ys:List AV} {K:AV→HP→Prop} (hw:wantedE tm g=true) (he:evsE tm xs=.bound f first :: ys) (hc:ACalls P f (first++ys) hp K) (hk:∀ r hp',K r hp'→Q .normal (putE tm d r) hp'):vcE P hint T n (.reg [⟨d,.call none,xs,g⟩]) tm hp Q:=by
 intro hm hT hs l Q' hl hq
 simp only[okS,List.all_cons,List.all_nil,Bool.and_true,IOp.inR,Bool.and_eq_true] at hs
 obtain⟨⟨h1,h2⟩,h3⟩:=hs
 show vop P _ _ _
 unfold vop
 rw[if_pos (by rw[hl.wanted h3]; exact hw)]
 simp only
 rw[hl.evs h1,he]
 exact hc.mono fun r hp' hr=>hq _ _ _ _ hl.put (hk r hp' hr)
def okV:Option (List UInt8 × Bool)→Prop
 | none=>True
 | some (p,_)=>p≠[]∧p.length≤1000000
theorem okV.small {x:Option (List UInt8 × Bool)} (h:okV x):nSmall x:=by
 cases x with
 | none=>trivial
 | some a=>exact h.2
instance (x:Option (List UInt8 × Bool)):Decidable (okV x):=by
 cases x with
 | none=>exact isTrue trivial
 | some a=>exact inferInstanceAs (Decidable (a.1≠[]∧a.1.length≤1000000))
theorem nN_some {p:List UInt8} {f:Bool} (h:p≠[]):nN (some (p,f))=p.length+1:=by simp[nN,nSt,h]
def startV:Option (List UInt8 × Bool)→Nat→Bool
 | none=>fun _=>false
 | some (p,_)=>startS p
def stepV:Option (List UInt8 × Bool)→(Nat→Bool)→UInt8→Nat→Bool
 | none,_,_=>fun _=>false
 | some (p,f),r,c=>stepS (sameB f) p r c
def runV (x:Option (List UInt8 × Bool)):List UInt8→(Nat→Bool)→Nat→Bool
 | [],r=>r
 | c :: t,r=>runV x t (stepV x r c)
theorem runV_snoc (x:Option (List UInt8 × Bool)):∀ (t:List UInt8) (c:UInt8) (r:Nat→Bool),runV x (t++[c]) r=stepV x (runV x t r) c
 | [],c,r=>rfl
 | d :: t,c,r=>runV_snoc x t c _
theorem runV_some (p:List UInt8) (f:Bool):∀ (t:List UInt8) (r:Nat→Bool),runV (some (p,f)) t r=runS (sameB f) p t r
 | [],r=>rfl
 | c :: t,r=>runV_some p f t _
theorem pStartV (x:Option (List UInt8 × Bool)) (h:okV x):PCF Tryz.prog 91 [nV x] (encT.S (rowB (nN x) (startV x))):=by
 cases x with
 | none =>
  refine pcf_e hmG H0_ok comp91 (by decide) (by simp) (nidL_ok rfl) ?_
  have hS:=H0_states none trivial
  simp only[nV,nN] at hS
  refine vcE.ex (by simp (disch:=omega) only[go_sem,↓reduceIte,Nat.reduceEqDiff,reduceCtorEq,nV,hS,make_row]; rfl) ?_
  exact⟨_,rfl,rfl⟩
 | some a =>
  obtain⟨p,f⟩:=a
  rw[nN_some h.1]
  exact pStart p f h.1 h.2
theorem pStepNil (c:UInt8):PCF Tryz.prog 93 [.nilp,encT.S [],.int .u8 c.toNat] (encT.S []):=by
 refine pcf_of (nidL_ok rfl) ((calls_k hmG H2_ok comp93 keys93 (by decide) (by simp) (K:=fun r' hp'=>fresh hp' r'=some (encT.S [])) ?_).mono fun _ _=>fresh_ok)
 have hmk:=make_row (hp:=[some (.row 84 [.nilp]),some (.row 5 [.int .u8 c.toNat])]) (N:=0) (k:=.i64) (k':=.i64) (by omega)
 have hall:=H2_all []
 refine vcE.s1 (k:=vcE.step (by simp (disch:=omega) only[go_sem,↓reduceIte,Nat.reduceEqDiff,Nat.reduceAdd,Nat.reduceLeDiff,↓hmk]; rfl) (vcE.then (fun e tm hp=>e=.normal∧tm 7=.ptr 3 0∧∃ b,hp=[some (.row 84 [.nilp]),some (.row 5 [.int .u8 c.toNat]),rowBlk 0 (fun _=>false),some (.row 150 [.sl 2 0 0 1 0 true]),b]) ?_ ?_))
 ·refine vcE.step (by simp (disch:=omega) only[go_sem,↓reduceIte,Nat.reduceEqDiff,hall,Enc.S_nid]; rfl) (vcE.block (vcE.rangeF (g:=135) (caps:=[.fptr [encT.S []] 0]) ?_ ?_))
  ·simp only[evE,upd_app,↓reduceIte]
  ·intro l hl'
   refine (cAll (R:=[]) (by simp) (id:=4) (J:=fun i hp=>hp=[some (.row 84 [.nilp]),some (.row 5 [.int .u8 c.toNat]),rowBlk 0 (fun _=>false),some (.row 150 [.sl 2 0 0 1 0 true]),some (.loop l 93000 .ready none)]) (S:=fun hp=>False) rfl ?_ ?_).mono ?_
   ·intro i hp hi; simp at hi
   ·intro i hp hi; simp at hi
   ·rintro rv hp' (h2|h2)
    ·subst h2
     refine⟨l,_,.ready,none,rfl,by simp,rfl,?_,some (.loop l 93000 .exhausted none),rfl⟩
     simp only[upd_app,Nat.reduceEqDiff,↓reduceIte]
    ·exact h2.elim
 ·rintro e tm hp ⟨rfl,h7,b,rfl⟩
  refine vcE.ex (by simp (disch:=omega) only[go_sem,↓reduceIte,h7]; rfl) ?_
  exact⟨_,rfl,rfl⟩
theorem pStepV (x:Option (List UInt8 × Bool)) (h:okV x) (r:Nat→Bool) (c:UInt8):PCF Tryz.prog 93 [nV x,encT.S (rowB (nN x) r),.int .u8 c.toNat] (encT.S (rowB (nN x) (stepV x r c))):=by
 cases x with
 | none=>exact pStepNil c
 | some a =>
  obtain⟨p,f⟩:=a
  rw[nN_some h.1]
  exact pStep p f c h.1 h.2 r
def unRow (R:List Bool) (i:Nat):Bool:=R[i]?.getD false
theorem rowB_unRow (R:List Bool):rowB R.length (unRow R)=R:=by
 apply List.ext_getElem?
 intro i
 by_cases hi:i<R.length
 ·rw[rowB_get hi,List.getElem?_eq_getElem hi]
  simp[unRow,hi]
 ·rw[List.getElem?_eq_none (by rw[rowB_len]; omega),List.getElem?_eq_none (by omega)]
def H3:Tab:=(((H2.addO 91 (.cons .nfa .nil) fun p=>if okV p.1 then some (.rd true (encT.S (rowB (nN p.1) (startV p.1)))) else none).addO 94 (.cons .nfa (.cons (.S encI) .nil)) fun p=>if okV p.1∧p.2.1.length≤1000000 then some (.rd true (encT.S (rowB (nN p.1) (ofS p.2.1)))) else none).addO 93 (.cons .nfa (.cons (.S encT) (.cons .u8 .nil))) fun p=>if okV p.1∧p.2.1.length=nN p.1 then some (.rd true (encT.S (rowB (nN p.1) (stepV p.1 (unRow p.2.1) p.2.2.1)))) else none).addO 92 (.cons (.S encT) .nil) fun p=>if p.1.length≤1000000 then some (.rd true (encI.S (listB p.1))) else none
theorem H3_ok:TabOk Tryz.prog H3:=by
 refine TabOk.addO (TabOk.addO (TabOk.addO (TabOk.addO H2_ok ?_) ?_) ?_) ?_
 ·intro p r h
  split at h
  ·rename_i hv
   cases h
   exact pStartV p.1 hv
  ·cases h
 ·intro p r h
  split at h
  ·rename_i hv
   cases h
   exact pOf p.1 hv.1.small p.2.1 hv.2
  ·cases h
 ·intro p r h
  split at h
  ·rename_i hv
   cases h
   have:=pStepV p.1 hv.1 (unRow p.2.1) p.2.2.1
   rw[← hv.2,rowB_unRow,hv.2] at this
   exact this
  ·cases h
 ·intro p r h
  split at h
  ·rename_i hv
   cases h
   exact pList p.1 hv
  ·cases h
theorem H3_start (x:Option (List UInt8 × Bool)) (h:okV x):H3 91 [nV x]=some (.rd true (encT.S (rowB (nN x) (startV x)))):=by
 rw[H3,Tab.addO_ne _ _ _ _ rfl,Tab.addO_ne _ _ _ _ rfl,Tab.addO_ne _ _ _ _ rfl]
 refine (Tab.addO_self _ _ (.cons .nfa .nil) _ (x,())).trans ?_
 rw[if_pos h]
theorem H3_of (x:Option (List UInt8 × Bool)) (h:okV x) (l:List Int) (hl:l.length≤1000000):H3 94 [nV x,encI.S l]=some (.rd true (encT.S (rowB (nN x) (ofS l)))):=by
 rw[H3,Tab.addO_ne _ _ _ _ rfl,Tab.addO_ne _ _ _ _ rfl]
 refine (Tab.addO_self _ _ (.cons .nfa (.cons (.S encI) .nil)) _ (x,l,())).trans ?_
 rw[if_pos ⟨h,hl⟩]
theorem H3_step (x:Option (List UInt8 × Bool)) (h:okV x) (r:Nat→Bool) (c:UInt8) (hr:∀ r r':Nat→Bool,(∀ i,i<nN x→r i=r' i)→rowB (nN x) (stepV x r c)=rowB (nN x) (stepV x r' c)):H3 93 [nV x,encT.S (rowB (nN x) r),.int .u8 c.toNat]=some (.rd true (encT.S (rowB (nN x) (stepV x r c)))):=by
 rw[H3,Tab.addO_ne _ _ _ _ rfl]
 refine (Tab.addO_self _ _ (.cons .nfa (.cons (.S encT) (.cons .u8 .nil))) _ (x,rowB (nN x) r,c,())).trans ?_
 rw[if_pos ⟨h,rowB_len _ _⟩]
 show some (Res.rd true (encT.S (rowB (nN x) (stepV x (unRow (rowB (nN x) r)) c))))=_
 rw[hr _ r fun i hi=>by simp only[unRow,rowB_get hi,Option.getD_some]]
theorem stepV_congr {x:Option (List UInt8 × Bool)} (h:okV x) {c:UInt8} (r r':Nat→Bool) (hr:∀ i,i<nN x→r i=r' i):rowB (nN x) (stepV x r c)=rowB (nN x) (stepV x r' c):=by
 refine rowB_congr fun j hj=>?_
 cases x with
 | none=>rfl
 | some a =>
  obtain⟨p,f⟩:=a
  exact stepS_congr fun i hi=>hr i (by omega)
def lst (N:Nat) (b:Nat→Bool):List Int:=listB (rowB N b)
theorem okV.n {x:Option (List UInt8 × Bool)} (h:okV x):nN x≤1000001:=nN_small h.small
theorem nV_frz (x:Option (List UInt8 × Bool)) (hp:HP):frz hp (nV x)=some (nV x):=by
 cases x with
 | none=>rfl
 | some a=>rfl
def okW (x:Option (List UInt8 × Bool)):Prop:=okV x∧nN x≤1000000
theorem pStartM (x:Option (List UInt8 × Bool)) (h:okW x):PCF Tryz.prog 62 [nV x] (encI.S (lst (nN x) (startV x))):=by
 refine pcf_e hmG H3_ok comp62 (by decide) (by simp) (nidL_ok (by simp only[nidL,nV_nid,Bool.and_self])) ?_
 have h1:=H3_start x h.1
 refine vcE.s1 (k:=vcE.seq ?_)
 rw[show r62_1=r62_1.take 2++((r62_1.drop 2).take 1++r62_1.drop 3) from rfl]
 refine vcE.app (vcE.ex (by simp (disch:=omega) only[go_sem,↓reduceIte,reduceCtorEq,nV_frz,nV_nid,h1]; rfl) ⟨rfl,vcE.app (vcE.call (f:=92) (caps:=[]) (ys:=[encT.S (rowB (nN x) (startV x))]) rfl ?_ (cList _ (by rw[rowB_len]; exact h.2)) ?_)⟩)
 ·simp only[evsE,evE,upd_app,↓reduceIte]
 ·rintro r hp' ⟨id,rfl,hb⟩
  refine⟨rfl,vcE.e0 ?_⟩
  refine vcE.e0 ?_
  exact⟨_,rfl,hb.fresh⟩
theorem pStepM (x:Option (List UInt8 × Bool)) (h:okW x) (l:List Int) (hl:l.length≤1000000) (c:UInt8):PCF Tryz.prog 63 [nV x,encI.S l,.int .u8 c.toNat] (encI.S (lst (nN x) (stepV x (ofS l) c))):=by
 refine pcf_e hmG H3_ok comp63 (by decide) (by simp) (nidL_ok (by simp only[nidL,nV_nid,Enc.S_nid,nid_int,Bool.and_self])) ?_
 have h1:=H3_of x h.1 l hl
 have h2:=H3_step x h.1 (ofS l) c (stepV_congr h.1)
 refine vcE.s1 (k:=vcE.seq ?_)
 rw[show r63_1=r63_1.take 6++((r63_1.drop 6).take 1++r63_1.drop 7) from rfl]
 refine vcE.app (vcE.ex (by simp (disch:=omega) only[go_sem,↓reduceIte,Nat.reduceEqDiff,reduceCtorEq,nV_frz,nV_nid,h1,h2,Enc.S_nid]; rfl) ⟨rfl,vcE.app (vcE.call (f:=92) (caps:=[]) (ys:=[encT.S (rowB (nN x) (stepV x (ofS l) c))]) rfl ?_ (cList _ (by rw[rowB_len]; exact h.2)) ?_)⟩)
 ·simp only[evsE,evE,upd_app,↓reduceIte]
 ·rintro r hp' ⟨id,rfl,hb⟩
  refine⟨rfl,vcE.e0 ?_⟩
  refine vcE.e0 ?_
  exact⟨_,rfl,hb.fresh⟩
def accV (x:Option (List UInt8 × Bool)) (r:Nat→Bool):Bool:=match x with
 | none=>false
 | some (p,_)=>r p.length
theorem acc_region {N:Nat} {b:Nat→Bool} (hN:0<N) {k:IntKind}:iaddrA 1 (encT.S (rowB N b)) (.int k ((N:Int) - 1))=some (.fptr (encT.cs (rowB N b)) (N - 1)):=by
 have:=encT_iaddr (R:=rowB N b) (i:=N - 1) (k:=k) (by rw[rowB_len]; omega)
 rw[show ((N - 1:Nat):Int)=(N:Int) - 1 by omega] at this
 exact this
theorem pAccepts (x:Option (List UInt8 × Bool)) (h:okW x) (l:List Int) (hl:l.length≤1000000):PCF Tryz.prog 64 [nV x,encI.S l] (.bool (accV x (ofS l))):=by
 refine pcf_e hmG H3_ok comp64 (by decide) (by simp) (nidL_ok (by simp only[nidL,nV_nid,Enc.S_nid,Bool.and_self])) ?_
 have h1:=H3_of x h.1 l hl
 have hn:=h.2
 cases x with
 | none =>
  simp only[nN] at h1
  refine vcE.ex (by simp (disch:=omega) only[go_sem,↓reduceIte,reduceCtorEq,Nat.reduceEqDiff,frzL.eq_2,nV_frz,h1,nV_nid,rowB_len]; rfl) ?_
  exact⟨_,rfl,rfl⟩
 | some a =>
  obtain⟨p,f⟩:=a
  rw[nN_some h.1.1] at h1 hn
  have hia:=acc_region (N:=p.length+1) (b:=ofS l) (by omega) (k:=.i64)
  have hpick:=encT.pick1 (l:=rowB (p.length+1) (ofS l)) rfl (rowB_get (i:=p.length) (by omega)) (v:=.bool (ofS l p.length)) rfl rfl
  rw[show p.length+1 - 1=p.length by omega] at hia
  have hlen:∀ hp,lenA hp (encT.S (rowB (p.length+1) (ofS l)))=some (.int .i64 ((p.length+1:Nat):Int)):=fun hp=>by rw[encT.S_len,rowB_len]
  refine vcE.ex (by simp (disch:=omega) only[go_sem,↓reduceIte,reduceCtorEq,Nat.reduceEqDiff,frzL.eq_2,nV_frz,h1,nV_nid,↓hlen,hia,↓hpick]; rfl) ?_
  refine⟨_,rfl,rfl⟩
end
section
set_option linter.unusedSectionVars false
variable [Mx]
open Go Go.Proofs
theorem normB_ne {p:List UInt8} (h:p≠[]):normB p≠[]:=by
 have key:∀ (p:List UInt8) (b:Bool),(b=true∨p≠[])→normS b p≠[]:=by
  intro p
  induction p with
  | nil =>
   intro b h
   rcases h with rfl|h
   ·simp[normS]
   ·exact absurd rfl h
  | cons c p ih =>
   intro b _
   simp only[normS]
   split
   ·exact ih true (.inl rfl)
   ·split
    ·simp
    ·simp
 exact key p false (.inr h)
def newV (p:List UInt8) (f:Bool):Option (List UInt8 × Bool):=if checkG p=0 then some (normB p,f) else none
theorem newV_ok {p:List UInt8} {f:Bool} (hl:p.length≤300):okW (newV p f):=by
 unfold newV
 split
 ·rename_i h
  have hne:p≠[]:=by
   rintro rfl
   simp[checkG] at h
  have h1:=normB_len p
  refine⟨⟨normB_ne hne,by omega⟩,?_⟩
  rw[nN_some (normB_ne hne)]
  omega
 ·exact⟨trivial,by simp[nN]⟩
def H4:Tab:=H3.addO 57 (.cons .str .nil) fun p=>if p.1.length≤300 then some (.rd true (.str (normB p.1))) else none
theorem H4_ok:TabOk Tryz.prog H4:=by
 refine TabOk.addO H3_ok ?_
 intro p r h
 split at h
 ·rename_i hv
  cases h
  exact pNorm p.1 hv
 ·cases h
theorem H4_norm (p:List UInt8) (h:p.length≤300):H4 57 [.str p]=some (.rd true (.str (normB p))):=by
 refine (Tab.addO_self _ _ (.cons .str .nil) _ (p,())).trans ?_
 rw[if_pos h]
theorem H4_check (p:List UInt8):H4 28 [.str p]=some (.rd true (.int .i64 (checkG p))):=by
 rw[H4,Tab.addO_ne _ _ _ _ rfl,H3,Tab.addO_ne _ _ _ _ rfl,Tab.addO_ne _ _ _ _ rfl,Tab.addO_ne _ _ _ _ rfl,Tab.addO_ne _ _ _ _ rfl,H2,Tab.addO_ne _ _ _ _ rfl,H1,Tab.addR_ne _ _ _ _ rfl,H0,Tab.addO_ne _ _ _ _ rfl]
 exact G1_check p
theorem pNew (p:List UInt8) (f:Bool) (hl:p.length≤300):PCF Tryz.prog 47 [.str p,.bool f] (.tup [nV (newV p f),.int .i64 (checkG p)]):=by
 refine pcf_e hmG H4_ok comp47 (by decide) (by simp) (nidL_ok rfl) ?_
 have h1:=H4_norm p hl
 have h2:=H4_check p
 unfold newV
 by_cases hc:checkG p=0
 ·refine vcE.ex (by simp (disch:=first|assumption|omega) only[go_sem,↓reduceIte,Nat.reduceEqDiff,reduceCtorEq,Nat.reduceAdd,h1,h2]; rfl) ?_
  refine⟨_,rfl,?_⟩
  rw[if_pos hc,hc]
  rfl
 ·refine vcE.ex (by simp (disch:=first|assumption|omega) only[go_sem,↓reduceIte,Nat.reduceEqDiff,reduceCtorEq,h2]; rfl) ?_
  refine⟨_,rfl,?_⟩
  rw[if_neg hc]
  rfl
def patP:Option (List UInt8 × Bool)→List UInt8
 | some (p,_)=>p
 | none=>[]
def patF:Option (List UInt8 × Bool)→Bool
 | some (_,f)=>f
 | none=>false
theorem pPatternV (x:Option (List UInt8 × Bool)):PCF Tryz.prog 58 [nV x] (.tup [.str (patP x),.bool (patF x)]):=by
 cases x with
 | none =>
  refine pcf_e hmG (TabOk.none _) comp58 (by decide) (by simp) (nidL_ok rfl) ?_
  refine vcE.ex (by simp (disch:=omega) only[go_sem,↓reduceIte,reduceCtorEq,nV,isNilA]; rfl) ?_
  exact⟨_,rfl,rfl⟩
 | some a=>exact pPattern a.1 a.2
instance (x:Option (List UInt8 × Bool)):Decidable (okW x):=inferInstanceAs (Decidable (_∧_))
end
section
set_option linter.unusedSectionVars false
variable [Mx]
open Go Go.Proofs
theorem LiveB.keep {hp hp':HP} {v:AV} {l:List UInt8} (h:LiveB hp v l) (hk:∀ k,k<hp.length→hp'[k]? = hp[k]?):LiveB hp' v l:=by
 rcases h with h|⟨id,lo,ex,e,z,h1,h2⟩
 ·exact .inl h
 ·exact .inr ⟨id,lo,ex,e,z,h1,by rw[hk id (List.getElem?_eq_some_iff.1 h2).1]; exact h2⟩
theorem app_own {α:Type} {E:Enc α} {hp:HP} {id:Nat} {e:TypeId} {l m:List α} {ex:Bool} {bytes:Nat} {x:AV} (h:hp[id]? = some (some (.row e (E.cs l)))) (hx:srcA hp E.sz x=some (E.cs m,m.length)) (hm:0<m.length) (hb:(l.length+m.length)*bytes≤140737488355328) (hn:l.length+m.length≤9223372036854775807) :
  ∃ hp',appA e E.sz bytes hp (.sl id 0 l.length E.sz l.length ex) x=some (.sl hp.length 0 (l++m).length E.sz (l++m).length false,hp')∧hp'[hp.length]? = some (some (.row e (E.cs (l++m))))∧(∀ k,k≠id→k<hp.length→hp'[k]? = hp[k]?)∧hp'.length=hp.length+1:=by
 cases ex with
 | false =>
  refine⟨_,E.sl_app h hx hm hb hn,?_,?_,?_⟩
  ·rw[List.getElem?_append_right (by simp)]
   simp
  ·intro k hk hl
   rw[List.getElem?_append_left (by simpa using hl),List.getElem?_set_ne (Ne.symm hk)]
  ·simp
 | true =>
  refine⟨hp++[some (.row e (E.cs (l++m)))],?_,?_,?_,?_⟩
  ·simp only[appA,hx,h]
   rw[if_neg (by omega),if_pos ⟨trivial,by rw[E.cs_len]; omega⟩,if_neg (by omega),if_pos ⟨hb,hn⟩,if_pos trivial]
   rw[List.drop_zero,List.take_of_length_le (by rw[E.cs_len]; omega),E.cs_app,List.length_append]
  ·simp
  ·intro k hk hl
   rw[List.getElem?_append_left hl]
  ·simp
theorem encI_cs (l:List Int):encI.cs l=l.map fun n=>.int .i64 n:=encI.cs_map1 (fun _=>rfl) l
theorem pClasses (p:List UInt8) (f:Bool) (hp:p.length≤1000):PCF Tryz.prog 59 [.str p,.bool f] (.tup [.agg (encI.cs (clsL p f)),encI.S (someL p f)]):=by
 refine pcf_e hmG C1_ok comp59 (by rfl) (by simp) (nidL_ok rfl) ?_
 have hz:encI.cs (List.replicate 256 0)=List.replicate 256 (.int .i64 0):=by rw[encI_cs,List.map_replicate]
 unfold c59
 rw[show r59_0=[⟨some 4,.op (.alloc 110 (List.replicate 256 (.int .i64 0))),[],none⟩,⟨some 5,.op (.mov),[.c (.nils)],none⟩] from by kernel_rfl]
 rw[show r59_13=[⟨some 9,.op (.alloc 110 (List.replicate 256 (.int .i64 0))),[],none⟩] from by kernel_rfl]
 rw[← hz]
 generalize hZ:encI.cs (List.replicate 256 0)=Z
 -- by which function
 refine vcE.step (by simp (disch:=first|assumption|omega) only[go_sem,↓reduceIte,allocA]; rfl) (vcE.s1 (k:=vcE.then (fun e' tm' hp'=>e'=.normal∧hp'=[some (.row 110 Z)]∧tm' 0=.str p∧tm' 4=.ptr 0 0∧tm' 6=.func (fOf f) []) ?_ ?_))
 ·cases f
  ·refine vcE.e0 ?_
   exact⟨rfl,rfl,rfl,rfl,rfl⟩
  ·refine vcE.e0 ?_
   exact⟨rfl,rfl,rfl,rfl,rfl⟩
 rintro e' tm hp1 ⟨rfl,rfl,t0,t4,t6⟩
 have hof:=fun c=>C1_of f c
 generalize fOf f=g at t6 hof
 -- those that are named
 refine vcE.s1 (k:=vcE.then (fun e' tm' hp'=>e'=.normal∧∃ id,1≤id∧hp'[0]? = some (some (.row 110 Z))∧BldAt encB hp' id 5 (namedB p f)∧(namedB p f=[]∨id<hp'.length)∧1≤hp'.length∧tm' 4=.ptr 0 0∧tm' 6=.func g []∧tm' 7=bld id (namedB p f).length 1) ?_ ?_)
 ·refine vcE.step (by simp (disch:=first|assumption|omega) only[go_sem,↓reduceIte,reduceCtorEq,t0]; rfl) (vcE.block (vcE.loop (by intro l tm hp h; simp at h) (fun k tm' hp' => ∃ i id:Nat,k=p.length - i∧i≤p.length∧1≤id∧hp'[0]? = some (some (.row 110 Z))∧BldAt encB hp' id 5 (namedB (p.take i) f)∧(namedB (p.take i) f=[]∨id<hp'.length)∧1≤hp'.length∧tm' 0=.str p∧tm' 4=.ptr 0 0∧tm' 6=.func g []∧tm' 7=bld id (namedB (p.take i) f).length 1∧tm' 18=.int .i64 p.length∧tm' 19=.int .i64 (i:Int)) p.length ⟨0,1,rfl,Nat.zero_le _,Nat.le_refl _,rfl,.inl rfl,.inl rfl,by simp,?_,?_,?_,?_,?_,?_⟩ ?_))
  ·first|(simp only[upd_app,Nat.reduceEqDiff,↓reduceIte,t0]; done)|(simp only[upd_app,Nat.reduceEqDiff,↓reduceIte,t0,t4,t6]; rfl)
  ·first|(simp only[upd_app,Nat.reduceEqDiff,↓reduceIte,t4]; done)|(simp only[upd_app,Nat.reduceEqDiff,↓reduceIte,t0,t4,t6]; rfl)
  ·first|(simp only[upd_app,Nat.reduceEqDiff,↓reduceIte,t6]; done)|(simp only[upd_app,Nat.reduceEqDiff,↓reduceIte,t0,t4,t6]; rfl)
  ·first|(simp only[upd_app,Nat.reduceEqDiff,↓reduceIte]; done)|(simp only[upd_app,Nat.reduceEqDiff,↓reduceIte]; rfl)
  ·first|(simp only[upd_app,Nat.reduceEqDiff,↓reduceIte]; done)|(simp only[upd_app,Nat.reduceEqDiff,↓reduceIte,t0,t4,t6]; rfl)
  ·first|(simp only[upd_app,↓reduceIte]; done)|(simp only[upd_app,↓reduceIte]; rfl)
  clear t0 t4 t6
  rintro k tm hp1 ⟨i,id,rfl,hi,hid,hr0,hb,hbl,hl1,t0,t4,t6,t7,t18,t19⟩
  by_cases hlt:i<p.length
  rotate_left
  ·have:i=p.length:=by omega
   subst this
   rw[List.take_length] at hb hbl t7
   refine vcE.ex (by simp (disch:=first|assumption|omega) only[go_sem,↓reduceIte,t19,t18,Int.ofNat_lt,hlt,decide_false]; rfl) ?_
   refine⟨rfl,id,hid,hr0,hb,hbl,hl1,?_,?_,?_⟩
   all_goals simp only[upd_app,Nat.reduceEqDiff,↓reduceIte,t4,t6,t7]
  have hg:=List.getElem?_eq_getElem hlt
  generalize hc:p[i]=c at hg
  have hix:indexSA (.str p) (.int .i64 (i:Int))=some (.int .u8 c.toNat):=idx_str hg
  have n42:binA .neq .prim (.int .u8 (c.toNat:Int)) (.int .u8 42)=some (.bool (!decide (c=42))):=neB c 42
  have n63:binA .neq .prim (.int .u8 (c.toNat:Int)) (.int .u8 63)=some (.bool (!decide (c=63))):=neB c 63
  have htk:p.take (i+1)=p.take i++[c]:=by rw[List.take_add_one,hg]; rfl
  have hnm:namedB (p.take (i+1)) f=namedB (p.take i) f++(if keepB c then [ofB f c] else []):=by
   rw[htk,namedB,List.filter_append,List.map_append]
   congr 1
   cases hk:keepB c<;>simp[hk]
  have w1:=natW (x:=(i:Int)+1) (i+1) (by omega) (by omega)
  have skip:keepB c=false→∀ {tm:Env},tm 0=.str p→tm 4=.ptr 0 0→tm 6=.func g []→tm 7=bld id (namedB (p.take i) f).length 1→tm 18=.int .i64 p.length→tm 19=.int .i64 ((i+1:Nat):Int)→∃ k',k'<p.length - i∧∃ i id:Nat,k'=p.length - i∧i≤p.length∧1≤id∧hp1[0]? = some (some (.row 110 Z))∧BldAt encB hp1 id 5 (namedB (p.take i) f)∧(namedB (p.take i) f=[]∨id<hp1.length)∧1≤hp1.length∧tm 0=.str p∧tm 4=.ptr 0 0∧tm 6=.func g []∧tm 7=bld id (namedB (p.take i) f).length 1∧tm 18=.int .i64 p.length∧tm 19=.int .i64 (i:Int):=by
   intro hk tm u0 u4 u6 u7 u18 u19
   rw[hk] at hnm
   simp only[Bool.false_eq_true,if_false,List.append_nil] at hnm
   exact⟨p.length - (i+1),by omega,i+1,id,rfl,by omega,hid,hr0,by rw[hnm]; exact hb,by rw[hnm]; exact hbl,hl1,u0,u4,u6,by rw[hnm]; exact u7,u18,u19⟩
  by_cases h42:c=42
  ·rw[decide_eq_true h42,Bool.not_true] at n42
   refine vcE.ex (by simp (disch:=first|assumption|omega) only[go_sem,↓reduceIte,t19,t18,Int.ofNat_lt,hlt,Nat.reduceEqDiff,reduceCtorEq,t0,↓hix,↓n42,w1]; rfl) ?_
   refine skip (by simp[keepB,h42]) ?_ ?_ ?_ ?_ ?_ ?_
   all_goals simp only[upd_app,Nat.reduceEqDiff,↓reduceIte,t0,t4,t6,t7,t18]
  rw[decide_eq_false h42,Bool.not_false] at n42
  by_cases h63:c=63
  ·rw[decide_eq_true h63,Bool.not_true] at n63
   refine vcE.ex (by simp (disch:=first|assumption|omega) only[go_sem,↓reduceIte,t19,t18,Int.ofNat_lt,hlt,Nat.reduceEqDiff,reduceCtorEq,t0,↓hix,↓n42,↓n63,w1]; rfl) ?_
   refine skip (by simp[keepB,h63]) ?_ ?_ ?_ ?_ ?_ ?_
   all_goals simp only[upd_app,Nat.reduceEqDiff,↓reduceIte,t0,t4,t6,t7,t18]
  rw[decide_eq_false h63,Bool.not_false] at n63
  have hk:keepB c=true:=by simp[keepB,h42,h63]
  rw[hk] at hnm
  simp only[if_true] at hnm
  have hlen:=namedB_len (p.take i) f
  have hlen2:(p.take i).length≤1000:=by rw[List.length_take]; omega
  have happ:=(hb.app [some (.row 5 [.int .u8 (ofB f c).toNat])]).more (bytes:=1) (m:=[ofB f c]) (src_byte (ex:=true)) (by simp) (by simp; omega) (by simp; omega)
  simp only[show encB.sz=1 from rfl] at happ
  have hat:=BldAt.moreAt encB (hp1++[some (Blk.row 5 [.int .u8 (ofB f c).toNat])]) id (namedB (p.take i) f).length 5 (namedB (p.take i) f++[ofB f c])
  have hl2:=bldH_len (hp1++[some (Blk.row 5 [.int .u8 (ofB f c).toNat])]) id (namedB (p.take i) f).length (Blk.row 5 (encB.cs (namedB (p.take i) f++[ofB f c])))
  have h02:=bldH_other (b:=Blk.row 5 (encB.cs (namedB (p.take i) f++[ofB f c]))) (app_get (new:=[some (Blk.row 5 [.int .u8 (ofB f c).toNat])]) hr0) (id:=id) (len:=(namedB (p.take i) f).length) (.inr (by omega))
  have ho:=hof c
  rw[← hnm] at happ hat hl2 h02
  refine vcE.ex (by simp (disch:=first|assumption|omega) only[go_sem,↓reduceIte,t19,t18,Int.ofNat_lt,hlt,Nat.reduceEqDiff,reduceCtorEq,t0,↓hix,↓n42,↓n63,t7,t6,frzL.eq_2,ho,nidL.eq_2,↓happ,w1]; rfl) ?_
  refine⟨p.length - (i+1),by omega,i+1,(hp1++[some (Blk.row 5 [.int .u8 (ofB f c).toNat])]).length,rfl,by omega,by simp,h02,hat,.inr (by rw[hl2]; omega),by rw[hl2]; omega,?_,?_,?_,?_,?_,?_⟩
  all_goals simp only[upd_app,Nat.reduceEqDiff,↓reduceIte,t0,t4,t6,t18]
 clear t0 t4 t6
 rintro e' tm hp1 ⟨rfl,id,hid,hr0,hb,hbl,hl1,t4,t6,t7⟩
 have hnl:=namedB_len p f
 -- sorted
 have hbv:bld id (namedB p f).length 1=bld id (namedB p f).length encB.sz:=rfl
 have hsrt0:Srt elB 5 id hp1 hp1 (namedB p f).toArray:=Srt.refl (hb.imp (fun h=>by rw[h]; rfl) fun h=>by rw[h]; rfl)
 have hsla:SlA id (namedB p f).toArray (bld id (namedB p f).length 1):=by
  refine⟨fun i hi=>?_,by rw[List.size_toArray]; omega⟩
  rw[List.size_toArray] at hi
  rw[bld_pos (by omega)]
  exact iaddr_sl1 hi
 refine vcE.then (fun e' tm' hp'=>e'=.normal∧Srt elB 5 id hp' hp' (sortB (namedB p f)).toArray∧hp'[0]? = some (some (.row 110 Z))∧1≤hp'.length∧tm' 4=.ptr 0 0∧tm' 6=.func g []∧tm' 7=bld id (namedB p f).length 1) ?_ ?_
 ·rw[show r59_11=r59_11.take 1++r59_11.drop 1 from rfl]
  refine vcE.app (vcE.ex (by simp (disch:=first|assumption|omega) only[go_sem,↓reduceIte,t7]; rfl) ⟨rfl,vcE.call (f:=88) (caps:=[]) (ys:=[bld id (namedB p f).length 1]) rfl ?_ (srt_calls hmG C1_ok C1_less swoB srtB comp88 hsrt0 hsla (fun hp=>by rw[bld_len,List.size_toArray]) (bld_fits _ _ _)) ?_⟩)
  ·simp only[evsE,evE,upd_app,↓reduceIte]
  rintro r hp' hd
  obtain⟨rfl,hs⟩:=Done.eq swoB ltB_tot hd
  refine⟨rfl,Srt.refl hs.row,?_,?_,?_,?_,?_⟩
  ·rw[hs.oth 0 (by omega) (by omega)]
   exact hr0
  ·have:=hs.len
   omega
  all_goals simp only[putE,upd_app,Nat.reduceEqDiff,↓reduceIte,t4,t6,t7]
 clear t4 t6 t7 hsrt0 hsla hb hbl hr0 hl1 hp1
 rintro e' tm hp1 ⟨rfl,hs,hr0,hl1,t4,t6,t7⟩
 -- one of each
 refine vcE.then (fun e' tm' hp'=>e'=.normal∧∃ kv,LiveB hp' kv (keysB p f)∧hp'[0]? = some (some (.row 110 Z))∧1≤hp'.length∧tm' 4=.ptr 0 0∧tm' 6=.func g []∧tm' 7=kv) ?_ ?_
 ·rw[show r59_12=r59_12.take 1++(r59_12.drop 1).take 1++r59_12.drop 2 from rfl]
  refine vcE.app (vcE.app (vcE.ex (by simp (disch:=first|assumption|omega) only[go_sem,↓reduceIte,t7]; rfl) ⟨rfl,vcE.call (f:=89) (caps:=[]) (ys:=[bld id (namedB p f).length 1]) rfl ?_ (cmp_calls (N:=(namedB p f).length) (by rw[List.size_toArray,sortB_len]) rfl hs (by omega)) ?_⟩))
  ·simp only[evsE,evE,upd_app,↓reduceIte]
  rintro r hp' ⟨hlv,hoth,hlen⟩
  refine⟨rfl,vcE.ex (by simp (disch:=first|assumption|omega) only[go_sem,↓reduceIte,putE]; rfl) ?_⟩
  refine⟨rfl,r,hlv,?_,by omega,?_,?_,?_⟩
  ·rw[hoth 0 (by omega)]
   exact hr0
  all_goals simp only[upd_app,Nat.reduceEqDiff,↓reduceIte,t4,t6]
 clear t4 t6 t7 hs hr0 hl1 hp1
 rintro e' tm hp1 ⟨rfl,kv,hlv,hr0,hl1,t4,t6,t7⟩
 have hrise:=keysB_rise p f
 have hkl:=keysB_len p f
 generalize hks:keysB p f=ks at *
 -- a byte of each class
 have hmo:∀ hp:HP,srcA (hp++[some (.row 3 [.int .i64 (-1)])]) 1 (.sl hp.length 0 1 1 1 true)=some (encI.cs [-1],1):=fun hp=>src_int
 refine vcE.step (by simp (disch:=first|assumption|omega) only[go_sem,↓reduceIte,allocA]; rfl) (vcE.s0 ?_)
 generalize hn0:hp1.length=n0 at *
 have hkeep1:∀ k,k<n0→(hp1++[some (.row 110 Z)]++[some (.row 3 [.int .i64 (-1)])])[k]? = hp1[k]?:=by
  intro k hk
  rw[List.append_assoc,List.getElem?_append_left (by omega)]
 have harr1:(hp1++[some (.row 110 Z)]++[some (.row 3 [.int .i64 (-1)])])[n0]? = some (some (.row 110 Z)):=by
  rw[List.append_assoc,List.getElem?_append_right (by omega)]
  simp[hn0]
 have hsid1:(hp1++[some (.row 110 Z)]++[some (.row 3 [.int .i64 (-1)])])[n0+1]? = some (some (.row 3 (encI.cs [-1]))):=by
  rw[List.getElem?_append_right (by simp; omega)]
  simp[hn0]
  rfl
 generalize hp1++[some (.row 110 Z)]++[some (.row 3 [.int .i64 (-1)])]=hp2 at *
 have hlen2:n0+1<hp2.length:=(List.getElem?_eq_some_iff.1 hsid1).1
 refine vcE.then (fun e' tm' hp'=>e'=.normal∧∃ sid l ex,l = -1 :: ks.map (fun c=>(c.toNat:Int))∧hp'[sid]? = some (some (.row 3 (encI.cs l)))∧n0<sid∧hp'[n0]? = some (some (.row 110 Z))∧(∀ k,k<n0→hp'[k]? = hp1[k]?)∧tm' 4=.ptr 0 0∧tm' 6=.func g []∧tm' 7=kv∧tm' 9=.ptr n0 0∧tm' 10=.sl sid 0 l.length 1 l.length ex) ?_ ?_
 ·have hln:=hlv.len (hp':=hp2)
  have hlf:lenFits .slice kv=true:=by
   rcases hlv with ⟨_,rfl⟩|⟨_,_,_,_,_,rfl,_⟩<;>rfl
  refine vcE.step (by simp (disch:=first|assumption|omega) only[go_sem,↓reduceIte,Nat.reduceEqDiff,t7,hln,hlf]; rfl) (vcE.block (vcE.loop (by intro l tm hp h; simp at h) (fun k tm' hp' => ∃ (i sid:Nat) (l:List Int) (ex:Bool),k=ks.length - i∧i≤ks.length∧l = -1 :: (ks.take i).map (fun c=>(c.toNat:Int))∧hp'[sid]? = some (some (.row 3 (encI.cs l)))∧n0<sid∧hp'[n0]? = some (some (.row 110 Z))∧(∀ k,k<n0→hp'[k]? = hp1[k]?)∧tm' 4=.ptr 0 0∧tm' 6=.func g []∧tm' 7=kv∧tm' 9=.ptr n0 0∧tm' 10=.sl sid 0 l.length 1 l.length ex∧tm' 46=kv∧tm' 47=.int .i64 (ks.length:Int)∧tm' 48=.int .i64 (i:Int)) ks.length ⟨0,n0+1,[-1],true,rfl,Nat.zero_le _,rfl,hsid1,by omega,harr1,hkeep1,?_,?_,?_,?_,?_,?_,?_,?_⟩ ?_))
  ·first|(simp only[upd_app,Nat.reduceEqDiff,↓reduceIte,t4]; done)|(simp only[upd_app,Nat.reduceEqDiff,↓reduceIte,t4,t6,t7,hn0]; rfl)
  ·first|(simp only[upd_app,Nat.reduceEqDiff,↓reduceIte,t6]; done)|(simp only[upd_app,Nat.reduceEqDiff,↓reduceIte,t4,t6,t7,hn0]; rfl)
  ·first|(simp only[upd_app,Nat.reduceEqDiff,↓reduceIte,t7]; done)|(simp only[upd_app,Nat.reduceEqDiff,↓reduceIte,t4,t6,t7,hn0]; rfl)
  ·first|(simp only[upd_app,Nat.reduceEqDiff,↓reduceIte]; done)|(simp only[upd_app,Nat.reduceEqDiff,↓reduceIte,t4,t6,t7,hn0]; rfl)
  ·simp only[upd_app,Nat.reduceEqDiff,↓reduceIte,List.length_append,List.length_singleton,hn0]
  ·first|(simp only[upd_app,Nat.reduceEqDiff,↓reduceIte]; done)|(simp only[upd_app,Nat.reduceEqDiff,↓reduceIte,t4,t6,t7,hn0]; rfl)
  ·first|(simp only[upd_app,Nat.reduceEqDiff,↓reduceIte]; done)|(simp only[upd_app,Nat.reduceEqDiff,↓reduceIte,t4,t6,t7,hn0]; rfl)
  ·first|(simp only[upd_app,↓reduceIte]; done)|(simp only[upd_app,↓reduceIte]; rfl)
  clear t4 t6 t7 hsid1 harr1 hkeep1 hlen2 hln
  rintro k tm hp3 ⟨i,sid,l,ex,rfl,hi,hl,hsd,hns,harr,hkeep,t4,t6,t7,t9,t10,t46,t47,t48⟩
  by_cases hlt:i<ks.length
  rotate_left
  ·have:i=ks.length:=by omega
   subst this
   rw[List.take_length] at hl
   refine vcE.ex (by simp (disch:=first|assumption|omega) only[go_sem,↓reduceIte,t48,t47,Int.ofNat_lt,hlt,decide_false]; rfl) ?_
   refine⟨rfl,sid,l,ex,hl,hsd,hns,harr,hkeep,?_,?_,?_,?_,?_⟩
   all_goals simp only[upd_app,Nat.reduceEqDiff,↓reduceIte,t4,t6,t7,t9,t10]
  have hg:=List.getElem?_eq_getElem hlt
  generalize ks[i]=c at hg
  obtain⟨pp,y1,y2⟩:=(hlv.keep (hp':=hp3) (fun k hk=>hkeep k (by omega))).at_ hg
  have hcl:=c.toNat_lt
  have wc:IntKind.wrap .i64 (c.toNat:Int)=(c.toNat:Int):=wrap_i64 (by omega) (by omega)
  have w1:=natW (x:=(i:Int)+1) (i+1) (by omega) (by omega)
  have hll:l.length≤2000:=by
   rw[hl,List.length_cons,List.length_map,List.length_take]
   omega
  obtain⟨hp4,happ,hnew,hoth,hle4⟩:=app_own (E:=encI) (ex:=ex) (bytes:=8) (m:=[(c.toNat:Int)]) (app_get (new:=[some (Blk.row 3 [.int .i64 (c.toNat:Int)])]) hsd) (src_int (ex:=true)) (by simp) (by simp; omega) (by simp; omega)
  simp only[show encI.sz=1 from rfl] at happ
  have hsl:=(List.getElem?_eq_some_iff.1 hsd).1
  refine vcE.ex (by simp (disch:=first|assumption|omega) only[go_sem,↓reduceIte,t48,t47,Int.ofNat_lt,hlt,Nat.reduceEqDiff,t46,↓y1,↓y2,t10,wc,↓happ,w1]; rfl) ?_
  refine⟨ks.length - (i+1),by omega,i+1,_,_,false,rfl,by omega,?_,hnew,by simp; omega,?_,?_,?_,?_,?_,?_,?_,?_,?_,?_⟩
  ·rw[hl,List.take_add_one,hg]
   simp
  ·rw[hoth n0 (by omega) (by simp; omega)]
   exact app_get harr
  ·intro k hk
   rw[hoth k (by omega) (by simp; omega),List.getElem?_append_left (by omega)]
   exact hkeep k hk
  all_goals simp only[upd_app,Nat.reduceEqDiff,↓reduceIte,t4,t6,t7,t9,t46,t47]
 clear t4 t6 t7 hsid1 harr1 hkeep1 hlen2 hp2
 rintro e' tm hp2 ⟨rfl,sid,l,ex,hl,hsd,hns,harr,hkeep,t4,t6,t7,t9,t10⟩
 -- each byte
 have hll:l.length=ks.length+1:=by rw[hl,List.length_cons,List.length_map]
 refine vcE.then (fun e' tm' hp'=>e'=.normal∧hp'[sid]? = some (some (.row 3 (encI.cs (zeroTo ks f 256 :: ks.map fun c=>(c.toNat:Int)))))∧hp'[n0]? = some (some (.row 110 (encI.cs (clsTo ks f 256))))∧hp'[0]? = some (some (.row 110 Z))∧tm' 4=.ptr 0 0∧tm' 9=.ptr n0 0∧tm' 10=.sl sid 0 (ks.length+1) 1 l.length ex) ?_ ?_
 ·rw[hll] at t10
  refine vcE.s1 (k:=vcE.block (vcE.loop (by intro l tm hp h; simp at h) (fun k tm' hp' => ∃ i:Nat,k=256 - i∧i≤256∧hp'[sid]? = some (some (.row 3 (encI.cs (zeroTo ks f i :: ks.map fun c=>(c.toNat:Int)))))∧hp'[n0]? = some (some (.row 110 (encI.cs (clsTo ks f i))))∧(∀ k,k<n0→hp'[k]? = hp1[k]?)∧tm' 4=.ptr 0 0∧tm' 6=.func g []∧tm' 7=kv∧tm' 9=.ptr n0 0∧tm' 10=.sl sid 0 (ks.length+1) 1 l.length ex∧tm' 58=.int .i64 (i:Int)) 256 ⟨0,rfl,Nat.zero_le _,by rw[hsd,hl]; rfl,by rw[harr,clsTo_zero,hZ],hkeep,?_,?_,?_,?_,?_,?_⟩ ?_))
  ·simp only[upd_app,Nat.reduceEqDiff,↓reduceIte,t4]
  ·simp only[upd_app,Nat.reduceEqDiff,↓reduceIte,t6]
  ·simp only[upd_app,Nat.reduceEqDiff,↓reduceIte,t7]
  ·simp only[upd_app,Nat.reduceEqDiff,↓reduceIte,t9]
  ·simp only[upd_app,Nat.reduceEqDiff,↓reduceIte,t10,hll]
  ·simp only[upd_app,↓reduceIte]
   rfl
  clear t4 t6 t7 t9 t10 hsd harr hkeep
  rintro k tm hp3 ⟨i,rfl,hi,hsd,harr,hkeep,t4,t6,t7,t9,t10,t58⟩
  by_cases hlt:i<256
  rotate_left
  ·have:i=256:=by omega
   subst this
   refine vcE.ex (by simp (disch:=first|assumption|omega) only[go_sem,↓reduceIte,t58]; rfl) ?_
   refine⟨rfl,hsd,harr,by rw[hkeep 0 (by omega)]; exact hr0,?_,?_,?_⟩
   all_goals simp only[upd_app,Nat.reduceEqDiff,↓reduceIte,t4,t9,t10]
  have hlt':(i:Int)<256:=by omega
  have hlv3:=hlv.keep (hp':=hp3) (fun k hk=>hkeep k (by omega))
  have hfz:=hlv3.frz
  have wu:IntKind.wrap .u8 (i:Int)=((UInt8.ofNat i).toNat:Int):=by
   rw[wrap_u8 (by omega) (by omega),UInt8.toNat_ofNat']
   omega
  have ho:=hof (UInt8.ofNat i)
  have hb:=C1_bin ks (ofB f (UInt8.ofNat i)) hrise (by omega)
  have w1:=natW (x:=(i:Int)+1) (i+1) (by omega) (by omega)
  have hlow:lowB ks (ofB f (UInt8.ofNat i))≤ks.length:=by
   rw[lowB]
   exact List.length_filter_le _ _
  have w2:=natW (x:=((lowB ks (ofB f (UInt8.ofNat i)):Nat):Int)+1) (lowB ks (ofB f (UInt8.ofNat i))+1) (by omega) (by omega)
  have hsl:=(List.getElem?_eq_some_iff.1 hsd).1
  have hnl:=(List.getElem?_eq_some_iff.1 harr).1
  cases his:isB ks (ofB f (UInt8.ofNat i))<;>rw[his] at hb
  ·have y1:iaddrA 1 (.sl sid 0 (ks.length+1) 1 l.length ex) (.int .i64 0)=some (.ptr sid 0):=iaddr_sl1 (i:=0) (by omega)
   have st:=encI.sl_store1 (e:=3) (id:=sid) (hp:=hp3) rfl hsd (i:=0) (by simp) (b:=(i:Int)) (v:=.int .i64 (i:Int)) rfl (fun vs h=>by cases h)
   refine vcE.ex (by simp (disch:=first|assumption|omega) only[go_sem,↓reduceIte,t58,hlt',Nat.reduceEqDiff,t7,t6,wu,frzL.eq_2,ho,nidL.eq_2,hfz,hb,t10,↓y1,↓st,w1]; rfl) ?_
   refine⟨256 - (i+1),by omega,i+1,rfl,by omega,?_,?_,?_,?_,?_,?_,?_,?_,?_⟩
   ·rw[List.getElem?_set_self hsl,zeroTo,if_neg (by rw[his]; simp)]
   ·rw[List.getElem?_set_ne (by omega),harr,clsTo_same _ _ _ his]
   ·intro k hk
    rw[List.getElem?_set_ne (by omega)]
    exact hkeep k hk
   all_goals simp only[upd_app,Nat.reduceEqDiff,↓reduceIte,t4,t6,t7,t9,t10]
  ·have y1:aaddrA 256 1 (.ptr n0 0) (.int .i64 (i:Int))=some (.ptr n0 i):=by
    simp only[aaddrA]
    rw[if_pos (by omega)]
    simp[faddrA]
   have st:=encI.sl_store1 (e:=110) (id:=n0) (hp:=hp3) rfl harr (i:=i) (by rw[clsTo_len]; omega) (b:=((lowB ks (ofB f (UInt8.ofNat i))+1:Nat):Int)) (v:=.int .i64 ((lowB ks (ofB f (UInt8.ofNat i))+1:Nat):Int)) rfl (fun vs h=>by cases h)
   refine vcE.ex (by simp (disch:=first|assumption|omega) only[go_sem,↓reduceIte,t58,hlt',Nat.reduceEqDiff,t7,t6,wu,frzL.eq_2,ho,nidL.eq_2,hfz,hb,w2,t9,↓y1,↓st,w1]; rfl) ?_
   refine⟨256 - (i+1),by omega,i+1,rfl,by omega,?_,?_,?_,?_,?_,?_,?_,?_,?_⟩
   ·rw[List.getElem?_set_ne (by omega),zeroTo,if_pos his]
    exact hsd
   ·have:clsOf ks f (UInt8.ofNat i)=lowB ks (ofB f (UInt8.ofNat i))+1:=by rw[clsOf,if_pos his]
    rw[List.getElem?_set_self hnl,← clsTo_set,this]
   ·intro k hk
    rw[List.getElem?_set_ne (by omega)]
    exact hkeep k hk
   all_goals simp only[upd_app,Nat.reduceEqDiff,↓reduceIte,t4,t6,t7,t9,t10]
 clear t4 t6 t7 t9 t10 hsd harr hkeep hp2
 rintro e' tm hp2 ⟨rfl,hsd,harr,h0,t4,t9,t10⟩
 have hcl:=clsTo_len ks f 256
 have hcc:(encI.cs (clsTo ks f 256)).length=256:=by rw[encI_cs,List.length_map,hcl]
 have hZl:Z.length=256:=by rw[← hZ,encI_cs,List.length_map,List.length_replicate]
 have hpk:pickA (some 256) (encI.cs (clsTo ks f 256)) 0=some (.agg (encI.cs (clsTo ks f 256))):=by
  simp only[pickA]
  rw[if_pos (by omega),List.drop_zero,List.take_of_length_le (by omega)]
 have hst:storeA hp2 256 (.ptr 0 0) (.agg (encI.cs (clsTo ks f 256)))=some (hp2.set 0 (some (.row 110 (encI.cs (clsTo ks f 256))))):=by
  have ho:over Z 0 (encI.cs (clsTo ks f 256))=encI.cs (clsTo ks f 256):=by
   rw[over,List.take_zero,List.nil_append,List.drop_eq_nil_of_le (by omega),List.append_nil]
  simp only[storeA,h0,cellsA,hcc,hZl,ho,Nat.zero_add,Nat.le_refl,and_self,if_true]
 have h0l:=(List.getElem?_eq_some_iff.1 h0).1
 have hset:(hp2.set 0 (some (.row 110 (encI.cs (clsTo ks f 256)))))[0]? = some (some (.row 110 (encI.cs (clsTo ks f 256)))):=List.getElem?_set_self h0l
 have hset2:(hp2.set 0 (some (.row 110 (encI.cs (clsTo ks f 256)))))[sid]? = some (some (.row 3 (encI.cs (zeroTo ks f 256 :: ks.map fun c=>(c.toNat:Int))))):=by
  rw[List.getElem?_set_ne (by omega)]
  exact hsd
 refine vcE.ex (by simp (disch:=first|assumption|omega) only[go_sem,↓reduceIte,Nat.reduceEqDiff,t4,t9,t10,harr,↓hpk,↓hst]; rfl) ?_
 refine⟨.tup [.agg (encI.cs (clsTo ks f 256)),.sl sid 0 (ks.length+1) 1 l.length ex],?_,?_⟩
 ·simp only[resE,resEL,resE1,upd_app,Nat.reduceEqDiff,↓reduceIte,t4,loadA,rowA,hset,hpk]
 ·have f2:=encI.sl_fresh (lo:=l.length) (ex:=ex) hset2
  rw[List.length_cons,List.length_map] at f2
  have f1:∀ (hp:HP) (l:List Int),freshL hp (encI.cs l)=some (encI.cs l):=by
   intro hp l
   rw[encI_cs]
   induction l with
   | nil=>rfl
   | cons a l ih =>
    rw[List.map_cons]
    simp only[freshL,ih]
    rfl
  show fresh _ (.tup _)=_
  rw[fresh_tup]
  simp only[freshL,fresh_agg,f1]
  rw[show encI.sz=1 from rfl] at f2
  rw[f2]
  simp only[clsL,someL,hks]
end
section
set_option linter.unusedSectionVars false
variable [Mx]
open Go
mutual
def exT (w:Cls) (T:Tab) (is:List IOp):Tr→Env→HP→(Env→HP→Prop)→Prop
 | .done,tm,hp,K=>K tm hp
 | .take i t,tm,hp,K=>match is[i]? with
  | none=>exT w T is t tm hp K
  | some o => ∃ r,exOp w T o tm hp=some r∧exT w T is t r.1 r.2 K
 | .fork l,tm,hp,K=>exTs w T is l tm hp K
def exTs (w:Cls) (T:Tab) (is:List IOp):List (Nat × Tr)→Env→HP→(Env→HP→Prop)→Prop
 | [],_,_,_=>True
 | (i,t) :: l,tm,hp,K=>(match is[i]? with
  | none=>exT w T is t tm hp K
  | some o => ∃ r,exOp w T o tm hp=some r∧exT w T is t r.1 r.2 K)∧exTs w T is l tm hp K
end
mutual
theorem exT_vops {P:Program} {T:Tab} (hT:TabOk P T) {w:Cls} {n:Nat} {is:List IOp} (hr:is.all (·.inR n)=true) {K:Env→HP→Prop} {Q:St→Prop} (hq:∀ tm' hp' l',Is n tm' l'→K tm' hp'→Q ⟨l',hp'⟩):∀ (t:Tr) {tm:Env} {hp:HP} {l:List AV},Is n tm l→exT w T is t tm hp K→vopsT P w is t ⟨l,hp⟩ Q
 | .done,tm,hp,l,hl,h=>by
  simp only[exT] at h
  simp only[vopsT]
  exact hq _ _ _ hl h
 | .take i t,tm,hp,l,hl,h=>by
  simp only[exT] at h
  simp only[vopsT,opA]
  cases hi:is[i]? with
  | none =>
   rw[hi] at h
   exact exT_vops hT hr hq t hl h
  | some o =>
   rw[hi] at h
   obtain⟨⟨tm1,hp1⟩,h1,h2⟩:=h
   have ho:o.inR n=true:=List.all_eq_true.1 hr o (List.mem_of_getElem? hi)
   obtain⟨v,h3,h4⟩:=exOp_yields (w:=w) hT ho hl h1
   exact⟨v,hp1,h3,exT_vops hT hr hq t h4 h2⟩
 | .fork ls,tm,hp,l,hl,h=>by
  simp only[exT] at h
  simp only[vopsT]
  exact exTs_vops hT hr hq ls hl h
theorem exTs_vops {P:Program} {T:Tab} (hT:TabOk P T) {w:Cls} {n:Nat} {is:List IOp} (hr:is.all (·.inR n)=true) {K:Env→HP→Prop} {Q:St→Prop} (hq:∀ tm' hp' l',Is n tm' l'→K tm' hp'→Q ⟨l',hp'⟩):∀ (ls:List (Nat × Tr)) {tm:Env} {hp:HP} {l:List AV},Is n tm l→exTs w T is ls tm hp K→vopsTs P w is ls ⟨l,hp⟩ Q
 | [],tm,hp,l,hl,h=>by simp only[vopsTs]
 | (i,t) :: ls,tm,hp,l,hl,h=>by
  simp only[exTs] at h
  simp only[vopsTs,opA]
  refine⟨?_,exTs_vops hT hr hq ls hl h.2⟩
  have h:=h.1
  cases hi:is[i]? with
  | none =>
   rw[hi] at h
   exact exT_vops hT hr hq t hl h
  | some o =>
   rw[hi] at h
   obtain⟨⟨tm1,hp1⟩,h1,h2⟩:=h
   have ho:o.inR n=true:=List.all_eq_true.1 hr o (List.mem_of_getElem? hi)
   obtain⟨v,h3,h4⟩:=exOp_yields (w:=w) hT ho hl h1
   exact⟨v,hp1,h3,exT_vops hT hr hq t h4 h2⟩
end
theorem vcE.forks {P:Program} {hint:Nat→Nat} {T:Tab} {n:Nat} {w:Cls} {is:List IOp} {t:Tr} {tm:Env} {hp:HP} {Q:Exit→Env→HP→Prop} (K:Env→HP→Prop) (h:exT w T is t tm hp K) (k:∀ tm' hp',K tm' hp'→Q .normal tm' hp'):vcE P hint T n (.regD w is t) tm hp Q:=
 vcE.drawn fun l Q' hl hq hT hr=>exT_vops hT hr (fun tm' hp' l' h1 h2=>hq _ _ _ h1 (k _ _ h2)) t hl h
section
variable {w:Cls} {T:Tab} {is:List IOp} {i:Nat} {t:Tr} {l:List (Nat × Tr)} {o:IOp} {tm tm':Env} {hp hp':HP} {K:Env→HP→Prop}
theorem exT_done (h:K tm hp):exT w T is .done tm hp K:=by simp only[exT]; exact h
theorem exT_take (hi:is[i]? = some o) (h1:exOp w T o tm hp=some (tm',hp')) (h2:exT w T is t tm' hp' K):exT w T is (.take i t) tm hp K:=by
 simp only[exT,hi]
 exact⟨_,h1,h2⟩
theorem exT_fork (h:exTs w T is l tm hp K):exT w T is (.fork l) tm hp K:=by simp only[exT]; exact h
theorem exTs_nil:exTs w T is [] tm hp K:=by simp only[exTs]
theorem exTs_cons (hi:is[i]? = some o) (h1:exOp w T o tm hp=some (tm',hp')) (h2:exT w T is t tm' hp' K) (h3:exTs w T is l tm hp K):exTs w T is ((i,t) :: l) tm hp K:=by
 simp only[exTs,hi]
 exact⟨⟨_,h1,h2⟩,h3⟩
end
end
end Go.Gi
