/- glob.Match: what it computes. -/
/- IndexMost. -/
import Derived.Test.YtakdhioafodhcaaGreatDoorGiSL
import Derived.Test.YtakdhioafodhcaaGreatDoorGiYR
import Derived.Test.YtakdhioafodhcaaGreatDoorGiIyN
set_option linter.unusedVariables false
set_option linter.unusedSimpArgs false
namespace Go.Gi
open _root_.Bool renaming not_true → xB
open _root_.Go.Gi.Enc renaming S_nid → xu
open _root_.Go.Proofs.Tryz renaming prog → qi
open _root_.List renaming getElem?_eq_some_iff → qf, getElem?_eq_getElem → qg, getElem?_cons_zero → ql, getElem?_cons_succ → qw, mem_of_getElem? → xa, getD_cons_zero → qF, getD_cons_succ → xF, take_length → xl, take_zero → xi
open _root_.Nat renaming mul_le_mul_right → xj, reduceEqDiff → qa, reduceLeDiff → qu, reduceAdd → qs, zero_add → qY, add_zero → xN, le_refl → qk
open _root_.Go.Gi.Tab renaming addR_self → xL, addO_ne → qS
open _root_.Go.Gi.TabOk renaming addR → xY
section
set_option linter.unusedSectionVars false
variable [Mx]
open Go Go.Proofs
theorem pSame0 (a b:UInt8):PCF qi 43 [.int .u8 a.toNat,.int .u8 b.toNat] (.bool (sameB false a b)):=by
 refine pcf_e hmG (TabOk.none _) comp43 (by decide) (by simp) (nidL_ok rfl) ?_
 refine vcE.ex (by simp only[go_sem,↓reduceIte,qa,reduceCtorEq,qs,u8_eqI]; rfl) ?_
 exact⟨_,rfl,rfl⟩
theorem pSame1 (a b:UInt8):PCF qi 44 [.int .u8 a.toNat,.int .u8 b.toNat] (.bool (sameB true a b)):=by
 refine pcf_e hmG G0_ok comp44 (by decide) (by simp) (nidL_ok rfl) ?_
 refine vcE.ex (by simp (disch:=omega) only[go_sem,↓reduceIte,qa,reduceCtorEq,qs,G0_fold,foldB_eq]; rfl) ?_
 exact⟨_,rfl,rfl⟩
def TM:Tab:=(G0.addR 43 (.cons .u8 (.cons .u8 .nil)) fun p=>.rd true (.bool (sameB false p.1 p.2.1))).addR 44 (.cons .u8 (.cons .u8 .nil)) fun p=>.rd true (.bool (sameB true p.1 p.2.1))
theorem TM_ok:TabOk qi TM:=by
 refine xY (xY G0_ok ?_) ?_
 ·exact fun p=>pSame0 p.1 p.2.1
 ·exact fun p=>pSame1 p.1 p.2.1
theorem TM_same (f:Bool) (c b:UInt8):TM (if f then 44 else 43) [.int .u8 c.toNat,.int .u8 b.toNat]=some (.rd true (.bool (sameB f c b))):=by
 cases f
 ·refine (Tab.addR_ne _ _ _ _ rfl _).trans ?_
  exact xL _ _ (.cons .u8 (.cons .u8 .nil)) _ (c,b,())
 ·exact xL _ _ (.cons .u8 (.cons .u8 .nil)) _ (c,b,())
theorem lex3 {M A A' B B' C C':Nat} (hB:B'≤M) (hC:C'≤M) (h:A'<A∨(A'=A∧(B'<B∨(B'=B∧C'<C)))):A'*((M+1)*(M+1))+B'*(M+1)+C'<A*((M+1)*(M+1))+B*(M+1)+C:=by
 have h1:B'*(M+1)≤M*(M+1):=xj _ hB
 have h2:(M+1)*(M+1)=M*(M+1)+M+1:=by rw[Nat.succ_mul]; omega
 rcases h with h|⟨rfl,h|⟨rfl,h⟩⟩
 ·have h3:(A'+1)*((M+1)*(M+1))≤A*((M+1)*(M+1)):=xj _ h
  rw[Nat.succ_mul] at h3
  omega
 ·have h3:(B'+1)*(M+1)≤B*(M+1):=xj _ h
  rw[Nat.succ_mul] at h3
  omega
 ·omega
def MI (sf:FuncId) (s:UInt8→UInt8→Bool) (p t:List UInt8) (m:Nat) (tm:Env) (hp:HP):Prop:=
 ∃ i k a f:Nat,hp=[]∧tm 0=.str p∧tm 1=.str t∧tm 7=.func sf []∧tm 8=.int .i64 i∧tm 9=.int .i64 k∧tm 10=.int .i64 ((a:Int) - 1)∧tm 11=.int .i64 f∧GInv s p t i k a f∧f≤k∧m=(p.length+1 - a)*((t.length+1)*(t.length+1))+(t.length - f)*(t.length+1)+(t.length - k)
def MR (s:UInt8→UInt8→Bool) (p t:List UInt8):Exit→Env→HP→Prop
 | .normal,tm,hp => ∃ i:Nat,hp=[]∧tm 0=.str p∧tm 8=.int .i64 i∧i≤p.length∧(gm s p t=true↔gm s (p.drop i) []=true)
 | .ret,tm,hp=>hp=[]∧tm 6=.bool false∧gm s p t=false
 | _,_,_=>False
theorem match_loop {hint:Nat→Nat} {sf:FuncId} {s:UInt8→UInt8→Bool} (hsf:∀ c b:UInt8,TM sf [.int .u8 c.toNat,.int .u8 b.toNat]=some (.rd true (.bool (s c b)))) {p t:List UInt8} (hp1:p.length<4611686018427387904) (ht1:t.length<4611686018427387904) {tm:Env} {hp:HP} {m:Nat} (h:MI sf s p t m tm hp) :
  vcE qi hint TM 81 (IC.block 0 (IC.loop b26_0)) tm hp (MR s p t):=by
 refine vcE.block (vcE.loop (by intro l tm hp h; exact h) (MI sf s p t) m h ?_)
 clear h tm hp m
 rintro m tm hp ⟨i,k,a,f,rfl,e0,e1,e7,e8,e9,e10,e11,hg,hfk,hm⟩
 have hip:=hg.ip
 have hkt:=hg.kt
 by_cases hk:k<t.length
 ·obtain⟨b,hb⟩:∃ b,t[k]? = some b:=⟨_,qg hk⟩
  by_cases hi:i<p.length
  ·obtain⟨c,hc⟩:∃ c,p[i]? = some c:=⟨_,qg hi⟩
   by_cases h42:c.toNat=42
   ·refine vcE.ex (by simp (disch:=omega) only[go_sem,↓reduceIte,qa,reduceCtorEq,qs,e0,e1,e7,e8,e9,e10,e11,hb,hc]; rfl) ?_
    have hc':p[i]? = some 42:=by rw[hc]; congr; exact UInt8.toNat_inj.1 h42
    refine⟨_,?_,i+1,k,i+1,k,rfl,?_,?_,?_,?_,?_,?_,?_,hg.star hc',qk _,rfl⟩
    ·rw[hm]
     refine lex3 (by omega) (by omega) (.inl ?_)
     by_cases ha:a=0
     ·omega
     ·have:=(hg.ai ha).1
      omega
    all_goals simp only[upd_app,qa,↓reduceIte,e0,e1,e7,e8,e9]
    all_goals first|rfl|(congr 1; omega)
   ·have hn:c≠42:=fun e=>h42 (by rw[e]; rfl)
    by_cases h63:c.toNat=63
    ·refine vcE.ex (by simp (disch:=omega) only[go_sem,↓reduceIte,qa,reduceCtorEq,qs,e0,e1,e7,e8,e9,e10,e11,hb,hc]; rfl) ?_
     refine⟨_,?_,i+1,k+1,a,f,rfl,?_,?_,?_,?_,?_,?_,?_,hg.one hc hb hn (.inl (UInt8.toNat_inj.1 h63)),by omega,rfl⟩
     ·rw[hm]
      exact lex3 (by omega) (by omega) (.inr ⟨rfl,.inr ⟨rfl,by omega⟩⟩)
     all_goals simp only[upd_app,qa,↓reduceIte,e0,e1,e7,e8,e9,e10,e11]
     all_goals rfl
    ·have hcb:=hsf c b
     cases hs:s c b
     ·rw[hs] at hcb
      have hno:¬ gm s (p.drop i) (t.drop k)=true:=gm_miss hb fun c' hc'=>by
       rw[hc] at hc'
       cases hc'
       exact⟨hn,fun e=>h63 (by rw[e]; rfl),hs⟩
      by_cases ha:a=0
      ·refine vcE.ex (by simp (disch:=omega) only[go_sem,↓reduceIte,qa,reduceCtorEq,qs,e0,e1,e7,e8,e9,e10,e11,hb,hc,hcb]; rfl) ?_
       refine⟨rfl,?_,Bool.eq_false_iff.2 fun h0=>hno ((hg.none ha).1 h0)⟩
       simp only[upd_app,qa,↓reduceIte]
      ·obtain⟨k1,k2,k3⟩:=hg.ai ha
       refine vcE.ex (by simp (disch:=omega) only[go_sem,↓reduceIte,qa,reduceCtorEq,qs,e0,e1,e7,e8,e9,e10,e11,hb,hc,hcb]; rfl) ?_
       refine⟨_,?_,a,f+1,a,f+1,rfl,?_,?_,?_,?_,?_,?_,?_,hg.back ha hk hno,qk _,rfl⟩
       ·rw[hm]
        exact lex3 (by omega) (by omega) (.inr ⟨rfl,.inl (by omega)⟩)
       all_goals simp only[upd_app,qa,↓reduceIte,e0,e1,e7,e8,e9,e10,e11]
       all_goals first|rfl|(congr 1; omega)
     ·rw[hs] at hcb
      refine vcE.ex (by simp (disch:=omega) only[go_sem,↓reduceIte,qa,reduceCtorEq,qs,e0,e1,e7,e8,e9,e10,e11,hb,hc,hcb]; rfl) ?_
      refine⟨_,?_,i+1,k+1,a,f,rfl,?_,?_,?_,?_,?_,?_,?_,hg.one hc hb hn (.inr hs),by omega,rfl⟩
      ·rw[hm]
       exact lex3 (by omega) (by omega) (.inr ⟨rfl,.inr ⟨rfl,by omega⟩⟩)
      all_goals simp only[upd_app,qa,↓reduceIte,e0,e1,e7,e8,e9,e10,e11]
      all_goals rfl
  ·have hno:¬ gm s (p.drop i) (t.drop k)=true:=gm_miss hb fun c' hc'=>by
    have:=(qf.1 hc').1
    omega
   by_cases ha:a=0
   ·refine vcE.ex (by simp (disch:=omega) only[go_sem,↓reduceIte,qa,reduceCtorEq,qs,e0,e1,e7,e8,e9,e10,e11,hb]; rfl) ?_
    refine⟨rfl,?_,Bool.eq_false_iff.2 fun h0=>hno ((hg.none ha).1 h0)⟩
    simp only[upd_app,qa,↓reduceIte]
   ·obtain⟨k1,k2,k3⟩:=hg.ai ha
    refine vcE.ex (by simp (disch:=omega) only[go_sem,↓reduceIte,qa,reduceCtorEq,qs,e0,e1,e7,e8,e9,e10,e11,hb]; rfl) ?_
    refine⟨_,?_,a,f+1,a,f+1,rfl,?_,?_,?_,?_,?_,?_,?_,hg.back ha hk hno,qk _,rfl⟩
    ·rw[hm]
     exact lex3 (by omega) (by omega) (.inr ⟨rfl,.inl (by omega)⟩)
    all_goals simp only[upd_app,qa,↓reduceIte,e0,e1,e7,e8,e9,e10,e11]
    all_goals first|rfl|(congr 1; omega)
 ·refine vcE.ex (by simp (disch:=omega) only[go_sem,↓reduceIte,qa,reduceCtorEq,qs,e0,e1,e7,e8,e9,e10,e11]; rfl) ?_
  refine⟨i,rfl,?_,?_,hip,hg.last (by omega)⟩
  all_goals simp only[upd_app,qa,↓reduceIte,e0,e1,e7,e8,e9]
theorem stars_loop {hint:Nat→Nat} {s:UInt8→UInt8→Bool} {p t:List UInt8} (hp1:p.length<4611686018427387904) {tm:Env} {hp:HP} (h:MR s p t .normal tm hp) :
  vcE qi hint TM 81 (IC.block 3 (IC.loop b26_1)) tm hp fun e tm' hp'=>e=.normal∧hp'=[]∧tm' 0=.str p∧∃ i:Nat,tm' 8=.int .i64 i∧gm s p t=decide (i=p.length):=by
 refine vcE.block (vcE.loop (by intro l tm hp h; simp at h) (fun m tm hp=>MR s p t .normal tm hp∧∃ i:Nat,tm 8=.int .i64 i∧i≤p.length∧m=p.length - i) (p.length - (h.choose)) ⟨h,h.choose,h.choose_spec.2.2.1,h.choose_spec.2.2.2.1,rfl⟩ ?_)
 clear h tm hp
 rintro m tm hp ⟨⟨i,rfl,e0,e8,hip,hg⟩,i',e8',_,hm⟩
 have hii:i'=i:=by rw[e8] at e8'; injection e8' with _ h; omega
 subst hii
 by_cases hi:i'<p.length
 ·obtain⟨c,hc⟩:∃ c,p[i']? = some c:=⟨_,qg hi⟩
  by_cases h42:c.toNat=42
  ·refine vcE.ex (by simp (disch:=omega) only[go_sem,↓reduceIte,qa,reduceCtorEq,qs,e0,e8,hc]; rfl) ?_
   have hc':p[i']? = some 42:=by rw[hc]; congr; exact UInt8.toNat_inj.1 h42
   refine⟨p.length - (i'+1),by omega,⟨i'+1,rfl,?_,?_,hi,hg.trans (gm_stars hc')⟩,i'+1,?_,hi,rfl⟩
   all_goals simp only[upd_app,qa,↓reduceIte,e0,e8]
   all_goals rfl
  ·refine vcE.ex (by simp (disch:=omega) only[go_sem,↓reduceIte,qa,reduceCtorEq,qs,e0,e8,hc]; rfl) ?_
   refine⟨rfl,rfl,?_,i',?_,?_⟩
   ·simp only[upd_app,qa,↓reduceIte,e0]
   ·simp only[upd_app,qa,↓reduceIte,e8]
   ·rw[Bool.eq_iff_iff,hg,gm_end hip (by rw[hc]; simp only[ne_eq,Option.some.injEq]; exact fun e=>h42 (by rw[e]; rfl))]
 ·refine vcE.ex (by simp (disch:=omega) only[go_sem,↓reduceIte,qa,reduceCtorEq,qs,e0,e8]; rfl) ?_
  refine⟨rfl,rfl,?_,i',?_,?_⟩
  ·simp only[upd_app,qa,↓reduceIte,e0]
  ·simp only[upd_app,qa,↓reduceIte,e8]
  ·rw[Bool.eq_iff_iff,hg,gm_end hip (by rw[List.getElem?_eq_none (by omega)]; simp)]
theorem match_tail {hint:Nat→Nat} {sf:FuncId} {s:UInt8→UInt8→Bool} (hsf:∀ c b:UInt8,TM sf [.int .u8 c.toNat,.int .u8 b.toNat]=some (.rd true (.bool (s c b)))) {p t:List UInt8} (hp1:p.length<4611686018427387904) (ht1:t.length<4611686018427387904) {tm:Env} (e0:tm 0=.str p) (e1:tm 1=.str t) (e7:tm 7=.func sf []) :
  vcE qi hint TM 81 ((IC.reg r26_4).seq ((IC.reg r26_5).seq (IC.skip.seq ((IC.block 0 (IC.loop b26_0)).seq ((IC.block 3 (IC.loop b26_1)).seq ((IC.reg r26_19).seq IC.ret)))))) tm [] (RetE [.t 6] fun r' hp'=>fresh hp' r'=some (.bool (gm s p t))):=by
 refine vcE.s1 (k:=vcE.s1 (k:=vcE.s0 ?_))
 refine vcE.then (MR s p t) (match_loop hsf hp1 ht1 (m:=_) ⟨0,0,0,0,rfl,?_,?_,?_,?_,?_,?_,?_,GInv.start s p t,qk _,rfl⟩) ?_
 ·simp only[upd_app,qa,↓reduceIte,e0]
 ·simp only[upd_app,qa,↓reduceIte,e1]
 ·simp only[upd_app,qa,↓reduceIte,e7]
 ·simp only[upd_app,qa,↓reduceIte]; rfl
 ·simp only[upd_app,qa,↓reduceIte]; rfl
 ·simp only[upd_app,qa,↓reduceIte]; rfl
 ·simp only[upd_app,qa,↓reduceIte]; rfl
 intro e tm' hp' h
 cases e<;>simp only[MR] at h
 ·refine vcE.then _ (stars_loop (s:=s) (t:=t) hp1 h) ?_
  rintro e tm2 hp2 ⟨rfl,rfl,f0,i,f8,hr⟩
  refine vcE.ex (by simp only[go_sem,↓reduceIte,qa,reduceCtorEq,qs,f0,f8]; rfl) ?_
  refine⟨_,rfl,?_⟩
  simp only[upd_app,qa,↓reduceIte]
  rw[hr,show decide ((i:Int)=(p.length:Int))=decide (i=p.length) from decide_eq_decide.2 (by omega)]
  rfl
 ·obtain⟨rfl,h6,hf⟩:=h
  refine⟨_,rfl,?_⟩
  rw[h6,hf]
  rfl
theorem pMatch {p t:List UInt8} (hp1:p.length<4611686018427387904) (ht1:t.length<4611686018427387904) (f:Bool):PCF qi 26 [.str p,.str t,.bool f] (.bool (gm (sameB f) p t)):=by
 refine pcf_e hmG TM_ok comp26 (by decide) (by simp) (nidL_ok rfl) ?_
 have hs:=TM_same f
 refine vcE.s1 (k:=vcE.s0 ?_)
 cases f
 ·refine vcE.s1 (k:=match_tail hs hp1 ht1 ?_ ?_ ?_)
  all_goals simp only[upd_app,qa,↓reduceIte,start_app,qF,xF]
  rfl
 ·refine vcE.s1 (k:=match_tail hs hp1 ht1 ?_ ?_ ?_)
  all_goals simp only[upd_app,qa,↓reduceIte,start_app,qF,xF]
end
section
set_option linter.unusedSectionVars false
variable [Mx]
open Go Go.Proofs
def S2:Tab:=S1.addO 26 (.cons .str (.cons .str (.cons .bool .nil))) fun p=>if p.1.length<4611686018427387904∧p.2.1.length<4611686018427387904 then some (.rd true (.bool (gm (sameB p.2.2.1) p.1 p.2.1))) else none
theorem S2_ok:TabOk qi S2:=by
 refine TabOk.addO S1_ok ?_
 intro p r h
 split at h
 ·rename_i hv; cases h; exact pMatch hv.1 hv.2 p.2.2.1
 ·cases h
theorem S2_lives:S2 8 []=some (.rd true (.bool true)):=rfl
theorem S2_light {l:List ActI} (hl:l.length≤4611686018427387904):S2 15 [encX.S l]=some (.rd true (.bool (lightI l))):=
 (qS _ _ _ _ rfl _).trans (S1_light hl)
theorem S2_int {l m:List Int} (hl:l.length≤4611686018427387904):S2 20 [encI.S l,encI.S m]=some (.rd true (.bool (decide (l=m)))):=
 (qS _ _ _ _ rfl _).trans (S1_int hl)
theorem S2_gl {l m:List Gl} (hl:l.length≤4611686018427387904):S2 24 [encG.S l,encG.S m]=some (.rd true (.bool (decide (l=m)))):=
 (qS _ _ _ _ rfl _).trans (S1_gl hl)
theorem S2_match {p t:List UInt8} (f:Bool) (h1:p.length<4611686018427387904) (h2:t.length<4611686018427387904):S2 26 [.str p,.str t,.bool f]=some (.rd true (.bool (gm (sameB f) p t))):=
 (Tab.addO_self _ _ (.cons .str (.cons .str (.cons .bool .nil))) _ (p,t,f,())).trans (if_pos ⟨h1,h2⟩)
structure Two (c:Nat) (mx my:Int) (G:List Gl) (H:HP):Prop where
 ex:∃ Fx Fy:Nat→Prop,IxF 0 mx G Fx H∧IxF c my G Fy H∧(∀ k,Fx k→¬ Fy k)∧(∀ k,Fx k→k<H.length)∧∀ k,Fy k→k<H.length
theorem Two.keep {c:Nat} {mx my:Int} {G:List Gl} {H H':HP} (h:Two c mx my G H) (hf:∀ j,j<H.length→H'[j]? = H[j]?):Two c mx my G H':=by
 obtain⟨Fx,Fy,h1,h2,h3,h4,h5⟩:=h.ex
 have:=frame_le hf
 exact⟨Fx,Fy,h1.keep hf,h2.keep hf,h3,fun k hk=>by have:=h4 k hk; omega,fun k hk=>by have:=h5 k hk; omega⟩
structure Half (c:Nat) (mx my:Int) (G G':List Gl) (H:HP):Prop where
 ex:∃ Fx Fy:Nat→Prop,IxF 0 mx G' Fx H∧IxF c my G Fy H∧(∀ k,Fx k→¬ Fy k)∧(∀ k,Fx k→k<H.length)∧∀ k,Fy k→k<H.length
section
variable {c:Nat} {mx my:Int} {G G':List Gl} {H:HP}
theorem do_x (h:Two c mx my G H) (hm:1≤mx∧mx≤256) (a:ActI) (hl:a.pat.length≤300):ACalls qi 19 [.ptr 4 0,.agg a.c] H fun r H'=>r=.int .i64 (a.err G)∧Half c mx my G (a.next G) H':=by
 obtain⟨Fx,Fy,h1,h2,h3,h4,h5⟩:=h.ex
 refine (do_F h1 hm a hl).mono ?_
 rintro r H' ⟨rfl,hI,hC⟩
 have:=hC.le
 refine⟨rfl,⟨_,Fy,hI,h2.frame hC fun k hk hx=>h3 k hx hk,fun k hk hy=>?_,fun k hk=>?_,fun k hk=>by have:=h5 k hk; omega⟩⟩
 ·rcases hk with hk|hk
  ·exact h3 k hk hy
  ·have:=h5 k hy
   omega
 ·rcases hk with hk|hk
  ·have:=h4 k hk
   omega
  ·exact hk.2
theorem do_y (h:Half c mx my G G' H) (hm:1≤my∧my≤256) (a:ActI) (hn:G'=a.next G) (hl:a.pat.length≤300):ACalls qi 19 [.ptr (c+4) 0,.agg a.c] H fun r H'=>r=.int .i64 (a.err G)∧Two c mx my G' H':=by
 obtain⟨Fx,Fy,h1,h2,h3,h4,h5⟩:=h.ex
 subst hn
 refine (do_F h2 hm a hl).mono ?_
 rintro r H' ⟨rfl,hI,hC⟩
 have:=hC.le
 refine⟨rfl,⟨Fx,_,h1.frame hC h3,hI,fun k hk hy=>?_,fun k hk=>by have:=h4 k hk; omega,fun k hk=>?_⟩⟩
 ·rcases hy with hy|hy
  ·exact h3 k hk hy
  ·have:=h4 k hk
   omega
 ·rcases hk with hk|hk
  ·have:=h5 k hk
   omega
  ·exact hk.2
end
theorem up_at {L:List Gl} (h:UpG L) {i:Nat} {x y:Gl} (hx:L[i]? = some x) (hy:L[i+1]? = some y):x.id<y.id:=by
 obtain⟨h1,rfl⟩:=qf.1 hx
 obtain⟨h2,rfl⟩:=qf.1 hy
 exact List.pairwise_iff_getElem.1 h i (i+1) h1 h2 (by omega)
section
variable {L:List Gl} {i:Nat} {g:Gl} {H:HP} {b:Nat} {t:TypeId}
theorem encG_part {v:AV} (h:L[i]? = some g) {o:Nat} (ho:o<3) (hv:g.c[o]? = some v) (h1:oneA v=true):pickA none (encG.cs L) (i*3+o)=some v:=by
 have:=encG.pick_part h (sh:=none) (o:=o) (by show o+1≤3; omega)
 rw[show encG.sz=3 from rfl] at this
 rw[this]
 show pickA none g.c o=some v
 simp only[pickA,hv,h1,if_true]
theorem encG_load {v:AV} (hr:H[b]? = some (some (.row t (encG.cs L)))) (h:L[i]? = some g) {o:Nat} (ho:o<3) (hv:g.c[o]? = some v) (h1:oneA v=true):loadA H none (.ptr b (i*3+o))=some v:=by
 simp only[loadA,rowA,hr]
 exact encG_part h ho hv h1
end
def wantG (t:List UInt8) (L:List Gl):List Int:=(L.filter fun g=>g.ok t).map Gl.id
theorem wantG_len (t:List UInt8) (L:List Gl):(wantG t L).length≤L.length:=by
 rw[wantG,List.length_map]
 exact List.length_filter_le _ _
theorem wantG_more (t:List UInt8) (L:List Gl) (g:Gl):wantG t (L++[g])=wantG t L++if g.ok t then [g.id] else []:=by
 simp only[wantG,List.filter_append,List.filter_cons,List.filter_nil,List.map_append]
 cases g.ok t<;>rfl
set_option maxHeartbeats 4000000 in
theorem lawIMost (a b:Int) (l:List ActI) (hl:l.length≤4611686018427387904) (text:List UInt8):PC qi 7 [.int .i64 a,.int .i64 b,encX.S l,.str text] (.bool true):=by
 refine pc_e hmG S2_ok comp7 (by decide) (by simp) (nidL_ok (by simp only[nidL,nid,xu,Bool.and_self])) ?_
 have k1:=S2_lives
 have k2:=S2_light hl
 have hlen:∀ hp,lenA hp (encX.S l)=some (.int .i64 (l.length:Int)):=fun hp=>Enc.S_len _ _ _
 have hlf:lenFits .slice (encX.S l)=true:=rfl
 refine vcE.s1 (k:=vcE.step (by simp (disch:=first|assumption|omega) only[go_sem,↓reduceIte,qa,reduceCtorEq,qs,qu,k1,xB]; rfl) ?_)
 cases hL:lightI l
 ·rw[hL] at k2
  refine vcE.ex (by simp (disch:=first|assumption|omega) only[go_sem,↓reduceIte,qa,reduceCtorEq,qs,qu,k2,xu,Bool.not_false]; rfl) ?_
  exact⟨_,rfl,rfl⟩
 rw[hL] at k2
 by_cases hp2:text.length≤260
 rotate_left
 ·have h2:(text.length:Int) > 260:=by omega
  refine vcE.ex (by simp (disch:=first|assumption|omega) only[go_sem,↓reduceIte,qa,reduceCtorEq,qs,qu,k2,xu,xB,h2,decide_true]; rfl) ?_
  exact⟨_,rfl,rfl⟩
 have h2:¬ (text.length:Int) > 260:=by omega
 obtain⟨hl60,hla⟩:=lightI_at hL
 refine vcE.step (by simp (disch:=first|assumption|omega) only[go_sem,↓reduceIte,qa,reduceCtorEq,qs,qu,k2,xu,xB,h2,decide_false]; rfl) (vcE.seq ?_)
 rw[show r7_5=r7_5.take 1++((r7_5.drop 1).take 1++((r7_5.drop 2).take 1++((r7_5.drop 3).take 1++r7_5.drop 4))) from rfl]
 refine vcE.app (vcE.e1 (k:=⟨rfl,vcE.app (vcE.call (f:=9) (caps:=[]) (ys:=[.int .i64 a]) rfl (by simp only[evsE,evE,upd_app,qa,↓reduceIte]) (new_gen a []) ?_)⟩))
 rintro r H1 ⟨rfl,hx1,_⟩
 refine⟨rfl,vcE.app (vcE.ex (by simp (disch:=first|assumption|omega) only[go_sem,↓reduceIte,qa,reduceCtorEq,qs,qu,putE]; rfl) ⟨rfl,vcE.app (vcE.call (f:=9) (caps:=[]) (ys:=[.int .i64 b]) rfl (by simp only[evsE,evE,upd_app,qa,↓reduceIte]) (new_gen b H1) ?_)⟩)⟩
 rintro r H2 ⟨rfl,hy2,hc2⟩
 have hx1:IxF 0 (mostB a) [] _ H1:=hx1
 have hT:Two H1.length (mostB a) (mostB b) [] H2:=⟨_,_,hx1.frame hc2 (fun k _ h=>h),hy2,fun k hk hy=>by have:=hk.2; omega,fun k hk=>by have:=hc2.le; have:=hk.2; omega,fun k hk=>hk.2⟩
 obtain⟨c,hc⟩:∃ c,c=H1.length:=⟨_,rfl⟩
 rw[← hc] at hT ⊢
 have hmx:=mostB_in a
 have hmy:=mostB_in b
 generalize mostB a=mx at *
 generalize mostB b=my at *
 refine⟨rfl,vcE.ex (by simp (disch:=first|assumption|omega) only[go_sem,↓reduceIte,qa,reduceCtorEq,qs,qu,putE]; rfl) ?_⟩
 refine vcE.then (fun e' tm H=>e'=.normal∧Two c mx my (actsG l) H∧tm 3=.str text∧tm 9=.ptr 4 0∧tm 10=.ptr (c+4) 0) ?_ ?_
 ·refine vcE.s1 (k:=vcE.block (vcE.count (by intro l tm hp h; simp at h) (fun i tm H=>Two c mx my (actsG (l.take i)) H∧tm 2=encX.S l∧tm 3=.str text∧tm 9=.ptr 4 0∧tm 10=.ptr (c+4) 0∧tm 11=.int .i64 i) l.length ⟨hT,rfl,rfl,rfl,rfl,rfl⟩ ?_ ?_))
  ·rintro i tm H hi ⟨hI,t2,t3,t9,t10,t11⟩
   obtain⟨a,ha⟩:∃ a,l[i]? = some a:=⟨_,qg hi⟩
   have hia:iaddrA 5 (encX.S l) (.int .i64 i)=some (.fptr (encX.cs l) (i*5)):=encX.S_iaddr hi
   have hpk:pickA (some 5) (encX.cs l) (i*5)=some (.agg a.c):=encX.pick ha
   have hlt:(i:Int)<l.length:=by omega
   have hal:=(hla a (xa ha)).1
   have cx:=do_x hI hmx a hal
   have cy:=fun H' (h:Half c mx my (actsG (l.take i)) (a.next (actsG (l.take i))) H')=>do_y h hmy a rfl hal
   have hw1:callCls (.mix .wild 71468255805440) (some 40)=.wild:=by kernel_rfl
   have hw2:callCls (.mix .wild 71468255805440) (some 46)=.wild:=by kernel_rfl
   rw[actsG_succ ha]
   generalize actsG (l.take i)=G at *
   refine vcE.step (by simp (disch:=first|assumption|omega) only[go_sem,↓reduceIte,qa,reduceCtorEq,qs,qu,t2,t11,↓hlen,hlf,hlt,decide_true]; rfl) (vcE.seq (vcE.block (vcE.seq ?_)))
   refine vcE.dv (fun tm' H'=>Two c mx my (a.next G) H'∧tm' 2=encX.S l∧tm' 3=.str text∧tm' 9=.ptr 4 0∧tm' 10=.ptr (c+4) 0∧tm' 11=.int .i64 i∧tm' 47=.bool false) (dvT.ops [0,1,2,3,4,6,7,8,9] (by simp (disch:=first|assumption|omega) only[pickO,go_sem,↓reduceIte,qa,reduceCtorEq,qs,qu,ql,qw,t2,t9,t10,t11,hia,↓hpk]; rfl) (dvT.fork2 ?_ ?_)) ?_
   ·refine dvF.many (g:=19) (ys:=[.ptr 4 0,.agg a.c]) rfl rfl (by simp only[evsE,evE,upd_app,qa,↓reduceIte]) cx rfl (fun h=>by rw[hw1] at h; cases h) ?_
    rintro r H' ⟨rfl,hh⟩
    refine dvT.ops [10] (by simp (disch:=first|assumption|omega) only[pickO,go_sem,↓reduceIte,qa,reduceCtorEq,qs,qu,ql,qw,putE,hia,↓hpk]; rfl) (dvT.fork1 (dvF.many (g:=19) (ys:=[.ptr (c+4) 0,.agg a.c]) rfl rfl (by simp only[evsE,evE,upd_app,qa,↓reduceIte]) (cy H' hh) rfl (fun h=>by rw[hw2] at h; cases h) ?_))
    rintro r H'' ⟨rfl,hh⟩
    refine dvT.ops [12] (t:=.done) (by simp (disch:=first|assumption|omega) only[pickO,go_sem,↓reduceIte,qa,reduceCtorEq,qs,qu,ql,qw,putE,bne_self_eq_false]; rfl) (dvT.done ⟨hh,?_,?_,?_,?_,?_,?_⟩)
    all_goals simp only[putE,upd_app,qa,↓reduceIte,t2,t3,t9,t10,t11]
   ·refine dvF.of (dvT.ops [10] (by simp (disch:=first|assumption|omega) only[pickO,go_sem,↓reduceIte,qa,reduceCtorEq,qs,qu,ql,qw,hia,↓hpk]; rfl) (dvT.fork1 (dvF.many (g:=19) (ys:=[.ptr 4 0,.agg a.c]) rfl rfl (by simp only[evsE,evE,upd_app,qa,↓reduceIte]) cx rfl (fun h=>by rw[hw1] at h; cases h) ?_)))
    rintro r H' ⟨rfl,hh⟩
    refine dvT.fork1 (dvF.many (g:=19) (ys:=[.ptr (c+4) 0,.agg a.c]) rfl rfl (by simp only[evsE,evE,putE,upd_app,qa,↓reduceIte]) (cy H' hh) rfl (fun h=>by rw[hw2] at h; cases h) ?_)
    rintro r H'' ⟨rfl,hh⟩
    refine dvT.ops [12] (t:=.done) (by simp (disch:=first|assumption|omega) only[pickO,go_sem,↓reduceIte,qa,reduceCtorEq,qs,qu,ql,qw,putE,bne_self_eq_false]; rfl) (dvT.done ⟨hh,?_,?_,?_,?_,?_,?_⟩)
    all_goals simp only[putE,upd_app,qa,↓reduceIte,t2,t3,t9,t10,t11]
   ·rintro tm' H' ⟨hI',t2,t3,t9,t10,t11,t47⟩
    refine vcE.condFalse (by simp only[evE,t47]) (vcE.ex (by simp only[exC]; rfl) ?_)
    refine vcE.ex (by simp (disch:=first|assumption|omega) only[go_sem,↓reduceIte,qa,reduceCtorEq,qs,qu,t11]; rfl) ?_
    refine⟨hI',?_,?_,?_,?_,?_⟩
    all_goals simp only[upd_app,qa,↓reduceIte,t2,t3,t9,t10]
    rfl
  ·rintro tm H ⟨hI,t2,t3,t9,t10,t11⟩
   rw[xl] at hI
   have hnlt:¬ (l.length:Int)<l.length:=Int.lt_irrefl _
   refine vcE.ex (by simp (disch:=first|assumption|omega) only[go_sem,↓reduceIte,qa,reduceCtorEq,qs,qu,t2,t11,↓hlen,hlf,hnlt,decide_false]; rfl) ?_
   exact⟨rfl,hI,t3,t9,t10⟩
 rintro e' tm H ⟨rfl,hI,t3,t9,t10⟩
 show vcE _ _ _ _ _ _ _ _
 obtain⟨Fx,Fy,hx,hy,_,_,_⟩:=hI.ex
 have hok:=hx.ok
 clear hx hy
 generalize actsG l=G at *
 have s1:=sortG_small hok
 have s2:=matchS_small hok text
 obtain⟨Fx,Fy,hx,hy,hd,hbx,hby⟩:=hI.ex
 rw[show r7_11=r7_11.take 1++((r7_11.drop 1).take 1++r7_11.drop 2) from rfl]
 refine vcE.seq (vcE.app (vcE.ex (by simp (disch:=first|assumption|omega) only[go_sem,↓reduceIte,qa,reduceCtorEq,qs,qu,t9]; rfl) ⟨rfl,vcE.app (vcE.call (f:=25) (caps:=[]) (ys:=[.ptr 4 0]) rfl (by simp only[evsE,evE,upd_app,qa,↓reduceIte]) (globs_F hx) ?_)⟩))
 rintro r H3 ⟨i1,rfl,hb1,hi1,hf1⟩
 have hx:=hx.keep hf1
 have hy:=hy.keep hf1
 have hl1:=frame_le hf1
 refine⟨rfl,vcE.ex (by simp (disch:=first|assumption|omega) only[go_sem,↓reduceIte,qa,reduceCtorEq,qs,qu,putE]; rfl) ?_⟩
 refine vcE.s0 ?_
 have hup:=sortG_up hok.nd
 have hchk:∀ g ∈ sortG G,g.pat.length≤255:=fun g hg=>chk_le (hok.chk g ((sortG_perm hok.nd).mem_iff.1 hg))
 have hms:matchS text G=wantG text (sortG G):=rfl
 rw[hms] at s2
 refine vcE.then (fun e' tm H=>e'=.normal∧(∀ j,j<H3.length→H[j]? = H3[j]?)∧tm 3=.str text∧tm 9=.ptr 4 0∧tm 10=.ptr (c+4) 0∧tm 12=bld i1 (sortG G).length 3∧∃ iw,tm 13=bld iw (wantG text (sortG G)).length 1∧BldAt encI H iw 3 (wantG text (sortG G))) ?_ ?_
 ·refine vcE.s1 (k:=vcE.block (vcE.count (by intro l tm hp h; simp at h) (fun i tm H=>(∀ j,j<H3.length→H[j]? = H3[j]?)∧tm 3=.str text∧tm 9=.ptr 4 0∧tm 10=.ptr (c+4) 0∧tm 12=bld i1 (sortG G).length 3∧tm 14=.int .i64 i∧∃ iw,tm 13=bld iw (wantG text ((sortG G).take i)).length 1∧BldAt encI H iw 3 (wantG text ((sortG G).take i))∧H3.length≤iw) (sortG G).length ⟨fun _ _=>rfl,?_,?_,?_,?_,?_,H3.length,?_,.inl ?_,qk _⟩ ?_ ?_))
  ·simp only[putE,upd_app,qa,↓reduceIte,t3]
  ·simp only[putE,upd_app,qa,↓reduceIte,t9]
  ·simp only[putE,upd_app,qa,↓reduceIte,t10]
  ·simp only[putE,upd_app,qa,↓reduceIte]
  ·simp only[putE,upd_app,qa,↓reduceIte]; rfl
  ·simp only[putE,upd_app,qa,↓reduceIte,xi]; rfl
  ·rw[xi]; rfl
  ·rintro i tm H hi ⟨hf,t3,t9,t10,t12,t14,iw,t13,hbw,hiw⟩
   obtain⟨g,hg⟩:∃ g,(sortG G)[i]? = some g:=⟨_,qg hi⟩
   have hb1':=hb1.fr fun h=>hf _ h
   have hrow:=hb1'.resolve_left (by intro e; rw[e] at hi; simp at hi)
   have hgl:=hchk g (xa hg)
   have hbl:∀ hp,lenA hp (.sl i1 0 (sortG G).length 3 (sortG G).length false)=some (.int .i64 ((sortG G).length:Nat)):=fun _=>rfl
   have hbf:lenFits .slice (.sl i1 0 (sortG G).length 3 (sortG G).length false)=true:=rfl
   have hia:iaddrA 3 (.sl i1 0 (sortG G).length 3 (sortG G).length false) (.int .i64 (i:Nat))=some (.ptr i1 (i*3)):=(iaddr_sl hi).trans (by rw[qY])
   have p0:loadA H none (.ptr i1 (i*3))=some (.int .i64 g.id):=encG_load hrow hg (o:=0) (by omega) rfl rfl
   have p1:loadA H none (.ptr i1 (i*3+1))=some (.str g.pat):=encG_load hrow hg (o:=1) (by omega) rfl rfl
   have p2:loadA H none (.ptr i1 (i*3+2))=some (.bool g.fold):=encG_load hrow hg (o:=2) (by omega) rfl rfl
   have km:=S2_match (p:=g.pat) (t:=text) g.fold (by omega) (by omega)
   have hlt:(i:Int)<(sortG G).length:=by omega
   have htake:wantG text ((sortG G).take (i+1))=wantG text ((sortG G).take i)++if g.ok text then [g.id] else []:=by
    rw[List.take_add_one,hg]
    exact wantG_more _ _ _
   have hwl:(wantG text ((sortG G).take i)).length≤200:=by
    have h1:=wantG_len text ((sortG G).take i)
    rw[List.length_take] at h1
    omega
   have t12':=t12
   rw[bld_pos (by omega)] at t12
   refine vcE.step (by simp (disch:=first|assumption|omega) only[go_sem,↓reduceIte,qa,reduceCtorEq,qs,qu,t12,t14,↓hbl,hbf,hlt,decide_true]; rfl) (vcE.seq (vcE.block ?_))
   have first:∀ (Q:Exit→Env→HP→Prop),(∀ tm',tm' 3=tm 3→tm' 9=tm 9→tm' 10=tm 10→tm' 12=tm 12→tm' 13=tm 13→tm' 14=tm 14→Q .normal tm' H)→∀ tm0:Env,tm0 3=tm 3→tm0 9=tm 9→tm0 10=tm 10→tm0 12=tm 12→tm0 13=tm 13→tm0 14=tm 14→vcE qi (hintL [(9,571746046443526),(16,6),(18,6)]) S2 117 (.seq (.regD .wild r7_15 (.take 0 (.take 1 (.take 2 (.take 3 (.take 4 (.take 5 (.take 6 (.take 7 (.take 8 (.take 9 (.take 10 (.take 11 (.take 12 (.take 13 (.take 14 (.take 15 (.done)))))))))))))))))) (.cond (.t 71) (.seq (.reg r7_16) .ret) .skip)) tm0 H Q:=by
    intro Q hQ tm0 e3 e9 e10 e12 e13 e14
    rw[t12] at e12
    rw[t14] at e14
    rcases i with _|k
    ·have hz:¬ ((0:Nat):Int) > 0:=by omega
     refine vcE.ex (by simp (disch:=first|assumption|omega) only[go_sem,↓reduceIte,qa,reduceCtorEq,qs,qu,e12,e14,hz,decide_false]; rfl) ?_
     refine hQ _ ?_ ?_ ?_ ?_ ?_ ?_
     all_goals simp only[upd_app,qa,↓reduceIte,e3,e9,e10,e12,e13,e14,t12,t14]
    ·obtain⟨g',hg'⟩:∃ g',(sortG G)[k]? = some g':=⟨_,qg (by omega)⟩
     have hz:((k+1:Nat):Int) > 0:=by omega
     have hw:IntKind.wrap .i64 (((k+1:Nat):Int) - 1)=((k:Nat):Int):=(wrap_i64 (by omega) (by omega)).trans (by omega)
     have hia':iaddrA 3 (.sl i1 0 (sortG G).length 3 (sortG G).length false) (.int .i64 (k:Nat))=some (.ptr i1 (k*3)):=(iaddr_sl (by omega)).trans (by rw[qY])
     have q0:loadA H none (.ptr i1 (k*3))=some (.int .i64 g'.id):=encG_load hrow hg' (o:=0) (by omega) rfl rfl
     have hlt2:¬ g'.id≥g.id:=by have:=up_at hup hg' hg; omega
     refine vcE.ex (by simp (disch:=first|assumption|omega) only[go_sem,↓reduceIte,qa,reduceCtorEq,qs,qu,e12,e14,hz,decide_true,↓hw,hia',hia,xN,↓q0,↓p0,hlt2,decide_false]; rfl) ?_
     refine hQ _ ?_ ?_ ?_ ?_ ?_ ?_
     all_goals simp only[upd_app,qa,↓reduceIte,e3,e9,e10,e12,e13,e14,t12,t14]
   refine vcE.seq (first _ ?_ _ (by simp only[upd_app,qa,↓reduceIte]) (by simp only[upd_app,qa,↓reduceIte]) (by simp only[upd_app,qa,↓reduceIte]) (by simp only[upd_app,qa,↓reduceIte]) (by simp only[upd_app,qa,↓reduceIte]) (by simp only[upd_app,qa,↓reduceIte]))
   intro tm' e3 e9 e10 e12 e13 e14
   show vcE _ _ _ _ _ _ _ _
   rw[t3] at e3
   rw[t9] at e9
   rw[t10] at e10
   rw[t12] at e12
   rw[t13] at e13
   rw[t14] at e14
   refine vcE.step (by simp (disch:=first|assumption|omega) only[go_sem,↓reduceIte,qa,reduceCtorEq,qs,qu,e3,e12,e14,hia,↓p1,↓p2,km]; rfl) ?_
   have hHl:=frame_le hf
   cases hgo:gm (sameB g.fold) g.pat text
   ·rw[show g.ok text=false from hgo,if_neg (by decide),List.append_nil] at htake
    rw[htake]
    refine vcE.condFalse (by simp only[evE,upd_app,qa,↓reduceIte,hgo]) (vcE.ex (by simp only[exC]; rfl) ?_)
    refine vcE.ex (by simp (disch:=first|assumption|omega) only[go_sem,↓reduceIte,qa,reduceCtorEq,qs,qu,e14]; rfl) ?_
    refine⟨hf,?_,?_,?_,?_,?_,iw,?_,hbw,hiw⟩
    ·simp only[upd_app,qa,↓reduceIte,e3]
    ·simp only[upd_app,qa,↓reduceIte,e9]
    ·simp only[upd_app,qa,↓reduceIte,e10]
    ·simp only[upd_app,qa,↓reduceIte,e12,t12']
     rw[bld_pos (by omega)]
    ·simp only[upd_app,qa,↓reduceIte]; rfl
    ·simp only[upd_app,qa,↓reduceIte,e13]
   ·rw[show g.ok text=true from hgo,if_pos rfl] at htake
    rw[htake]
    generalize wantG text ((sortG G).take i)=C at *
    have hsrc:srcA (H++[some (Blk.row 3 [AV.int .i64 g.id])]) 1 (.sl H.length 0 1 1 1 true)=some (encI.cs [g.id],[g.id].length):=by simp[srcA]; rfl
    have hap:=(hbw.app [some (Blk.row 3 [AV.int .i64 g.id])]).more (bytes:=8) (m:=[g.id]) hsrc (by simp) (by simp; omega) (by simp; omega)
    have hat:=BldAt.moreAt encI (H++[some (Blk.row 3 [AV.int .i64 g.id])]) iw C.length 3 (C++[g.id])
    have hoth:∀ (j:Nat) (x:Option Blk),H[j]? = some x→(C=[]∨j≠iw)→(bldH (H++[some (Blk.row 3 [AV.int .i64 g.id])]) iw C.length (.row 3 (encI.cs (C++[g.id]))))[j]? = some x:=fun j x hj hk=>bldH_other (app_get hj) (hk.imp (fun e=>by rw[e]; rfl) fun h=>h)
    have hl4:(H++[some (Blk.row 3 [AV.int .i64 g.id])]).length=H.length+1:=by simp
    rw[hl4] at hap hat
    rw[show encI.sz=1 from rfl] at hap
    generalize bldH (H++[some (Blk.row 3 [AV.int .i64 g.id])]) iw C.length (.row 3 (encI.cs (C++[g.id])))=H5 at *
    refine vcE.condTrue (by simp only[evE,upd_app,qa,↓reduceIte,hgo]) (vcE.ex (by simp (disch:=first|assumption|omega) only[go_sem,↓reduceIte,qa,reduceCtorEq,qs,qu,e12,e13,e14,hia,xN,↓p0,↓hap]; rfl) ?_)
    refine vcE.ex (by simp (disch:=first|assumption|omega) only[go_sem,↓reduceIte,qa,reduceCtorEq,qs,qu,e14]; rfl) ?_
    refine⟨fun j hj=>?_,?_,?_,?_,?_,?_,H.length+1,?_,hat,by omega⟩
    ·rw[hoth j _ (by rw[hf j hj,qg hj]) (.inr (by omega)),qg hj]
    ·simp only[upd_app,qa,↓reduceIte,e3]
    ·simp only[upd_app,qa,↓reduceIte,e9]
    ·simp only[upd_app,qa,↓reduceIte,e10]
    ·simp only[upd_app,qa,↓reduceIte,e12,t12']
     rw[bld_pos (by omega)]
    ·simp only[upd_app,qa,↓reduceIte]; rfl
    ·simp only[upd_app,qa,↓reduceIte]
  ·rintro tm H ⟨hf,t3,t9,t10,t12,t14,iw,t13,hbw,hiw⟩
   rw[xl] at t13 hbw
   have hbl:=fun hp=>bld_len hp i1 (sortG G).length 3
   have hbf:=bld_fits i1 (sortG G).length 3
   have hnlt:¬ ((sortG G).length:Int)<(sortG G).length:=Int.lt_irrefl _
   refine vcE.ex (by simp (disch:=first|assumption|omega) only[go_sem,↓reduceIte,qa,reduceCtorEq,qs,qu,t12,t14,↓hbl,hbf,hnlt,decide_false]; rfl) ?_
   refine⟨rfl,hf,?_,?_,?_,?_,iw,?_,hbw⟩
   all_goals simp only[upd_app,qa,↓reduceIte,t3,t9,t10,t12,t13]
 rintro e' tm H ⟨rfl,hf,t3,t9,t10,t12,iw,t13,hbw⟩
 show vcE _ _ _ _ _ _ _ _
 have hx:=hx.keep hf
 have hy:=hy.keep hf
 have hb1:=hb1.fr fun h=>hf _ h
 rw[show r7_20=r7_20.take 2++((r7_20.drop 2).take 1++((r7_20.drop 3).take 5++((r7_20.drop 8).take 1++((r7_20.drop 9).take 5++((r7_20.drop 14).take 1++((r7_20.drop 15).take 5++((r7_20.drop 20).take 1++r7_20.drop 21))))))) from rfl]
 have cmx:=match_F hx hmx text (by omega)
 rw[hms] at cmx
 refine vcE.seq (vcE.app (vcE.ex (by simp (disch:=first|assumption|omega) only[go_sem,↓reduceIte,qa,reduceCtorEq,qs,qu,t3,t9]; rfl) ⟨rfl,vcE.app (vcE.call (f:=12) (caps:=[]) (ys:=[.ptr 4 0,.str text]) rfl (by simp only[evsE,evE,upd_app,qa,↓reduceIte]) cmx ?_)⟩))
 rintro r H4 ⟨i2,rfl,hb2,hi2,hf4⟩
 have hx:=hx.keep hf4
 have hy:=hy.keep hf4
 have hb1:=hb1.fr fun h=>hf4 _ h
 have hbw:=hbw.fr fun h=>hf4 _ h
 have f1:frz H4 (bld i2 (wantG text (sortG G)).length 1)=some (encI.S (wantG text (sortG G))):=hb2.frz
 have f2:frz H4 (bld iw (wantG text (sortG G)).length 1)=some (encI.S (wantG text (sortG G))):=hbw.frz
 have k3:=S2_int (l:=wantG text (sortG G)) (m:=wantG text (sortG G)) (by omega)
 rw[decide_eq_true rfl] at k3
 have cmy:=match_F hy hmy text (by omega)
 rw[hms] at cmy
 refine⟨rfl,vcE.app (vcE.ex (by simp (disch:=first|assumption|omega) only[go_sem,↓reduceIte,qa,reduceCtorEq,qs,qu,putE,t3,t10,t13,↓f1,↓f2,k3,xu]; rfl) ⟨rfl,vcE.app (vcE.call (f:=12) (caps:=[]) (ys:=[.ptr (c+4) 0,.str text]) (by simp only[wantedE,upd_app,qa,↓reduceIte]; rfl) (by simp only[evsE,evE,upd_app,qa,↓reduceIte]) cmy ?_)⟩)⟩
 rintro r H5 ⟨i3,rfl,hb3,hi3,hf5⟩
 have hx:=hx.keep hf5
 have hy:=hy.keep hf5
 have hb1:=hb1.fr fun h=>hf5 _ h
 have hbw:=hbw.fr fun h=>hf5 _ h
 have f3:frz H5 (bld i3 (wantG text (sortG G)).length 1)=some (encI.S (wantG text (sortG G))):=hb3.frz
 have f4:frz H5 (bld iw (wantG text (sortG G)).length 1)=some (encI.S (wantG text (sortG G))):=hbw.frz
 refine⟨rfl,vcE.app (vcE.ex (by simp (disch:=first|assumption|omega) only[go_sem,↓reduceIte,qa,reduceCtorEq,qs,qu,putE,t10,t13,↓f3,↓f4,k3,xu]; rfl) ⟨rfl,vcE.app (vcE.call (f:=25) (caps:=[]) (ys:=[.ptr (c+4) 0]) (by simp only[wantedE,upd_app,qa,↓reduceIte]; rfl) (by simp only[evsE,evE,upd_app,qa,↓reduceIte]) (globs_F hy) ?_)⟩)⟩
 rintro r H6 ⟨i4,rfl,hb4,hi4,hf6⟩
 have hx:=hx.keep hf6
 have hb1:=hb1.fr fun h=>hf6 _ h
 have f5:frz H6 (bld i4 (sortG G).length 3)=some (encG.S (sortG G)):=hb4.frz
 have f6:frz H6 (bld i1 (sortG G).length 3)=some (encG.S (sortG G)):=hb1.frz
 have k4:=S2_gl (l:=sortG G) (m:=sortG G) (by omega)
 rw[decide_eq_true rfl] at k4
 have cl:=len_F hx
 rw[← sortG_len] at cl
 have hbl:=fun hp=>bld_len hp i1 (sortG G).length 3
 have hbf:=bld_fits i1 (sortG G).length 3
 refine⟨rfl,vcE.app (vcE.ex (by simp (disch:=first|assumption|omega) only[go_sem,↓reduceIte,qa,reduceCtorEq,qs,qu,putE,t9,t12,↓f5,↓f6,k4,xu]; rfl) ⟨rfl,vcE.app (vcE.call (f:=13) (caps:=[]) (ys:=[.ptr 4 0]) (by simp only[wantedE,upd_app,qa,↓reduceIte]; rfl) (by simp only[evsE,evE,upd_app,qa,↓reduceIte]) cl ?_)⟩)⟩
 rintro r Hx ⟨rfl,rfl⟩
 refine⟨rfl,vcE.ex (by simp (disch:=first|assumption|omega) only[go_sem,↓reduceIte,qa,reduceCtorEq,qs,qu,putE,t12,↓hbl,hbf,decide_true]; rfl) ?_⟩
 refine vcE.e0 ?_
 exact⟨_,rfl,rfl⟩
end
end Go.Gi
