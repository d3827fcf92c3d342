/- A function's code, compiled; what it does to a state; calls of a function. -/
/- Calls that depend on no memory, and what they hand back is never written. -/
import Derived.Test.YtakdhioafodhcaaGreatDoorGiW
import Derived.Deep.LoopGhost
import Derived.Sort.LoopGhostIn
import Derived.RangeFuncLeaves
import Derived.RangeFuncRecord
set_option linter.unusedVariables false
set_option linter.unusedSimpArgs false
namespace Go.Gi
open _root_.Bool renaming and_eq_true → qp
open _root_.List renaming eq_nil_of_length_eq_zero → qq, getElem?_eq_some_iff → qf, getElem?_eq_getElem → qg, getElem_mem → zd
open _root_.Nat renaming le_refl → qk
open _root_.Option renaming map_some → qh
open _root_.Option.some renaming injEq → qd
open _root_.Go.Result renaming andThen_ok → qy
open _root_.Go.Sem renaming run_bind → qN, run_pure → qO
section
set_option linter.unusedSectionVars false
variable [Mx]
open Go
inductive IC where
 | skip
 | reg (is:List IOp)
 | regD (w:Cls) (is:List IOp) (t:Tr)
 | seq (a b:IC)
 | cond (c:Opd) (a b:IC)
 | block (id:Nat) (c:IC)
 | loop (c:IC)
 | exit (id:Nat)
 | ret
 | rangeF (key nt:Nat) (f:Opd)
def hintB:Nat→Cls
 | 0 | 4=>.free
 | 2 | 6=>.wild
 | 3 | 7=>.alloc
 | _=>.pure
def hintW (h:Nat):Cls:=cond (Nat.blt h 8) (hintB h) (.mix (hintB (h % 8)) (h / 8))
def plainC:Code→Bool
 | .seq a b | .cond _ a b=>plainC a && plainC b
 | .block _ c | .loop c | .scope c=>plainC c
 | .rangeFunc .. => false
 | _=>true
def regionsIn:Code→List Nat
 | .region id _ _=>[id]
 | .seq a b | .cond _ a b=>regionsIn a++regionsIn b
 | .block _ c | .loop c | .scope c=>regionsIn c
 | _=>[]
def firstReg (a b:Code):Nat:=match regionsIn a++regionsIn b with
 | i :: _=>i
 | []=>0
def compC (P:Program) (hint:Nat→Nat):Code→Option IC
 | .skip=>some .skip
 | .label _=>some .skip
 | .region id ops false=>(compOps P (hint id == 1) ops ops.toList).map .reg
 | .region id ops true=>match compOps P (Nat.blt (hint id % 8) 4) ops ops.toList with
  | some is=>let ms:=masks ops.toList []
   let t:=plan (hintW (hint id)) ms ops is ops.size 3 (Array.replicate ops.size false)
   if okT (hintW (hint id)) ms ops is ops.size t (Array.replicate ops.size false) then some (.regD (hintW (hint id)) is t) else none
  | none=>none
 | .seq a b=>match compC P hint a,compC P hint b with
  | some x,some y=>some (.seq x y)
  | _,_=>none
 | .cond c a b=>match opdP c,compC P hint a,compC P hint b with
  | some o,some x,some y=>some (.cond o x y)
  | _,_,_=>none
 | .block id c=>(compC P hint c).map (.block id)
 | .loop c=>(compC P hint c).map .loop
 | .exit id=>some (.exit id)
 | .ret=>some .ret
 | .scope c=>compC P hint c
 | .rangeFunc f ps a b=>if (plainC a && plainC b)=true then (opdP f).map fun o=>.rangeF (hint (1000000+firstReg a b)) (hint (2000000+firstReg a b)) o else none
 | _=>none
def keysOf (hint:Nat→Nat):Code→List (Nat × LC)
 | .seq a b | .cond _ a b=>keysOf hint a++keysOf hint b
 | .block _ c | .loop c | .scope c=>keysOf hint c
 | .rangeFunc _ ps a b=>[(hint (1000000+firstReg a b),⟨ps,a,b⟩)]
 | _=>[]
def KeysOk (P:Program) (hint:Nat→Nat) (c:Code):Prop:=∀ x ∈ keysOf hint c,lcP P x.1=x.2
def AW (P:Program) (c:Code) (st:St) (Q:Exit→St→Prop):Prop:=∀ (q:Option Nat) (Γ:Cx) (a:Act),(q=none∨plainC c=true)→SSim Γ st a→Γ.lc=lcP P→c.wpIn (Fw q) 0 P (Post Γ st.hp Q) a Γ.w
theorem AW.mono {P:Program} {c:Code} {st:St} {Q Q':Exit→St→Prop} (h:AW P c st Q) (hq:∀ e st,Q e st→Q' e st):AW P c st Q':=
 fun q Γ a hp hs hl=>wpIn_mono (h q Γ a hp hs hl) fun e a' w' ⟨Δ,st',h1,h2,h3,h4⟩=>⟨Δ,st',h1,h2,h3,hq e st' h4⟩
def LoopW (P:Program) (hint:Nat→Nat) (c:IC) (st:St) (Q:Exit→St→Prop):Prop:=∀ code,compC P hint code=some c→KeysOk P hint code→AW P (.loop code) st Q
def RangeW (P:Program) (key nt:Nat) (o:Opd) (st:St) (Q:Exit→St→Prop):Prop:=∀ f ps a b,opdP f=some o→lcP P key=⟨ps,a,b⟩→AW P (.rangeFunc f ps a b) st Q
def vc (P:Program) (hint:Nat→Nat):IC→St→(Exit→St→Prop)→Prop
 | .skip,st,Q=>Q .normal st
 | .reg is,st,Q=>vops P is st (Q .normal)
 | .regD w is t,st,Q=>vopsT P w is t st fun st' => ∃ st'',RenOk st.hp.length st' st''∧Q .normal st''
 | .seq a b,st,Q=>vc P hint a st fun e st'=>match e with
  | .normal=>vc P hint b st' Q
  | e=>Q e st'
 | .cond c a b,st,Q => ∃ t,c.ev st.tm=.bool t∧(t=true→vc P hint a st Q)∧(t=false→vc P hint b st Q)
 | .block id c,st,Q=>vc P hint c st fun e st'=>match e with
  | .exit i=>if i=id then Q .normal st' else Q (.exit i) st'
  | e=>Q e st'
 | .loop c,st,Q=>LoopW P hint c st Q
 | .exit id,st,Q=>Q (.exit id) st
 | .ret,st,Q=>Q .ret st
 | .rangeF key nt o,st,Q=>RangeW P key nt o st Q
theorem Post.of {Γ Δ:Cx} {hp hp':HP} {Q:Exit→St→Prop} (h:Ev Γ hp Δ hp'):∀ {e:Exit} {a:Act} {w:World},Post Δ hp' Q e a w→Post Γ hp Q e a w:=
 fun ⟨Θ,st,h1,h2,h3,h4⟩=>⟨Θ,st,h1,h2,h.trans h3,h4⟩
theorem KeysOk.left {P:Program} {hint:Nat→Nat} {c x y:Code} (h:KeysOk P hint c) (e:keysOf hint c=keysOf hint x++keysOf hint y):KeysOk P hint x∧KeysOk P hint y:=
 ⟨fun z hz=>h z (by rw[e]; exact List.mem_append_left _ hz),fun z hz=>h z (by rw[e]; exact List.mem_append_right _ hz)⟩
theorem plain_two {q:Option Nat} {c x y:Code} (h:q=none∨plainC c=true) (e:plainC c=(plainC x && plainC y)):(q=none∨plainC x=true)∧(q=none∨plainC y=true):=by
 rcases h with h|h
 ·exact⟨.inl h,.inl h⟩
 ·rw[e,qp] at h
  exact⟨.inr h.1,.inr h.2⟩
theorem step_scopeR {P:Program} {b:Frame} {a:Act} {k:List Item} {cs:List Frame} {w:World} {c:Code}:step P (lone (b.atR a (.code (.scope c) :: k)) cs w)=.next (lone (b.atR a (.code c :: .inScope c :: k)) cs w):=
 step_lone_go (by simp[stepG,stepG.exec,Frame.atR])
theorem step_inScopeR {P:Program} {b:Frame} {a:Act} {k:List Item} {cs:List Frame} {w:World} {c:Code}:step P (lone (b.atR a (.inScope c :: k)) cs w)=.next (lone (b.atR a k) cs w):=
 step_lone_go (by simp[stepG,stepG.exec,Frame.atR])
theorem wpIn_scope_straight {F:Fence} {n:Nat} {P:Program} {Q:Exit→Act→World→Prop} {a:Act} {w:World} {c:Code} (h:c.wpIn F n P (Exit.noGoto Q) a w):(Code.scope c).wpIn F n P Q a w:=by
 intro b k cs hro hb hr
 have h0:(lone (b.atR a (.code (.scope c) :: k)) cs w).fenced P F:=fenced_calm hb hr rfl
 obtain⟨e,a₁,w₁,hq,harr⟩:=h b (.inScope c :: k) cs hro hb hr
 cases e with
 | normal=>exact⟨.normal,a₁,w₁,hq,.head h0 step_scopeR (StepsIn.trans harr (.one (fenced_calm hb hr rfl) step_inScopeR))⟩
 | exit id =>
  have hx:exitTo id (.inScope c :: k)=exitTo id k:=by simp[exitTo]
  exact⟨.exit id,a₁,w₁,hq,fun k' hk=>.head h0 step_scopeR (harr.1 k' (by rw[hx]; exact hk)),
   fun hr' hk=>let ⟨k₁,h1,h2⟩:=harr.2 hr' (by rw[hx]; exact hk); ⟨k₁,h1,.head h0 step_scopeR h2⟩⟩
 | goto l=>exact hq.elim
 | ret=>exact⟨_,a₁,w₁,hq,.of_steps (.one h0 step_scopeR) harr⟩
 | panic ch=>exact⟨_,a₁,w₁,hq,.of_steps (.one h0 step_scopeR) harr⟩
 | outgrown=>exact⟨_,a₁,w₁,hq,.of_steps (.one h0 step_scopeR) harr⟩
theorem vc_sound {P:Program} (hm:P.follows .mixedOrders=true) {hint:Nat→Nat}:∀ {c:Code} {ic:IC},compC P hint c=some ic→KeysOk P hint c→∀ {st:St} {Q:Exit→St→Prop},(∀ l st,¬ Q (.goto l) st)→vc P hint ic st Q→AW P c st Q
 | .skip,ic,hc,hk,st,Q,_,h=>by
  simp only[compC,qd] at hc; subst hc
  exact fun q Γ a hp hs hl=>wpIn_skip ⟨Γ,st,rfl,hs,Ev.refl _ _,h⟩
 | .label l,ic,hc,hk,st,Q,_,h=>by
  simp only[compC,qd] at hc; subst hc
  exact fun q Γ a hp hs hl=>wpIn_label ⟨Γ,st,rfl,hs,Ev.refl _ _,h⟩
 | .region id ops false,ic,hc,hk,st,Q,_,h=>by
  simp only[compC] at hc
  cases hco:compOps P (hint id == 1) ops ops.toList with
  | none=>simp[hco] at hc
  | some is =>
   simp only[hco,qh,qd] at hc; subst hc
   obtain⟨k1,k2⟩:=compOps_get hco
   intro q Γ a hp hs hl
   refine wpIn_region ?_
   have hv:=vops_sound (P:=P) (fz:=hint id == 1) (ops:=ops) q (is:=is) 0 (fun j i hi=>by
    have hlt:j<ops.toList.length:=by rw[← k1]; exact (qf.1 hi).1
    have ho:ops.toList[j]? = some ops.toList[j]:=qg hlt
    refine⟨ops.toList[j],by rw[Nat.zero_add]; rw[← Array.getElem?_toList]; exact ho,k2 j _ i ho hi⟩) hs hl h (Q':=Post Γ st.hp Q) fun Δ st' a' h1 h2 h3=>⟨Δ,st',rfl,h1,h2,h3⟩
   rw[List.range_eq_range',show ops.size=is.length by rw[k1]; rfl]
   exact hv
 | .region id ops true,ic,hc,hk,st,Q,_,h=>by
  simp only[compC] at hc
  split at hc
  ·rename_i is hco
   split at hc
   ·rename_i hlex
    simp only[qd] at hc; subst hc
    obtain⟨k1,k2⟩:=compOps_get hco
    have hlen:is.length=ops.size:=k1
    intro q Γ a hp hs hl
    refine wpIn_region_any hm ?_
    have hd:SSim (Γ.drewN 1) st a:=⟨hs.tm.le (Le.drewN Γ 1),hs.hp.drewN 1,hs.df.ev (Ev.drewN Γ st.hp 1)⟩
    have hA:=anyA_tree (P:=P) (ops:=ops) hlen (ms:=masks ops.toList []) (masks_ok ops.toList [] (fun k=>by simp) (fun k m hm=>by simp at hm)) ops.size _ (Array.replicate ops.size false) st (closed_none ops _) hlex h
    exact anyA_sound q (w:=hintW (hint id)) (fz:=Nat.blt (hint id % 8) 4) (Γ0:=Γ) (hp0:=st.hp) hlen (fun j o i ho hi=>k2 j o i (by simpa using ho) hi) (Q':=Post Γ st.hp Q) (fun Δ st' a' h1 h2 h3=>by
     obtain⟨st'',h4,h5⟩:=h3
     obtain⟨Θ,k1,k2,k3⟩:=h4 Δ a' h1
     exact⟨Θ,st'',k1,k2,k3 Γ st.hp (by rw[hs.hp.len]; exact qk _) h2,h5⟩) ops.size _ st (Γ.drewN 1) a hd hl (Ev.drewN Γ st.hp 1) hA
   ·cases hc
  ·cases hc
 | .seq x y,ic,hc,hk,st,Q,hng,h=>by
  simp only[compC] at hc
  split at hc
  ·rename_i ix iy hx hy
   simp only[qd] at hc; subst hc
   simp only[vc] at h
   obtain⟨hk1,hk2⟩:=hk.left (x:=x) (y:=y) rfl
   intro q Γ a hp hs hl
   obtain⟨hp1,hp2⟩:=plain_two hp (x:=x) (y:=y) rfl
   refine wpIn_seq (wpIn_mono (vc_sound hm hx hk1 (by intro l st' hq; exact hng l st' hq) h q Γ a hp1 hs hl) ?_)
   rintro e a' w' ⟨Δ,st',rfl,h2,h3,h4⟩
   cases e with
   | normal=>exact wpIn_mono (vc_sound hm hy hk2 hng h4 q Δ a' hp2 h2 (h3.le.lc.trans hl)) fun e a'' w'' hp=>Post.of h3 hp
   | exit id=>exact⟨Δ,st',rfl,h2,h3,h4⟩
   | goto l=>exact⟨Δ,st',rfl,h2,h3,h4⟩
   | ret=>exact⟨Δ,st',rfl,h2,h3,h4⟩
   | panic ch=>exact⟨Δ,st',rfl,h2,h3,h4⟩
   | outgrown=>exact⟨Δ,st',rfl,h2,h3,h4⟩
  ·cases hc
 | .cond c x y,ic,hc,hk,st,Q,hng,h=>by
  simp only[compC] at hc
  split at hc
  ·rename_i o ix iy ho hx hy
   simp only[qd] at hc; subst hc
   simp only[vc] at h
   obtain⟨hk1,hk2⟩:=hk.left (x:=x) (y:=y) rfl
   obtain⟨t,ht,h1,h2⟩:=h
   intro q Γ a hp hs hl
   obtain⟨hp1,hp2⟩:=plain_two hp (x:=x) (y:=y) rfl
   have hr:=opd_rel hs.hp.gl hs.tm ho
   rw[ht] at hr
   simp only[VRel] at hr
   exact wpIn_cond_split hr (fun e=>vc_sound hm hx hk1 hng (h1 e) q Γ a hp1 hs hl) (fun e=>vc_sound hm hy hk2 hng (h2 e) q Γ a hp2 hs hl)
  ·cases hc
 | .block id c,ic,hc,hk,st,Q,hng,h=>by
  simp only[compC] at hc
  cases hx:compC P hint c with
  | none=>simp[hx] at hc
  | some ix =>
   simp only[hx,qh,qd] at hc; subst hc
   simp only[vc] at h
   intro q Γ a hp hs hl
   refine wpIn_block (wpIn_mono (vc_sound hm hx hk (by intro l st' hq; exact hng l st' hq) h q Γ a hp hs hl) ?_)
   rintro e a' w' ⟨Δ,st',rfl,h2,h3,h4⟩
   cases e with
   | exit i =>
    simp only[Exit.inBlock]
    simp only at h4
    split
    ·rename_i e; rw[if_pos e] at h4; exact⟨Δ,st',rfl,h2,h3,h4⟩
    ·rename_i e; rw[if_neg e] at h4; exact⟨Δ,st',rfl,h2,h3,h4⟩
   | normal=>exact⟨Δ,st',rfl,h2,h3,h4⟩
   | goto l=>exact⟨Δ,st',rfl,h2,h3,h4⟩
   | ret=>exact⟨Δ,st',rfl,h2,h3,h4⟩
   | panic ch=>exact⟨Δ,st',rfl,h2,h3,h4⟩
   | outgrown=>exact⟨Δ,st',rfl,h2,h3,h4⟩
 | .loop c,ic,hc,hk,st,Q,hng,h=>by
  simp only[compC] at hc
  cases hx:compC P hint c with
  | none=>simp[hx] at hc
  | some ix =>
   simp only[hx,qh,qd] at hc; subst hc
   simp only[vc] at h
   exact h c hx hk
 | .exit id,ic,hc,hk,st,Q,_,h=>by
  simp only[compC,qd] at hc; subst hc
  exact fun q Γ a hp hs hl=>wpIn_exit ⟨Γ,st,rfl,hs,Ev.refl _ _,h⟩
 | .ret,ic,hc,hk,st,Q,_,h=>by
  simp only[compC,qd] at hc; subst hc
  exact fun q Γ a hp hs hl=>wpIn_ret ⟨Γ,st,rfl,hs,Ev.refl _ _,h⟩
 | .scope c,ic,hc,hk,st,Q,hng,h=>by
  simp only[compC] at hc
  intro q Γ a hp hs hl
  refine wpIn_scope_straight (wpIn_mono (vc_sound hm hc hk hng h q Γ a hp hs hl) ?_)
  rintro e a' w' ⟨Δ,st',rfl,h2,h3,h4⟩
  cases e with
  | goto l=>exact hng l st' h4
  | _=>exact⟨Δ,st',rfl,h2,h3,h4⟩
 | .rangeFunc f ps x y,ic,hc,hk,st,Q,hng,h=>by
  simp only[compC] at hc
  split at hc
  ·cases ho:opdP f with
   | none=>simp[ho] at hc
   | some o =>
    simp only[ho,qh,qd] at hc
    subst hc
    simp only[vc] at h
    exact h f ps x y ho (hk (hint (1000000+firstReg x y),⟨ps,x,y⟩) (by simp[keysOf]))
  ·cases hc
 | .goto l,ic,hc,hk,st,Q,_,h=>by simp[compC] at hc
 | .refuse w,ic,hc,hk,st,Q,_,h=>by simp[compC] at hc
theorem LoopW.of {P:Program} (hm:P.follows .mixedOrders=true) {hint:Nat→Nat} {c:IC} {st:St} {Q:Exit→St→Prop} (hng:∀ l st,¬ Q (.goto l) st) (I:Nat→St→Prop) (n:Nat) (h0:I n st)
  (round:∀ n st,I n st→vc P hint c st fun e st'=>match e with
   | .normal => ∃ m,m<n∧I m st'
   | e=>Q e st'):LoopW P hint c st Q:=by
 intro code hc hk q Γ a hp hs hl
 refine wpIn_loop_ghost (fun n a' w' => ∃ Δ st',Δ.w=w'∧SSim Δ st' a'∧Ev Γ st.hp Δ st'.hp∧I n st') n ⟨Γ,st,rfl,hs,Ev.refl _ _,h0⟩ ?_
 rintro n a' w' ⟨Δ,st',rfl,h1,h2,h3⟩
 refine wpIn_mono (vc_sound hm hc hk (by intro l st'' hq; exact hng l st'' hq) (round n st' h3) q Δ a' hp h1 (h2.le.lc.trans hl)) ?_
 rintro e a'' w'' ⟨Θ,st'',rfl,q1,q2,q3⟩
 cases e with
 | normal =>
  obtain⟨m,hm',hI⟩:=q3
  exact⟨m,hm',Θ,st'',rfl,q1,h2.trans q2,hI⟩
 | exit id=>exact⟨Θ,st'',rfl,q1,h2.trans q2,q3⟩
 | goto l=>exact⟨Θ,st'',rfl,q1,h2.trans q2,q3⟩
 | ret=>exact⟨Θ,st'',rfl,q1,h2.trans q2,q3⟩
 | panic ch=>exact⟨Θ,st'',rfl,q1,h2.trans q2,q3⟩
 | outgrown=>exact⟨Θ,st'',rfl,q1,h2.trans q2,q3⟩
inductive RV where
 | t (i:Nat)
 | cell (i:Nat) (sh:Option Nat)
def resP (P:Program):List ResultVar→Option (List RV)
 | []=>some []
 | .tmp i :: rs=>(resP P rs).map (.t i :: ·)
 | .cell i ty :: rs=>match shapeP P ty,resP P rs with
  | some sh,some l=>some (.cell i sh :: l)
  | _,_=>none
def resA1 (st:St):RV→Option AV
 | .t i=>some (st.tm.getD i (.tup []))
 | .cell i sh=>loadA st.hp sh (st.tm.getD i (.tup []))
def resL (st:St):List RV→Option (List AV)
 | []=>some []
 | r :: rs=>match resA1 st r,resL st rs with
  | some a,some as=>some (a :: as)
  | _,_=>none
def resA (rs:List RV) (st:St):Option AV:=
 match resL st rs with
 | some [a]=>some a
 | some as=>some (.tup as)
 | none=>none
theorem results_run {P:Program} {fn:Func} {rs:List RV} (hr:resP P fn.results.toList=some rs) {Γ:Cx} {st:St} {a:Act} (hs:SSim Γ st a) {r:AV} (h:resA rs st=some r):∃ v,(results fn a.tmps).run P Γ.w=.ok v Γ.w∧VRel Γ r v:=by
 have key:∀ (l:List ResultVar) (rs:List RV) (as:List AV),resP P l=some rs→resL st rs=some as→∃ vs,(l.mapM (fun | .tmp t=>pure (a.tmps.getD t undef) | .cell x t=>do loadVar t (← asAddr (a.tmps.getD x undef)):ResultVar→Sem Value)).run P Γ.w=.ok vs Γ.w∧VRels Γ as vs:=by
  intro l
  induction l with
  | nil =>
   intro rs as h1 h2
   simp only[resP,qd] at h1
   subst h1
   simp only[resL,qd] at h2
   subst h2
   exact⟨[],rfl,by simp[VRels]⟩
  | cons x l ih =>
   intro rs as h1 h2
   have hget:∀ i,VRel Γ (st.tm.getD i (.tup [])) (a.tmps.getD i undef):=by
    intro i
    have:=hs.tm.get i
    rw[Array.getD_eq_getD_getElem?]
    rw[List.getD_eq_getElem?_getD (l:=a.tmps.toList)] at this
    simpa using this
   cases x with
   | tmp i =>
    simp only[resP] at h1
    cases hp:resP P l with
    | none=>simp[hp] at h1
    | some rs' =>
     simp only[hp,qh,qd] at h1
     subst h1
     simp only[resL,resA1] at h2
     split at h2
     ·rename_i b bs e1 e2
      simp only[qd] at e1 h2
      subst e1 h2
      obtain⟨vs,q1,q2⟩:=ih rs' bs hp e2
      exact⟨a.tmps.getD i undef :: vs,by simp only[List.mapM_cons,qN,qO,qy,q1],by simp only[VRels]; exact⟨_,_,rfl,hget i,q2⟩⟩
     ·cases h2
   | cell i ty =>
    simp only[resP] at h1
    split at h1
    ·rename_i sh rs' hsh hp
     simp only[qd] at h1
     subst h1
     simp only[resL,resA1] at h2
     split at h2
     ·rename_i b bs e1 e2
      simp only[qd] at h2
      subst h2
      obtain⟨vs,q1,q2⟩:=ih rs' bs hp e2
      simp only[loadA] at e1
      split at e1
      ·rename_i cs off hrow
       obtain⟨bb,o,hv,hc⟩:=rowA_rel hs.hp (hget i) hrow
       obtain⟨u,p1,p2⟩:=pickA_run (P:=P) hsh hc e1
       have hA:(asAddr (a.tmps.getD i undef)).run P Γ.w=.ok ⟨bb,o+off,none⟩ Γ.w:=by rw[hv]; rfl
       exact⟨u :: vs,by simp only[List.mapM_cons,qN,qO,qy,hA,p1,q1],by simp only[VRels]; exact⟨_,_,rfl,p2,q2⟩⟩
      ·cases e1
     ·cases h2
    ·cases h1
 unfold resA at h
 have fin:∀ as vs,(fn.results.toList.mapM (fun | .tmp t=>pure (a.tmps.getD t undef) | .cell x t=>do loadVar t (← asAddr (a.tmps.getD x undef)):ResultVar→Sem Value)).run P Γ.w=.ok vs Γ.w→VRels Γ as vs →
   (results fn a.tmps).run P Γ.w=.ok (if h:vs.toArray.size=1 then vs.toArray[0] else .tuple vs.toArray) Γ.w:=by
  intro as vs h1 _
  unfold results
  simp only[qN,Array.mapM_eq_mapM_toList,Sem.run_map,qO]
  exact congrArg (fun r:Result (List Value)=>(r.andThen fun a w'=>Result.ok a.toArray w').andThen fun a w'=>Result.ok (if h:a.size=1 then a[0] else Value.tuple a) w') h1
 split at h
 ·rename_i b hL
  simp only[qd] at h
  subst h
  obtain⟨vs,q1,q2⟩:=key _ _ _ hr hL
  obtain⟨v,rfl,hv⟩:=q2.one'
  exact⟨v,by rw[fin _ _ q1 q2]; rfl,hv⟩
 ·rename_i as hne hL
  simp only[qd] at h
  subst h
  obtain⟨vs,q1,q2⟩:=key _ _ _ hr hL
  refine⟨.tuple ⟨vs⟩,?_,by simp only[VRel]; exact⟨vs,rfl,q2⟩⟩
  rw[fin _ _ q1 q2,dif_neg]
  intro h1
  have hl:=q2.length
  simp only[List.size_toArray] at h1
  rcases as with _|⟨b,_|⟨c,as⟩⟩
  ·simp at hl; omega
  ·exact hne b rfl
  ·simp at hl; omega
 ·cases h
structure FC where
 code:IC
 ntmps:Nat
 res:List RV
def compF (P:Program) (hint:Nat→Nat) (f:FuncId):Option FC:=
 match P.funcs[f]? with
 | some fn => if fn.name == "runtime.NumGoroutine" then none else match fn.body with
  | some c=>match compC P hint c,resP P fn.results.toList with
   | some ic,some rs=>some ⟨ic,fn.ntmps,rs⟩
   | _,_=>none
  | none=>none
 | none=>none
def enterA (g:FC) (xs:List AV) (hp:HP):St:=⟨xs++List.replicate (g.ntmps - xs.length) (.tup []),hp⟩
def RetQ (g:FC) (K:AV→HP→Prop):Exit→St→Prop
 | .normal,st | .ret,st => ∃ r,resA g.res st=some r∧K r st.hp
 | _,_=>False
def KeysF (P:Program) (hint:Nat→Nat) (f:FuncId):Prop:=∀ fn c,P.funcs[f]? = some fn→fn.body=some c→KeysOk P hint c
def Cx.from_ (Γ:Cx) (s:Nat):Cx:={ Γ with s0:=s }
theorem Le.from_ (Γ:Cx) (s:Nat):Le Γ (Γ.from_ s):=⟨qk _,fun _ _=>rfl,fun _ h=>h,fun _ _=>rfl,fun _ _ h=>h,rfl⟩
theorem HSim.from_ {Γ:Cx} {hp:HP} (h:HSim Γ hp) (s:Nat):HSim (Γ.from_ s) hp:=⟨h.len,fun i x hx=>⟨BRel.le (Le.from_ Γ s) rfl (h.blk i x hx).1,(h.blk i x hx).2⟩,h.inj,h.fz,h.gl.le (Le.from_ Γ s)⟩
theorem Ev.from_ {Γ Δ:Cx} {hp hp':HP} {s:Nat} (h:Ev (Γ.from_ s) hp Δ hp'):Ev Γ hp (Δ.from_ Γ.s0) hp':=
 ⟨⟨h.le.n,h.le.β,h.le.fz,h.le.kept,h.le.shape,h.le.lc⟩,h.os,h.tape,h.output,h.size,h.frame,h.live,h.fz,rfl⟩
theorem leave_marks {P:Program} {fn:Func} {tmps:Array Value} {R:Ending→World→Prop}:∀ (ks:List Nat) (Δ:Cx) (hp:HP) (Γ:Cx) (hp0:HP),HSim Δ hp→Ev Γ hp0 Δ hp→ks.Nodup→(∀ k ∈ ks,Δ.w.heap[k]? = some (.deferred (some []))∧¬ Live Δ hp k∧¬ Δ.Fz k∧Γ.w.heap.size≤k) →
  (∀ Θ:Cx,HSim Θ hp→Le Δ Θ→Ev Γ hp0 Θ hp→LeavesInM (Fw none) 0 P fn tmps R [] .returning Θ.w)→LeavesInM (Fw none) 0 P fn tmps R (ks.map fun k=>{ target:=.collected k,args:=#[] }) .returning Δ.w
 | [],Δ,hp,Γ,hp0,h1,h2,_,_,hr=>hr Δ h1 (Le.refl _) h2
 | k :: ks,Δ,hp,Γ,hp0,h1,h2,hnd,hk,hr=>by
  obtain⟨q1,q2,q3,q4⟩:=hk k (by simp)
  have hlt:k<Δ.w.heap.size:=(Array.getElem?_eq_some_iff.1 q1).1
  have le:Le Δ (Δ.setB k (.deferred none)):=Le.setB q3 (by intro s hs; simp[World.shape?,q1] at hs)
  have hw:Δ.w.putObj k (.deferred none)=(Δ.setB k (.deferred none)).w:=rfl
  have hh:HSim (Δ.setB k (.deferred none)) hp:=⟨h1.len,fun i x hx=>by
   obtain⟨p1,p2,p3⟩:=h1.blk i x hx
   exact⟨BRel.le le (setB_ne _ _ fun e=>q2 ⟨i,x,hx,e⟩) p1,p2,by simp only[Cx.setB,setB_size]; exact p3⟩,h1.inj,fun b hb=>by simp only[Cx.setB,setB_size]; exact h1.fz b hb,h1.gl.le le⟩
  have he:Ev Γ hp0 (Δ.setB k (.deferred none)) hp:=⟨h2.le.trans le,h2.os,h2.tape,h2.output,by simp only[Cx.setB,setB_size]; exact h2.size,fun b hb hn=>(setB_ne _ _ (by omega)).trans (h2.frame b hb hn),h2.live,h2.fz,h2.s0⟩
  simp only[List.map_cons,LeavesInM]
  refine⟨by simp,.inl ⟨k,_,rfl,run_takeDeferred q1,?_⟩⟩
  rw[hw]
  rw[List.nodup_cons] at hnd
  refine leave_marks ks _ hp Γ hp0 hh he hnd.2 (fun j hj=>?_) fun Θ k1 k2 k3=>hr Θ k1 (le.trans k2) k3
  obtain⟨p1,p2,p3,p4⟩:=hk j (by simp[hj])
  have hne:j≠k:=fun e=>hnd.1 (e ▸ hj)
  exact⟨(setB_ne _ _ hne).trans p1,p2,p3,p4⟩
theorem calls_vc {P:Program} (hm:P.follows .mixedOrders=true) {hint:Nat→Nat} {f:FuncId} {g:FC} (hf:compF P hint f=some g) (hkeys:KeysF P hint f) {xs:List AV} {hp:HP} {K:AV→HP→Prop} (h:vc P hint g.code (enterA g xs hp) (RetQ g K)):ACalls P f xs hp K:=by
 unfold compF at hf
 split at hf
 ·rename_i fn hfn
  split at hf
  ·cases hf
  ·rename_i hname
   split at hf
   ·rename_i c hbody
    split at hf
    ·rename_i ic rs hc hr
     simp only[qd] at hf
     subst hf
     refine⟨⟨fn,hfn,by simpa using hname,by rw[hbody]; rfl⟩,fun Γ vs hh hl hx=>?_⟩
     refine (callsIn_wide (n:=0)).1 (callsIn_of_wp_marks hfn hbody trivial ?_)
     have hl':=hx.length
     have hs:SSim (Γ.from_ Γ.w.heap.size) (enterA ⟨ic,fn.ntmps,rs⟩ xs hp) { tmps:=(⟨vs⟩:Array Value)++Array.replicate (fn.ntmps - (⟨vs⟩:Array Value).size) undef,defers:=[] }:=by
      refine⟨?_,hh.from_ _,MarksOk.nil (qk _) _⟩
      simp only[enterA]
      have:=(hx.append (VRels.reps (undef_rel Γ) (fn.ntmps - xs.length))).le (Le.from_ Γ Γ.w.heap.size)
      rw[hl'] at this ⊢
      simpa using this
     have fin:∀ (Δ:Cx) (st':St) (a':Act),SSim Δ st' a'→Ev (Γ.from_ Γ.w.heap.size) hp Δ st'.hp→(∃ r,resA rs st'=some r∧K r st'.hp)→LeavesInM (Fw none) 0 P fn a'.tmps (fun e w' => ∃ v r hp' Δ,e=.returned v∧Δ.w=w'∧VRel Δ r v∧HSim Δ hp'∧Ev Γ hp Δ hp'∧K r hp') a'.defers .returning Δ.w:=by
      intro Δ st' a' h2 h3 ⟨r,hr',hk⟩
      obtain⟨_,ks,e1,e2,e3⟩:=h2.df
      rw[e1]
      refine leave_marks ks Δ st'.hp (Γ.from_ Γ.w.heap.size) hp h2.hp h3 e2 (fun k hk=>?_) ?_
      ·obtain⟨p1,p2,p3,p4⟩:=e3 k hk
       exact⟨p1,p2,p3,by rw[h3.s0] at p4; exact p4⟩
      ·intro Θ k1 k2 k3
       have h2':SSim Θ st' { a' with defers:=[] }:=⟨h2.tm.le k2,k1,MarksOk.nil (by rw[k3.s0]; exact k3.size) _⟩
       obtain⟨v,q1,q2⟩:=results_run (fn:=fn) hr h2' hr'
       simp only[LeavesInM,LeavesIn]
       exact⟨_,q1,v,r,st'.hp,Θ.from_ Γ.s0,rfl,rfl,q2.le (Le.from_ _ _),k1.from_ _,k3.from_,hk⟩
     refine wpIn_mono (vc_sound hm hc (hkeys fn c hfn hbody) (Q:=RetQ ⟨ic,fn.ntmps,rs⟩ K) (by intro l st hq; exact hq) h none (Γ.from_ Γ.w.heap.size) _ (.inl rfl) hs hl) ?_
     rintro e a' w' ⟨Δ,st',rfl,h2,h3,h4⟩
     cases e with
     | normal=>exact fin Δ st' a' h2 h3 h4
     | ret=>exact fin Δ st' a' h2 h3 h4
     | exit id=>exact h4.elim
     | goto l=>exact h4.elim
     | panic ch=>exact h4.elim
     | outgrown=>exact h4.elim
    ·cases hf
   ·cases hf
 ·cases hf
end
section
set_option linter.unusedSectionVars false
variable [Mx]
open Go
def Frz (hp:HP) (r r':AV):Prop:=∀ (Δ Δ':Cx) (v:Value),HSim Δ hp→VRel Δ r v→Δ'.w=Δ.w→(∀ b,Δ.Fz b→Δ'.Fz b)→(∀ b,Live Δ hp b→Δ'.Fz b)→VRel Δ' r' v
def FrzL (hp:HP) (r r':List AV):Prop:=∀ (Δ Δ':Cx) (v:List Value),HSim Δ hp→VRels Δ r v→Δ'.w=Δ.w→(∀ b,Δ.Fz b→Δ'.Fz b)→(∀ b,Live Δ hp b→Δ'.Fz b)→VRels Δ' r' v
theorem Frz.int (hp:HP) (k:IntKind) (n:Int):Frz hp (.int k n) (.int k n):=fun _ _ _ _ h _ _ _=>by simpa only[VRel] using h
theorem Frz.bool (hp:HP) (b:Bool):Frz hp (.bool b) (.bool b):=fun _ _ _ _ h _ _ _=>by simpa only[VRel] using h
theorem Frz.str (hp:HP) (s:List UInt8):Frz hp (.str s) (.str s):=fun _ _ _ _ h _ _ _=>by simpa only[VRel] using h
theorem Frz.nilp (hp:HP):Frz hp .nilp .nilp:=fun _ _ _ _ h _ _ _=>by simpa only[VRel] using h
theorem Frz.nils (hp:HP):Frz hp .nils .nils:=fun _ _ _ _ h _ _ _=>by simpa only[VRel] using h
theorem Frz.nilm (hp:HP):Frz hp .nilm .nilm:=fun _ _ _ _ h _ _ _=>by simpa only[VRel] using h
theorem Frz.nilf (hp:HP):Frz hp .nilf .nilf:=fun _ _ _ _ h _ _ _=>by simpa only[VRel] using h
theorem Frz.unk (hp:HP):Frz hp .unk .unk:=fun _ _ _ _ h _ _ _=>by simpa only[VRel] using h
theorem Frz.nili (hp:HP):Frz hp .nili .nili:=fun _ _ _ _ h _ _ _=>by simpa only[VRel] using h
theorem FrzL.nil (hp:HP):FrzL hp [] []:=fun _ _ _ _ h _ _ _=>by simpa only[VRels] using h
theorem FrzL.cons {hp:HP} {a a':AV} {as as':List AV} (h:Frz hp a a') (k:FrzL hp as as'):FrzL hp (a :: as) (a' :: as'):=fun Δ Δ' v h1 h2 h3 h4 h5=>by
 simp only[VRels] at h2 ⊢
 obtain⟨u,us,rfl,h6,h7⟩:=h2
 exact⟨u,us,rfl,h Δ Δ' u h1 h6 h3 h4 h5,k Δ Δ' us h1 h7 h3 h4 h5⟩
theorem FrzL.all {hp:HP}:∀ {as:List AV},(∀ a ∈ as,Frz hp a a)→FrzL hp as as
 | [],_=>FrzL.nil hp
 | a :: as,h=>FrzL.cons (h a (by simp)) (FrzL.all fun b hb=>h b (by simp[hb]))
theorem FrzL.get {hp:HP} {as as':List AV} (h:FrzL hp as as') {Δ Δ':Cx} {b o:Nat} (h1:HSim Δ hp) (hc:CellsAt Δ as b o) (h3:Δ'.w=Δ.w) (h4:∀ b,Δ.Fz b→Δ'.Fz b) (h5:∀ b,Live Δ hp b→Δ'.Fz b):CellsAt Δ' as' b o:=by
 obtain⟨vs,q1,q2,q3,q4⟩:=hc.list
 have hr:=h Δ Δ' vs h1 q1 h3 h4 h5
 refine CellsAt.of fun i a ha=>?_
 have hlt:i<vs.length:=by rw[← hr.length]; exact (qf.1 ha).1
 have hg:=hr.get i
 simp only[List.getD,ha,qg hlt,Option.getD_some] at hg
 refine⟨vs[i],?_,q3 _ (zd _),hg⟩
 rw[h3]
 exact q4 i _ (qg hlt)
theorem Frz.agg {hp:HP} {as as':List AV} (h:FrzL hp as as'):Frz hp (.agg as) (.agg as'):=fun Δ Δ' v h1 h2 h3 h4 h5=>by
 simp only[VRel] at h2 ⊢
 obtain⟨us,rfl,h6,h7⟩:=h2
 exact⟨us,rfl,h Δ Δ' us h1 h6 h3 h4 h5,h7⟩
theorem Frz.tup {hp:HP} {as as':List AV} (h:FrzL hp as as'):Frz hp (.tup as) (.tup as'):=fun Δ Δ' v h1 h2 h3 h4 h5=>by
 simp only[VRel] at h2 ⊢
 obtain⟨us,rfl,h6⟩:=h2
 exact⟨us,rfl,h Δ Δ' us h1 h6 h3 h4 h5⟩
theorem Frz.func {hp:HP} {f:FuncId} {as as':List AV} (h:FrzL hp as as'):Frz hp (.func f as) (.func f as'):=fun Δ Δ' v h1 h2 h3 h4 h5=>by
 simp only[VRel] at h2 ⊢
 obtain⟨us,rfl,h6⟩:=h2
 exact⟨us,rfl,h Δ Δ' us h1 h6 h3 h4 h5⟩
theorem Frz.iface {hp:HP} {t:TypeId} {a a':AV} (h:Frz hp a a'):Frz hp (.iface t a) (.iface t a'):=fun Δ Δ' v h1 h2 h3 h4 h5=>by
 simp only[VRel] at h2 ⊢
 obtain⟨u,rfl,h6⟩:=h2
 exact⟨u,rfl,h Δ Δ' u h1 h6 h3 h4 h5⟩
theorem Frz.fsl {hp:HP} {as as':List AV} {len:Nat} (h:FrzL hp as as'):Frz hp (.fsl as len) (.fsl as' len):=fun Δ Δ' v h1 h2 h3 h4 h5=>by
 simp only[VRel] at h2 ⊢
 rcases h2 with ⟨hn,rfl,rfl⟩|⟨b,o,c,rfl,h6,h7,h8⟩
 ·have:=(h Δ Δ' [] h1 (by simp[VRels]) h3 h4 h5).length
  exact .inl ⟨hn,by simp,qq this⟩
 refine .inr ⟨b,o,c,rfl,h6,?_,h.get h1 h8 h3 h4 h5⟩
 rcases h7 with h7|h7
 ·left
  subst h7
  have:=(h Δ Δ' [] h1 (by simp[VRels]) h3 h4 h5).length
  exact qq this
 ·exact .inr (h4 b h7)
theorem Frz.fptr {hp:HP} {as as':List AV} {off:Nat} (h:FrzL hp as as'):Frz hp (.fptr as off) (.fptr as' off):=fun Δ Δ' v h1 h2 h3 h4 h5=>by
 simp only[VRel] at h2 ⊢
 obtain⟨b,o,rfl,h7,h8⟩:=h2
 exact⟨b,o,rfl,h4 b h7,h.get h1 h8 h3 h4 h5⟩
theorem Frz.esl (hp:HP):Frz hp .esl (.fsl [] 0):=fun _ _ _ _ h _ _ _=>by
 simp only[VRel] at h ⊢
 exact .inl ⟨h,by simp,by simp⟩
theorem Frz.enn (hp:HP):Frz hp .enn (.fsl [] 0):=fun _ _ _ _ h _ _ _=>by
 simp only[VRel] at h ⊢
 obtain⟨⟨b,o,sp⟩,c,rfl,hc⟩:=h
 rcases hc with rfl|hc
 ·exact .inl ⟨.inr ⟨_,rfl⟩,by simp,by simp⟩
 ·simp only at hc
  subst hc
  exact .inr ⟨b,o,c,rfl,Nat.zero_le _,.inl (by simp),by simp[CellsAt]⟩
theorem Frz.nils' (hp:HP):Frz hp .nils (.fsl [] 0):=fun _ _ _ _ h _ _ _=>by
 simp only[VRel] at h ⊢
 exact .inl ⟨.inl h,by simp,by simp⟩
theorem Frz.sl {hp:HP} {id off len sz lo:Nat} {ex:Bool} {e:TypeId} {cs as':List AV} (hx:hp[id]? = some (some (.row e cs))) (hl:off+len*sz≤cs.length) (h:FrzL hp ((cs.drop off).take (len*sz)) as'):Frz hp (.sl id off len sz lo ex) (.fsl as' len):=fun Δ Δ' v h1 h2 h3 h4 h5=>by
 simp only[VRel] at h2 ⊢
 obtain⟨hi,o,c,e',m,rfl,ho,k1,k2,k3,k4,k5⟩:=h2
 refine .inr ⟨_,o,c,rfl,by omega,.inr (h5 _ ⟨id,_,hx,rfl⟩),?_⟩
 exact h.get h1 (sl_cells h1 hx ho (by omega) hl) h3 h4 h5
theorem Frz.ptr {hp:HP} {id off:Nat} {e:TypeId} {cs as':List AV} (hx:hp[id]? = some (some (.row e cs))) (h:FrzL hp cs as'):Frz hp (.ptr id off) (.fptr as' off):=fun Δ Δ' v h1 h2 h3 h4 h5=>by
 simp only[VRel] at h2 ⊢
 obtain⟨hi,rfl⟩:=h2
 have hb:=(h1.blk id _ hx).1
 simp only[BRel] at hb
 exact⟨_,_,rfl,h5 _ ⟨id,_,hx,rfl⟩,h.get h1 hb.2 h3 h4 h5⟩
def NoId (x:AV):Prop:=∀ (Γ Γ':Cx) (v:Value),VRel Γ x v→Γ'.w=Γ.w→(∀ b,Γ.Fz b→Γ'.Fz b)→VRel Γ' x v
def NoIdL (x:List AV):Prop:=∀ (Γ Γ':Cx) (v:List Value),VRels Γ x v→Γ'.w=Γ.w→(∀ b,Γ.Fz b→Γ'.Fz b)→VRels Γ' x v
theorem NoId.frz {x:AV} (h:NoId x) (hp:HP):Frz hp x x:=fun Δ Δ' v _ h2 h3 h4 _=>h Δ Δ' v h2 h3 h4
theorem NoIdL.frz {x:List AV} (h:NoIdL x) (hp:HP):FrzL hp x x:=fun Δ Δ' v _ h2 h3 h4 _=>h Δ Δ' v h2 h3 h4
theorem NoId.int (k:IntKind) (n:Int):NoId (.int k n):=fun _ _ _ h _ _=>by simpa only[VRel] using h
theorem NoId.bool (b:Bool):NoId (.bool b):=fun _ _ _ h _ _=>by simpa only[VRel] using h
theorem NoId.str (s:List UInt8):NoId (.str s):=fun _ _ _ h _ _=>by simpa only[VRel] using h
theorem NoId.nilp:NoId .nilp:=fun _ _ _ h _ _=>by simpa only[VRel] using h
theorem NoId.nils:NoId .nils:=fun _ _ _ h _ _=>by simpa only[VRel] using h
theorem NoId.nilm:NoId .nilm:=fun _ _ _ h _ _=>by simpa only[VRel] using h
theorem NoId.nilf:NoId .nilf:=fun _ _ _ h _ _=>by simpa only[VRel] using h
theorem NoId.unk:NoId .unk:=fun _ _ _ h _ _=>by simpa only[VRel] using h
theorem NoId.nili:NoId .nili:=fun _ _ _ h _ _=>by simpa only[VRel] using h
theorem NoIdL.nil:NoIdL []:=fun _ _ _ h _ _=>by simpa only[VRels] using h
theorem NoIdL.cons {a:AV} {as:List AV} (h:NoId a) (k:NoIdL as):NoIdL (a :: as):=fun Γ Γ' v h1 h2 h3=>by
 simp only[VRels] at h1 ⊢
 obtain⟨u,us,rfl,h6,h7⟩:=h1
 exact⟨u,us,rfl,h Γ Γ' u h6 h2 h3,k Γ Γ' us h7 h2 h3⟩
theorem NoIdL.all:∀ {as:List AV},(∀ a ∈ as,NoId a)→NoIdL as
 | [],_=>NoIdL.nil
 | a :: as,h=>NoIdL.cons (h a (by simp)) (NoIdL.all fun b hb=>h b (by simp[hb]))
theorem NoIdL.append {as bs:List AV} (h:NoIdL as) (k:NoIdL bs):NoIdL (as++bs):=fun Γ Γ' v h1 h2 h3=>by
 have hl:=h1.length
 have e1:=h1.take as.length
 have e2:=h1.drop as.length
 simp only[List.take_left,List.drop_left] at e1 e2
 have:=(h Γ Γ' _ e1 h2 h3).append (k Γ Γ' _ e2 h2 h3)
 rwa[List.take_append_drop] at this
theorem NoIdL.get {as:List AV} (h:NoIdL as) {Γ Γ':Cx} {b o:Nat} (hc:CellsAt Γ as b o) (h3:Γ'.w=Γ.w) (h4:∀ b,Γ.Fz b→Γ'.Fz b):CellsAt Γ' as b o:=by
 obtain⟨vs,q1,q2,q3,q4⟩:=hc.list
 have hr:=h Γ Γ' vs q1 h3 h4
 refine CellsAt.of fun i a ha=>?_
 have hlt:i<vs.length:=by rw[← hr.length]; exact (qf.1 ha).1
 have hg:=hr.get i
 simp only[List.getD,ha,qg hlt,Option.getD_some] at hg
 refine⟨vs[i],?_,q3 _ (zd _),hg⟩
 rw[h3]
 exact q4 i _ (qg hlt)
theorem NoId.agg {as:List AV} (h:NoIdL as):NoId (.agg as):=fun Γ Γ' v h1 h2 h3=>by
 simp only[VRel] at h1 ⊢
 obtain⟨us,rfl,h6,h7⟩:=h1
 exact⟨us,rfl,h Γ Γ' us h6 h2 h3,h7⟩
theorem NoId.tup {as:List AV} (h:NoIdL as):NoId (.tup as):=fun Γ Γ' v h1 h2 h3=>by
 simp only[VRel] at h1 ⊢
 obtain⟨us,rfl,h6⟩:=h1
 exact⟨us,rfl,h Γ Γ' us h6 h2 h3⟩
theorem NoId.func {f:FuncId} {as:List AV} (h:NoIdL as):NoId (.func f as):=fun Γ Γ' v h1 h2 h3=>by
 simp only[VRel] at h1 ⊢
 obtain⟨us,rfl,h6⟩:=h1
 exact⟨us,rfl,h Γ Γ' us h6 h2 h3⟩
theorem NoId.bound {f:FuncId} {as:List AV} (h:NoIdL as):NoId (.bound f as):=fun Γ Γ' v h1 h2 h3=>by
 simp only[VRel] at h1 ⊢
 obtain⟨us,rfl,h6⟩:=h1
 exact⟨us,rfl,h Γ Γ' us h6 h2 h3⟩
theorem NoId.iface {t:TypeId} {a:AV} (h:NoId a):NoId (.iface t a):=fun Γ Γ' v h1 h2 h3=>by
 simp only[VRel] at h1 ⊢
 obtain⟨u,rfl,h6⟩:=h1
 exact⟨u,rfl,h Γ Γ' u h6 h2 h3⟩
theorem NoId.fsl {as:List AV} {len:Nat} (h:NoIdL as):NoId (.fsl as len):=fun Γ Γ' v h1 h2 h3=>by
 simp only[VRel] at h1 ⊢
 rcases h1 with h1|⟨b,o,c,rfl,h6,h7,h8⟩
 ·exact .inl h1
 exact .inr ⟨b,o,c,rfl,h6,h7.imp id (h3 b),h.get h8 h2 h3⟩
theorem NoId.esl:NoId .esl:=fun _ _ _ h _ _=>by simpa only[VRel] using h
theorem NoId.enn:NoId .enn:=fun _ _ _ h _ _=>by simpa only[VRel] using h
theorem NoId.fptr {as:List AV} {off:Nat} (h:NoIdL as):NoId (.fptr as off):=fun Γ Γ' v h1 h2 h3=>by
 simp only[VRel] at h1 ⊢
 obtain⟨b,o,rfl,h7,h8⟩:=h1
 exact⟨b,o,rfl,h3 b h7,h.get h8 h2 h3⟩
def PC (P:Program) (f:FuncId) (xs:List AV) (r:AV):Prop:=∀ hp,ACalls P f xs hp fun r' hp'=>r'=r∧hp'=hp
theorem pc_of {P:Program} {f:FuncId} {xs:List AV} {r:AV} (hx:NoIdL xs) (h:ACalls P f xs [] fun r' hp'=>Frz hp' r' r):PC P f xs r:=by
 intro hp
 refine⟨h.1,fun Γ vs hh hl hv=>?_⟩
 have h0:HSim { Γ with n:=0 } []:=⟨rfl,fun i x hx=>by simp at hx,fun i j x y hx=>by simp at hx,hh.fz,GOk.same hh.gl rfl fun _ h=>h⟩
 have hv0:=hx Γ { Γ with n:=0 } vs hv rfl (fun _ h=>h)
 refine Calls.mono (h.2 { Γ with n:=0 } vs h0 hl hv0) ?_
 rintro e w' ⟨v,r',hp0,Δ,rfl,rfl,h5,h6,h7,h8⟩
 have nolive:∀ b,¬ Live { Γ with n:=0 } [] b:=by rintro b ⟨i,x,hi,_⟩; simp at hi
 have newFz:∀ b,Δ.Fz b→Γ.Fz b∨Γ.w.heap.size≤b:=fun b hb=>(h7.fz b hb).imp id fun h=>h.resolve_right (nolive b)
 have newLive:∀ b,Live Δ hp0 b→Γ.w.heap.size≤b:=fun b hb=>(h7.live b hb).resolve_right (nolive b)
 have same:∀ b,b<Γ.w.heap.size→Δ.w.heap[b]? = Γ.w.heap[b]?:=fun b hb=>h7.frame b hb (nolive b)
 let Θ:Cx:={ w:=Δ.w,n:=Γ.n,β:=Γ.β,Fz:=fun b=>Δ.Fz b∨Live Δ hp0 b,lc:=Γ.lc,s0:=Γ.s0 }
 have le:Le Γ Θ:=⟨qk _,fun _ _=>rfl,fun b hb=>.inl (h7.le.fz b hb),fun b hb=>same b (hh.fz b hb),fun b s hs=>h7.le.shape b s hs,rfl⟩
 refine⟨v,r,hp,Θ,rfl,rfl,h8 Δ Θ v h6 h5 rfl (fun _ h=>.inl h) (fun _ h=>.inr h),⟨hh.len,fun i x hi=>?_,hh.inj,fun b hb=>?_,hh.gl.le le⟩,⟨le,h7.os,h7.tape,h7.output,h7.size,fun b hb _=>same b hb,fun b hb=>.inr hb,fun b hb=>?_,rfl⟩,rfl,rfl⟩
 ·obtain⟨k1,k2,k3⟩:=hh.blk i x hi
  refine⟨BRel.le le (same _ k3) k1,fun hf=>?_,Nat.lt_of_lt_of_le k3 h7.size⟩
  rcases hf with hf|hf
  ·rcases newFz _ hf with hf|hf
   ·exact k2 hf
   ·have:Γ.w.heap.size≤(Γ.β i).1:=hf
    omega
  ·have:Γ.w.heap.size≤(Γ.β i).1:=newLive _ hf
   omega
 ·rcases hb with hb|⟨i,x,hi,rfl⟩
  ·exact h6.fz b hb
  ·exact (h6.blk i x hi).2.2
 ·rcases hb with hb|hb
  ·rcases newFz b hb with hb|hb
   ·exact .inl hb
   ·exact .inr (.inl hb)
  ·exact .inr (.inl (newLive b hb))
mutual
def nid:AV→Bool
 | .ptr _ _ | .sl .. | .map _ | .yld _=>false
 | .fptr cs _ | .fsl cs _ | .func _ cs | .agg cs | .tup cs | .bound _ cs=>nidL cs
 | .iface _ a=>nid a
 | _=>true
def nidL:List AV→Bool
 | []=>true
 | a :: as=>nid a && nidL as
end
mutual
def plain:AV→Bool
 | .ptr _ _ | .sl .. | .map _ | .fptr _ _ | .yld _=>false
 | .fsl cs _=>cs.isEmpty
 | .func _ cs | .agg cs | .tup cs | .bound _ cs=>plainL cs
 | .iface _ a=>plain a
 | _=>true
def plainL:List AV→Bool
 | []=>true
 | a :: as=>plain a && plainL as
end
mutual
theorem nid_ok:∀ {a:AV},nid a=true→NoId a
 | .int k n,_=>NoId.int k n
 | .bool b,_=>NoId.bool b
 | .str s,_=>NoId.str s
 | .nilp,_=>NoId.nilp
 | .nils,_=>NoId.nils
 | .esl,_=>NoId.esl
 | .enn,_=>NoId.enn
 | .nilm,_=>NoId.nilm
 | .nilf,_=>NoId.nilf
 | .nili,_=>NoId.nili
 | .unk,_=>NoId.unk
 | .fptr cs o,h=>NoId.fptr (nidL_ok (by simpa only[nid] using h))
 | .fsl cs o,h=>NoId.fsl (nidL_ok (by simpa only[nid] using h))
 | .func f cs,h=>NoId.func (nidL_ok (by simpa only[nid] using h))
 | .agg cs,h=>NoId.agg (nidL_ok (by simpa only[nid] using h))
 | .tup cs,h=>NoId.tup (nidL_ok (by simpa only[nid] using h))
 | .iface t a,h=>NoId.iface (nid_ok (by simpa only[nid] using h))
 | .ptr _ _,h=>by simp[nid] at h
 | .sl ..,h=>by simp[nid] at h
 | .map _,h=>by simp[nid] at h
 | .yld _,h=>by simp[nid] at h
 | .bound f cs,h=>NoId.bound (nidL_ok (by simpa only[nid] using h))
theorem nidL_ok:∀ {as:List AV},nidL as=true→NoIdL as
 | [],_=>NoIdL.nil
 | a :: as,h=>by
  simp only[nidL,qp] at h
  exact NoIdL.cons (nid_ok h.1) (nidL_ok h.2)
end
mutual
theorem plain_rel {Γ Γ':Cx}:∀ {a:AV} {v:Value},plain a=true→VRel Γ a v→VRel Γ' a v
 | .int k n,v,_,h=>by simpa only[VRel] using h
 | .bool b,v,_,h=>by simpa only[VRel] using h
 | .str s,v,_,h=>by simpa only[VRel] using h
 | .nilp,v,_,h=>by simpa only[VRel] using h
 | .nils,v,_,h=>by simpa only[VRel] using h
 | .esl,v,_,h=>by simpa only[VRel] using h
 | .enn,v,_,h=>by simpa only[VRel] using h
 | .nilm,v,_,h=>by simpa only[VRel] using h
 | .nilf,v,_,h=>by simpa only[VRel] using h
 | .nili,v,_,h=>by simpa only[VRel] using h
 | .unk,v,_,h=>by simpa only[VRel] using h
 | .fptr cs o,v,hp,_=>by simp[plain] at hp
 | .ptr _ _,v,hp,_=>by simp[plain] at hp
 | .sl ..,v,hp,_=>by simp[plain] at hp
 | .map _,v,hp,_=>by simp[plain] at hp
 | .yld _,v,hp,_=>by simp[plain] at hp
 | .bound f cs,v,hp,h=>by
  simp only[plain] at hp
  simp only[VRel] at h ⊢
  obtain⟨vs,h1,h2⟩:=h
  exact⟨vs,h1,plainL_rel hp h2⟩
 | .fsl cs n,v,hp,h=>by
  simp only[plain,List.isEmpty_iff] at hp
  subst hp
  simp only[VRel] at h ⊢
  exact h.imp id fun ⟨b,o,c,h1,h2,_,_⟩=>⟨b,o,c,h1,h2,.inl (by simp),by simp[CellsAt]⟩
 | .func f cs,v,hp,h=>by
  simp only[plain] at hp
  simp only[VRel] at h ⊢
  obtain⟨vs,h1,h2⟩:=h
  exact⟨vs,h1,plainL_rel hp h2⟩
 | .agg cs,v,hp,h=>by
  simp only[plain] at hp
  simp only[VRel] at h ⊢
  obtain⟨vs,h1,h2,h3⟩:=h
  exact⟨vs,h1,plainL_rel hp h2,h3⟩
 | .tup cs,v,hp,h=>by
  simp only[plain] at hp
  simp only[VRel] at h ⊢
  obtain⟨vs,h1,h2⟩:=h
  exact⟨vs,h1,plainL_rel hp h2⟩
 | .iface t a,v,hp,h=>by
  simp only[plain] at hp
  simp only[VRel] at h ⊢
  obtain⟨u,h1,h2⟩:=h
  exact⟨u,h1,plain_rel hp h2⟩
theorem plainL_rel {Γ Γ':Cx}:∀ {as:List AV} {vs:List Value},plainL as=true→VRels Γ as vs→VRels Γ' as vs
 | [],vs,_,h=>by simpa only[VRels] using h
 | a :: as,vs,hp,h=>by
  simp only[plainL,qp] at hp
  simp only[VRels] at h ⊢
  obtain⟨u,us,h1,h2,h3⟩:=h
  exact⟨u,us,h1,plain_rel hp.1 h2,plainL_rel hp.2 h3⟩
end
mutual
def frz (hp:HP):AV→Option AV
 | .nils | .esl | .enn=>some (.fsl [] 0)
 | .sl id off len sz _ _=>match hp[id]? with
  | some (some (.row _ cs))=>if (decide (off+len*sz≤cs.length) && nidL cs)=true then some (.fsl ((cs.drop off).take (len*sz)) len) else none
  | _=>none
 | .ptr id off=>match hp[id]? with
  | some (some (.row _ cs))=>if nidL cs=true then some (.fptr cs off) else none
  | _=>none
 | .map _=>none
 | .yld _=>none
 | .bound f cs=>if nidL cs=true then some (.bound f cs) else none
 | .fsl cs len=>if nidL cs=true then some (.fsl cs len) else none
 | .fptr cs off=>if nidL cs=true then some (.fptr cs off) else none
 | .func f cs=>match frzL hp cs with
  | some cs'=>some (.func f cs')
  | none=>none
 | .agg cs=>match frzL hp cs with
  | some cs'=>some (.agg cs')
  | none=>none
 | .tup cs=>match frzL hp cs with
  | some cs'=>some (.tup cs')
  | none=>none
 | .iface t a=>match frz hp a with
  | some a'=>some (.iface t a')
  | none=>none
 | a=>some a
def frzL (hp:HP):List AV→Option (List AV)
 | []=>some []
 | a :: as=>match frz hp a,frzL hp as with
  | some a',some as'=>some (a' :: as')
  | _,_=>none
end
theorem nidL_take {as:List AV} (h:nidL as=true) (n:Nat):nidL (as.take n)=true:=by
 induction as generalizing n with
 | nil=>simp[nidL]
 | cons a as ih =>
  cases n with
  | zero=>simp[nidL]
  | succ n =>
   simp only[nidL,qp,List.take_succ_cons] at h ⊢
   exact⟨h.1,ih h.2 n⟩
theorem nidL_drop {as:List AV} (h:nidL as=true) (n:Nat):nidL (as.drop n)=true:=by
 induction as generalizing n with
 | nil=>simp[nidL]
 | cons a as ih =>
  cases n with
  | zero=>simpa using h
  | succ n =>
   simp only[nidL,qp] at h
   simpa using ih h.2 n
mutual
theorem frz_ok {hp:HP}:∀ {a a':AV},frz hp a=some a'→Frz hp a a'
 | .nils,_,h=>by simp only[frz,qd] at h; subst h; exact Frz.nils' hp
 | .esl,_,h=>by simp only[frz,qd] at h; subst h; exact Frz.esl hp
 | .enn,_,h=>by simp only[frz,qd] at h; subst h; exact Frz.enn hp
 | .int k n,_,h=>by simp only[frz,qd] at h; subst h; exact Frz.int hp k n
 | .bool b,_,h=>by simp only[frz,qd] at h; subst h; exact Frz.bool hp b
 | .str s,_,h=>by simp only[frz,qd] at h; subst h; exact Frz.str hp s
 | .nilp,_,h=>by simp only[frz,qd] at h; subst h; exact Frz.nilp hp
 | .nilm,_,h=>by simp only[frz,qd] at h; subst h; exact Frz.nilm hp
 | .nilf,_,h=>by simp only[frz,qd] at h; subst h; exact Frz.nilf hp
 | .nili,_,h=>by simp only[frz,qd] at h; subst h; exact Frz.nili hp
 | .unk,_,h=>by simp only[frz,qd] at h; subst h; exact Frz.unk hp
 | .map _,_,h=>by simp[frz] at h
 | .yld _,_,h=>by simp[frz] at h
 | .bound f cs,_,h=>by
  simp only[frz] at h
  split at h
  ·rename_i hc
   simp only[qd] at h
   subst h
   exact (NoId.bound (nidL_ok hc)).frz hp
  ·cases h
 | .sl id off len sz lo ex,_,h=>by
  simp only[frz] at h
  split at h
  ·rename_i e cs hx
   split at h
   ·rename_i hc
    simp only[qp,decide_eq_true_eq] at hc
    simp only[qd] at h
    subst h
    exact Frz.sl hx hc.1 ((nidL_ok (nidL_take (nidL_drop hc.2 _) _)).frz hp)
   ·cases h
  ·cases h
 | .ptr id off,_,h=>by
  simp only[frz] at h
  split at h
  ·rename_i e cs hx
   split at h
   ·rename_i hc
    simp only[qd] at h
    subst h
    exact Frz.ptr hx ((nidL_ok hc).frz hp)
   ·cases h
  ·cases h
 | .fsl cs len,_,h=>by
  simp only[frz] at h
  split at h
  ·rename_i hc
   simp only[qd] at h
   subst h
   exact Frz.fsl ((nidL_ok hc).frz hp)
  ·cases h
 | .fptr cs len,_,h=>by
  simp only[frz] at h
  split at h
  ·rename_i hc
   simp only[qd] at h
   subst h
   exact Frz.fptr ((nidL_ok hc).frz hp)
  ·cases h
 | .func f cs,_,h=>by
  simp only[frz] at h
  split at h
  ·rename_i cs' hc
   simp only[qd] at h
   subst h
   exact Frz.func (frzL_ok hc)
  ·cases h
 | .agg cs,_,h=>by
  simp only[frz] at h
  split at h
  ·rename_i cs' hc
   simp only[qd] at h
   subst h
   exact Frz.agg (frzL_ok hc)
  ·cases h
 | .tup cs,_,h=>by
  simp only[frz] at h
  split at h
  ·rename_i cs' hc
   simp only[qd] at h
   subst h
   exact Frz.tup (frzL_ok hc)
  ·cases h
 | .iface t a,_,h=>by
  simp only[frz] at h
  split at h
  ·rename_i cs' hc
   simp only[qd] at h
   subst h
   exact Frz.iface (frz_ok hc)
  ·cases h
theorem frzL_ok {hp:HP}:∀ {as as':List AV},frzL hp as=some as'→FrzL hp as as'
 | [],_,h=>by simp only[frzL,qd] at h; subst h; exact FrzL.nil hp
 | a :: as,_,h=>by
  simp only[frzL] at h
  split at h
  ·rename_i a' as' h1 h2
   simp only[qd] at h
   subst h
   exact FrzL.cons (frz_ok h1) (frzL_ok h2)
  ·cases h
end
mutual
theorem frz_nid {hp hp2:HP}:∀ {a:AV},nid a=true→frz hp a=frz hp2 a
 | .nils,_ | .esl,_ | .enn,_ | .int _ _,_ | .bool _,_ | .str _,_ | .nilp,_ | .nilm,_ | .nilf,_ | .nili,_ | .unk,_ | .fsl _ _,_ | .fptr _ _,_ | .map _,_ | .yld _,_ | .bound _ _,_=>by simp only[frz]
 | .sl ..,h | .ptr _ _,h=>by simp[nid] at h
 | .func f cs,h=>by simp only[nid] at h; simp only[frz,frzL_nid (hp:=hp) (hp2:=hp2) h]
 | .agg cs,h=>by simp only[nid] at h; simp only[frz,frzL_nid (hp:=hp) (hp2:=hp2) h]
 | .tup cs,h=>by simp only[nid] at h; simp only[frz,frzL_nid (hp:=hp) (hp2:=hp2) h]
 | .iface t a,h=>by simp only[nid] at h; simp only[frz,frz_nid (hp:=hp) (hp2:=hp2) h]
theorem frzL_nid {hp hp2:HP}:∀ {as:List AV},nidL as=true→frzL hp as=frzL hp2 as
 | [],_=>rfl
 | a :: as,h=>by
  simp only[nidL,qp] at h
  simp only[frzL,frz_nid (hp:=hp) (hp2:=hp2) h.1,frzL_nid (hp:=hp) (hp2:=hp2) h.2]
end
def PCF (P:Program) (f:FuncId) (xs:List AV) (r:AV):Prop:=
 (∃ fn, P.funcs[f]? = some fn ∧ (fn.name == "runtime.NumGoroutine") = false ∧ fn.body.isNone = false) ∧
 ∀ (hp:HP) (Γ:Cx) (vs:List Value),HSim Γ hp→Γ.lc=lcP P→VRels Γ xs vs→Calls P f ⟨vs⟩ Γ.w fun e w' => ∃ v Δ,e=.returned v∧Δ.w=w'∧VRel ⟨Δ.w,0,fun _=>(0,0),fun b=>Γ.w.heap.size≤b∧Δ.Fz b,Δ.lc,Δ.s0⟩ r v∧HSim Δ hp∧Ev Γ hp Δ hp
theorem PCF.pc {P:Program} {f:FuncId} {xs:List AV} {r:AV} (h:PCF P f xs r):PC P f xs r:=fun hp =>
 ⟨h.1,fun Γ vs hh hl hv=>Calls.mono (h.2 hp Γ vs hh hl hv) fun e w' ⟨v,Δ,h1,h2,h3,h4,h5⟩ =>
  have le0:Le ⟨Δ.w,0,fun _=>(0,0),fun b=>Γ.w.heap.size≤b∧Δ.Fz b,Δ.lc,Δ.s0⟩ Δ:=⟨Nat.zero_le _,fun i hi=>absurd hi (Nat.not_lt_zero i),fun b hb=>hb.2,fun b hb=>rfl,fun b s hs=>hs,rfl⟩
  ⟨v,r,hp,Δ,h1,h2,VRel.le le0 h3,h4,h5,rfl,rfl⟩⟩
theorem PC.fresh {P:Program} {f:FuncId} {xs:List AV} {r:AV} (h:PC P f xs r) (hr:plain r=true):PCF P f xs r:=
 ⟨(h []).1,fun hp Γ vs hh hl hv=>Calls.mono ((h hp).2 Γ vs hh hl hv) fun e w' ⟨v,r',hp',Δ,h1,h2,h3,h4,h5,h6,h7⟩=>by
  subst h6; subst h7
  exact⟨v,Δ,h1,h2,plain_rel hr h3,h4,h5⟩⟩
def FrzN (hp:HP) (r r':AV):Prop:=∀ (Δ Δ':Cx) (v:Value),HSim Δ hp→VRel Δ r v→Δ'.w=Δ.w→(∀ b,Live Δ hp b→Δ'.Fz b)→VRel Δ' r' v
theorem pcf_of {P:Program} {f:FuncId} {xs:List AV} {r:AV} (hx:NoIdL xs) (h:ACalls P f xs [] fun r' hp'=>FrzN hp' r' r):PCF P f xs r:=by
 refine⟨h.1,fun hp Γ vs hh hl hv=>?_⟩
 have h0:HSim { Γ with n:=0 } []:=⟨rfl,fun i x hx=>by simp at hx,fun i j x y hx=>by simp at hx,hh.fz,GOk.same hh.gl rfl fun _ h=>h⟩
 have hv0:=hx Γ { Γ with n:=0 } vs hv rfl (fun _ h=>h)
 refine Calls.mono (h.2 { Γ with n:=0 } vs h0 hl hv0) ?_
 rintro e w' ⟨v,r',hp0,Δ,rfl,rfl,h5,h6,h7,h8⟩
 have nolive:∀ b,¬ Live { Γ with n:=0 } [] b:=by rintro b ⟨i,x,hi,_⟩; simp at hi
 have newFz:∀ b,Δ.Fz b→Γ.Fz b∨Γ.w.heap.size≤b:=fun b hb=>(h7.fz b hb).imp id fun h=>h.resolve_right (nolive b)
 have newLive:∀ b,Live Δ hp0 b→Γ.w.heap.size≤b:=fun b hb=>(h7.live b hb).resolve_right (nolive b)
 have same:∀ b,b<Γ.w.heap.size→Δ.w.heap[b]? = Γ.w.heap[b]?:=fun b hb=>h7.frame b hb (nolive b)
 let Θ:Cx:={ w:=Δ.w,n:=Γ.n,β:=Γ.β,Fz:=fun b=>Δ.Fz b∨Live Δ hp0 b,lc:=Γ.lc,s0:=Γ.s0 }
 have le:Le Γ Θ:=⟨qk _,fun _ _=>rfl,fun b hb=>.inl (h7.le.fz b hb),fun b hb=>same b (hh.fz b hb),fun b s hs=>h7.le.shape b s hs,rfl⟩
 refine⟨v,Θ,rfl,rfl,h8 Δ _ v h6 h5 rfl (fun b hb=>⟨newLive b hb,.inr hb⟩),⟨hh.len,fun i x hi=>?_,hh.inj,fun b hb=>?_,hh.gl.le le⟩,⟨le,h7.os,h7.tape,h7.output,h7.size,fun b hb _=>same b hb,fun b hb=>.inr hb,fun b hb=>?_,rfl⟩⟩
 ·obtain⟨k1,k2,k3⟩:=hh.blk i x hi
  refine⟨BRel.le le (same _ k3) k1,fun hf=>?_,Nat.lt_of_lt_of_le k3 h7.size⟩
  rcases hf with hf|hf
  ·rcases newFz _ hf with hf|hf
   ·exact k2 hf
   ·have:Γ.w.heap.size≤(Γ.β i).1:=hf
    omega
  ·have:Γ.w.heap.size≤(Γ.β i).1:=newLive _ hf
   omega
 ·rcases hb with hb|⟨i,x,hi,rfl⟩
  ·exact h6.fz b hb
  ·exact (h6.blk i x hi).2.2
 ·rcases hb with hb|hb
  ·rcases newFz b hb with hb|hb
   ·exact .inl hb
   ·exact .inr (.inl hb)
  ·exact .inr (.inl (newLive b hb))
theorem PCF.view {P:Program} {f:FuncId} {xs ys:List AV} {r:AV} (h:PCF P f xs r) {hp:HP} (hy:FrzL hp ys xs):ACalls P f ys hp fun r' hp'=>r'=r∧hp'=hp:=by
 refine⟨h.1,fun Γ vs hh hl hv=>?_⟩
 let Γ1:Cx:={ w:=Γ.w,n:=0,β:=Γ.β,Fz:=fun b=>Γ.Fz b∨Live Γ hp b,lc:=Γ.lc,s0:=Γ.s0 }
 have h0:HSim Γ1 []:=⟨rfl,fun i x hx=>by simp at hx,fun i j x y hx=>by simp at hx,fun b hb=>by
  rcases hb with hb|⟨i,x,hi,rfl⟩
  ·exact hh.fz b hb
  ·exact (hh.blk i x hi).2.2,GOk.same hh.gl rfl fun b hb=>.inl hb⟩
 have hv0:VRels Γ1 xs vs:=hy Γ Γ1 vs hh hv rfl (fun b hb=>.inl hb) (fun b hb=>.inr hb)
 refine Calls.mono (h.2 [] Γ1 vs h0 hl hv0) ?_
 rintro e w' ⟨v,Δ,rfl,rfl,h5,h6,h7⟩
 have nolive:∀ b,¬ Live Γ1 [] b:=by rintro b ⟨i,x,hi,_⟩; simp at hi
 have same:∀ b,b<Γ.w.heap.size→Δ.w.heap[b]? = Γ.w.heap[b]?:=fun b hb=>h7.frame b hb (nolive b)
 let Θ:Cx:={ w:=Δ.w,n:=Γ.n,β:=Γ.β,Fz:=fun b=>Γ.Fz b∨(Γ.w.heap.size≤b∧Δ.Fz b),lc:=Γ.lc,s0:=Γ.s0 }
 have le:Le Γ Θ:=⟨qk _,fun _ _=>rfl,fun b hb=>.inl hb,fun b hb=>same b (hh.fz b hb),fun b s hs=>h7.le.shape b s hs,rfl⟩
 have le0:Le ⟨Δ.w,0,fun _=>(0,0),fun b=>Γ1.w.heap.size≤b∧Δ.Fz b,Δ.lc,Δ.s0⟩ Θ:=⟨Nat.zero_le _,fun i hi=>absurd hi (Nat.not_lt_zero i),fun b hb=>.inr hb,fun b hb=>rfl,fun b s hs=>hs,h7.le.lc.symm⟩
 refine⟨v,r,hp,Θ,rfl,rfl,VRel.le le0 h5,⟨hh.len,fun i x hi=>?_,hh.inj,fun b hb=>?_,hh.gl.le le⟩,⟨le,h7.os,h7.tape,h7.output,h7.size,fun b hb _=>same b hb,fun b hb=>.inr hb,fun b hb=>?_,rfl⟩,rfl,rfl⟩
 ·obtain⟨k1,k2,k3⟩:=hh.blk i x hi
  refine⟨BRel.le le (same _ k3) k1,fun hf=>?_,Nat.lt_of_lt_of_le k3 h7.size⟩
  rcases hf with hf|hf
  ·exact k2 hf
  ·have:Γ.w.heap.size≤(Γ.β i).1:=hf.1
   omega
 ·rcases hb with hb|hb
  ·exact Nat.lt_of_lt_of_le (hh.fz b hb) h7.size
  ·exact h6.fz b hb.2
 ·rcases hb with hb|hb
  ·exact .inl hb
  ·exact .inr (.inl hb.1)
mutual
def fresh (hp:HP):AV→Option AV
 | .nils | .esl | .enn=>some (.fsl [] 0)
 | .sl id off len sz _ _=>match hp[id]? with
  | some (some (.row _ cs))=>if (decide (off+len*sz≤cs.length) && plainL cs)=true then some (.fsl ((cs.drop off).take (len*sz)) len) else none
  | _=>none
 | .ptr id off=>match hp[id]? with
  | some (some (.row _ cs))=>if plainL cs=true then some (.fptr cs off) else none
  | _=>none
 | .func f cs=>match freshL hp cs with
  | some cs'=>some (.func f cs')
  | none=>none
 | .agg cs=>match freshL hp cs with
  | some cs'=>some (.agg cs')
  | none=>none
 | .tup cs=>match freshL hp cs with
  | some cs'=>some (.tup cs')
  | none=>none
 | .iface t a=>match fresh hp a with
  | some a'=>some (.iface t a')
  | none=>none
 | a=>if plain a=true then some a else none
def freshL (hp:HP):List AV→Option (List AV)
 | []=>some []
 | a :: as=>match fresh hp a,freshL hp as with
  | some a',some as'=>some (a' :: as')
  | _,_=>none
end
theorem cells_plain {Γ Γ':Cx} (hw:Γ'.w=Γ.w):∀ {as:List AV} {b o:Nat},plainL as=true→CellsAt Γ as b o→CellsAt Γ' as b o
 | [],b,o,_,_=>by simp[CellsAt]
 | a :: as,b,o,hp,h=>by
  simp only[plainL,qp] at hp
  simp only[CellsAt] at h ⊢
  obtain⟨⟨v,h1,h2,h3⟩,h4⟩:=h
  exact⟨⟨v,by rw[hw]; exact h1,h2,plain_rel hp.1 h3⟩,cells_plain hw hp.2 h4⟩
theorem plainL_take {as:List AV} (h:plainL as=true) (n:Nat):plainL (as.take n)=true:=by
 induction as generalizing n with
 | nil=>simp[plainL]
 | cons a as ih =>
  cases n with
  | zero=>simp[plainL]
  | succ n =>
   simp only[plainL,qp,List.take_succ_cons] at h ⊢
   exact⟨h.1,ih h.2 n⟩
theorem plainL_drop {as:List AV} (h:plainL as=true) (n:Nat):plainL (as.drop n)=true:=by
 induction as generalizing n with
 | nil=>simp[plainL]
 | cons a as ih =>
  cases n with
  | zero=>simpa using h
  | succ n =>
   simp only[plainL,qp] at h
   simpa using ih h.2 n
theorem FrzN.plain {hp:HP} {a:AV} (h:Gi.plain a=true):FrzN hp a a:=fun _ _ _ _ h2 _ _=>plain_rel h h2
mutual
theorem fresh_ok {hp:HP}:∀ {a a':AV},fresh hp a=some a'→FrzN hp a a'
 | .nils,_,h=>by
  simp only[fresh,qd] at h
  subst h
  intro Δ Δ' v _ h2 _ _
  simp only[VRel] at h2 ⊢
  exact .inl ⟨.inl h2,by simp,by simp⟩
 | .esl,_,h=>by
  simp only[fresh,qd] at h
  subst h
  intro Δ Δ' v _ h2 _ _
  simp only[VRel] at h2 ⊢
  exact .inl ⟨h2,by simp,by simp⟩
 | .enn,_,h=>by
  simp only[fresh,qd] at h
  subst h
  intro Δ Δ' v _ h2 _ _
  simp only[VRel] at h2 ⊢
  obtain⟨⟨b,o,sp⟩,c,rfl,hc⟩:=h2
  rcases hc with rfl|hc
  ·exact .inl ⟨.inr ⟨_,rfl⟩,by simp,by simp⟩
  ·simp only at hc
   subst hc
   exact .inr ⟨b,o,c,rfl,Nat.zero_le _,.inl (by simp),by simp[CellsAt]⟩
 | .sl id off len sz lo ex,_,h=>by
  simp only[fresh] at h
  split at h
  ·rename_i e cs hx
   split at h
   ·rename_i hc
    simp only[qp,decide_eq_true_eq] at hc
    simp only[qd] at h
    subst h
    intro Δ Δ' v h1 h2 h3 h5
    simp only[VRel] at h2 ⊢
    obtain⟨hi,o,c,e',m,rfl,ho,k1,k2,k3,k4,k5⟩:=h2
    refine .inr ⟨_,o,c,rfl,by omega,.inr (h5 _ ⟨id,_,hx,rfl⟩),?_⟩
    exact cells_plain h3 (plainL_take (plainL_drop hc.2 _) _) (sl_cells h1 hx ho (by omega) hc.1)
   ·cases h
  ·cases h
 | .ptr id off,_,h=>by
  simp only[fresh] at h
  split at h
  ·rename_i e cs hx
   split at h
   ·rename_i hc
    simp only[qd] at h
    subst h
    intro Δ Δ' v h1 h2 h3 h5
    simp only[VRel] at h2 ⊢
    obtain⟨hi,rfl⟩:=h2
    have hb:=(h1.blk id _ hx).1
    simp only[BRel] at hb
    exact⟨_,_,rfl,h5 _ ⟨id,_,hx,rfl⟩,cells_plain h3 hc hb.2⟩
   ·cases h
  ·cases h
 | .func f cs,_,h=>by
  simp only[fresh] at h
  split at h
  ·rename_i cs' hc
   simp only[qd] at h
   subst h
   intro Δ Δ' v h1 h2 h3 h5
   simp only[VRel] at h2 ⊢
   obtain⟨us,rfl,h6⟩:=h2
   exact⟨us,rfl,freshL_ok hc Δ Δ' us h1 h6 h3 h5⟩
  ·cases h
 | .agg cs,_,h=>by
  simp only[fresh] at h
  split at h
  ·rename_i cs' hc
   simp only[qd] at h
   subst h
   intro Δ Δ' v h1 h2 h3 h5
   simp only[VRel] at h2 ⊢
   obtain⟨us,rfl,h6,h7⟩:=h2
   exact⟨us,rfl,freshL_ok hc Δ Δ' us h1 h6 h3 h5,h7⟩
  ·cases h
 | .tup cs,_,h=>by
  simp only[fresh] at h
  split at h
  ·rename_i cs' hc
   simp only[qd] at h
   subst h
   intro Δ Δ' v h1 h2 h3 h5
   simp only[VRel] at h2 ⊢
   obtain⟨us,rfl,h6⟩:=h2
   exact⟨us,rfl,freshL_ok hc Δ Δ' us h1 h6 h3 h5⟩
  ·cases h
 | .iface t a,_,h=>by
  simp only[fresh] at h
  split at h
  ·rename_i cs' hc
   simp only[qd] at h
   subst h
   intro Δ Δ' v h1 h2 h3 h5
   simp only[VRel] at h2 ⊢
   obtain⟨u,rfl,h6⟩:=h2
   exact⟨u,rfl,fresh_ok hc Δ Δ' u h1 h6 h3 h5⟩
  ·cases h
 | .int _ _,_,h | .bool _,_,h | .str _,_,h | .nilp,_,h | .nilm,_,h | .nilf,_,h | .nili,_,h | .unk,_,h | .map _,_,h | .yld _,_,h | .bound _ _,_,h | .fsl _ _,_,h | .fptr _ _,_,h=>by
  simp only[fresh] at h
  split at h
  ·rename_i hc
   simp only[qd] at h
   subst h
   exact FrzN.plain hc
  ·cases h
theorem freshL_ok {hp:HP}:∀ {as as':List AV},freshL hp as=some as'→∀ (Δ Δ':Cx) (vs:List Value),HSim Δ hp→VRels Δ as vs→Δ'.w=Δ.w→(∀ b,Live Δ hp b→Δ'.Fz b)→VRels Δ' as' vs
 | [],_,h,Δ,Δ',vs,_,h2,_,_=>by
  simp only[freshL,qd] at h
  subst h
  simpa only[VRels] using h2
 | a :: as,_,h,Δ,Δ',vs,h1,h2,h3,h5=>by
  simp only[freshL] at h
  split at h
  ·rename_i a' as' k1 k2
   simp only[qd] at h
   subst h
   simp only[VRels] at h2 ⊢
   obtain⟨u,us,rfl,h6,h7⟩:=h2
   exact⟨u,us,rfl,fresh_ok k1 Δ Δ' u h1 h6 h3 h5,freshL_ok k2 Δ Δ' us h1 h7 h3 h5⟩
  ·cases h
end
end
end Go.Gi
