/- Structs and arrays written out, makes, conversions, len, clear, copy. -/
/- Numbers, strings and truth values; comparing; parts of structs; interface values. -/
/- All operations but calls, in one function; and that each does in the model what it says. -/
import Derived.Test.YtakdhioafodhcaaGreatDoorGiE
import Derived.Laws.Tables
import Derived.Laws.StructEq
import Derived.Laws.Pointers
set_option linter.unusedVariables false
set_option linter.unusedSimpArgs false
namespace Go.Gi
open _root_.Bool renaming false_eq_true → qA
open _root_.List renaming eq_nil_of_length_eq_zero → qq, getElem?_eq_some_iff → qf, getElem?_eq_getElem → qg, length_append → qo, map_cons → qB
open _root_.List.cons renaming injEq → xc
open _root_.Go.Gi.OpOk renaming same → qE
open _root_.Option renaming map_some → qh
open _root_.Option.some renaming injEq → qd
open _root_.Prod.mk renaming injEq → qj
open _root_.Go.Result renaming andThen_ok → qy
open _root_.Go.Sem renaming run_bind → qN, run_pure → qO
section
set_option linter.unusedSectionVars false
variable [Mx]
open Go
theorem VRels.over {Γ:Cx} {as bs:List AV} {vs us:List Value} (h:VRels Γ as vs) (k:VRels Γ bs us) (o:Nat):VRels Γ (over as o bs) (over vs o us):=by
 unfold Gi.over
 rw[k.length]
 exact ((h.take o).append k).append (h.drop _)
def fillA (places:List (Nat × Nat)):List AV→List (Nat × AV)→Option (List AV)
 | cells,[]=>some cells
 | _,(_,.tup _) :: _=>none
 | cells,(i,x) :: rest =>
  match places[i]? with
  | some (off,size)=>if (cellsA x).length=size∧off+size≤cells.length then fillA places (over cells off (cellsA x)) rest else none
  | none=>none
theorem mem_over {l vs:List Value} {o:Nat} {u:Value} (h:u ∈ over l o vs):u ∈ l∨u ∈ vs:=by
 simp only[over,List.mem_append] at h
 rcases h with (h|h)|h
 ·exact .inl (List.mem_of_mem_take h)
 ·exact .inr h
 ·exact .inl (List.mem_of_mem_drop h)
theorem fillA_rel {Γ:Cx} {places:List (Nat × Nat)} {place:Nat→Option (Nat × Nat)} (hp:∀ i,place i=places[i]?):∀ {parts:List (Nat × AV)} {vs:List (Nat × Value)} {cells:List AV} {c:List Value} {r:List AV},
  parts.map (·.1)=vs.map (·.1)→VRels Γ (parts.map (·.2)) (vs.map (·.2))→VRels Γ cells c→(∀ u ∈ c,one u=true)→fillA places cells parts=some r →
  ∃ d,Instr.fill place ⟨c⟩ vs=some ⟨d⟩∧VRels Γ r d∧(∀ u ∈ d,one u=true)∧r.length=cells.length
 | [],vs,cells,c,r,hi,hv,hc,h1,h=>by
  have:vs=[]:=by cases vs<;>simp_all
  subst this
  simp only[fillA,qd] at h
  subst h
  exact⟨c,rfl,hc,h1,rfl⟩
 | (i,x) :: parts,vs,cells,c,r,hi,hv,hc,h1,h=>by
  rcases vs with _|⟨⟨j,v⟩,vs⟩
  ·simp at hi
  ·simp only[qB,xc] at hi
   obtain⟨rfl,hi⟩:=hi
   simp only[qB,VRels,xc] at hv
   obtain⟨v',vs',⟨rfl,rfl⟩,hv,hvs⟩:=hv
   have ht:∀ l,x≠.tup l:=by rintro l rfl; simp[fillA] at h
   have h':(match places[i]? with
     | some (off,size)=>if (cellsA x).length=size∧off+size≤cells.length then fillA places (over cells off (cellsA x)) parts else none
     | none=>none)=some r:=by
    cases x<;>first|exact absurd rfl (ht _)|exact h
   split at h'
   ·rename_i off size hpl
    split at h'
    ·rename_i hcond
     obtain⟨k1,k2⟩:=cells_rel hv ht
     have hl:=k1.length
     rw[toList_length v.cells] at hl
     have hcl:=hc.length
     obtain⟨d,q1,q2,q3,q4⟩:=fillA_rel hp (c:=over c off v.cells.toList) hi hvs (hc.over k1 off) (fun u hu=>(mem_over hu).elim (h1 u) (k2 u)) h'
     refine⟨d,?_,q2,q3,by rw[q4,over_length _ _ _ (by omega)]⟩
     simp only[Instr.fill,hp,hpl]
     rw[if_neg (by simp; omega)]
     have hf:(v.cells.zipIdx.foldl (fun (cs:Array Value) (p:Value × Nat)=>match p with|(c,j)=>cs.setIfInBounds (off+j) c) ⟨c⟩)=⟨over c off v.cells.toList⟩:=by
      rw[← Array.foldl_toList,Array.toList_zipIdx]
      have:=foldl_set off v.cells.toList 0 c (by simp; omega)
      simpa using this
     rw[hf]
     exact q1
    ·cases h'
   ·cases h'
def placesP (P:Program) (t:TypeId):Option (List (Nat × Nat)):=
 match P.underlying t with
 | some (.struct fields)=>fields.toList.mapM (fun f=>(P.info? f.type).map fun i=>(f.offset,i.size))
 | some (.array n e)=>(P.info? e).map fun i=>(List.range n).map fun j=>(j*i.size,i.size)
 | _=>none
theorem build_ok {P:Program} {Γ:Cx} {hp:HP} (h:HSim Γ hp) {t:TypeId} {Z:List AV} (hz:zeroP P t=some Z) {places:List (Nat × Nat)} (hpl:placesP P t=some places) {parts:List (Nat × AV)} {vs:List (Nat × Value)}
  (hi:parts.map (·.1)=vs.map (·.1)) (hv:VRels Γ (parts.map (·.2)) (vs.map (·.2))) {r:List AV} (hr:fillA places Z parts=some r):OpOk P Γ hp (Instr.build t ⟨vs⟩) (.agg r) hp:=by
 obtain⟨i,z,hi',hz',hs,hl,key⟩:=zeroP_some hz
 unfold placesP at hpl
 split at hpl
 ·rename_i fields hu
  obtain⟨d,q1,q2,q3,q4⟩:=fillA_rel (place:=(places.toArray[·]?)) (fun i=>by simp) hi hv (key Γ).1 (key Γ).2 hr
  refine qE h (v:=.agg ⟨d⟩) (run_build Γ.w t ⟨vs⟩ ⟨d⟩ ?_) (by simp only[VRel]; exact⟨d,rfl,q2,q3⟩)
  simp only[Program.built,hi',hu,hz',hpl]
  exact q1
 ·rename_i n e hu
  cases hie:P.info? e with
  | none=>simp[hie] at hpl
  | some ie =>
   simp only[hie,qh,qd] at hpl
   subst hpl
   have gen:∀ (parts:List (Nat × AV)) (vs:List (Nat × Value)) (cells:List AV) (c:List Value) (r:List AV),parts.map (·.1)=vs.map (·.1)→VRels Γ (parts.map (·.2)) (vs.map (·.2))→VRels Γ cells c→(∀ u ∈ c,one u=true) →
     fillA ((List.range n).map fun j=>(j*ie.size,ie.size)) cells parts=some r→∃ d,Instr.fill (fun i=>some (i*ie.size,ie.size)) ⟨c⟩ vs=some ⟨d⟩∧VRels Γ r d∧(∀ u ∈ d,one u=true):=by
    intro parts
    induction parts with
    | nil =>
     intro vs cells c r hi hv hc h1 h
     have:vs=[]:=by cases vs<;>simp_all
     subst this
     simp only[fillA,qd] at h
     subst h
     exact⟨c,rfl,hc,h1⟩
    | cons p parts ih =>
     obtain⟨i,x⟩:=p
     intro vs cells c r hi hv hc h1 h
     rcases vs with _|⟨⟨j,v⟩,vs⟩
     ·simp at hi
     ·simp only[qB,xc] at hi
      obtain⟨rfl,hi⟩:=hi
      simp only[qB,VRels,xc] at hv
      obtain⟨v',vs',⟨rfl,rfl⟩,hv,hvs⟩:=hv
      have ht:∀ l,x≠.tup l:=by rintro l rfl; simp[fillA] at h
      have h':(match ((List.range n).map fun j=>(j*ie.size,ie.size))[i]? with
        | some (off,size)=>if (cellsA x).length=size∧off+size≤cells.length then fillA ((List.range n).map fun j=>(j*ie.size,ie.size)) (over cells off (cellsA x)) parts else none
        | none=>none)=some r:=by
       cases x<;>first|exact absurd rfl (ht _)|exact h
      split at h'
      ·rename_i off size hpl'
       split at h'
       ·rename_i hcond
        have hoff:off=i*ie.size∧size=ie.size:=by
         rw[List.getElem?_map] at hpl'
         cases hg:(List.range n)[i]? with
         | none=>simp[hg] at hpl'
         | some a =>
          have:a=i:=by
           have:=qf.1 hg
           obtain⟨h1,h2⟩:=this
           simpa using h2.symm
          subst this
          simp[hg] at hpl'
          exact⟨hpl'.1.symm,hpl'.2.symm⟩
        obtain⟨rfl,rfl⟩:=hoff
        obtain⟨k1,k2⟩:=cells_rel hv ht
        have hl:=k1.length
        rw[toList_length v.cells] at hl
        have hcl:=hc.length
        obtain⟨d,q1,q2,q3⟩:=ih vs _ (over c (i*ie.size) v.cells.toList) r hi hvs (hc.over k1 _) (fun u hu=>(mem_over hu).elim (h1 u) (k2 u)) h'
        refine⟨d,?_,q2,q3⟩
        simp only[Instr.fill]
        rw[if_neg (by simp; omega)]
        have hf:(v.cells.zipIdx.foldl (fun (cs:Array Value) (p:Value × Nat)=>match p with|(c,j)=>cs.setIfInBounds (i*ie.size+j) c) ⟨c⟩)=⟨over c (i*ie.size) v.cells.toList⟩:=by
         rw[← Array.foldl_toList,Array.toList_zipIdx]
         have:=foldl_set (i*ie.size) v.cells.toList 0 c (by simp; omega)
         simpa using this
        rw[hf]
        exact q1
       ·cases h'
      ·cases h'
   obtain⟨d,q1,q2,q3⟩:=gen parts vs Z z.cells.toList r hi hv (key Γ).1 (key Γ).2 hr
   refine qE h (v:=.agg ⟨d⟩) (run_build Γ.w t ⟨vs⟩ ⟨d⟩ ?_) (by simp only[VRel]; exact⟨d,rfl,q2,q3⟩)
   simp only[Program.built,hi',hu,hz',hie]
   exact q1
 ·cases hpl
def makeA (hp:HP) (e:TypeId) (Z:List AV) (bytes:Nat) (l c:AV):Option (AV × HP):=
 match l,c with
 | .int _ l,.int _ c=>if 0≤l∧l≤c∧(bytes:Int)*c≤281474976710656∧c≤9223372036854775807 then some (.sl hp.length 0 l.toNat Z.length c.toNat true,hp++[some (.row e (zerosA Z c.toNat))]) else none
 | _,_=>none
theorem make_ok {P:Program} {Γ:Cx} {hp hp':HP} (h:HSim Γ hp) {t e:TypeId} {sz bytes:Nat} (ht:elemP P t=some (e,sz,bytes)) {Z:List AV} (hz:zeroP P e=some Z) {l c r:AV} {vl vc:Value} (hl:VRel Γ l vl) (hc:VRel Γ c vc)
  (hr:makeA hp e Z bytes l c=some (r,hp')):OpOk P Γ hp (Instr.makeSlice t vl vc) r hp':=by
 obtain⟨hut,i,z,hi,hzz,hzs,rfl,rfl⟩:=elemP_some ht
 obtain⟨i',z',hi',hz',hs',hZl,key⟩:=zeroP_some hz
 rw[hi] at hi'; cases hi'
 rw[hzz] at hz'; cases hz'
 unfold makeA at hr
 split at hr
 ·rename_i k1 l k2 c
  split at hr
  ·rename_i hcond
   obtain⟨h0,h1,h2,h3⟩:=hcond
   simp only[qd,qj] at hr
   obtain⟨rfl,rfl⟩:=hr
   simp only[VRel] at hl hc
   subst hl hc
   have hrun:=run_make (P:=P) Γ.w t e i z hut hi hzz k1 k2 l c h0 h1 h2 h3
   have hcyc:madeCells z.cells (c.toNat*i.size)=⟨(List.replicate c.toNat z.cells.toList).flatten⟩:=by
    rw[← cycle_list z.cells c.toNat,← hzs]
    rfl
   obtain⟨q1,q2⟩:=zeros_rel (key Γ).1 (key Γ).2 c.toNat
   obtain⟨Δ,r1,r2,r3,r4,r5,r6⟩:=newRow_ok (P:=P) h e q1 q2 []
   simp only[List.append_nil] at r1 r6
   have hw:Γ.w.alloc (.cells (madeCells z.cells (c.toNat*i.size)) e)=Δ.w:=by
    rw[hcyc]
    simp only[newRow,qN,run_newObj,qy,qO,Result.ok.injEq] at r1
    exact r1.2
   refine⟨_,Δ,by rw[hrun,hw],?_,r2,r3⟩
   simp only[VRel]
   refine⟨by have:=r2.len; simp at this; omega,0,_,_,_,by rw[r5],.inr (by rw[r5]),by omega,Nat.le_refl _,by simp,by rw[r5]; exact r6,?_⟩
   have hfl:∀ n,(List.replicate n z.cells.toList).flatten.length=n*i.size:=by
    intro n
    induction n with
    | zero=>simp
    | succ n ih=>rw[List.replicate_succ,List.flatten_cons,qo,ih,toList_length z.cells,hzs,Nat.add_mul]; omega
   rw[hfl,hZl]
   omega
  ·cases hr
 ·cases hr
def unbyte:List AV→Option (List UInt8)
 | []=>some []
 | .int .u8 n :: as=>if 0≤n∧n<256 then (unbyte as).map (UInt8.ofNat n.toNat :: ·) else none
 | _ :: _=>none
def s2bA (hp:HP) (e:TypeId):AV→Option (AV × HP)
 | .str s=>some (.sl hp.length 0 s.length 1 s.length false,hp++[some (.row e (s.map byteA))])
 | _=>none
def b2sA (hp:HP) (x:AV):Option AV:=
 match srcA hp 1 x with
 | some (as,_)=>match x with
  | .str _=>none
  | _=>(unbyte as).map .str
 | none=>none
theorem bytes_rel {Γ:Cx} (s:List UInt8):VRels Γ (s.map byteA) (s.map fun b=>Value.int .u8 b.toNat):=by
 induction s with
 | nil=>simp[VRels]
 | cons b s ih=>simp only[qB,VRels]; exact⟨_,_,rfl,by simp[byteA,VRel],ih⟩
theorem s2b_ok {P:Program} {Γ:Cx} {hp hp':HP} (h:HSim Γ hp) {src dst e:TypeId} (hs:P.underlying src=some .string) (hd:P.underlying dst=some (.slice e)) (he:P.underlying e=some (.int .u8)) {x r:AV} {v:Value} (hv:VRel Γ x v)
  (hr:s2bA hp e x=some (r,hp')):OpOk P Γ hp (convert src dst v) r hp':=by
 unfold s2bA at hr
 split at hr
 ·rename_i s
  simp only[qd,qj] at hr
  obtain⟨rfl,rfl⟩:=hr
  simp only[VRel] at hv
  subst hv
  have hrun:=run_bytes_of_string (P:=P) Γ.w src dst e ⟨s.toArray⟩ hs hd he
  have hn:(⟨s.toArray⟩:ByteArray).size=s.length:=by simp[ByteArray.size]
  rw[hn] at hrun
  have hge:=grownCap_ge Γ.w s.length 0 e
  generalize grownCap Γ.w s.length 0 e=c at hrun hge
  have hbr:bytesRow ⟨s.toArray⟩ c=⟨(s.map fun b=>Value.int .u8 b.toNat)++List.replicate (c - s.length) (.int .u8 0)⟩:=by
   apply Array.ext'
   simp[bytesRow,hn]
  rw[hbr] at hrun
  generalize hmore:List.replicate (c - s.length) (Value.int .u8 0)=more at hrun
  generalize hfr:((⟨(s.map fun b=>Value.int .u8 b.toNat)++more⟩:Array Value).size,(⟨(s.map fun b=>Value.int .u8 b.toNat)++more⟩:Array Value).size+1)=fr at hrun
  have h':=h.drewN 1
  have le:Le (Γ.drewN 1) (((Γ.drewN 1).alloc (.cells ⟨(s.map fun b=>Value.int .u8 b.toNat)++more⟩ e fr)).know ((Γ.drewN 1).w.heap.size,0)):=(Le.alloc h'.fz _).trans (Le.know _ _)
  have hN:=h'.new (.cells ⟨(s.map fun b=>Value.int .u8 b.toNat)++more⟩ e fr) (.row e (s.map byteA)) (by
   simp only[BRel]
   refine⟨⟨_,fr,alloc_new _ _,by rw[← hfr]; exact Nat.le_succ _,fun o ho=>by rw[← hfr]; simp at ho ⊢; omega⟩,CellsAt.of fun i a ha=>?_⟩
   have hlt:i<s.length:=by have:=(qf.1 ha).1; simpa using this
   have hg:=(bytes_rel (Γ:=Γ.drewN 1) s).get i
   have hlt2:i<(s.map fun b=>Value.int .u8 b.toNat).length:=by simpa using hlt
   simp only[List.getD,ha,qg hlt2,Option.getD_some] at hg
   refine⟨_,?_,?_,hg.le le⟩
   ·simp only[World.cell?,Cx.know,Cx.alloc,alloc_new]
    simp[List.getElem?_append,hlt]
   ·simp[one])
  refine⟨_,_,hrun,?_,hN.1,(Ev.drewN Γ hp 1).trans hN.2⟩
  simp only[VRel]
  refine⟨by have:=h.len; simp[Cx.know,Cx.alloc,Cx.drewN]; omega,0,c,e,((s.map fun b=>Value.int .u8 b.toNat)++more).length,?_,.inr ?_,Nat.le_refl _,hge,by simp,?_,?_⟩
  ·simp[Cx.know,Cx.alloc,Cx.drewN,h.len]
  ·simp[Cx.know,Cx.alloc,Cx.drewN,h.len]
  ·have hk:(((Γ.drewN 1).alloc (.cells ⟨(s.map fun b=>Value.int .u8 b.toNat)++more⟩ e fr)).know ((Γ.drewN 1).w.heap.size,0)).β hp.length=((Γ.drewN 1).w.heap.size,0):=by simp[Cx.know,Cx.alloc,Cx.drewN,h.len]
   rw[hk]
   simp only[World.shape?,Cx.know,Cx.alloc,alloc_new]
   simp
  ·rw[← hmore]; simp; omega
 ·cases hr
theorem unbyte_run {Γ:Cx}:∀ {as:List AV} {s:List UInt8} {vs:List Value},unbyte as=some s→VRels Γ as vs→vs=s.map fun b=>Value.int .u8 b.toNat
 | [],s,vs,h,hv=>by simp only[unbyte,qd] at h; subst h; simpa[VRels] using hv
 | a :: as,s,vs,h,hv=>by
  cases a with
  | int k n =>
   cases k<;>simp only[unbyte,reduceCtorEq] at h
   split at h
   ·rename_i hn
    cases hu:unbyte as with
    | none=>simp[hu] at h
    | some s' =>
     simp only[hu,qh,qd] at h
     subst h
     simp only[VRels] at hv
     obtain⟨v,vs',rfl,hv,hvs⟩:=hv
     simp only[VRel] at hv
     subst hv
     rw[unbyte_run hu hvs]
     simp only[qB,xc,Value.int.injEq,true_and,and_true]
     have:n.toNat % 256=n.toNat:=Nat.mod_eq_of_lt (by omega)
     simp[this]; omega
   ·cases h
  | _=>simp[unbyte] at h
theorem b2s_ok {P:Program} {Γ:Cx} {hp:HP} (h:HSim Γ hp) {src dst e:TypeId} (hs:P.underlying src=some (.slice e)) (hd:P.underlying dst=some .string) (he:P.underlying e=some (.int .u8)) {x r:AV} {v:Value} (hv:VRel Γ x v)
  (hr:b2sA hp x=some r):OpOk P Γ hp (convert src dst v) r hp:=by
 unfold b2sA at hr
 split at hr
 ·rename_i as n hsrc
  have hr':(∀ s,x≠.str s)∧(unbyte as).map AV.str=some r:=by
   cases x<;>first|exact⟨by simp,hr⟩|simp at hr
  obtain⟨hns,hr'⟩:=hr'
  cases hu:unbyte as with
  | none=>simp[hu] at hr'
  | some s =>
   simp only[hu,qh,qd] at hr'
   subst hr'
   obtain⟨news,hS,hN,hO⟩:=srcA_src (P:=P) h (.inl ⟨e,hs⟩) hv hsrc
   have hnews:=unbyte_run hu hN
   refine qE h (v:=.string ⟨s.toArray⟩) ?_ (by simp[VRel])
   have some_:∀ (a:Addr) (c:Nat),v=.slice (some a) n c→(convert src dst v).run P Γ.w=.ok (.string ⟨s.toArray⟩) Γ.w:=by
    rintro a c rfl
    rw[run_convert_bytes_string Γ.w src dst e (some a) n c hs he hd]
    have hc:=hS.cells
    simp only[Builtin.firstCells,Nat.mul_one] at hc
    have hmap:(s.map fun b=>Value.int .u8 b.toNat)=(s.map (fun b=>(b.toNat:Int))).map (Value.int .u8):=by simp
    rw[hnews,hmap] at hc
    rw[run_bytesToString Γ.w a n c _ hc,foldl_push_byteCells]
    have he0:ByteArray.empty.data = #[]:=rfl
    rw[he0]
    simp
   cases x<;>simp only[srcA] at hsrc<;>try contradiction
   case nils =>
    simp only[qd,qj] at hsrc
    obtain⟨rfl,rfl⟩:=hsrc
    simp only[unbyte,qd] at hu
    subst hu
    simp only[VRel] at hv
    subst hv
    rw[run_convert_bytes_string Γ.w src dst e none 0 0 hs he hd]
    rfl
   case fsl cs len =>
    split at hsrc
    ·simp only[qd,qj] at hsrc
     obtain⟨rfl,rfl⟩:=hsrc
     simp only[VRel] at hv
     rcases hv with ⟨hv|⟨a0,hv⟩,rfl,rfl⟩|⟨b,o,c,hv,_⟩
     ·simp only[unbyte,qd] at hu
      subst hu
      subst hv
      rw[run_convert_bytes_string Γ.w src dst e none 0 0 hs he hd]
      rfl
     ·exact some_ _ 0 hv
     ·exact some_ _ c hv
    ·cases hsrc
   case enn =>
    simp only[qd,qj] at hsrc
    obtain⟨rfl,rfl⟩:=hsrc
    simp only[VRel] at hv
    obtain⟨a0,c,hv,_⟩:=hv
    exact some_ _ c hv
   case esl =>
    simp only[qd,qj] at hsrc
    obtain⟨rfl,rfl⟩:=hsrc
    simp only[VRel] at hv
    rcases hv with hv|⟨a0,hv⟩
    ·simp only[unbyte,qd] at hu
     subst hu
     subst hv
     rw[run_convert_bytes_string Γ.w src dst e none 0 0 hs he hd]
     rfl
    ·exact some_ _ 0 hv
   case sl id off len sz' lo ex =>
    split at hsrc
    ·split at hsrc
     ·simp only[qd,qj] at hsrc
      obtain⟨rfl,rfl⟩:=hsrc
      simp only[VRel] at hv
      obtain⟨_,o,c,_,_,hv,_⟩:=hv
      exact some_ _ c hv
     ·cases hsrc
    ·cases hsrc
 ·cases hr
def lenA (hp:HP):AV→Option AV
 | .str s=>some (.int .i64 s.length)
 | .nils=>some (.int .i64 0)
 | .sl _ _ len _ _ _=>some (.int .i64 len)
 | .fsl _ len=>some (.int .i64 len)
 | .esl=>some (.int .i64 0)
 | .enn=>some (.int .i64 0)
 | .nilm=>some (.int .i64 0)
 | .map id=>match hp[id]? with
  | some (some (.map es _ _))=>some (.int .i64 es.length)
  | _=>none
 | _=>none
inductive LenK where
 | str | slice | map
 deriving DecidableEq
def lenP (P:Program) (t:TypeId):Option LenK:=
 match P.underlying t with
 | some .string=>some .str
 | some (.slice _)=>some .slice
 | some (.map _ _)=>some .map
 | _=>none
def lenFits:LenK→AV→Bool
 | .str,.str _=>true
 | .slice,.nils | .slice,.sl .. | .slice,.fsl .. | .slice,.esl | .slice,.enn=>true
 | .map,.nilm | .map,.map _=>true
 | _,_=>false
theorem len_ok {P:Program} {Γ:Cx} {hp:HP} (h:HSim Γ hp) {t ty:TypeId} {k:LenK} (ht:lenP P t=some k) {x r:AV} {v:Value} (hv:VRel Γ x v) (hf:lenFits k x=true) (hr:lenA hp x=some r):OpOk P Γ hp (Builtin.len_ #[t] ty #[v]) r hp:=by
 unfold lenP at ht
 have hu:(k=.str∧P.underlying t=some .string)∨(k=.slice∧∃ e,P.underlying t=some (.slice e))∨(k=.map∧∃ a b,P.underlying t=some (.map a b)):=by
  split at ht<;>simp only[qd,reduceCtorEq] at ht<;>subst ht
  ·rename_i h; exact .inl ⟨rfl,h⟩
  ·rename_i e h; exact .inr (.inl ⟨rfl,e,h⟩)
  ·rename_i a b h; exact .inr (.inr ⟨rfl,a,b,h⟩)
 cases x<;>simp only[lenA,reduceCtorEq] at hr
 case str s =>
  simp only[qd] at hr; subst hr
  rcases hu with ⟨rfl,hu⟩|⟨rfl,e,hu⟩|⟨rfl,a,b,hu⟩<;>simp[lenFits] at hf
  simp only[VRel] at hv; subst hv
  have hn:(⟨s.toArray⟩:ByteArray).size=s.length:=by simp[ByteArray.size]
  exact qE h (v:=.int .i64 s.length) (by simp[Builtin.len_,run_underlying hu,goInt,hn]) (by simp[VRel])
 case nils =>
  simp only[qd] at hr; subst hr
  rcases hu with ⟨rfl,hu⟩|⟨rfl,e,hu⟩|⟨rfl,a,b,hu⟩<;>simp[lenFits] at hf
  simp only[VRel] at hv; subst hv
  exact qE h (by simp[Builtin.len_,run_underlying hu,goInt]; rfl) (by simp[VRel])
 case sl id off len sz lo ex =>
  simp only[qd] at hr; subst hr
  rcases hu with ⟨rfl,hu⟩|⟨rfl,e,hu⟩|⟨rfl,a,b,hu⟩<;>simp[lenFits] at hf
  simp only[VRel] at hv; obtain⟨_,_,_,_,_,rfl,_⟩:=hv
  exact qE h (by simp[Builtin.len_,run_underlying hu,goInt]; rfl) (by simp[VRel])
 case fsl cs len =>
  simp only[qd] at hr; subst hr
  rcases hu with ⟨rfl,hu⟩|⟨rfl,e,hu⟩|⟨rfl,a,b,hu⟩<;>simp[lenFits] at hf
  simp only[VRel] at hv
  rcases hv with ⟨rfl|⟨_,rfl⟩,rfl,_⟩|⟨_,_,_,rfl,_⟩
  ·exact qE h (by simp[Builtin.len_,run_underlying hu,goInt]; rfl) (by simp[VRel])
  ·exact qE h (by simp[Builtin.len_,run_underlying hu,goInt]; rfl) (by simp[VRel])
  ·exact qE h (by simp[Builtin.len_,run_underlying hu,goInt]; rfl) (by simp[VRel])
 case enn =>
  simp only[qd] at hr; subst hr
  rcases hu with ⟨rfl,hu⟩|⟨rfl,e,hu⟩|⟨rfl,a,b,hu⟩<;>simp[lenFits] at hf
  simp only[VRel] at hv
  obtain⟨_,_,rfl,_⟩:=hv
  exact qE h (by simp[Builtin.len_,run_underlying hu,goInt]; rfl) (by simp[VRel])
 case esl =>
  simp only[qd] at hr; subst hr
  rcases hu with ⟨rfl,hu⟩|⟨rfl,e,hu⟩|⟨rfl,a,b,hu⟩<;>simp[lenFits] at hf
  simp only[VRel] at hv
  rcases hv with rfl|⟨_,rfl⟩
  ·exact qE h (by simp[Builtin.len_,run_underlying hu,goInt]; rfl) (by simp[VRel])
  ·exact qE h (by simp[Builtin.len_,run_underlying hu,goInt]; rfl) (by simp[VRel])
 case nilm =>
  simp only[qd] at hr; subst hr
  rcases hu with ⟨rfl,hu⟩|⟨rfl,e,hu⟩|⟨rfl,a,b,hu⟩<;>simp[lenFits] at hf
  simp only[VRel] at hv; subst hv
  exact qE h (by simp[Builtin.len_,run_underlying hu,goInt]; rfl) (by simp[VRel])
 case map id =>
  split at hr
  ·rename_i es _ _ hx
   simp only[qd] at hr; subst hr
   rcases hu with ⟨rfl,hu⟩|⟨rfl,e,hu⟩|⟨rfl,a,b,hu⟩<;>simp[lenFits] at hf
   simp only[VRel] at hv; obtain⟨_,rfl⟩:=hv
   have hb:=(h.blk id _ hx).1
   simp only[BRel] at hb
   obtain⟨ms,clock,h1,_,_,h4,_⟩:=hb
   have hl:=h4.length
   simp at hl
   refine qE h (v:=.int .i64 ms.size) ?_ (by simp[VRel,hl])
   simp[Builtin.len_,run_underlying hu,goInt,getObj,Sem.run,h1]
  ·cases hr
def clearA (hp:HP) (Z:List AV) (x:AV):Option HP:=
 match x with
 | .nils=>some hp
 | .sl id off len sz _ _ =>
  if len=0 then some hp else
  match hp[id]? with
  | some (some (.row e cs))=>if sz=Z.length∧off+len*sz≤cs.length then some (hp.set id (some (.row e (over cs off (zerosA Z len))))) else none
  | _=>none
 | .fsl _ len=>if len=0 then some hp else none
 | .esl=>some hp
 | _=>none
theorem clear_ok {P:Program} {Γ:Cx} {hp hp':HP} (h:HSim Γ hp) {t ty e:TypeId} {sz bytes:Nat} (ht:elemP P t=some (e,sz,bytes)) {Z:List AV} (hz:zeroP P e=some Z) {x:AV} {v:Value} (hv:VRel Γ x v) (hr:clearA hp Z x=some hp') :
  OpOk P Γ hp (Builtin.clear_ #[t] ty #[v]) (.tup []) hp':=by
 obtain⟨hut,i,z,hi,hzz,hzs,rfl,rfl⟩:=elemP_some ht
 obtain⟨i',z',hi',hz',hs',hZl,key⟩:=zeroP_some hz
 rw[hi] at hi'; cases hi'
 rw[hzz] at hz'; cases hz'
 unfold clearA at hr
 split at hr
 ·simp only[qd] at hr; subst hr
  simp only[VRel] at hv; subst hv
  exact qE h (v:=.tuple #[]) (by simp[Builtin.clear_,run_underlying hut]) (by simp[VRel,VRels])
 ·rename_i id off len sz lo ex
  split at hr
  ·rename_i h0
   subst h0
   simp only[qd] at hr; subst hr
   simp only[VRel] at hv; obtain⟨_,o,c,_,_,rfl,_⟩:=hv
   exact qE h (v:=.tuple #[]) (by simp[Builtin.clear_,run_underlying hut]) (by simp[VRel,VRels])
  ·rename_i h0
   split at hr
   ·rename_i e' cs hx
    split at hr
    ·rename_i hl
     obtain⟨rfl,hl⟩:=hl
     simp only[qd] at hr; subst hr
     simp only[VRel] at hv
     obtain⟨hid,o,c,e2,m,rfl,ho,k1,k2,k3,k4,k5⟩:=hv
     have ho' : o = (Γ.β id).2 + off := by rcases ho with ho | ho
                                           ·omega
                                           ·exact ho
     obtain⟨q1,q2⟩:=zeros_rel (key Γ).1 (key Γ).2 len
     have hZ:(zerosA Z len).length=len*Z.length:=by rw[zerosA_eq]; simp
     obtain⟨Δ,r1,r2,r3,_⟩:=write_row (P:=P) (off:=off) h hx q1 q2 (by omega) (.inl (by omega))
     refine⟨.tuple #[],Δ,?_,by simp[VRel,VRels],r2,r3⟩
     have hzc:(Builtin.zeroCells z.cells len).toList=(List.replicate len z.cells.toList).flatten:=cycle_list z.cells len
     obtain⟨n,rfl⟩:∃ n,len=n+1:=⟨len - 1,by omega⟩
     simp only[Builtin.clear_,List.getElem?_toArray,List.getElem?_cons_zero,ho',zeroValue,typeInfo,qN,run_underlying hut,qy,run_program,hi,qO,hzz,hzc,r1]
    ·cases hr
   ·cases hr
 ·rename_i cs len
  split at hr
  ·rename_i h0
   subst h0
   simp only[qd] at hr; subst hr
   simp only[VRel] at hv
   rcases hv with ⟨rfl|⟨_,rfl⟩,_⟩|⟨_,o,c,rfl,_⟩
   ·exact qE h (v:=.tuple #[]) (by simp[Builtin.clear_,run_underlying hut]) (by simp[VRel,VRels])
   ·exact qE h (v:=.tuple #[]) (by simp[Builtin.clear_,run_underlying hut]) (by simp[VRel,VRels])
   ·exact qE h (v:=.tuple #[]) (by simp[Builtin.clear_,run_underlying hut]) (by simp[VRel,VRels])
  ·cases hr
 ·simp only[qd] at hr; subst hr
  simp only[VRel] at hv
  rcases hv with rfl|⟨_,rfl⟩
  ·exact qE h (v:=.tuple #[]) (by simp[Builtin.clear_,run_underlying hut]) (by simp[VRel,VRels])
  ·exact qE h (v:=.tuple #[]) (by simp[Builtin.clear_,run_underlying hut]) (by simp[VRel,VRels])
 ·cases hr
end
section
set_option linter.unusedSectionVars false
variable [Mx]
open Go
theorem byteList (s:List UInt8):(⟨s.toArray⟩:ByteArray).toList=s:=by rw[ByteArray.toList_eq]
theorem byteSize (s:List UInt8):(⟨s.toArray⟩:ByteArray).size=s.length:=by simp[ByteArray.size]
theorem byteCat (s t:List UInt8):(⟨s.toArray⟩++⟨t.toArray⟩:ByteArray)=⟨(s++t).toArray⟩:=by
 apply ByteArray.ext
 apply Array.ext'
 simp
inductive Leaf where
 | int | bool | str
 deriving DecidableEq
def leafEq:Leaf→AV→AV→Option Bool
 | .int,.int k a,.int k' b=>if k=k' then some (decide (a=b)) else none
 | .bool,.bool a,.bool b=>some (a == b)
 | .str,.str a,.str b=>some (decide (a=b))
 | _,_,_=>none
def leavesEq:List Leaf→List AV→List AV→Option Bool
 | [],[],[]=>some true
 | l :: ls,a :: as,b :: bs=>match leafEq l a b,leavesEq ls as bs with
  | some p,some q=>some (p && q)
  | _,_=>none
 | _,_,_=>none
theorem leavesEq_len:∀ {ls:List Leaf} {as bs:List AV} {r:Bool},leavesEq ls as bs=some r→as.length=ls.length∧bs.length=ls.length
 | [],[],[],_,_=>⟨rfl,rfl⟩
 | l :: ls,a :: as,b :: bs,r,h=>by
  simp only[leavesEq] at h
  split at h
  ·rename_i p q h1 h2
   have:=leavesEq_len h2
   simp[this.1,this.2]
  ·cases h
 | [],_ :: _,_,_,h=>by simp[leavesEq] at h
 | [],[],_ :: _,_,h=>by simp[leavesEq] at h
 | _ :: _,[],_,_,h=>by simp[leavesEq] at h
 | _ :: _,_ :: _,[],_,h=>by simp[leavesEq] at h
theorem leavesEq_app:∀ {l1 l2:List Leaf} {as bs:List AV} {r:Bool},leavesEq (l1++l2) as bs=some r →
  ∃ p q,leavesEq l1 (as.take l1.length) (bs.take l1.length)=some p∧leavesEq l2 (as.drop l1.length) (bs.drop l1.length)=some q∧r=(p && q)
 | [],l2,as,bs,r,h=>⟨true,r,by simp[leavesEq],by simpa using h,by simp⟩
 | l :: l1,l2,as,bs,r,h=>by
  rcases as with _|⟨a,as⟩
  ·simp[leavesEq] at h
  ·rcases bs with _|⟨b,bs⟩
   ·simp[leavesEq] at h
   ·simp only[List.cons_append,leavesEq] at h
    split at h
    ·rename_i p q h1 h2
     obtain⟨p',q',k1,k2,k3⟩:=leavesEq_app h2
     refine⟨p && p',q',?_,by simpa using k2,?_⟩
     ·simp only[List.length_cons,List.take_succ_cons,leavesEq,h1,k1]
     ·simp only[qd] at h
      rw[← h,k3,Bool.and_assoc]
    ·cases h
def leafGo (P:Program) (rec:TypeId→Option (List Leaf)):Nat→List Field→Option (List Leaf)
 | _,[]=>some []
 | off,f :: fs =>
  match rec f.type with
  | some ls => if (f.name == "_") = false ∧ f.offset = off ∧ sizeP P f.type = some ls.length then (leafGo P rec (off + ls.length) fs).map (ls ++ ·) else none
  | none=>none
def leafP (P:Program):Nat→TypeId→Option (List Leaf)
 | 0,_=>none
 | d+1,t =>
  match P.underlying t with
  | some .bool=>some [.bool]
  | some (.int _)=>some [.int]
  | some .string=>some [.str]
  | some (.struct fs)=>if P.stoodInHeld t then none else leafGo P (leafP P d) 0 fs.toList
  | _=>none
def ofCells (P:Program) (t:TypeId) (cs:List AV):Option AV:=
 match P.underlying t with
 | some (.struct _)=>some (.agg cs)
 | _=>match cs with
  | [a]=>some a
  | _=>none
theorem leafEq_run {P:Program} {w:World} {Γ:Cx} {D:Nat} {t:TypeId} {l:Leaf} (ht:(l=.bool∧P.underlying t=some .bool)∨(l=.int∧∃ k,P.underlying t=some (.int k))∨(l=.str∧P.underlying t=some .string)) {a b:AV} {u v:Value} {r:Bool}
  (ha:VRel Γ a u) (hb:VRel Γ b v) (h:leafEq l a b=some r):(Op.equalIn (D+1) t u v).run P w=.ok r w:=by
 rcases ht with ⟨rfl,hu⟩|⟨rfl,k,hu⟩|⟨rfl,hu⟩
 ·cases a<;>cases b<;>simp only[leafEq,reduceCtorEq,qd] at h
  simp only[VRel] at ha hb
  subst ha hb h
  exact run_equalIn_bool' w D t _ _ hu
 ·cases a<;>cases b<;>simp only[leafEq,reduceCtorEq] at h
  split at h
  ·rename_i hk
   subst hk
   simp only[qd] at h
   simp only[VRel] at ha hb
   subst ha hb h
   rw[run_equalIn_int w D t _ k _ _ hu]
   rfl
  ·cases h
 ·cases a<;>cases b<;>simp only[leafEq,reduceCtorEq,qd] at h
  simp only[VRel] at ha hb
  subst ha hb h
  rw[run_equalIn_string w D t _ _ hu,byteList,byteList]
  congr 1
  rw[Bool.eq_iff_iff]; simp
theorem part_run {P:Program} {w:World} {Γ:Cx} {t:TypeId} {n off:Nat} {cs:List AV} {vs:List Value} (hs:sizeP P t=some n) (hn:∀ d,P.underlying t=some d→(∃ fs,d=.struct fs)∨((∀ fs,d≠.struct fs)∧(∀ m e,d≠.array m e)∧n=1)) (hd:(P.underlying t).isSome=true)
  (hv:VRels Γ cs vs) (h1:∀ u ∈ vs,one u=true) (hl:off+n≤cs.length):∃ x v,ofCells P t ((cs.drop off).take n)=some x∧(part t ⟨vs⟩ off).run P w=.ok v w∧VRel Γ x v∧cellsA x=(cs.drop off).take n:=by
 obtain⟨d,hu⟩:=Option.isSome_iff_exists.1 hd
 have hvl:=hv.length
 rcases hn d hu with ⟨fs,rfl⟩|⟨h2,h3,rfl⟩
 ·refine⟨.agg ((cs.drop off).take n),.agg ⟨(vs.drop off).take n⟩,by simp[ofCells,hu],?_,?_,rfl⟩
  ·simp only[part,isAgg,qN,run_underlying hu,qy,qO,if_true,sizeP_run hs]
   congr 2
   apply Array.ext'
   simp[List.extract]
  ·simp only[VRel]
   exact⟨_,rfl,(hv.drop off).take n,fun u hu=>h1 u (List.mem_of_mem_drop (List.mem_of_mem_take hu))⟩
 ·have hlt:off<vs.length:=by omega
  have hlt':off<cs.length:=by omega
  have hg:=hv.get off
  simp only[List.getD,qg hlt,qg hlt',Option.getD_some] at hg
  have htake:(cs.drop off).take 1=[cs[off]]:=by
   rw[List.drop_eq_getElem_cons hlt']; rfl
  have hone:cellsA cs[off]=[cs[off]]:=by
   have:=h1 vs[off] (List.getElem_mem _)
   cases hx:cs[off]<;>simp only[cellsA]<;>rw[hx] at hg<;>simp only[VRel] at hg
   obtain⟨_,hg,_⟩:=hg
   rw[hg] at this
   simp[one] at this
  refine⟨cs[off],vs[off],?_,?_,hg,by rw[hone,htake]⟩
  ·rw[htake]
   cases d<;>first|exact absurd rfl (h2 _)|simp[ofCells,hu]
  ·have hagg:(isAgg t).run P w=.ok false w:=by
    cases d<;>first|exact absurd rfl (h2 _)|exact absurd rfl (h3 _ _)|simp[isAgg,run_underlying hu]
   simp[part,hagg,hlt]
theorem leafP_kind {P:Program} {d:Nat} {t:TypeId} {ls:List Leaf} (h:leafP P d t=some ls) (hs:sizeP P t=some ls.length) :
  (P.underlying t).isSome=true∧∀ D,P.underlying t=some D→(∃ fs,D=.struct fs)∨((∀ fs,D≠.struct fs)∧(∀ m e,D≠.array m e)∧ls.length=1):=by
 cases d with
 | zero=>simp[leafP] at h
 | succ d =>
  simp only[leafP] at h
  split at h
  ·rename_i hu; simp only[qd] at h; subst h; exact⟨by rw[hu]; rfl,fun D hD=>.inr (by rw[hu] at hD; cases hD; simp)⟩
  ·rename_i hu; simp only[qd] at h; subst h; exact⟨by rw[hu]; rfl,fun D hD=>.inr (by rw[hu] at hD; cases hD; simp)⟩
  ·rename_i hu; simp only[qd] at h; subst h; exact⟨by rw[hu]; rfl,fun D hD=>.inr (by rw[hu] at hD; cases hD; simp)⟩
  ·rename_i fs hu; exact⟨by rw[hu]; rfl,fun D hD=>.inl (by rw[hu] at hD; cases hD; exact⟨fs,rfl⟩)⟩
  ·cases h
theorem leavesEq_run {P:Program} {Γ:Cx} {w:World}:∀ (d:Nat) {t:TypeId} {ls:List Leaf} {x y:AV} {u v:Value} {r:Bool} (D:Nat),leafP P d t=some ls→VRel Γ x u→VRel Γ y v →
  ofCells P t (cellsA x)=some x→ofCells P t (cellsA y)=some y→leavesEq ls (cellsA x) (cellsA y)=some r→(Op.equalIn (D+d) t u v).run P w=.ok r w
 | 0,t,ls,x,y,u,v,r,D,h,_,_,_,_,_=>by simp[leafP] at h
 | d+1,t,ls,x,y,u,v,r,D,h,hx,hy,ox,oy,he=>by
  simp only[leafP] at h
  have leaf:∀ (l:Leaf),((l=.bool∧P.underlying t=some .bool)∨(l=.int∧∃ k,P.underlying t=some (.int k))∨(l=.str∧P.underlying t=some .string))→ls=[l]→(Op.equalIn (D+d+1) t u v).run P w=.ok r w:=by
   intro l ht hls
   subst hls
   have hns:∀ c,ofCells P t c=some x→∃ a,c=[a]∧a=x:=by
    intro c hc
    unfold ofCells at hc
    rcases ht with ⟨_,hu⟩|⟨_,k,hu⟩|⟨_,hu⟩<;>rw[hu] at hc<;>simp only at hc<;>split at hc<;>simp only[qd,reduceCtorEq] at hc<;>exact⟨_,rfl,hc⟩
   have hns':∀ c,ofCells P t c=some y→∃ a,c=[a]∧a=y:=by
    intro c hc
    unfold ofCells at hc
    rcases ht with ⟨_,hu⟩|⟨_,k,hu⟩|⟨_,hu⟩<;>rw[hu] at hc<;>simp only at hc<;>split at hc<;>simp only[qd,reduceCtorEq] at hc<;>exact⟨_,rfl,hc⟩
   obtain⟨a,ha,rfl⟩:=hns _ ox
   obtain⟨b,hb,rfl⟩:=hns' _ oy
   rw[ha,hb] at he
   simp only[leavesEq] at he
   split at he
   ·rename_i p q h1 h2
    simp only[qd] at h2 he
    subst h2
    simp only[Bool.and_true] at he
    subst he
    exact leafEq_run ht hx hy h1
   ·cases he
  split at h
  ·rename_i hu; simp only[qd] at h; exact leaf .bool (.inl ⟨rfl,hu⟩) h.symm
  ·rename_i k hu; simp only[qd] at h; exact leaf .int (.inr (.inl ⟨rfl,k,hu⟩)) h.symm
  ·rename_i hu; simp only[qd] at h; exact leaf .str (.inr (.inr ⟨rfl,hu⟩)) h.symm
  ·rename_i fs hu
   split at h
   ·cases h
   ·rename_i hst
    simp only[ofCells,hu,qd] at ox oy
    rw[← ox] at hx
    rw[← oy] at hy
    simp only[VRel] at hx hy
    obtain⟨xs,rfl,hxs,x1⟩:=hx
    obtain⟨ys,rfl,hys,y1⟩:=hy
    have hfs:P.fieldsOf t=fs:=by simp[Program.fieldsOf,hu]
    have hgo:∀ (fl:List Field) (off:Nat) (l:List Leaf) (r:Bool),off≤(cellsA x).length∧off≤(cellsA y).length→leafGo P (leafP P d) off fl=some l→leavesEq l ((cellsA x).drop off) ((cellsA y).drop off)=some r→(Op.eqFields (D+d) ⟨xs⟩ ⟨ys⟩ fl).run P w=.ok r w:=by
     intro fl
     induction fl with
     | nil =>
      intro off l r hle hl hr
      simp only[leafGo,qd] at hl
      subst hl
      have:=leavesEq_len hr
      have e1:(cellsA x).drop off=[]:=qq this.1
      have e2:(cellsA y).drop off=[]:=qq this.2
      rw[e1,e2] at hr
      simp only[leavesEq,qd] at hr
      subst hr
      simp[Op.eqFields]
     | cons f fl ih =>
      intro off l r hle hl hr
      simp only[leafGo] at hl
      split at hl
      ·rename_i lf hlf
       split at hl
       ·rename_i hc
        obtain⟨hname,hoff,hsz⟩:=hc
        cases hg:leafGo P (leafP P d) (off+lf.length) fl with
        | none=>simp[hg] at hl
        | some l' =>
         simp only[hg,qh,qd] at hl
         subst hl
         obtain⟨p,q,k1,k2,rfl⟩:=leavesEq_app hr
         rw[List.drop_drop,List.drop_drop] at k2
         have hlen:=leavesEq_len k1
         obtain⟨kd,kk⟩:=leafP_kind hlf hsz
         have h0:=leavesEq_len hr
         simp only[List.length_drop,qo] at h0
         have hlx:off+lf.length≤(cellsA x).length:=by omega
         have hly:off+lf.length≤(cellsA y).length:=by omega
         obtain⟨a,va,o1,pa,ra,ca⟩:=part_run (P:=P) (w:=w) (off:=off) hsz kk kd hxs x1 hlx
         obtain⟨b,vb,o2,pb,rb,cb⟩:=part_run (P:=P) (w:=w) (off:=off) hsz kk kd hys y1 hly
         have hrec:=leavesEq_run d (w:=w) D hlf ra rb (by rw[ca]; exact o1) (by rw[cb]; exact o2) (by rw[ca,cb]; exact k1)
         have hname' : f.name ≠ "_" := by simpa using hname
         have hih:=ih (off+lf.length) l' q ⟨hlx,hly⟩ hg k2
         cases p<;>simp[Op.eqFields,hname',hoff,pa,pb,hrec,hih]
       ·cases hl
      ·cases hl
    have e0:D+(d+1)=(D+d)+1:=by omega
    rw[e0,run_equalIn_struct w (D+d) t ⟨xs⟩ ⟨ys⟩ (by rw[hfs]; exact hu) (by simpa using hst),hfs]
    exact hgo fs.toList 0 ls r ⟨Nat.zero_le _,Nat.zero_le _⟩ h (by simpa using he)
  ·cases h
end
section
set_option linter.unusedSectionVars false
variable [Mx]
open Go
inductive EqK where
 | none | prim | bool | ptr | slice | map | func | iface (cst:Bool) | st (ls:List Leaf)
def isNilA:EqK→AV→Option Bool
 | .ptr,.nilp | .slice,.nils | .map,.nilm | .func,.nilf | .iface _,.nili=>some true
 | .ptr,.ptr .. | .ptr,.fptr .. | .slice,.sl .. | .slice,.enn | .map,.map _ | .func,.func .. | .iface _,.iface .. => some false
 | .slice,.fsl _ len=>if len=0 then Option.none else some false
 | _,_=>Option.none
def eqA:EqK→AV→AV→Option Bool
 | .prim,.int k a,.int k' b=>if k=k' then some (decide (a=b)) else Option.none
 | .prim,.str a,.str b=>some (decide (a=b))
 | .bool,.bool a,.bool b=>some (a == b)
 | .st ls,.agg as,.agg bs=>leavesEq ls as bs
 | .iface false,.nili,.nili=>Option.none
 | K,x,y=>match isNilA K x,isNilA K y with
  | some true,some q=>some q
  | some false,some true=>some false
  | _,_=>Option.none
def bitsA (op:BinOp) (k:IntKind) (x y:Int):Option Int:=
 let a:=BitVec.ofInt k.bits x
 let b:=BitVec.ofInt k.bits y
 match op with
 | .and=>some (k.wrap (a &&& b).toNat)
 | .or=>some (k.wrap (a ||| b).toNat)
 | .xor=>some (k.wrap (a ^^^ b).toNat)
 | .andNot=>some (k.wrap (a &&& ~~~b).toNat)
 | _=>Option.none
def intA (op:BinOp) (k:IntKind) (a b:Int):Option AV:=
 match op with
 | .add=>some (.int k (k.wrap (a+b)))
 | .sub=>some (.int k (k.wrap (a - b)))
 | .mul=>some (.int k (k.wrap (a*b)))
 | .quo=>if b=0 then Option.none else some (.int k (k.wrap (a.tdiv b)))
 | .rem=>if b=0 then Option.none else some (.int k (a.tmod b))
 | .lss=>some (.bool (decide (a<b)))
 | .leq=>some (.bool (decide (a≤b)))
 | .gtr=>some (.bool (decide (a > b)))
 | .geq=>some (.bool (decide (a≥b)))
 | .eql=>some (.bool (decide (a=b)))
 | .neq=>some (.bool (!decide (a=b)))
 | op=>(bitsA op k a b).map (.int k)
def strA (op:BinOp) (a b:List UInt8):Option AV:=
 match op with
 | .add=>if a.length+b.length≤9223372036854775807 then some (.str (a++b)) else Option.none
 | .eql=>some (.bool (decide (a=b)))
 | .neq=>some (.bool (!decide (a=b)))
 | .lss=>some (.bool (Op.bytesLess a b))
 | .leq=>some (.bool (Op.bytesLess a b || decide (a=b)))
 | .gtr=>some (.bool (!(Op.bytesLess a b || decide (a=b))))
 | .geq=>some (.bool (!Op.bytesLess a b))
 | _=>Option.none
def binA (op:BinOp) (K:EqK) (x y:AV):Option AV:=
 match x,y with
 | .int k a,.int k' b =>
  match op with
  | .shl=>if b<0 then Option.none else some (.int k (k.wrap (a*2 ^ (min b.toNat k.bits))))
  | .shr=>if b<0 then Option.none else some (.int k (a.fdiv (2 ^ (min b.toNat k.bits))))
  | op=>if k=k' then intA op k a b else Option.none
 | .str a,.str b=>strA op a b
 | x,y =>
  match op with
  | .eql=>(eqA K x y).map .bool
  | .neq=>(eqA K x y).map fun b=>.bool (!b)
  | _=>Option.none
def eqP (P:Program) (t:TypeId) (cst:Bool):EqK:=
 match P.underlying t with
 | some .bool=>.bool
 | some (.int _) | some .string=>.prim
 | some (.pointer _)=>.ptr
 | some (.slice _)=>.slice
 | some (.map _ _)=>.map
 | some (.func _ _ _)=>.func
 | some (.interface _)=>.iface cst
 | some (.struct _)=>if P.eqGuardType P.depth t then .none else match leafP P 12 t with
  | some ls=>.st ls
  | Option.none=>.none
 | _=>.none
def opIsConst:Operand→Bool
 | .const _=>true
 | _=>false
theorem eqGuard_plain {P:Program} {w:World} {op:BinOp} {t:TypeId} {x y:Operand} {u v:Value} (h:∀ a,u≠.agg a) (h2:u≠.nilIface∨v≠.nilIface∨opIsConst x=true∨opIsConst y=true):(eqGuard op t x y u v).run P w=.ok () w:=by
 unfold eqGuard
 cases op<;>simp only[Bool.not_false,if_true,qO,Bool.not_true,qA,if_false]<;>try rfl
 all_goals
  cases u<;>cases v<;>simp only[qO,ne_eq,reduceCtorEq,not_true_eq_false,not_false_eq_true,false_or,true_or,or_true] at h2 ⊢ <;> try rfl
  all_goals first
   | exact absurd rfl (h _)
   | (cases x<;>cases y<;>simp[opIsConst] at h2 ⊢)
set_option maxHeartbeats 1000000 in
theorem isNilA_run {P:Program} {w:World} {Γ:Cx} {t:TypeId} {cst:Bool} {x y:AV} {u v:Value} {p q:Bool} (hx:VRel Γ x u) (hy:VRel Γ y v) (h1:isNilA (eqP P t cst) x=some p) (h2:isNilA (eqP P t cst) y=some q) (h:p=true∨q=true) (D:Nat) :
  (Op.equalIn (D+1) t u v).run P w=.ok (p && q) w∧(∀ a,u≠.agg a)∧(∀ k n,u≠.int k n)∧(∀ s,u≠.string s)∧(u=.nilIface→eqP P t cst=.iface cst)∧(∀ k n,u≠.float k n)∧(∀ k n m,u≠.complex k n m):=by
 unfold eqP at h1 h2 ⊢
 cases hu:P.underlying t with
 | none=>rw[hu] at h1; simp[isNilA] at h1
 | some d =>
  rw[hu] at h1 h2
  cases d<;>simp only at h1 h2 ⊢ <;> try (simp[isNilA] at h1; done)
  case struct fs =>
   split at h1
   ·simp[isNilA] at h1
   ·split at h1<;>simp[isNilA] at h1
  all_goals
   cases x<;>simp only[isNilA,reduceCtorEq,qd] at h1<;>cases y<;>simp only[isNilA,reduceCtorEq,qd] at h2<;>(first|subst h1|(split at h1<;>simp only[reduceCtorEq,qd] at h1; subst h1))<;>(first|subst h2|(split at h2<;>simp only[reduceCtorEq,qd] at h2; subst h2))<;>simp only[qA,or_self,or_false,or_true] at h<;>simp only[VRel] at hx hy
   all_goals first
    | (subst hx; subst hy)
    | (subst hx; obtain⟨_,_,_,rfl,_⟩:=hy.resolve_left fun h=>absurd h.2.1 (by assumption))
    | (subst hy; obtain⟨_,_,_,rfl,_⟩:=hx.resolve_left fun h=>absurd h.2.1 (by assumption))
    | (subst hx; obtain⟨_,_,_,rfl⟩:=hy)
    | (subst hy; obtain⟨_,_,_,rfl⟩:=hx)
    | (subst hx; obtain⟨_,_,rfl,_⟩:=hy)
    | (subst hx; obtain⟨_,_,_,_,_,rfl,_⟩:=hy)
    | (subst hx; obtain⟨_,_,_,rfl,_⟩:=hy)
    | (subst hx; obtain⟨_,rfl⟩:=hy)
    | (subst hx; obtain⟨_,rfl,_⟩:=hy)
    | (subst hy; obtain⟨_,_,rfl,_⟩:=hx)
    | (subst hy; obtain⟨_,_,_,_,_,rfl,_⟩:=hx)
    | (subst hy; obtain⟨_,_,_,rfl,_⟩:=hx)
    | (subst hy; obtain⟨_,rfl⟩:=hx)
    | (subst hy; obtain⟨_,rfl,_⟩:=hx)
   all_goals exact⟨by simp[Op.equalIn,run_underlying hu],by simp,by simp,by simp,by simp,by simp,by simp⟩
theorem eqA_run {P:Program} {w:World} {Γ:Cx} {t:TypeId} {ox oy:Operand} {x y:AV} {u v:Value} {r:Bool} (hx:VRel Γ x u) (hy:VRel Γ y v) (hni:∀ k a k' b,¬ (x=.int k a∧y=.int k' b)) (hns:∀ a b,¬ (x=.str a∧y=.str b))
  (h:eqA (eqP P t (opIsConst ox || opIsConst oy)) x y=some r) :
  (∀ op,(eqGuard op t ox oy u v).run P w=.ok () w)∧(binOp .eql t u v).run P w=.ok (.bool r) w∧(binOp .neq t u v).run P w=.ok (.bool (!r)) w:=by
 have nil:∀ p q:Bool,isNilA (eqP P t (opIsConst ox || opIsConst oy)) x=some p→isNilA (eqP P t (opIsConst ox || opIsConst oy)) y=some q→(p=true∨q=true)→r=(p && q) →
   (eqP P t (opIsConst ox || opIsConst oy)=.iface false→x=.nili→y=.nili→False) →
   (∀ op,(eqGuard op t ox oy u v).run P w=.ok () w)∧(binOp .eql t u v).run P w=.ok (.bool r) w∧(binOp .neq t u v).run P w=.ok (.bool (!r)) w:=by
  intro p q h1 h2 h3 hr hif
  obtain⟨e1,e2,e3,e4,e5,e6,e7⟩:=isNilA_run (P:=P) (w:=w) hx hy h1 h2 h3 9999
  refine⟨fun op=>eqGuard_plain e2 ?_,?_,?_⟩
  ·by_cases hu:u=.nilIface
   ·by_cases hv:v=.nilIface
    ·right; right
     have hk:=e5 hu
     have hxn:x=.nili:=by
      cases x<;>simp only[VRel] at hx<;>first|rfl|(rw[hu] at hx; simp[NilS] at hx)
     have hyn:y=.nili:=by
      cases y<;>simp only[VRel] at hy<;>first|rfl|(rw[hv] at hy; simp[NilS] at hy)
     cases hc:(opIsConst ox || opIsConst oy) with
     | true=>simpa using hc
     | false=>rw[hc] at hk hif; exact (hif hk hxn hyn).elim
    ·exact .inr (.inl hv)
   ·exact .inl hu
  ·subst hr
   have hb:binOp .eql t u v=(do pure (.bool (← Op.equal t u v))):=by
    cases u<;>first|exact absurd rfl (e3 _ _)|exact absurd rfl (e4 _)|exact absurd rfl (e6 _ _)|exact absurd rfl (e7 _ _ _)|(cases v<;>rfl)
   rw[hb]
   simp only[Op.equal,Op.maxDepth,qN,e1,qy,qO]
  ·subst hr
   have hb:binOp .neq t u v=(do pure (.bool (!(← Op.equal t u v)))):=by
    cases u<;>first|exact absurd rfl (e3 _ _)|exact absurd rfl (e4 _)|exact absurd rfl (e6 _ _)|exact absurd rfl (e7 _ _ _)|(cases v<;>rfl)
   rw[hb]
   simp only[Op.equal,Op.maxDepth,qN,e1,qy,qO]
 unfold eqA at h
 split at h
 ·exact absurd ⟨rfl,rfl⟩ (hni _ _ _ _)
 ·exact absurd ⟨rfl,rfl⟩ (hns _ _)
 ·rename_i a b hK
  simp only[qd] at h
  subst h
  have hu:P.underlying t=some .bool:=by
   unfold eqP at hK
   split at hK<;>try (cases hK; done)
   ·rename_i h; exact h
   ·split at hK
    ·cases hK
    ·split at hK<;>cases hK
  simp only[VRel] at hx hy
  subst hx hy
  have e1:=run_equalIn_bool' w (P:=P) 9999 t a b hu
  refine⟨fun op=>eqGuard_plain (by simp) (.inl (by simp)),?_,?_⟩<;>simp only[binOp,Op.equal,Op.maxDepth,qN,e1,qy,qO]
 ·rename_i ls as bs hK
  unfold eqP at hK
  split at hK<;>try (cases hK; done)
  rename_i fs hu
  split at hK
  ·cases hK
  ·rename_i hg
   split at hK
   ·rename_i ls' hl
    simp only[EqK.st.injEq] at hK
    subst hK
    have e1:=leavesEq_run (P:=P) (w:=w) 12 (10000 - 12) hl hx hy (by simp[ofCells,hu,cellsA]) (by simp[ofCells,hu,cellsA]) (by simpa[cellsA] using h)
    have hx':=hx
    have hy':=hy
    simp only[VRel] at hx' hy'
    obtain⟨xs,rfl,_⟩:=hx'
    obtain⟨ys,rfl,_⟩:=hy'
    have e2:(Op.equalIn 10000 t (.agg ⟨xs⟩) (.agg ⟨ys⟩)).run P w=.ok r w:=e1
    refine⟨fun op=>run_eqGuard_agg w op t ox oy ⟨xs⟩ ⟨ys⟩ (by simpa using hg),?_,?_⟩<;>simp only[binOp,Op.equal,Op.maxDepth,qN,e2,qy,qO]
   ·cases hK
 ·cases h
 ·rename_i h0 h1 h2 h3 h4
  split at h
  ·rename_i q k1 k2
   simp only[qd] at h
   subst h
   refine nil true q k1 k2 (.inl rfl) (by simp) (fun a b c=>?_)
   exact h4 a b c
  ·rename_i k1 k2
   simp only[qd] at h
   subst h
   refine nil false true k1 k2 (.inr rfl) (by simp) (fun a b c=>?_)
   exact h4 a b c
  ·cases h
theorem bin_ok {P:Program} {Γ:Cx} {hp:HP} (h:HSim Γ hp) {op:BinOp} {t:TypeId} {ox oy:Operand} {x y r:AV} {u v:Value} (hx:VRel Γ x u) (hy:VRel Γ y v) (hr:binA op (eqP P t (opIsConst ox || opIsConst oy)) x y=some r) :
  OpOk P Γ hp (do eqGuard op t ox oy u v; binOp op t u v) r hp:=by
 have close:∀ z:Value,(∀ op,(eqGuard op t ox oy u v).run P Γ.w=.ok () Γ.w)→(binOp op t u v).run P Γ.w=.ok z Γ.w→VRel Γ r z→OpOk P Γ hp (do eqGuard op t ox oy u v; binOp op t u v) r hp:=by
  intro z h1 h2 h3
  exact qE h (by simp only[qN,h1,qy,h2]) h3
 unfold binA at hr
 split at hr
 ·rename_i k a k' b
  simp only[VRel] at hx hy
  subst hx hy
  have hg:∀ op,(eqGuard op t ox oy (.int k a) (.int k' b)).run P Γ.w=.ok () Γ.w:=fun op=>eqGuard_plain (by simp) (.inl (by simp))
  split at hr
  ·split at hr
   ·cases hr
   ·rename_i h0
    simp only[qd] at hr; subst hr
    exact close _ hg (by simp[binOp,Op.shift,h0]; rfl) (by simp[VRel])
  ·split at hr
   ·cases hr
   ·rename_i h0
    simp only[qd] at hr; subst hr
    exact close _ hg (by simp[binOp,Op.shift,h0]; rfl) (by simp[VRel])
  ·rename_i h1 h2
   split at hr
   ·rename_i hk
    subst hk
    have hop:binOp op t (.int k a) (.int k b)=match op with
      | .add | .sub | .mul=>Op.intArith op k a b
      | .quo | .rem=>Op.intDiv op k a b
      | .and | .or | .xor | .andNot=>Op.intBits op k a b
      | _=>Op.intCmp op a b:=by
     cases op<;>first|exact absurd rfl h1|exact absurd rfl h2|simp[binOp]
    have hbi:(a == b)=decide (a=b):=rfl
    unfold intA at hr
    cases op<;>simp only at hop hr<;>first|exact absurd rfl h1|exact absurd rfl h2|skip
    case quo =>
     split at hr
     ·cases hr
     ·rename_i h0
      simp only[qd] at hr; subst hr
      exact close _ hg (by rw[hop]; simp[Op.intDiv,h0]; rfl) (by simp[VRel])
    case rem =>
     split at hr
     ·cases hr
     ·rename_i h0
      simp only[qd] at hr; subst hr
      exact close _ hg (by rw[hop]; simp[Op.intDiv,h0]; rfl) (by simp[VRel])
    all_goals
     first
     | (simp only[qd] at hr; subst hr; exact close _ hg (by rw[hop]; first | rfl | (simp only[Op.intArith,qO]; rfl) | (simp only[Op.intCmp,qO]; rfl)) (by simp[VRel,bne,hbi]))
     | (simp only[bitsA,qh,qd] at hr; subst hr; exact close _ hg (by rw[hop]; simp only[Op.intBits,qO]; rfl) (by simp[VRel]))
   ·cases hr
 ·rename_i a b
  simp only[VRel] at hx hy
  subst hx hy
  have hg:∀ op,(eqGuard op t ox oy (.string ⟨a.toArray⟩) (.string ⟨b.toArray⟩)).run P Γ.w=.ok () Γ.w:=fun op=>eqGuard_plain (by simp) (.inl (by simp))
  have hbeq:(a == b)=decide (a=b):=by rw[Bool.eq_iff_iff]; simp
  unfold strA at hr
  cases op<;>simp only[reduceCtorEq] at hr
  case add =>
   split at hr
   ·rename_i hl
    simp only[qd] at hr; subst hr
    refine close (.string ⟨(a++b).toArray⟩) hg ?_ (by simp[VRel])
    have hn:¬ (((a.length:Int)+(b.length:Int)) > 9223372036854775807):=by omega
    simp only[binOp,Op.stringOp,byteSize,byteCat]
    rw[if_neg]
    ·rfl
    ·simp only[Int.natCast_add]
     exact hn
   ·cases hr
  all_goals
   simp only[qd] at hr; subst hr
   exact close _ hg (by simp only[binOp,Op.stringOp,byteList,hbeq,qO]; rfl) (by simp[VRel])
 ·rename_i hni hns
  have key:=fun r' (he:eqA (eqP P t (opIsConst ox || opIsConst oy)) x y=some r')=>eqA_run (P:=P) (w:=Γ.w) (ox:=ox) (oy:=oy) hx hy (fun k a k' b hh=>hni k a k' b hh.1 hh.2) (fun a b hh=>hns a b hh.1 hh.2) he
  cases op<;>simp only[reduceCtorEq] at hr
  case eql =>
   cases he:eqA (eqP P t (opIsConst ox || opIsConst oy)) x y with
   | none=>simp[he] at hr
   | some r' =>
    simp only[he,qh,qd] at hr
    subst hr
    obtain⟨k1,k2,k3⟩:=key r' he
    exact close _ k1 k2 (by simp[VRel])
  case neq =>
   cases he:eqA (eqP P t (opIsConst ox || opIsConst oy)) x y with
   | none=>simp[he] at hr
   | some r' =>
    simp only[he,qh,qd] at hr
    subst hr
    obtain⟨k1,k2,k3⟩:=key r' he
    exact close _ k1 k3 (by simp[VRel])
end
end Go.Gi
